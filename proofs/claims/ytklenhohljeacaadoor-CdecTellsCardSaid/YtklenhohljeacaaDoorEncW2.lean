/-
  Short forms of instructions: what the document writes is what the program writes; the document's Half and Short; the law CencTells.
-/
import Derived.Test.YtklenhohljeacaaDoorEncW
namespace Go.Proofs.YtklenhohljeacaaDoor.Ex
open Go

def sc5I (V : Int) : List Nat → Nat → Int → Int
  | [], _, acc => acc
  | p :: ps, i, acc => sc5I V ps (i + 1) (ibin .add .i64 acc (ibin .mul .i64 (IntKind.i64.wrap (IntKind.u32.wrap (ibin .rem .i64 (ibin .quo .i64 V ((2 ^ i : Nat) : Int)) 2))) ((2 ^ p : Nat) : Int)))
def nTI (r : RowL) (V : Int) : Int := match r.places with
  | [] => 0
  | _ => IntKind.i64.wrap (IntKind.u32.wrap (sc5I V r.places 0 0))
def partI (r : RowL) (v : Int) : Int :=
  if IntKind.i64.wrap (IntKind.u32.wrap (ibin .rem .i64 v ((2 ^ r.places.length : Nat) : Int))) < ((2 ^ r.places.length : Nat) : Int) then nTI r (IntKind.i64.wrap (IntKind.u32.wrap (ibin .rem .i64 v ((2 ^ r.places.length : Nat) : Int)))) else 0
def nI (r : RowL) (m : Int) : Int :=
  if ibin .quo .i64 m (r.unit : Nat) < 0 then partI r (ibin .add .i64 (ibin .quo .i64 m (r.unit : Nat)) ((2 ^ r.places.length : Nat) : Int)) else partI r (ibin .quo .i64 m (r.unit : Nat))
theorem sc5_ev (η : Nat → Int) (φ : Nat → List Int → Int) (V : SE) : ∀ (ps : List Nat) (i : Nat) (acc : SE), (sc5 V ps i acc).ev η φ = sc5I (V.ev η φ) ps i (acc.ev η φ)
  | [], _, _ => rfl
  | _ :: ps, i, _ => sc5_ev η φ V ps (i + 1) _
theorem nT_ev (η : Nat → Int) (φ : Nat → List Int → Int) (r : RowL) (V : SE) : (nT r V).ev η φ = nTI r (V.ev η φ) := by
  unfold nT nTI
  cases r.places with
  | nil => rfl
  | cons p ps =>
    simp only
    rw [ev_wrap, ev_wrap, sc5_ev]
    rfl
theorem brT_at (leafF : SE → AV) (r : RowL) (η : Nat → Int) (φ : Nat → List Int → Int) : ∃ N, (brT leafF r).at η φ = some (leafF N) ∧ N.ev η φ = nI r (η 3) := by
  have part : ∀ v : SE, ∃ N, (Tr.lt (.wrap .i64 (.wrap .u32 (.bin .rem .i64 v (.lit ((2 ^ r.places.length : Nat) : Int))))) (.lit ((2 ^ r.places.length : Nat) : Int))
      (.leaf (leafF (nT r (.wrap .i64 (.wrap .u32 (.bin .rem .i64 v (.lit ((2 ^ r.places.length : Nat) : Int)))))))) (.leaf (leafF (.lit 0)))).at η φ = some (leafF N) ∧ N.ev η φ = partI r (v.ev η φ) := by
    intro v
    rw [at_lt, ev_wrap, ev_wrap, ev_bin, ev_lit]
    unfold partI
    split
    · exact ⟨_, rfl, by rw [nT_ev, ev_wrap, ev_wrap, ev_bin, ev_lit]⟩
    · exact ⟨_, rfl, rfl⟩
  unfold brT nI
  simp only
  rw [at_lt, ev_bin, ev_lit, ev_lit, ev_var]
  split
  · obtain ⟨N, h1, h2⟩ := part (.bin .add .i64 (.bin .quo .i64 (.var 3) (.lit (r.unit : Nat))) (.lit ((2 ^ r.places.length : Nat) : Int)))
    exact ⟨N, h1, h2⟩
  · obtain ⟨N, h1, h2⟩ := part (.bin .quo .i64 (.var 3) (.lit (r.unit : Nat)))
    exact ⟨N, h1, h2⟩

def lowI (f : Nat) (d t : Int) : Int := match f with
  | 97 => d - 8
  | 108 => d - 8
  | 115 => t - 8
  | 109 => t - 8
  | 118 => t
  | 100 => t
  | 116 => t
  | _ => 0
def highI (f : Nat) (d s : Int) : Int := match f with
  | 108 => s - 8
  | 115 => s - 8
  | 114 => d
  | 122 => d
  | 117 => d
  | 119 => d
  | 113 => d - 8
  | 109 => d - 8
  | 98 => s - 8
  | 74 => s
  | 75 => s
  | 118 => d
  | 100 => d
  | _ => 0
def sm (n : Int) : Prop := -1048576 ≤ n ∧ n ≤ 1048576
theorem add_small {a b : Int} (ha : sm a) (hb : sm b) : ibin .add .i64 a b = a + b := by
  obtain ⟨a1, a2⟩ := ha
  obtain ⟨b1, b2⟩ := hb
  have e : ibin .add .i64 a b = IntKind.i64.wrap (a + b) := by
    unfold ibin abin; simp only; rw [if_neg (by simp)]
  rw [e, wrap_small _ (by omega)]
theorem sub_small {a b : Int} (ha : sm a) (hb : sm b) : ibin .sub .i64 a b = a - b := by
  obtain ⟨a1, a2⟩ := ha
  obtain ⟨b1, b2⟩ := hb
  have e : ibin .sub .i64 a b = IntKind.i64.wrap (a - b) := by
    unfold ibin abin; simp only; rw [if_neg (by simp)]
  rw [e, wrap_small _ (by omega)]
theorem mul_small {c a : Int} (h : -9223372036854775808 ≤ c * a ∧ c * a ≤ 9223372036854775807) : ibin .mul .i64 c a = c * a := by
  have e : ibin .mul .i64 c a = IntKind.i64.wrap (c * a) := by
    unfold ibin abin; simp only; rw [if_neg (by simp)]
  rw [e, wrap_small _ h]
theorem addA_ev {η : Nat → Int} {φ : Nat → List Int → Int} {x y : SE} (hx : sm (x.ev η φ)) (hy : sm (y.ev η φ)) : (addA x y).ev η φ = x.ev η φ + y.ev η φ := by
  unfold addA
  split
  · rfl
  · rw [ev_bin, add_small hx hy]
theorem mulA_ev {η : Nat → Int} {φ : Nat → List Int → Int} {c : Int} {x : SE} (h : -9223372036854775808 ≤ c * x.ev η φ ∧ c * x.ev η φ ≤ 9223372036854775807) : (mulA c x).ev η φ = c * x.ev η φ := by
  unfold mulA
  split
  · rfl
  · rw [ev_bin, ev_lit, mul_small h]
theorem lowT_ev (f : Nat) (hf : f ∈ RegsC.regForms) {d s t m op : Int} (hd : r31 d) (ht : r31 t) : (lowT f).ev (ηl [d, s, t, m, op]) φ0 = lowI f d t := by
  obtain ⟨d1, d2⟩ := hd
  obtain ⟨t1, t2⟩ := ht
  have s8 : ∀ n : Int, 0 ≤ n ∧ n ≤ 31 → ibin .sub .i64 n 8 = n - 8 := fun n h => sub_small (by constructor <;> omega) (by constructor <;> omega)
  simp only [RegsC.regForms, List.mem_cons, List.not_mem_nil, or_false] at hf
  rcases hf with rfl | rfl | rfl | rfl | rfl | rfl | rfl | rfl | rfl | rfl | rfl | rfl | rfl | rfl | rfl | rfl | rfl | rfl <;> first
    | rfl
    | exact s8 _ (by constructor <;> assumption)
theorem highT_ev (f : Nat) (hf : f ∈ RegsC.regForms) {d s t m op : Int} (hd : r31 d) (hs : r31 s) : (highT f).ev (ηl [d, s, t, m, op]) φ0 = highI f d s := by
  obtain ⟨d1, d2⟩ := hd
  obtain ⟨t1, t2⟩ := hs
  have s8 : ∀ n : Int, 0 ≤ n ∧ n ≤ 31 → ibin .sub .i64 n 8 = n - 8 := fun n h => sub_small (by constructor <;> omega) (by constructor <;> omega)
  simp only [RegsC.regForms, List.mem_cons, List.not_mem_nil, or_false] at hf
  rcases hf with rfl | rfl | rfl | rfl | rfl | rfl | rfl | rfl | rfl | rfl | rfl | rfl | rfl | rfl | rfl | rfl | rfl | rfl <;> first
    | rfl
    | exact s8 _ (by constructor <;> assumption)

theorem ib_K (op : BinOp) (k : IntKind) (a b n : Int) (h : ibinK op k a k b = some (.int k n)) : ibin op k a b = n := by
  unfold ibin
  rw [← ibinK_eq, h]
theorem add_K (k : IntKind) (a b : Int) : ibin .add k a b = wrapK k (iadd a b) := ib_K _ _ _ _ _ (by
  show ck (kbeq k k) (some (.int k (wrapK k (iadd a b)))) = _
  rw [ck_eq, if_neg (by simp)])
theorem mul_K (k : IntKind) (a b : Int) : ibin .mul k a b = wrapK k (imul a b) := ib_K _ _ _ _ _ (by
  show ck (kbeq k k) (some (.int k (wrapK k (imul a b)))) = _
  rw [ck_eq, if_neg (by simp)])
theorem and_K (k : IntKind) (a b : Int) : ibin .and k a b = iand k a b := ib_K _ _ _ _ _ (by
  show ck (kbeq k k) (some (.int k (iand k a b))) = _
  rw [ck_eq, if_neg (by simp)])
theorem quo_K (k : IntKind) (a b : Int) (h : b ≠ 0) : ibin .quo k a b = iquo k a b := ib_K _ _ _ _ _ (by
  show ck (kbeq k k) (nk (ieqb b (.ofNat 0)) (some (.int k (iquo k a b)))) = _
  rw [ck_eq, if_neg (by simp), nk_eq, if_neg h])
theorem rem_K (k : IntKind) (a b : Int) (h : b ≠ 0) : ibin .rem k a b = irem a b := ib_K _ _ _ _ _ (by
  show ck (kbeq k k) (nk (ieqb b (.ofNat 0)) (some (.int k (irem a b)))) = _
  rw [ck_eq, if_neg (by simp), nk_eq, if_neg h])
theorem shl_K (k : IntKind) (a b : Int) (h : ¬ b < 0) : ibin .shl k a b = ishl k a b := ib_K _ _ _ _ _ (by
  show nk (iltb b (.ofNat 0)) (some (.int k (ishl k a b))) = _
  rw [nk_lt, if_neg h])
theorem shr_K (k : IntKind) (a b : Int) (h : ¬ b < 0) : ibin .shr k a b = ishr k a b := ib_K _ _ _ _ _ (by
  show nk (iltb b (.ofNat 0)) (some (.int k (ishr k a b))) = _
  rw [nk_lt, if_neg h])
noncomputable def scatK (v : Int) (ps : List Nat) : Nat → Int → Int :=
  List.rec (motive := fun _ => Nat → Int → Int) (fun _ acc => acc) (fun p _ ih i acc => ih (Nat.succ i) (ior .u32 acc (ishl .u32 (iand .u32 (ishr .u32 v (.ofNat i)) (.ofNat (nat_lit 1))) (.ofNat p)))) ps
theorem scatK_eq (v : Int) : ∀ (ps : List Nat) (i : Nat) (acc : Int), scatK v ps i acc = scat v ps i acc
  | [], _, _ => rfl
  | p :: ps, i, acc => by
    show scatK v ps (i + 1) (ior .u32 acc (ishl .u32 (iand .u32 (ishr .u32 v (i : Nat)) 1) (p : Nat))) = scat v ps (i + 1) _
    rw [scatK_eq v ps, or_K, shl_K _ _ _ (by omega), and_K, shr_K _ _ _ (by omega)]
noncomputable def sc5K (V : Int) (ps : List Nat) : Nat → Int → Int :=
  List.rec (motive := fun _ => Nat → Int → Int) (fun _ acc => acc) (fun p _ ih i acc => ih (Nat.succ i) (wrapK .i64 (iadd acc (wrapK .i64 (imul (wrapK .i64 (wrapK .u32 (irem (iquo .i64 V (.ofNat (Nat.pow (nat_lit 2) i))) (.ofNat (nat_lit 2))))) (.ofNat (Nat.pow (nat_lit 2) p))))))) ps
theorem sc5K_eq (V : Int) : ∀ (ps : List Nat) (i : Nat) (acc : Int), sc5K V ps i acc = sc5I V ps i acc
  | [], _, _ => rfl
  | p :: ps, i, acc => by
    show sc5K V ps (i + 1) (wrapK .i64 (iadd acc (wrapK .i64 (imul (wrapK .i64 (wrapK .u32 (irem (iquo .i64 V ((2 ^ i : Nat) : Int)) 2))) ((2 ^ p : Nat) : Int))))) = sc5I V ps (i + 1) _
    have := Nat.two_pow_pos i
    rw [sc5K_eq V ps, add_K, mul_K, rem_K _ _ _ (by omega), quo_K _ _ _ (by omega), wrapK_eq .u32, wrapK_eq .i64 (IntKind.u32.wrap _)]
noncomputable def wVK (r : RowL) (m : Int) : Int := List.rec (motive := fun _ => Int) (.ofNat (nat_lit 0)) (fun _ _ _ => wrapK .u16 (scatK (numW r.kind r.unit r.places.length m) r.places (nat_lit 0) (.ofNat (nat_lit 0)))) r.places
theorem wVK_eq (r : RowL) (m : Int) : wVK r m = wV r m := by
  unfold wVK wV
  cases r.places with
  | nil => rfl
  | cons p ps =>
    show wrapK .u16 (scatK (numW r.kind r.unit (p :: ps).length m) (p :: ps) 0 0) = _
    rw [wrapK_eq, scatK_eq]
noncomputable def nTK (r : RowL) (V : Int) : Int := List.rec (motive := fun _ => Int) (.ofNat (nat_lit 0)) (fun _ _ _ => wrapK .i64 (wrapK .u32 (sc5K V r.places (nat_lit 0) (.ofNat (nat_lit 0))))) r.places
theorem nTK_eq (r : RowL) (V : Int) : nTK r V = nTI r V := by
  unfold nTK nTI
  cases r.places with
  | nil => rfl
  | cons p ps =>
    show wrapK .i64 (wrapK .u32 (sc5K V (p :: ps) 0 0)) = _
    rw [wrapK_eq, wrapK_eq, sc5K_eq]
noncomputable def partK5 (r : RowL) (room : Int) (V : Int) : Int := Bool.rec (motive := fun _ => Int) (.ofNat (nat_lit 0)) (nTK r V) (iltb V room)
noncomputable def nIK (r : RowL) (room q : Int) : Int :=
  Bool.rec (motive := fun _ => Int) (partK5 r room (wrapK .i64 (wrapK .u32 (irem q room)))) (partK5 r room (wrapK .i64 (wrapK .u32 (irem (wrapK .i64 (iadd q room)) room)))) (iltb q (.ofNat (nat_lit 0)))
theorem partK5_eq (r : RowL) (v : Int) : partK5 r ((2 ^ r.places.length : Nat) : Int) (wrapK .i64 (wrapK .u32 (irem v ((2 ^ r.places.length : Nat) : Int)))) = partI r v := by
  have := Nat.two_pow_pos r.places.length
  unfold partK5 partI
  rw [rem_K _ _ _ (by omega), wrapK_eq .u32, wrapK_eq .i64 (IntKind.u32.wrap _), iltb_eq, nTK_eq]
  split
  · rename_i h; rw [decide_eq_true h]
  · rename_i h; rw [decide_eq_false h]; rfl
theorem nIK_eq (r : RowL) (hu : (r.unit : Int) ≠ 0) (m : Int) : nIK r ((2 ^ r.places.length : Nat) : Int) (iquo .i64 m (r.unit : Nat)) = nI r m := by
  unfold nIK nI
  rw [partK5_eq, partK5_eq, iltb_eq, quo_K _ _ _ hu, add_K]
  split
  · rename_i h; rw [decide_eq_true (show iquo .i64 m (r.unit : Nat) < Int.ofNat 0 from h)]
  · rename_i h; rw [decide_eq_false (show ¬ iquo .i64 m (r.unit : Nat) < Int.ofNat 0 from h)]
noncomputable def inR (x : Int) : Bool := Int.rec (motive := fun _ => Bool) (fun n => Nat.ble n (nat_lit 65535)) (fun _ => false) x
theorem inR_eq {x : Int} (h : inR x = true) : 0 ≤ x ∧ x ≤ 65535 := by
  cases x with
  | negSucc n => cases h
  | ofNat n =>
    have := Nat.le_of_ble_eq_true (show Nat.ble n 65535 = true from h)
    constructor
    · exact Int.natCast_nonneg n
    · show ((n : Nat) : Int) ≤ 65535; omega
/-- the parts of a short form are added, as they are put together -/
noncomputable def sumP' (r : RowL) (d s t m : Int) : Bool :=
  Bool.rec (motive := fun _ => Bool) true (andB (ieqb (ior .u16 (ior .u16 (r.base : Nat) (regsW r.form d s t)) (wVK r m)) (iadd (iadd (r.base : Nat) (regsW r.form d s t)) (wVK r m)))
    (andB (inR (wVK r m)) (inR (ior .u16 (ior .u16 (r.base : Nat) (regsW r.form d s t)) (wVK r m))))) (regsOk r.form d s t)
/-- registers stand where the document has them -/
noncomputable def standP (r : RowL) (d s t : Int) : Bool :=
  Bool.rec (motive := fun _ => Bool) true (ieqb (regsW r.form d s t) (iadd (imul 4 (lowI r.form d t)) (imul 128 (highI r.form d s)))) (regsOk r.form d s t)
noncomputable def standRow (r : RowL) : Bool := (List.range (regN r.form).1).all fun a => (List.range (regN r.form).2).all fun b => standP r (regF r.form a b).1 (regF r.form a b).2.1 (regF r.form a b).2.2
noncomputable def numRow (r : RowL) : Bool := (List.range (2 ^ r.places.length)).all fun j => ieqb (nIK r ((2 ^ r.places.length : Nat) : Int) (iquo .i64 (r.unit * qF r.kind r.places.length j) (r.unit : Nat))) (wVK r (r.unit * qF r.kind r.places.length j))
theorem low_r (f : Nat) (hf : f ∈ RegsC.regForms) {d s t : Int} (h : regsP f d s t) (hd : r31 d) (hs : r31 s) (ht : r31 t) : (0 ≤ lowI f d t ∧ lowI f d t ≤ 31) ∧ (0 ≤ highI f d s ∧ highI f d s ≤ 31) := by
  obtain ⟨d1, d2⟩ := hd
  obtain ⟨s1, s2⟩ := hs
  obtain ⟨t1, t2⟩ := ht
  simp only [RegsC.regForms, List.mem_cons, List.not_mem_nil, or_false] at hf
  rcases hf with rfl | rfl | rfl | rfl | rfl | rfl | rfl | rfl | rfl | rfl | rfl | rfl | rfl | rfl | rfl | rfl | rfl | rfl <;> simp only [regsP] at h <;> simp only [lowI, highI] <;> omega
theorem valA_val {η : Nat → Int} {φ : Nat → List Int → Int} {x : SE} (h : 0 ≤ x.ev η φ ∧ x.ev η φ ≤ 65535) : (AV.tup [valA x, .int .i64 0]).plain = true ∧ (AV.tup [valA x, .int .i64 0]).toVal η φ = .tuple #[.int .u16 (x.ev η φ), .int .i64 0] := by
  unfold valA
  split
  · exact ⟨rfl, rfl⟩
  · refine ⟨rfl, ?_⟩
    show Value.tuple #[.int .u16 (IntKind.u16.wrap (x.ev η φ)), .int .i64 0] = _
    obtain ⟨n, hn⟩ : ∃ n : Nat, x.ev η φ = (n : Int) := ⟨(x.ev η φ).toNat, by omega⟩
    rw [hn] at h ⊢
    rw [wrap_self .u16 n (by show n ≤ 65535; omega)]
theorem unit_ne {r : RowL} (hr : r ∈ rowsL) : (r.unit : Int) ≠ 0 := by
  have tab : (rowsL.all fun r => Nat.ble 1 r.unit) = true := by decide
  have := Nat.le_of_ble_eq_true (List.all_eq_true.1 tab r hr)
  omega
/-- What the document writes of a row's instruction is what the program writes. -/
theorem writ_eq {r : RowL} (hr : r ∈ rowsL) (k1 : allRow (sumP' r) r = true) (k2 : standRow r = true) (k3 : numRow r = true) {d s t m : Int} (hm : mayI r.op d s t m = true) (h1 : regsOk r.form d s t = true)
    (h2 : numOk r.kind r.unit r.places.length m = true) (op : Int) :
    ∃ v, (writTr r).at (ηl [d, s, t, m, op]) φ0 = some v ∧ v.plain = true ∧ v.toVal (ηl [d, s, t, m, op]) φ0 = .tuple #[.int .u16 (aV r d s t m), .int .i64 0] := by
  obtain ⟨hz, hd, hs, ht, hb⟩ := may_facts hr hm
  have hp := (regsOk_P _ (form_mem hr) _ _ _).1 h1
  obtain ⟨⟨l1, l2⟩, l3, l4⟩ := low_r _ (form_mem hr) hp hd hs ht
  have q1 := allRow_spec hr k1 hm h1 h2
  unfold sumP' at q1
  rw [h1] at q1
  replace q1 : andB (ieqb (ior .u16 (ior .u16 (r.base : Nat) (regsW r.form d s t)) (wVK r m)) (iadd (iadd (r.base : Nat) (regsW r.form d s t)) (wVK r m)))
    (andB (inR (wVK r m)) (inR (ior .u16 (ior .u16 (r.base : Nat) (regsW r.form d s t)) (wVK r m)))) = true := q1
  rw [wVK_eq] at q1
  rw [andB_eq, andB_eq, Bool.and_eq_true, Bool.and_eq_true, ieqb_eq, iadd_eq, iadd_eq, beq_iff_eq] at q1
  obtain ⟨q1, q2, q3⟩ := q1
  have q2 := inR_eq q2
  have q3 := inR_eq q3
  rw [← or_K, ← or_K] at q1 q3
  replace q1 : aV r d s t m = (r.base : Nat) + regsW r.form d s t + wV r m := q1
  replace q3 : 0 ≤ aV r d s t m ∧ aV r d s t m ≤ 65535 := q3
  have q4 : regsW r.form d s t = 4 * lowI r.form d t + 128 * highI r.form d s := by
    obtain ⟨a, ha, b, hb', e⟩ := cover_regs r.form (form_mem hr) d s t hp hz hd hs ht
    have := List.all_eq_true.1 (List.all_eq_true.1 k2 a (List.mem_range.2 ha)) b (List.mem_range.2 hb')
    rw [← e] at this
    unfold standP at this
    simp only at this
    rw [h1] at this
    replace this : ieqb (regsW r.form d s t) (iadd (imul 4 (lowI r.form d t)) (imul 128 (highI r.form d s))) = true := this
    rw [ieqb_eq, iadd_eq, imul_eq, imul_eq, beq_iff_eq] at this
    exact this
  have q5 : nI r m = wV r m := by
    obtain ⟨q, rfl, hq⟩ := (numOk_P _ _ _ (row_nums hr) m hb).1.1 h2
    obtain ⟨j, hj, rfl⟩ := cover_q (row_nums hr) hq
    have := List.all_eq_true.1 k3 j (List.mem_range.2 hj)
    rw [nIK_eq r (unit_ne hr), wVK_eq, ieqb_eq, beq_iff_eq] at this
    exact this
  have hbase : (r.base : Int) ≤ 65535 := by
    have tab : (rowsL.all fun r => Nat.ble r.base 65535) = true := by decide
    have := Nat.le_of_ble_eq_true (List.all_eq_true.1 tab r hr)
    omega
  obtain ⟨N, e1, e2⟩ := brT_at (fun N => .tup [valA (sumT r N), .int .i64 0]) r (ηl [d, s, t, m, op]) φ0
  have e2 : N.ev (ηl [d, s, t, m, op]) φ0 = wV r m := by rw [e2, ← q5]; rfl
  have el := lowT_ev r.form (form_mem hr) (s := s) (m := m) (op := op) hd ht
  have eh := highT_ev r.form (form_mem hr) (t := t) (m := m) (op := op) hd hs
  have es : (sumT r N).ev (ηl [d, s, t, m, op]) φ0 = aV r d s t m := by
    unfold sumT
    have m1 : (mulA 4 (lowT r.form)).ev (ηl [d, s, t, m, op]) φ0 = 4 * lowI r.form d t := by rw [mulA_ev (by rw [el]; omega), el]
    have m2 : (mulA 128 (highT r.form)).ev (ηl [d, s, t, m, op]) φ0 = 128 * highI r.form d s := by rw [mulA_ev (by rw [eh]; omega), eh]
    have b0 : (SE.lit ((r.base : Nat) : Int)).ev (ηl [d, s, t, m, op]) φ0 = (r.base : Nat) := rfl
    have a1 : (addA (.lit ((r.base : Nat) : Int)) (mulA 4 (lowT r.form))).ev (ηl [d, s, t, m, op]) φ0 = (r.base : Nat) + 4 * lowI r.form d t := by
      rw [addA_ev (by rw [b0]; constructor <;> omega) (by rw [m1]; constructor <;> omega), b0, m1]
    have a2 : (addA (addA (.lit ((r.base : Nat) : Int)) (mulA 4 (lowT r.form))) (mulA 128 (highT r.form))).ev (ηl [d, s, t, m, op]) φ0 = (r.base : Nat) + 4 * lowI r.form d t + 128 * highI r.form d s := by
      rw [addA_ev (by rw [a1]; constructor <;> omega) (by rw [m2]; constructor <;> omega), a1, m2]
    rw [addA_ev (by rw [a2]; constructor <;> omega) (by rw [e2]; constructor <;> omega), a2, e2, q1, q4]
    omega
  obtain ⟨p1, p2⟩ := valA_val (η := ηl [d, s, t, m, op]) (φ := φ0) (x := sumT r N) (by rw [es]; exact q3)
  rw [es] at p2
  exact ⟨_, e1, p1, p2⟩

section
variable [Dec] [Env]
theorem orcFind_ok {P : Program} {gl : Nat} {f : FuncId} (hφ : Env.φ = φ0) (hc : FindC P f) : CallOK P gl (only f orcFind) := by
  refine callOK_only fun args H v H' h => ?_
  unfold orcFind at h
  split at h
  · rename_i i
    rw [Option.bind_eq_some_iff] at h
    obtain ⟨e, he, h⟩ := h
    split at h
    · rename_i hmay
      have hmay := look_eq (isT_some hmay)
      simp only [Option.some.injEq, Prod.mk.injEq] at h
      obtain ⟨rfl, rfl⟩ := h
      refine ⟨rfl, fun ρ w args' hI hv => ?_⟩
      cases hv with
      | cons _ vo _ _ h1 hv =>
        cases hv
        obtain ⟨o, d, s, t, m, hr8, rfl, q⟩ := insn?_rel he h1
        rw [sev_fn, q, hφ] at hmay
        have hmay : mayI o d s t m = true := by rw [← hmay]; exact (b01_eq _).symm
        refine ⟨_, mkInt_rel ρ .i64 (.fn 15 e), ?_⟩
        rw [sev_fn, q, hφ]
        exact hc o d s t m hmay w
    · cases h
  · cases h
end
theorem orcB_OK {P : Program} {may find : FuncId} (h1 : MayC P may) (h2 : FindC P find) : OrcOK P 0 φ0 (orcB may find) :=
  fun F _ h => @callOK_or F.dec h.env P 0 _ _ (@orcMay_ok F.dec h.env P 0 may rfl h1) (@orcFind_ok F.dec h.env P 0 find rfl h2)
theorem sel_index {op d s t m : Int} : ∀ {rs : List RowL} {k k' : Nat} {r : RowL}, sel op d s t m rs k = some (k', r) → k ≤ k' ∧ rs[k' - k]? = some r
  | [], _, _, _, h => by cases h
  | x :: rs, k, k', r, h => by
    unfold sel at h
    split at h
    · simp only [Option.some.injEq, Prod.mk.injEq] at h
      obtain ⟨rfl, rfl⟩ := h
      exact ⟨Nat.le_refl _, by rw [Nat.sub_self]; rfl⟩
    · obtain ⟨h1, h2⟩ := sel_index h
      refine ⟨by omega, ?_⟩
      obtain ⟨n, hn⟩ : ∃ n, k' - k = n + 1 := ⟨k' - k - 1, by omega⟩
      rw [hn, List.getElem?_cons_succ, ← h2]
      congr 1
      omega
theorem sel_facts {op d s t m : Int} : ∀ {rs : List RowL} {k k' : Nat} {r : RowL}, sel op d s t m rs k = some (k', r) → r ∈ rs ∧ (r.op : Int) = op ∧ regsOk r.form d s t = true ∧ numOk r.kind r.unit r.places.length m = true
  | [], _, _, _, h => by cases h
  | x :: rs, k, k', r, h => by
    unfold sel at h
    split at h
    · rename_i hc
      simp only [Option.some.injEq, Prod.mk.injEq] at h
      obtain ⟨-, rfl⟩ := h
      simp only [Bool.and_eq_true, decide_eq_true_eq] at hc
      exact ⟨List.mem_cons_self, hc.1, hc.2.1, hc.2.2⟩
    · obtain ⟨h1, h2⟩ := sel_facts h
      exact ⟨List.mem_cons_of_mem _ h1, h2⟩
theorem FW_on {op : Int} (ho : u8R op) {d s t m : Int} (hmay : mayI op d s t m = true) {k : Int} (hk : findV op d s t m = k) : (FW k).On (ηl [d, s, t, m, op]) φ0 where
  es := by
    intro x hx
    simp only [FW, List.mem_cons, List.not_mem_nil, or_false] at hx
    subst hx
    show (b01 (mayI op d s t m) == 1) = true
    rw [hmay]; rfl
  ls := opFacts_on ho d s t m
  vs := by
    intro x hx
    simp only [FW, List.mem_cons, List.not_mem_nil, or_false] at hx
    subst hx
    exact hk
theorem FX_on {op : Int} (ho : u8R op) {d s t m : Int} (hmay : mayI op d s t m = false) : FX.On (ηl [d, s, t, m, op]) φ0 where
  es := by
    intro x hx
    simp only [FX, List.mem_cons, List.not_mem_nil, or_false] at hx
    subst hx
    show (b01 (mayI op d s t m) == 1) = false
    rw [hmay]; rfl
  ls := opFacts_on ho d s t m
  vs x hx := by cases hx
def rowOkW (P : Program) (f may find : FuncId) (k : Nat) : Prop := ∀ r, rowsL[k]? = some r → (writTr r).ok (runT P (orcB may find) 10000 0 f [symI]) (FW (k : Nat)) = true
theorem half5_of {P : Program} (hm : P.follows .mixedOrders = true) {f may find : FuncId} (c1 : MayC P may) (c2 : FindC P find)
    (k1 : ∀ r ∈ rowsL, allRow (sumP' r) r = true) (k2 : ∀ r ∈ rowsL, standRow r = true) (k3 : ∀ r ∈ rowsL, numRow r = true)
    (h1 : ∀ k, k < 33 → rowOkW P f may find k)
    (h2 : (Tr.leaf (.tup [.int .u16 0, .int .i64 6])).ok (runT P (orcB may find) 10000 0 f [symI]) (FW (-1)) = true)
    (h3 : (Tr.leaf (.tup [.int .u16 0, .int .i64 20])).ok (runT P (orcB may find) 10000 0 f [symI]) FX = true) : EncC P f := by
  intro op d s t m ho
  unfold encV encE
  cases hmay : mayI op d s t m with
  | false => exact ret_of (η := ηl [d, s, t, m, op]) hm (orcB_OK c1 c2) h3 (FX_on ho hmay) rfl rfl rfl rfl rfl
  | true =>
    unfold halfV halfB
    cases hs : sel op d s t m rowsL 0 with
    | none =>
      have hf : findV op d s t m = -1 := by unfold findV; rw [hs]
      exact ret_of (η := ηl [d, s, t, m, op]) hm (orcB_OK c1 c2) h2 (FW_on ho hmay hf) rfl rfl rfl rfl rfl
    | some x =>
      obtain ⟨k, r⟩ := x
      obtain ⟨hr, rfl, hg, hn⟩ := sel_facts hs
      have hk := (sel_index hs).2
      rw [Nat.sub_zero] at hk
      have hlt : k < 33 := by
        have := (List.getElem?_eq_some_iff.1 hk).1
        exact this
      have hf : findV r.op d s t m = (k : Nat) := by unfold findV; rw [hs]
      obtain ⟨v, e1, e2, e3⟩ := writ_eq hr (k1 r hr) (k2 r hr) (k3 r hr) hmay hg hn (r.op : Int)
      exact ret_of (η := ηl [d, s, t, m, r.op]) hm (orcB_OK c1 c2) (h1 k hlt r hk) (FW_on ho hmay hf) e1 e2 rfl rfl e3
def shortTr5 : Tr := .eq (.fn 12 eI) (.lit 1) (.lt (.fn 15 eI) (.lit 0) (.leaf (.tup [.bool false, .int .i64 0])) (.leaf (.tup [.bool true, .int .i64 0]))) (.leaf (.tup [.bool false, .int .i64 20]))
theorem e15 (d s t m op : Int) : (SE.fn 15 eI).ev (ηl [d, s, t, m, op]) φ0 = findV op d s t m := rfl
theorem short5_of {P : Program} (hm : P.follows .mixedOrders = true) {f may find : FuncId} (c1 : MayC P may) (c2 : FindC P find) (h : shortTr5.ok (runT P (orcB may find) 10000 0 f [symI]) FU = true) : ShortC P f := by
  intro op d s t m ho
  have key : ∃ v, shortTr5.at (ηl [d, s, t, m, op]) φ0 = some v ∧ v.plain = true ∧ v.toVal (ηl [d, s, t, m, op]) φ0 = .tuple #[.bool (shortB op d s t m), .int .i64 (shortE op d s t m)] := by
    unfold shortTr5 shortB shortE
    rw [at_eq, e12, ev_lit]
    cases hmay : mayI op d s t m with
    | false => rw [if_neg (by simp [b01])]; exact ⟨_, rfl, rfl, rfl⟩
    | true =>
      rw [if_pos (by simp [b01]), at_lt, e15, ev_lit]
      unfold halfB findV
      cases hs : sel op d s t m rowsL 0 with
      | none => rw [if_pos (show (-1 : Int) < 0 by omega)]; exact ⟨_, rfl, rfl, rfl⟩
      | some x => rw [if_neg (show ¬ ((x.1 : Nat) : Int) < 0 by omega)]; exact ⟨_, rfl, rfl, rfl⟩
  obtain ⟨v, h1, h2, h3⟩ := key
  exact ret_of (η := ηl [d, s, t, m, op]) hm (orcB_OK c1 c2) h (FU_on ho d s t m) h1 h2 rfl rfl h3
/- the law -/
def tellsTr : Tr := .eq (.fn 202 eI) (.lit 1) (.leaf (.bool true)) (.leaf (.bool true))
def orcL (half half5 short short5 : FuncId) (F : Fa) : ACall := orElse (only half (@orcEnc F.dec)) (orElse (only half5 (@orcEnc F.dec)) (orElse (only short (@orcShort F.dec)) (only short5 (@orcShort F.dec))))
theorem orcL_OK {P : Program} {half half5 short short5 : FuncId} (h1 : EncC P half) (h2 : EncC P half5) (h3 : ShortC P short) (h4 : ShortC P short5) : OrcOK P 0 φ0 (orcL half half5 short short5) :=
  fun F _ h => @callOK_or F.dec h.env P 0 _ _ (@orcEnc_ok F.dec h.env P 0 half rfl h1) (@callOK_or F.dec h.env P 0 _ _ (@orcEnc_ok F.dec h.env P 0 half5 rfl h2)
    (@callOK_or F.dec h.env P 0 _ _ (@orcShort_ok F.dec h.env P 0 short rfl h3) (@orcShort_ok F.dec h.env P 0 short5 rfl h4)))
theorem tells_of {P : Program} (hm : P.follows .mixedOrders = true) {f half half5 short short5 : FuncId} (c1 : EncC P half) (c2 : EncC P half5) (c3 : ShortC P short) (c4 : ShortC P short5)
    (h : tellsTr.ok (runT P (orcL half half5 short short5) 10000 0 f [symI]) FU = true) {op : Int} (ho : u8R op) (d s t m : Int) : Ret P f [insnV op d s t m] (.bool true) := by
  have key : tellsTr.at (ηl [d, s, t, m, op]) φ0 = some (.bool true) := by
    unfold tellsTr
    rw [at_eq]
    split <;> rfl
  exact ret_of (η := ηl [d, s, t, m, op]) hm (orcL_OK c1 c2 c3 c4) h (FU_on ho d s t m) key rfl rfl rfl rfl
end Go.Proofs.YtklenhohljeacaaDoor.Ex
