import Derived.Test.YtoehlmiadiiimaaGreatDoorEncQ
import Derived.Test.YtoehlmiadiiimaaGreatDoorEncK
import Derived.Test.YtoehlmiadiiimaaGreatDoorEncV
import Derived.Test.YtoehlmiadiiimaaGreatDoorEncI2
/-
  Short forms of instructions: the document's Find.
-/
namespace Go.Proofs.YtoehlmiadiiimaaGreatDoor.Ex
open Go

section defs
variable [Dec]
end defs
section
variable [Dec] [Env]
end
end Go.Proofs.YtoehlmiadiiimaaGreatDoor.Ex

/-
  Short forms of instructions: what the document writes.
-/
namespace Go.Proofs.YtoehlmiadiiimaaGreatDoor.Ex
open Go

def sc5 (V : SE) : List Nat → Nat → SE → SE
  | [], _, acc => acc
  | p :: ps, i, acc => sc5 V ps (i + 1) (.bin .add .i64 acc (.bin .mul .i64 (.wrap .i64 (.wrap .u32 (.bin .rem .i64 (.bin .quo .i64 V (.lit ((2 ^ i : Nat) : Int))) (.lit 2)))) (.lit ((2 ^ p : Nat) : Int))))
def nT (r : RowL) (V : SE) : SE := match r.places with
  | [] => .lit 0
  | _ => .wrap .i64 (.wrap .u32 (sc5 V r.places 0 (.lit 0)))
section defs
variable [Dec]
end defs
def FW (k : Int) : Fa := ⟨[(.fn 12 eI, .lit 1, true)], opFacts, [(.fn 15 eI, k)]⟩
end Go.Proofs.YtoehlmiadiiimaaGreatDoor.Ex

/-
  Short forms of instructions: what the document writes is what the program writes; the document's Half and Short; the law CencTells.
-/
namespace Go.Proofs.YtoehlmiadiiimaaGreatDoor.Ex
open Go

def sc5I (V : Int) : List Nat → Nat → Int → Int
  | [], _, acc => acc
  | p :: ps, i, acc => sc5I V ps (i + 1) (ibin .add .i64 acc (ibin .mul .i64 (IntKind.i64.wrap (IntKind.u32.wrap (ibin .rem .i64 (ibin .quo .i64 V ((2 ^ i : Nat) : Int)) 2))) ((2 ^ p : Nat) : Int)))
def nTI (r : RowL) (V : Int) : Int := match r.places with
  | [] => 0
  | _ => IntKind.i64.wrap (IntKind.u32.wrap (sc5I V r.places 0 0))
theorem sc5_ev (η : Nat → Int) (φ : Nat → List Int → Int) (V : SE) : ∀ (ps : List Nat) (i : Nat) (acc : SE), (sc5 V ps i acc).ev η φ = sc5I (V.ev η φ) ps i (acc.ev η φ)
  | [], _, _ => rfl
  | _ :: ps, i, _ => sc5_ev η φ V ps (i + 1) _
theorem nT_ev (η : Nat → Int) (φ : Nat → List Int → Int) (r : RowL) (V : SE) : (nT r V).ev η φ = nTI r (V.ev η φ) := by
  unfold nT nTI
  cases r.places with
  | nil => rfl
  | cons p ps =>
    simp only
    rw [ev_wrap, ev_wrap, sc5_ev]
    rfl
theorem ib_K (op : BinOp) (k : IntKind) (a b n : Int) (h : ibinK op k a k b = some (.int k n)) : ibin op k a b = n := by
  unfold ibin
  rw [← ibinK_eq, h]
theorem and_K (k : IntKind) (a b : Int) : ibin .and k a b = iand k a b := ib_K _ _ _ _ _ (by
  show ck (kbeq k k) (some (.int k (iand k a b))) = _
  rw [ck_eq, if_neg (by simp)])
theorem shl_K (k : IntKind) (a b : Int) (h : ¬ b < 0) : ibin .shl k a b = ishl k a b := ib_K _ _ _ _ _ (by
  show nk (iltb b (.ofNat 0)) (some (.int k (ishl k a b))) = _
  rw [nk_lt, if_neg h])
theorem shr_K (k : IntKind) (a b : Int) (h : ¬ b < 0) : ibin .shr k a b = ishr k a b := ib_K _ _ _ _ _ (by
  show nk (iltb b (.ofNat 0)) (some (.int k (ishr k a b))) = _
  rw [nk_lt, if_neg h])
noncomputable def scatK (v : Int) (ps : List Nat) : Nat → Int → Int :=
  List.rec (motive := fun _ => Nat → Int → Int) (fun _ acc => acc) (fun p _ ih i acc => ih (Nat.succ i) (ior .u32 acc (ishl .u32 (iand .u32 (ishr .u32 v (.ofNat i)) (.ofNat (nat_lit 1))) (.ofNat p)))) ps
theorem scatK_eq (v : Int) : ∀ (ps : List Nat) (i : Nat) (acc : Int), scatK v ps i acc = scat v ps i acc
  | [], _, _ => rfl
  | p :: ps, i, acc => by
    show scatK v ps (i + 1) (ior .u32 acc (ishl .u32 (iand .u32 (ishr .u32 v (i : Nat)) 1) (p : Nat))) = scat v ps (i + 1) _
    rw [scatK_eq v ps, or_K, shl_K _ _ _ (by omega), and_K, shr_K _ _ _ (by omega)]
noncomputable def wVK (r : RowL) (m : Int) : Int := List.rec (motive := fun _ => Int) (.ofNat (nat_lit 0)) (fun _ _ _ => wrapK .u16 (scatK (numW r.kind r.unit r.places.length m) r.places (nat_lit 0) (.ofNat (nat_lit 0)))) r.places
theorem wVK_eq (r : RowL) (m : Int) : wVK r m = wV r m := by
  unfold wVK wV
  cases r.places with
  | nil => rfl
  | cons p ps =>
    show wrapK .u16 (scatK (numW r.kind r.unit (p :: ps).length m) (p :: ps) 0 0) = _
    rw [wrapK_eq, scatK_eq]
section
variable [Dec] [Env]
end
theorem sel_facts {op d s t m : Int} : ∀ {rs : List RowL} {k k' : Nat} {r : RowL}, sel op d s t m rs k = some (k', r) → r ∈ rs ∧ (r.op : Int) = op ∧ regsOk r.form d s t = true ∧ numOk r.kind r.unit r.places.length m = true
  | [], _, _, _, h => by cases h
  | x :: rs, k, k', r, h => by
    unfold sel at h
    split at h
    · rename_i hc
      simp only [Option.some.injEq, Prod.mk.injEq] at h
      obtain ⟨-, rfl⟩ := h
      simp only [Bool.and_eq_true, decide_eq_true_eq] at hc
      exact ⟨List.mem_cons_self, hc.1, hc.2.1, hc.2.2⟩
    · obtain ⟨h1, h2⟩ := sel_facts h
      exact ⟨List.mem_cons_of_mem _ h1, h2⟩
/- the law -/
end Go.Proofs.YtoehlmiadiiimaaGreatDoor.Ex

/-
  Half words: what the program reads of a short form is the instruction: the check of a row, for the kernel.
-/
namespace Go.Proofs.YtoehlmiadiiimaaGreatDoor.Ex
open Go

noncomputable def rawIs (x : Int) (op d s t m : Int) : Bool :=
  Int.rec (motive := fun _ => Bool) (fun n => andB (Nat.ble (Nat.succ n) (nat_lit 65536)) (andB (Nat.ble (Nat.succ (clsN n)) (nat_lit 39)) ((rawTr (clsN n)).isK (.ofNat n) op d s t m))) (fun _ => false) x
noncomputable def rawP (r : RowL) (d s t m : Int) : Bool :=
  Bool.rec (motive := fun _ => Bool) true (Bool.rec (motive := fun _ => Bool) true (rawIs (ior .u16 (ior .u16 (r.base : Nat) (regsW r.form d s t)) (wVK r m)) r.op d s t m) (numOk r.kind r.unit r.places.length m)) (regsOk r.form d s t)
/-- What the program reads of a short form is the instruction. -/
theorem raw_spec {r : RowL} (hr : r ∈ rowsL) (h : allRow (rawP r) r = true) {d s t m : Int} (hm : mayI r.op d s t m = true) (h1 : regsOk r.form d s t = true) (h2 : numOk r.kind r.unit r.places.length m = true) :
    ∃ n : Nat, aV r d s t m = (n : Int) ∧ n < 65536 ∧ rawR n = ⟨r.op, d, s, t, m⟩ := by
  have h := allRow_spec hr h hm h1 h2
  unfold rawP at h
  rw [h1, h2] at h
  replace h : rawIs (ior .u16 (ior .u16 (r.base : Nat) (regsW r.form d s t)) (wVK r m)) r.op d s t m = true := h
  have e : aV r d s t m = ior .u16 (ior .u16 (r.base : Nat) (regsW r.form d s t)) (wVK r m) := by unfold aV; rw [or_K, or_K, wVK_eq]
  rw [← e] at h
  cases hx : aV r d s t m with
  | negSucc n => rw [hx] at h; cases h
  | ofNat n =>
    rw [hx] at h
    replace h : andB (Nat.ble (Nat.succ n) 65536) (andB (Nat.ble (Nat.succ (clsN n)) 39) ((rawTr (clsN n)).isK (.ofNat n) r.op d s t m)) = true := h
    rw [andB_eq, andB_eq, Bool.and_eq_true, Bool.and_eq_true] at h
    obtain ⟨q1, q2, q3⟩ := h
    exact ⟨n, rfl, Nat.le_of_ble_eq_true q1, isK_spec _ _ (rawTr_pure _ (Nat.le_of_ble_eq_true q2)) q3⟩
end Go.Proofs.YtoehlmiadiiimaaGreatDoor.Ex

/-
  Half words: what is read of a short form is the instruction, row by row.
-/
namespace Go.Proofs.YtoehlmiadiiimaaGreatDoor.Ex
theorem raws0_0 : (((rowsL.drop 0).take 1).all fun r => allRow (rawP r) r) = true := by kernel_rfl
theorem raws0_1 : (((rowsL.drop 1).take 1).all fun r => allRow (rawP r) r) = true := by kernel_rfl
theorem raws0_2 : (((rowsL.drop 2).take 1).all fun r => allRow (rawP r) r) = true := by kernel_rfl
theorem raws0_3 : (((rowsL.drop 3).take 1).all fun r => allRow (rawP r) r) = true := by kernel_rfl
theorem raws0 : ((grp 0).all fun r => allRow (rawP r) r) = true := by
  have e : grp 0 = (rowsL.drop 0).take 1 ++ ((rowsL.drop 1).take 1 ++ ((rowsL.drop 2).take 1 ++ (rowsL.drop 3).take 1)) := rfl
  rw [e, List.all_append, List.all_append, List.all_append, raws0_0, raws0_1, raws0_2, raws0_3]
  rfl
theorem raws1_0 : (((rowsL.drop 4).take 1).all fun r => allRow (rawP r) r) = true := by kernel_rfl
theorem raws1_1 : (((rowsL.drop 5).take 1).all fun r => allRow (rawP r) r) = true := by kernel_rfl
theorem raws1_2 : (((rowsL.drop 6).take 1).all fun r => allRow (rawP r) r) = true := by kernel_rfl
theorem raws1_3 : (((rowsL.drop 7).take 1).all fun r => allRow (rawP r) r) = true := by kernel_rfl
theorem raws1 : ((grp 1).all fun r => allRow (rawP r) r) = true := by
  have e : grp 1 = (rowsL.drop 4).take 1 ++ ((rowsL.drop 5).take 1 ++ ((rowsL.drop 6).take 1 ++ (rowsL.drop 7).take 1)) := rfl
  rw [e, List.all_append, List.all_append, List.all_append, raws1_0, raws1_1, raws1_2, raws1_3]
  rfl
end Go.Proofs.YtoehlmiadiiimaaGreatDoor.Ex

/-
  Half words: what is read of a short form is the instruction, row by row.
-/
namespace Go.Proofs.YtoehlmiadiiimaaGreatDoor.Ex
theorem raws2_0 : (((rowsL.drop 8).take 1).all fun r => allRow (rawP r) r) = true := by kernel_rfl
theorem raws2_1 : (((rowsL.drop 9).take 1).all fun r => allRow (rawP r) r) = true := by kernel_rfl
theorem raws2_2 : (((rowsL.drop 10).take 1).all fun r => allRow (rawP r) r) = true := by kernel_rfl
theorem raws2_3 : (((rowsL.drop 11).take 1).all fun r => allRow (rawP r) r) = true := by kernel_rfl
theorem raws2 : ((grp 2).all fun r => allRow (rawP r) r) = true := by
  have e : grp 2 = (rowsL.drop 8).take 1 ++ ((rowsL.drop 9).take 1 ++ ((rowsL.drop 10).take 1 ++ (rowsL.drop 11).take 1)) := rfl
  rw [e, List.all_append, List.all_append, List.all_append, raws2_0, raws2_1, raws2_2, raws2_3]
  rfl
theorem raws3 : ((grp 3).all fun r => allRow (rawP r) r) = true := by kernel_rfl
theorem raws4 : ((grp 4).all fun r => allRow (rawP r) r) = true := by kernel_rfl
end Go.Proofs.YtoehlmiadiiimaaGreatDoor.Ex

/-
  Half words: what is read of a short form is the instruction, row by row.
-/
namespace Go.Proofs.YtoehlmiadiiimaaGreatDoor.Ex
theorem raws5_0 : (((rowsL.drop 20).take 1).all fun r => allRow (rawP r) r) = true := by kernel_rfl
theorem raws5_1 : (((rowsL.drop 21).take 1).all fun r => allRow (rawP r) r) = true := by kernel_rfl
theorem raws5_2 : (((rowsL.drop 22).take 1).all fun r => allRow (rawP r) r) = true := by kernel_rfl
theorem raws5_3 : (((rowsL.drop 23).take 1).all fun r => allRow (rawP r) r) = true := by kernel_rfl
theorem raws5 : ((grp 5).all fun r => allRow (rawP r) r) = true := by
  have e : grp 5 = (rowsL.drop 20).take 1 ++ ((rowsL.drop 21).take 1 ++ ((rowsL.drop 22).take 1 ++ (rowsL.drop 23).take 1)) := rfl
  rw [e, List.all_append, List.all_append, List.all_append, raws5_0, raws5_1, raws5_2, raws5_3]
  rfl
theorem raws6_0 : (((rowsL.drop 24).take 1).all fun r => allRow (rawP r) r) = true := by kernel_rfl
theorem raws6_1 : (((rowsL.drop 25).take 1).all fun r => allRow (rawP r) r) = true := by kernel_rfl
theorem raws6_2 : (((rowsL.drop 26).take 1).all fun r => allRow (rawP r) r) = true := by kernel_rfl
theorem raws6_3 : (((rowsL.drop 27).take 1).all fun r => allRow (rawP r) r) = true := by kernel_rfl
theorem raws6 : ((grp 6).all fun r => allRow (rawP r) r) = true := by
  have e : grp 6 = (rowsL.drop 24).take 1 ++ ((rowsL.drop 25).take 1 ++ ((rowsL.drop 26).take 1 ++ (rowsL.drop 27).take 1)) := rfl
  rw [e, List.all_append, List.all_append, List.all_append, raws6_0, raws6_1, raws6_2, raws6_3]
  rfl
end Go.Proofs.YtoehlmiadiiimaaGreatDoor.Ex

/-
  Half words: what is read of a short form is the instruction, row by row.
-/
namespace Go.Proofs.YtoehlmiadiiimaaGreatDoor.Ex
theorem raws7 : ((grp 7).all fun r => allRow (rawP r) r) = true := by kernel_rfl
theorem raws8 : ((grp 8).all fun r => allRow (rawP r) r) = true := by kernel_rfl
end Go.Proofs.YtoehlmiadiiimaaGreatDoor.Ex

/-
  Half words: what the program reads of a short form is the instruction: all rows.
-/
namespace Go.Proofs.YtoehlmiadiiimaaGreatDoor.Ex
theorem raws_all : ∀ r ∈ rowsL, (fun r => allRow (rawP r) r = true) r := by
  refine grp_mem fun k hk r hr => ?_
  match k, hk with
  | 0, _ => exact List.all_eq_true.1 raws0 r hr
  | 1, _ => exact List.all_eq_true.1 raws1 r hr
  | 2, _ => exact List.all_eq_true.1 raws2 r hr
  | 3, _ => exact List.all_eq_true.1 raws3 r hr
  | 4, _ => exact List.all_eq_true.1 raws4 r hr
  | 5, _ => exact List.all_eq_true.1 raws5 r hr
  | 6, _ => exact List.all_eq_true.1 raws6 r hr
  | 7, _ => exact List.all_eq_true.1 raws7 r hr
  | 8, _ => exact List.all_eq_true.1 raws8 r hr
end Go.Proofs.YtoehlmiadiiimaaGreatDoor.Ex

/-
  Half words: what is written is read, what is read is written; plain.
-/
namespace Go.Proofs.YtoehlmiadiiimaaGreatDoor.Ex
open Go

def opNone : AV → Bool
  | .agg [.int .u8 n, _, _, _, _] => n == 0
  | _ => false
theorem raw_three {h : Nat} (hh : h < 65536) (h3 : h % 4 = 3) : (rawR h).op = 0 := by
  have hc : 24 ≤ clsN h ∧ clsN h < 32 := by
    have : Nat.beq (8 * (h % 4) + h / 8192) 12 = false := by rw [nat_beq]; exact decide_eq_false (by omega)
    unfold clsN
    rw [this]
    simp only
    omega
  have tab : ((List.range' 24 8).all fun n => (rawTr n).all opNone) = true := by kernel_rfl
  obtain ⟨v, hv, hk⟩ := Tr.all_at (η := ηh h) (φ := fun _ _ => 0) (List.all_eq_true.1 tab (clsN h) (List.mem_range'_1.2 (by omega)))
  unfold rawR
  rw [hv]
  unfold opNone at hk
  split at hk
  · rename_i n _ _ _ _
    have hk : n = 0 := by simpa using hk
    exact hk
  · cases hk
theorem half_fact {op d s t m : Int} (hm : mayI op d s t m = true) (hb : halfB op d s t m = true) :
    ∃ n : Nat, encV op d s t m = (n : Int) ∧ n < 65536 ∧ n % 4 ≠ 3 ∧ readR n = ⟨op, d, s, t, m⟩ ∧ readE n = 0 := by
  have hb' := hb
  unfold halfB at hb
  have hv : encV op d s t m = halfV op d s t m := by unfold encV; rw [hm]
  cases hs : sel op d s t m rowsL 0 with
  | none => rw [hs] at hb; cases hb
  | some x =>
    obtain ⟨k, r⟩ := x
    obtain ⟨hr, ho, h1, h2⟩ := sel_facts hs
    subst ho
    obtain ⟨n, a1, a2, a3⟩ := raw_spec hr (raws_all r hr) hm h1 h2
    have hv' : halfV r.op d s t m = aV r d s t m := by unfold halfV; rw [hs]
    have hE : encE r.op d s t m = 0 := by unfold encE; rw [hm, hb']
    have hB : readB n = true := by
      unfold readB
      rw [a3]
      simp only
      rw [hE, hv, hv', a1]
      simp
    refine ⟨n, by rw [hv, hv', a1], a2, fun h3 => ?_, ?_, ?_⟩
    · have h0 := raw_three a2 h3
      rw [a3] at h0
      replace h0 : (r.op : Int) = 0 := h0
      have hk : knownI (r.op : Int) = false := by rw [h0]; rfl
      unfold mayI at hm
      rw [hk] at hm
      cases hm
    · unfold readR; rw [hB, ← a3]
    · unfold readE; rw [hB]
theorem half_none {op d s t m : Int} (h : shortB op d s t m = false) : encV op d s t m = 0 := by
  unfold shortB at h
  unfold encV
  cases hm : mayI op d s t m with
  | false => rfl
  | true =>
    rw [hm] at h
    have hb : halfB op d s t m = false := by simpa using h
    unfold halfB at hb; unfold halfV
    cases hs : sel op d s t m rowsL 0 with
    | none => rfl
    | some x => rw [hs] at hb; cases hb
theorem enc_range (op d s t m : Int) : 0 ≤ encV op d s t m ∧ encV op d s t m < 65536 := by
  cases h : shortB op d s t m with
  | false => rw [half_none h]; omega
  | true =>
    unfold shortB at h
    obtain ⟨hm, hb⟩ := Bool.and_eq_true_iff.1 h
    obtain ⟨n, e, hn, -⟩ := half_fact hm hb
    rw [e]; omega
/- the half words of two rows -/
end Go.Proofs.YtoehlmiadiiimaaGreatDoor.Ex

