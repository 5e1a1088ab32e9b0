/-
  Short forms of instructions: contracts from trees; oracles.
-/
import Derived.Test.YtoehlmiadiiimaaGreatDoorEncDef
import Derived.Test.YtoehlmiadiiimaaGreatDoorEncRaw
namespace Go.Proofs.YtoehlmiadiiimaaGreatDoor.Ex
open Go

def ηl (l : List Int) : Nat → Int := fun i => l.getD i 0
def φz : Nat → List Int → Int := fun _ _ => 0
/-- the number and the truth of an answer of two -/
def tupI (η : Nat → Int) (φ : Nat → List Int → Int) : Option AV → Int
  | some (.tup [.int _ n, _]) => n
  | some (.tup [.sint _ e, _]) => e.ev η φ
  | _ => 0
def tupB : Option AV → Bool
  | some (.tup [_, .bool b]) => b
  | _ => false
def b01 (b : Bool) : Int := match b with
  | true => 1
  | false => 0
theorem b01_eq (b : Bool) : (b01 b == 1) = b := by cases b <;> rfl
def regsV (f : Nat) (d s t : Int) : Option AV := (regsTr f).at (ηl [d, s, t]) φz
def numV (k u m : Nat) (n : Int) : Option AV := (numTr k u m).at (ηl [n]) φz
def regsOk (f : Nat) (d s t : Int) : Bool := tupB (regsV f d s t)
def numOk (k u m : Nat) (n : Int) : Bool := tupB (numV k u m n)
def regsW (f : Nat) (d s t : Int) : Int := tupI (ηl [d, s, t]) φz (regsV f d s t)
def numW (k u m : Nat) (n : Int) : Int := tupI (ηl [n]) φz (numV k u m n)

noncomputable def runT (P : Program) (orc : Fa → ACall) (n N : Nat) (f : FuncId) (args : List AV) (F : Fa) : Option AV :=
  (acallT P (orc F) (@execT F.dec P 0 (orc F) n) N f args ⟨N, .leaf⟩ fun v H => some (v, H)).map (·.1)
theorem runT_eq (P : Program) (orc : Fa → ACall) (n N : Nat) (f : FuncId) (args : List AV) : runT P orc n N f args = runF P orc n N f args := by
  funext F
  unfold runT runF
  rw [@callT_eq F.dec]

/-- A call comes to a value, and changes nothing that was there. -/
def Ret (P : Program) (f : FuncId) (args : List Value) (v : Value) : Prop := ∀ w, Calls P f args.toArray w fun e w' => e = .returned v ∧ RowKit.Below w.heap.size w w'

theorem ret_of {P : Program} (hm : P.follows .mixedOrders = true) {orc : Fa → ACall} {φ : Nat → List Int → Int} (horc : OrcOK P 0 φ orc) {n N : Nat} {f : FuncId} {args : List AV} {F : Fa} {t : Tr}
    (hok : t.ok (runT P orc n N f args) F = true) {η : Nat → Int} (hF : F.On η φ) {v : AV} (hv : t.at η φ = some v) (hp : v.plain = true) (ha : AV.plains args = true) {as : List Value} {u : Value} (h1 : AV.toVals η φ args = as) (h2 : v.toVal η φ = u) : Ret P f as u := by
  subst h1; subst h2
  rw [runT_eq] at hok
  exact fun w => tree_calls hm horc hok hF hv hp ha w

/-- with slices of which only the length is known -/
theorem ret_from {P : Program} (hm : P.follows .mixedOrders = true) {orc : Fa → ACall} {φ : Nat → List Int → Int} (horc : OrcOK P 0 φ orc) {n N : Nat} {f : FuncId} {args : List AV} {F : Fa} {t : Tr}
    (hok : t.ok (runT P orc n N f args) F = true) {η : Nat → Int} (hF : F.On η φ) {v : AV} (hv : t.at η φ = some v) (hp : v.plain = true) {args' : List Value} {u : Value} (h2 : v.toVal η φ = u) {w : World} {ρ : Rho}
    (hρ : ∀ b, N ≤ b → ρ b = none) (hl : ∀ b r, ρ b = some r → r.cb < w.heap.size) (hr : ∀ (F : Fa) (h : F.On η φ), @VRs F.dec h.env ρ args args') :
    Calls P f args'.toArray w fun e w' => e = .returned u ∧ RowKit.Below w.heap.size w w' := by
  subst h2
  rw [runT_eq] at hok
  exact tree_from hm horc hok hF hv hp hρ hl hr

def SE.varsLt (k : Nat) : SE → Bool
  | .var i => decide (i < k)
  | .lit _ => true
  | .bin _ _ a b => SE.varsLt k a && SE.varsLt k b
  | .un _ _ a => SE.varsLt k a
  | .wrap _ a => SE.varsLt k a
  | .fn _ a => SE.varsLt k a
  | .pair a b => SE.varsLt k a && SE.varsLt k b
theorem evs_congr {k : Nat} {η η' : Nat → Int} {φ : Nat → List Int → Int} (h : ∀ i, i < k → η i = η' i) : ∀ {e : SE}, e.varsLt k = true → e.evs η φ = e.evs η' φ
  | .var i, hb => by simp only [SE.varsLt, decide_eq_true_eq] at hb; simp only [SE.evs, h i hb]
  | .lit n, _ => rfl
  | .bin o kd a b, hb => by
    simp only [SE.varsLt, Bool.and_eq_true] at hb
    simp only [SE.evs, evs_congr h hb.1, evs_congr h hb.2]
  | .un o kd a, hb => by
    simp only [SE.varsLt] at hb
    simp only [SE.evs, evs_congr h hb]
  | .wrap kd a, hb => by
    simp only [SE.varsLt] at hb
    simp only [SE.evs, evs_congr h hb]
  | .fn i a, hb => by
    simp only [SE.varsLt] at hb
    simp only [SE.evs, evs_congr h hb]
  | .pair a b, hb => by
    simp only [SE.varsLt, Bool.and_eq_true] at hb
    simp only [SE.evs, evs_congr h hb.1, evs_congr h hb.2]
theorem ev_congr {k : Nat} {η η' : Nat → Int} {φ : Nat → List Int → Int} (h : ∀ i, i < k → η i = η' i) {e : SE} (hb : e.varsLt k = true) : e.ev η φ = e.ev η' φ := by
  unfold SE.ev; rw [evs_congr h hb]
def leafBelow (k : Nat) : AV → Bool
  | .tup [.sint _ e, _] => e.varsLt k
  | _ => true
def Tr.varsLt (k : Nat) : Tr → Bool
  | .leaf v => leafBelow k v
  | .eq a b t f => a.varsLt k && b.varsLt k && (t.varsLt k && f.varsLt k)
  | .lt a b t f => a.varsLt k && b.varsLt k && (t.varsLt k && f.varsLt k)
  | .bad => true
theorem Tr.at_congr {k : Nat} {η η' : Nat → Int} {φ : Nat → List Int → Int} (h : ∀ i, i < k → η i = η' i) : ∀ {t : Tr}, t.varsLt k = true → t.at η φ = t.at η' φ ∧ tupI η φ (t.at η φ) = tupI η' φ (t.at η' φ)
  | .leaf v, hb => by
    refine ⟨rfl, ?_⟩
    simp only [Tr.varsLt] at hb
    simp only [Tr.at]
    unfold leafBelow at hb
    split at hb
    · exact ev_congr h hb
    · rename_i hv
      unfold tupI
      split
      · rfl
      · rename_i hx; simp only [Option.some.injEq] at hx; exact absurd hx (hv _ _ _)
      · rfl
  | .eq a b t f, hb => by
    simp only [Tr.varsLt, Bool.and_eq_true] at hb
    rw [at_eq, at_eq, ev_congr h hb.1.1, ev_congr h hb.1.2]
    split
    · exact Tr.at_congr h hb.2.1
    · exact Tr.at_congr h hb.2.2
  | .lt a b t f, hb => by
    simp only [Tr.varsLt, Bool.and_eq_true] at hb
    rw [at_lt, at_lt, ev_congr h hb.1.1, ev_congr h hb.1.2]
    split
    · exact Tr.at_congr h hb.2.1
    · exact Tr.at_congr h hb.2.2
  | .bad, _ => ⟨rfl, rfl⟩

/-- All of a tree's leaves are so. -/
def Tr.all (p : AV → Bool) : Tr → Bool
  | .leaf v => p v
  | .eq _ _ t f => t.all p && f.all p
  | .lt _ _ t f => t.all p && f.all p
  | .bad => false
theorem Tr.all_at {p : AV → Bool} {η : Nat → Int} {φ : Nat → List Int → Int} : ∀ {t : Tr}, t.all p = true → ∃ v, t.at η φ = some v ∧ p v = true
  | .leaf v, h => ⟨v, rfl, h⟩
  | .eq a b t f, h => by
    obtain ⟨h1, h2⟩ := Bool.and_eq_true_iff.1 h
    rw [at_eq]
    split
    · exact Tr.all_at h1
    · exact Tr.all_at h2
  | .lt a b t f, h => by
    obtain ⟨h1, h2⟩ := Bool.and_eq_true_iff.1 h
    rw [at_lt]
    split
    · exact Tr.all_at h1
    · exact Tr.all_at h2
/-- a leaf of a number and a truth -/
def isKB (k : IntKind) : AV → Bool
  | .tup [.int k' _, .bool _] => kidxC k' == kidxC k
  | .tup [.sint k' _, .bool _] => kidxC k' == kidxC k
  | _ => false
where kidxC : IntKind → Nat
  | .i8 => 0 | .i16 => 1 | .i32 => 2 | .i64 => 3 | .u8 => 4 | .u16 => 5 | .u32 => 6 | .u64 => 7
theorem isKB_spec {k : IntKind} {v : AV} (h : isKB k v = true) (η : Nat → Int) (φ : Nat → List Int → Int) :
    v.plain = true ∧ v.toVal η φ = .tuple #[.int k (tupI η φ (some v)), .bool (tupB (some v))] := by
  have kk : ∀ k k' : IntKind, isKB.kidxC k' == isKB.kidxC k → k' = k := by intro a b; cases a <;> cases b <;> simp [isKB.kidxC]
  unfold isKB at h
  split at h
  · have := kk _ _ h; subst this; exact ⟨rfl, rfl⟩
  · have := kk _ _ h; subst this; exact ⟨rfl, rfl⟩
  · cases h
/-- An instruction's value. -/
abbrev insnV (op d s t m : Int) : Value := .agg #[.int .u8 op, .int .i64 d, .int .i64 s, .int .i64 t, .int .i64 m]
def u8R (op : Int) : Prop := 0 ≤ op ∧ op < 256

def FormC (P : Program) (f : FuncId) : Prop := ∀ op, u8R op → Ret P f [.int .u8 op] (.tuple #[.int .u8 (formI op), .int .i64 (match knownI op with | true => 0 | false => 2)])
def CheckC (P : Program) (f : FuncId) : Prop := ∀ op d s t m, u8R op → Ret P f [insnV op d s t m] (.int .i64 (match mayI op d s t m with | true => 0 | false => 20))
def RegsC (P : Program) (f : FuncId) : Prop := ∀ (c : Nat), c ∈ regForms → ∀ op d s t m, Ret P f [.int .u8 c, insnV op d s t m] (.tuple #[.int .u16 (regsW c d s t), .bool (regsOk c d s t)])
where regForms : List Nat := [97, 108, 115, 110, 106, 114, 122, 117, 112, 113, 109, 98, 119, 74, 75, 118, 100, 116]
/-- The short forms: the instruction, its name, the bits, the form, the kind of its number, by how much it goes, where it stands. -/
structure RowL where
  op : Nat
  name : List Nat
  base : Nat
  form : Nat
  kind : Nat
  unit : Nat
  places : List Nat
def rowsL : List RowL := [
  ⟨22, [97, 100, 100, 105], 0, 97, 112, 4, [6, 5, 11, 12, 7, 8, 9, 10]⟩,
  ⟨13, [108, 119], 16384, 108, 117, 4, [6, 10, 11, 12, 5]⟩,
  ⟨14, [108, 100], 24576, 108, 117, 8, [10, 11, 12, 5, 6]⟩,
  ⟨20, [115, 119], 49152, 115, 117, 4, [6, 10, 11, 12, 5]⟩,
  ⟨21, [115, 100], 57344, 115, 117, 8, [10, 11, 12, 5, 6]⟩,
  ⟨22, [97, 100, 100, 105], 1, 110, 48, 1, []⟩,
  ⟨22, [97, 100, 100, 105], 1, 114, 110, 1, [2, 3, 4, 5, 6, 12]⟩,
  ⟨41, [97, 100, 100, 105, 119], 8193, 114, 115, 1, [2, 3, 4, 5, 6, 12]⟩,
  ⟨22, [97, 100, 100, 105], 16385, 122, 115, 1, [2, 3, 4, 5, 6, 12]⟩,
  ⟨22, [97, 100, 100, 105], 24833, 112, 110, 16, [6, 2, 5, 3, 4, 12]⟩,
  ⟨1, [108, 117, 105], 24577, 117, 108, 1, [2, 3, 4, 5, 6, 12]⟩,
  ⟨29, [115, 114, 108, 105], 32769, 113, 112, 1, [2, 3, 4, 5, 6, 12]⟩,
  ⟨30, [115, 114, 97, 105], 33793, 113, 112, 1, [2, 3, 4, 5, 6, 12]⟩,
  ⟨27, [97, 110, 100, 105], 34817, 113, 115, 1, [2, 3, 4, 5, 6, 12]⟩,
  ⟨32, [115, 117, 98], 35841, 109, 48, 1, []⟩,
  ⟨36, [120, 111, 114], 35873, 109, 48, 1, []⟩,
  ⟨39, [111, 114], 35905, 109, 48, 1, []⟩,
  ⟨40, [97, 110, 100], 35937, 109, 48, 1, []⟩,
  ⟨46, [115, 117, 98, 119], 39937, 109, 48, 1, []⟩,
  ⟨45, [97, 100, 100, 119], 39969, 109, 48, 1, []⟩,
  ⟨3, [106, 97, 108], 40961, 106, 115, 2, [3, 4, 5, 11, 2, 7, 6, 9, 10, 8, 12]⟩,
  ⟨5, [98, 101, 113], 49153, 98, 115, 2, [3, 4, 10, 11, 2, 5, 6, 12]⟩,
  ⟨6, [98, 110, 101], 57345, 98, 115, 2, [3, 4, 10, 11, 2, 5, 6, 12]⟩,
  ⟨28, [115, 108, 108, 105], 2, 114, 112, 1, [2, 3, 4, 5, 6, 12]⟩,
  ⟨13, [108, 119], 16386, 119, 117, 4, [4, 5, 6, 12, 2, 3]⟩,
  ⟨14, [108, 100], 24578, 119, 117, 8, [5, 6, 12, 2, 3, 4]⟩,
  ⟨4, [106, 97, 108, 114], 32770, 74, 48, 1, []⟩,
  ⟨31, [97, 100, 100], 32770, 118, 48, 1, []⟩,
  ⟨66, [101, 98, 114, 101, 97, 107], 36866, 110, 48, 1, []⟩,
  ⟨4, [106, 97, 108, 114], 36866, 75, 48, 1, []⟩,
  ⟨31, [97, 100, 100], 36866, 100, 48, 1, []⟩,
  ⟨20, [115, 119], 49154, 116, 117, 4, [9, 10, 11, 12, 7, 8]⟩,
  ⟨21, [115, 100], 57346, 116, 117, 8, [10, 11, 12, 7, 8, 9]⟩]
def nums : List (Nat × Nat × Nat) := [(112,4,8),(117,4,5),(117,8,5),(48,1,0),(110,1,6),(115,1,6),(110,16,6),(108,1,6),(112,1,6),(115,2,11),(115,2,8),(117,4,6),(117,8,6)]

/-- the first row that an instruction is of -/
def sel (op d s t m : Int) : List RowL → Nat → Option (Nat × RowL)
  | [], _ => none
  | r :: rs, k => match decide ((r.op : Int) = op) && (regsOk r.form d s t && numOk r.kind r.unit r.places.length m) with
    | true => some (k, r)
    | false => sel op d s t m rs (k + 1)
/-- bits at places, of a number -/
def scat (v : Int) : List Nat → Nat → Int → Int
  | [], _, acc => acc
  | p :: ps, i, acc => scat v ps (i + 1) (ibin .or .u32 acc (ibin .shl .u32 (ibin .and .u32 (ibin .shr .u32 v (i : Nat)) 1) (p : Nat)))
def wV (r : RowL) (m : Int) : Int := match r.places with
  | [] => 0
  | _ => IntKind.u16.wrap (scat (numW r.kind r.unit r.places.length m) r.places 0 0)
/-- a short form's bits -/
def aV (r : RowL) (d s t m : Int) : Int := ibin .or .u16 (ibin .or .u16 (r.base : Nat) (regsW r.form d s t)) (wV r m)
def halfV (op d s t m : Int) : Int := match sel op d s t m rowsL 0 with
  | some (_, r) => aV r d s t m
  | none => 0
def halfB (op d s t m : Int) : Bool := (sel op d s t m rowsL 0).isSome
def findV (op d s t m : Int) : Int := match sel op d s t m rowsL 0 with
  | some (k, _) => (k : Nat)
  | none => -1
/- the program's Half and Short -/
def encV (op d s t m : Int) : Int := match mayI op d s t m with
  | true => halfV op d s t m
  | false => 0
def encE (op d s t m : Int) : Int := match mayI op d s t m with
  | true => (match halfB op d s t m with | true => 0 | false => 6)
  | false => 20
def shortB (op d s t m : Int) : Bool := mayI op d s t m && halfB op d s t m
def shortE (op d s t m : Int) : Int := match mayI op d s t m with
  | true => 0
  | false => 20

/- half words, read -/
def twiceB (i : InsnR) : Bool := i.op == 22 && (i.d == 2 && (i.s == 2 && (i.m % 16 == 0 && !(i.m == 0))))
def readB (h : Nat) : Bool := encE (rawR h).op (rawR h).d (rawR h).s (rawR h).t (rawR h).m == 0 && (encV (rawR h).op (rawR h).d (rawR h).s (rawR h).t (rawR h).m == (h : Int) || (twiceB (rawR h) && Nat.beq (h / 8192) 3))
def readR (h : Nat) : InsnR := match readB h with
  | true => rawR h
  | false => ⟨0, 0, 0, 0, 0⟩
def readE (h : Nat) : Int := match readB h with
  | true => 0
  | false => 60

/- what the numbers of the texts are -/
def φ0 (i : Nat) (l : List Int) : Int := match i, l with
  | 12, [op, d, s, t, m] => b01 (mayI op d s t m)
  | 13, [op, d, s, t, m] => halfV op d s t m
  | 113, [op, d, s, t, m] => b01 (halfB op d s t m)
  | 15, [op, d, s, t, m] => findV op d s t m
  | 18, [op] => formI op
  | 118, [op] => b01 (knownI op)
  | 23, [f, d, s, t] => regsW f.toNat d s t
  | 123, [f, d, s, t] => b01 (regsOk f.toNat d s t)
  | 24, [k, u, m, n] => numW k.toNat u.toNat m.toNat n
  | 124, [k, u, m, n] => b01 (numOk k.toNat u.toNat m.toNat n)
  | 200, [op, d, s, t, m] => encV op d s t m
  | 201, [op, d, s, t, m] => encE op d s t m
  | 202, [op, d, s, t, m] => b01 (shortB op d s t m)
  | 203, [op, d, s, t, m] => shortE op d s t m
  | 190, [h] => (rawR h.toNat).op
  | 191, [h] => (rawR h.toNat).d
  | 192, [h] => (rawR h.toNat).s
  | 193, [h] => (rawR h.toNat).t
  | 194, [h] => (rawR h.toNat).m
  | 400, [h] => (readR h.toNat).op
  | 401, [h] => (readR h.toNat).d
  | 402, [h] => (readR h.toNat).s
  | 403, [h] => (readR h.toNat).t
  | 404, [h] => (readR h.toNat).m
  | 405, [h] => readE h.toNat
  | _, _ => 0

section
variable {P : Program}

/-- no form, outside of those that there are -/
def noChk (t : Tr) : Bool := (List.range 256).all fun n => knownI n || match t.at (ηl [(n : Int)]) φz with
  | some v => AV.eqb v (.tup [.int .u8 0, .int .i64 2])
  | none => false
theorem formC_of (hm : P.follows .mixedOrders = true) {f : FuncId} (h1 : ((List.range 94).all fun i => (Tr.leaf (.tup [.int .u8 (formI (i + 1)), .int .i64 0])).ok (runT P (fun _ => noOrc) 10000 0 f [.int .u8 (i + 1)]) ⟨[], [], []⟩) = true)
    {no : Tr} (h2 : no.ok (runT P (fun _ => noOrc) 10000 0 f [.sint .u8 (.var 0)]) ⟨[], [], []⟩ = true) (h3' : noChk no = true) : FormC P f := by
  intro op ho
  cases hk : knownI op with
  | true =>
    have hk' := hk
    simp only [knownI, Bool.and_eq_true, decide_eq_true_eq] at hk'
    obtain ⟨n, rfl⟩ : ∃ n : Nat, op = (n : Int) + 1 := ⟨(op - 1).toNat, by omega⟩
    have := List.all_eq_true.1 h1 n (List.mem_range.2 (by omega))
    exact ret_of hm (noOrc_OK P 0 φz) this (Fa.On.nil (ηl []) φz) rfl rfl rfl rfl rfl
  | false =>
    have h3 : no.at (ηl [op]) φz = some (.tup [.int .u8 0, .int .i64 2]) := by
      obtain ⟨n, rfl⟩ : ∃ n : Nat, op = (n : Int) := ⟨op.toNat, by have := ho.1; omega⟩
      have h4 := List.all_eq_true.1 h3' n (List.mem_range.2 (by have := ho.2; omega))
      rw [hk, Bool.false_or] at h4
      split at h4
      · rename_i v hv; rw [hv, AV.eqb_eq _ _ h4]
      · cases h4
    refine ret_of (η := ηl [op]) hm (noOrc_OK P 0 φz) h2 (Fa.On.nil _ _) h3 rfl rfl rfl ?_
    have : formI op = 0 := by unfold formI; rw [hk]
    rw [this]; rfl

theorem regsC_of (hm : P.follows .mixedOrders = true) {f : FuncId} (h1 : (RegsC.regForms.all fun (c : Nat) => (regsTr c).ok (runT P (fun _ => noOrc) 10000 0 f [.int .u8 c, .agg [.sint .u8 (.var 3), .sint .i64 (.var 0), .sint .i64 (.var 1), .sint .i64 (.var 2), .sint .i64 (.var 4)]]) ⟨[], [], []⟩) = true) : RegsC P f := by
  intro c hc op d s t m
  have h2 := List.all_eq_true.1 h1 c hc
  have h3 : (RegsC.regForms.all fun c => (regsTr c).all (isKB .u16)) = true := by decide
  obtain ⟨v, hv, hk⟩ := Tr.all_at (η := ηl [d, s, t, op, m]) (φ := φz) (List.all_eq_true.1 h3 c hc)
  obtain ⟨hp, hu⟩ := isKB_spec hk (ηl [d, s, t, op, m]) φz
  refine ret_of (η := ηl [d, s, t, op, m]) hm (noOrc_OK P 0 φz) h2 (Fa.On.nil _ _) hv hp rfl rfl (hu.trans ?_)
  have h4 : (RegsC.regForms.all fun c => (regsTr c).varsLt 3) = true := by decide
  obtain ⟨e1, e2⟩ := Tr.at_congr (η := ηl [d, s, t, op, m]) (η' := ηl [d, s, t]) (φ := φz) (k := 3) (by intro i hi; match i, hi with | 0, _ => rfl | 1, _ => rfl | 2, _ => rfl) (List.all_eq_true.1 h4 c hc)
  rw [← hv, e2]
  unfold regsW regsOk regsV
  rw [e1]

/-- A slice of which only the length is looked at. -/
def Opq (pa : AV) (pl : Value) (w : World) : Prop := ∃ ρ : Rho, (∀ b, 1 ≤ b → ρ b = none) ∧ (∀ b r, ρ b = some r → r.cb < w.heap.size) ∧ ∀ (D : Dec) (E : @Env D), @VR D E ρ pa pl
def NumberC (P : Program) (f : FuncId) : Prop := ∀ k u m, (k, u, m) ∈ nums → ∀ (o b c n : Int) (pl : Value) (w : World), Opq (match m with | 0 => .nilsl | m + 1 => .sl 0 0 (m + 1) (m + 1)) pl w →
  Calls P f #[.agg #[.int .u8 o, .int .u16 b, .int .u8 c, .int .u8 (k : Nat), .int .i64 (u : Nat), pl], .int .i64 n] w fun e w' => e = .returned (.tuple #[.int .u32 (numW k u m n), .bool (numOk k u m n)]) ∧ RowKit.Below w.heap.size w w'

theorem numberC_of (hm : P.follows .mixedOrders = true) {f : FuncId} (h1 : (nums.all fun x => (numTr x.1 x.2.1 x.2.2).ok (runT P (fun _ => noOrc) 10000 1 f
    [.agg [.sint .u8 (.var 1), .sint .u16 (.var 2), .sint .u8 (.var 3), .int .u8 (x.1 : Nat), .int .i64 (x.2.1 : Nat), match x.2.2 with | 0 => .nilsl | m + 1 => .sl 0 0 (m + 1) (m + 1)], .sint .i64 (.var 0)]) ⟨[], [], []⟩) = true) : NumberC P f := by
  intro k u m hx o b c n pl w hq
  obtain ⟨ρ, h2, h3, h4⟩ := hq
  have h5 : (nums.all fun x => (numTr x.1 x.2.1 x.2.2).all (isKB .u32)) = true := by decide
  have h6 : (nums.all fun x => (numTr x.1 x.2.1 x.2.2).varsLt 1) = true := by decide
  obtain ⟨v, hv, hk⟩ := Tr.all_at (η := ηl [n, o, b, c]) (φ := φz) (List.all_eq_true.1 h5 _ hx)
  obtain ⟨hp, hu⟩ := isKB_spec hk (ηl [n, o, b, c]) φz
  obtain ⟨e1, e2⟩ := Tr.at_congr (η := ηl [n, o, b, c]) (η' := ηl [n]) (φ := φz) (k := 1) (by intro i hi; match i, hi with | 0, _ => rfl) (List.all_eq_true.1 h6 _ hx)
  refine ret_from (η := ηl [n, o, b, c]) hm (noOrc_OK P 0 φz) (List.all_eq_true.1 h1 _ hx) (Fa.On.nil _ _) hv hp (hu.trans ?_) (ρ := ρ) (args' := [.agg #[.int .u8 o, .int .u16 b, .int .u8 c, .int .u8 (k : Nat), .int .i64 (u : Nat), pl], .int .i64 n]) h2 h3 ?_
  · rw [← hv, e2]
    unfold numW numOk numV
    rw [e1]
  · intro F hF
    letI : Dec := F.dec
    letI : Env := hF.env
    exact .cons _ _ _ _ (.agg _ [_, _, _, _, _, _] (.cons _ _ _ _ (@VR.sint F.dec hF.env _ .u8 (.var 1)) (.cons _ _ _ _ (@VR.sint F.dec hF.env _ .u16 (.var 2)) (.cons _ _ _ _ (@VR.sint F.dec hF.env _ .u8 (.var 3)) (.cons _ _ _ _ (.int _ _) (.cons _ _ _ _ (.int _ _) (.cons _ _ _ _ (h4 F.dec hF.env) .nil)))))))
      (.cons _ _ _ _ (@VR.sint F.dec hF.env _ .i64 (.var 0)) .nil)

def fitsV (k u m : Nat) (n : Int) : Bool := match (fitsTr k u m).at (ηl [n]) φz with | some (.bool b) => b | _ => false
end
end Go.Proofs.YtoehlmiadiiimaaGreatDoor.Ex
