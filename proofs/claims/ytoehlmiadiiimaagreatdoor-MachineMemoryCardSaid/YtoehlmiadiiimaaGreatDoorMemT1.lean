/-
  The law MachineMemory, in plain words: what is stored is loaded.
-/
import Derived.Test.YtoehlmiadiiimaaGreatDoorMemR5
import Derived.Test.YtoehlmiadiiimaaGreatDoorMemT0
namespace Go.Proofs.YtoehlmiadiiimaaGreatDoor
open Go.ChangeShapes Go.WideShapes Go.RowKit Go.Proofs.YtoehlmiadiiimaaGreatDoor.Ex

/- numbers -/
theorem or_add (a b i : Nat) (ha : a < 2 ^ i) (hs : a + 2 ^ i * b < 18446744073709551616) : bits .or .u64 (a : Int) ((2 ^ i * b : Nat) : Int) = ((a + 2 ^ i * b : Nat) : Int) := by
  have h1 : a < 2 ^ 64 := by omega
  have h2 : 2 ^ i * b < 2 ^ 64 := by omega
  have e : bits .or .u64 (a : Int) ((2 ^ i * b : Nat) : Int) = IntKind.u64.wrap ((BitVec.ofInt 64 (a : Int) ||| BitVec.ofInt 64 ((2 ^ i * b : Nat) : Int)).toNat : Int) := rfl
  rw [e, BitVec.toNat_or, BitVec.ofInt_natCast, BitVec.ofInt_natCast, BitVec.toNat_ofNat, BitVec.toNat_ofNat, Nat.mod_eq_of_lt h1, Nat.mod_eq_of_lt h2]
  have e2 : a ||| 2 ^ i * b = a + 2 ^ i * b := by
    rw [Nat.or_comm, ← Nat.two_pow_add_eq_or_of_lt ha]; omega
  rw [e2, IntKind.wrap_u64]
  omega
theorem stv_nat (x j : Nat) : stv (x : Int) j = ((x / 2 ^ (8 * j) % 256 : Nat) : Int) := by
  unfold stv
  rw [IntKind.wrap_u8', show ((2 : Int) ^ (8 * j)) = ((2 ^ (8 * j) : Nat) : Int) from by rw [Int.natCast_pow]; rfl]
  omega
theorem ldv_stv (x : Nat) : ∀ j, j ≤ 8 → ldv (fun i => stv (x : Int) i) j = ((x % 2 ^ (8 * j) : Nat) : Int)
  | 0, _ => by simp [ldv, Nat.mod_one]
  | j + 1, hj => by
    rw [ldv, ldv_stv x j (by omega), stv_nat]
    have hp : 2 ^ (8 * (j + 1)) = 2 ^ (8 * j) * 256 := by rw [Nat.mul_add, Nat.pow_add]
    have hle : 2 ^ (8 * (j + 1)) ≤ 18446744073709551616 := by
      have : 2 ^ (8 * (j + 1)) ≤ 2 ^ 64 := Nat.pow_le_pow_right (by omega) (by omega)
      omega
    have hlt : x % 2 ^ (8 * j) < 2 ^ (8 * j) := Nat.mod_lt _ (Nat.two_pow_pos _)
    have hc : x / 2 ^ (8 * j) % 256 < 256 := Nat.mod_lt _ (by omega)
    have hm : x % 2 ^ (8 * j) + 2 ^ (8 * j) * (x / 2 ^ (8 * j) % 256) = x % 2 ^ (8 * (j + 1)) := by rw [hp, Nat.mod_mul]
    have hb : x % 2 ^ (8 * (j + 1)) < 2 ^ (8 * (j + 1)) := Nat.mod_lt _ (Nat.two_pow_pos _)
    have e1 : IntKind.u64.wrap ((x / 2 ^ (8 * j) % 256 : Nat) : Int) = ((x / 2 ^ (8 * j) % 256 : Nat) : Int) := by rw [IntKind.wrap_u64]; omega
    have e2 : (((x / 2 ^ (8 * j) % 256 : Nat) : Int) * 2 ^ (8 * j)) = ((2 ^ (8 * j) * (x / 2 ^ (8 * j) % 256) : Nat) : Int) := by
      rw [Int.mul_comm, Int.natCast_mul, Int.natCast_pow]; rfl
    have e3 : IntKind.u64.wrap ((2 ^ (8 * j) * (x / 2 ^ (8 * j) % 256) : Nat) : Int) = ((2 ^ (8 * j) * (x / 2 ^ (8 * j) % 256) : Nat) : Int) := by rw [IntKind.wrap_u64]; omega
    rw [e1, e2, e3, or_add _ _ _ hlt (by omega), hm]
theorem ldv_congr {b b' : Nat → Int} : ∀ j, (∀ i, i < j → b i = b' i) → ldv b j = ldv b' j
  | 0, _ => rfl
  | j + 1, h => by rw [ldv, ldv, ldv_congr j (fun i hi => h i (by omega)), h j (by omega)]

/- memory -/
theorem memSet_low (l : List Int) (k : Nat) (x : Int) (i : Nat) : ∀ j, i < k ∨ k + j ≤ i → (memSet l k x j).getD i 0 = l.getD i 0
  | 0, _ => rfl
  | j + 1, h => by
    rw [memSet, List.getD_eq_getElem?_getD, List.getElem?_set_ne (by omega), ← List.getD_eq_getElem?_getD]
    exact memSet_low l k x i j (by omega)
theorem memSet_in (l : List Int) (k : Nat) (x : Int) (i : Nat) : ∀ j, i < j → k + j ≤ l.length → (memSet l k x j).getD (k + i) 0 = stv x i
  | 0, h, _ => absurd h (by omega)
  | j + 1, h, hl => by
    rw [memSet, List.getD_eq_getElem?_getD]
    by_cases hi : i = j
    · subst hi
      rw [List.getElem?_set_self (by rw [memSet_len]; omega)]; rfl
    · rw [List.getElem?_set_ne (by omega), ← List.getD_eq_getElem?_getD]
      exact memSet_in l k x i j (by omega) (by omega)
theorem ldm_set (l : List Int) (k : Nat) (x : Nat) (many : Nat) (h8 : many ≤ 8) (hl : k + many ≤ l.length) : ldm (memSet l k (x : Int) many) k many = ((x % 2 ^ (8 * many) : Nat) : Int) := by
  unfold ldm
  rw [ldv_congr (b' := fun i => stv (x : Int) i) many (fun i hi => memSet_in l k x i many hi hl)]
  exact ldv_stv x many h8
theorem ldm_congr {l l' : List Int} {k many : Nat} (h : ∀ i, k ≤ i → i < k + many → l.getD i 0 = l'.getD i 0) : ldm l k many = ldm l' k many :=
  ldv_congr many fun i hi => h (k + i) (by omega) (by omega)
/-- The next instruction is told by the bytes there. -/
theorem fetch_same {r r' : Rn} (hp : r.pc = r'.pc) (hb : r.base = r'.base) (hl : r.mem.length = r'.mem.length) (k : Nat) (hk : IntKind.u64.wrap (r.pc - r.base) = (k : Int)) (h : ∀ i, k ≤ i → i < k + 4 → r.mem.getD i 0 = r'.mem.getD i 0) : fetch r = fetch r' := by
  have e2 : ∀ m, place r r.pc m = place r' r'.pc m := fun m => by unfold place; rw [hp, hb, hl]
  unfold fetch
  rw [← e2 2]
  cases hq : place r r.pc 2 with
  | none => rfl
  | some q =>
    have hqk : q = k := by have := (place_some hq).1; omega
    subst hqk
    simp only
    have e4 : place r r'.pc 4 = place r' r'.pc 4 := by rw [← e2 4, hp]
    rw [hp, e4, ldm_congr (l' := r'.mem) (k := q) (many := 2) (fun i h1 h2 => h i h1 (by omega)), ldm_congr (l' := r'.mem) (k := q) (many := 4) h]

def manyM (j : Nat) : Nat := 2 ^ j
def ldO : Nat → Nat
  | 0 => 15
  | 1 => 16
  | 2 => 17
  | _ => 14
def regsM (x : Int) (p : Nat) : List Int := ((List.replicate 32 0).set 11 x).set 12 (p : Int)
/-- The machine that is run. -/
def rM (j : Nat) (x : Int) (p : Nat) : Rn := ⟨0, regsM x p, 0, memM j, [], false, 0, false⟩
theorem fetchM (j : Nat) (hj : j < 4) : (fetch ⟨0, [], 0, memM j, [], false, 0, false⟩ = some (⟨18 + j, 0, 12, 11, 0⟩, 4)) ∧ (fetch ⟨4, [], 0, memM j, [], false, 0, false⟩ = some (⟨ldO j, 10, 12, 0, 0⟩, 8)) ∧ (fetch ⟨8, [], 0, memM j, [], false, 0, false⟩ = some (⟨65, 0, 0, 0, 0⟩, 12)) := by
  have h : ∀ j, j < 4 → j = 0 ∨ j = 1 ∨ j = 2 ∨ j = 3 := fun j hj => by omega
  rcases h j hj with rfl | rfl | rfl | rfl
  · exact ⟨by kernel_rfl, by kernel_rfl, by kernel_rfl⟩
  · exact ⟨by kernel_rfl, by kernel_rfl, by kernel_rfl⟩
  · exact ⟨by kernel_rfl, by kernel_rfl, by kernel_rfl⟩
  · exact ⟨by kernel_rfl, by kernel_rfl, by kernel_rfl⟩
/-- Behind the store, the load, and the call. -/
def rM1 (j : Nat) (x : Int) (p : Nat) : Rn := ⟨4, regsM x p, 0, memSet (memM j) p x (manyM j), [], false, 4, false⟩
def rM2 (j : Nat) (x : Int) (p : Nat) (y : Int) : Rn := ⟨8, (regsM x p).set 10 y, 0, memSet (memM j) p x (manyM j), [], false, 8, false⟩
def rM3 (j : Nat) (x : Int) (p : Nat) (y : Int) : Rn := ⟨12, (regsM x p).set 10 y, 0, memSet (memM j) p x (manyM j), [y], false, 12, false⟩
theorem placeM {r : Rn} (hb : r.base = 0) (hl : r.mem.length = 60) (p many : Nat) (h : p + many ≤ 60) : place r (IntKind.u64.wrap ((p : Int) + IntKind.u64.wrap 0)) many = some p := by
  have e : IntKind.u64.wrap (IntKind.u64.wrap ((p : Int) + IntKind.u64.wrap 0) - 0) = (p : Int) := by simp only [IntKind.wrap_u64]; omega
  unfold place
  rw [hb, e, hl]
  simp only [Int.toNat_natCast]
  rw [if_pos h]
theorem step_of {r r' : Rn} {i : Ins} {on to : Int} (hd : r.done = false) (hf : fetch { r with on := 0, stop := false } = some (i, on)) (hdo : doF i { r with on := on, stop := false } = some (to, r')) : stepF r = some { r' with pc := to } := by
  obtain ⟨pc, regs, base, mem, told, done, o, st⟩ := r
  simp only at hd
  subst hd
  unfold stepF
  simp only at hf hdo ⊢
  rw [hf]
  simp only
  rw [hdo]
theorem stepM1 (j : Nat) (hj : j < 4) (x : Int) (p : Nat) (hp : p + manyM j ≤ 60) : stepF (rM j x p) = some (rM1 j x p) := by
  have hf : fetch (rM j x p) = some (⟨18 + j, 0, 12, 11, 0⟩, 4) := by
    rw [← (fetchM j hj).1]
    exact fetch_same rfl rfl rfl 0 (by show IntKind.u64.wrap (0 - 0) = ((0 : Nat) : Int); decide) (fun i _ _ => rfl)
  have hpl := placeM (r := { rM j x p with on := 4, stop := false }) rfl (memM_len j) p (manyM j) hp
  refine step_of (i := ⟨18 + j, 0, 12, 11, 0⟩) (on := 4) (to := 4) (r' := { rM j x p with on := 4, mem := memSet (memM j) p x (manyM j) }) rfl hf ?_
  have hr1 : (rM j x p).regs[12]?.getD 0 = (p : Int) := rfl
  have hr2 : (rM j x p).regs[11]?.getD 0 = x := rfl
  have h : ∀ j, j < 4 → j = 0 ∨ j = 1 ∨ j = 2 ∨ j = 3 := fun j hj => by omega
  have hform : formB (18 + j) = 83 := by rcases h j hj with rfl | rfl | rfl | rfl <;> rfl
  have hst : stN (18 + j) = manyM j := by rcases h j hj with rfl | rfl | rfl | rfl <;> rfl
  unfold doF
  simp only
  rw [hform]
  simp only
  rw [hst]
  show (match place { rM j x p with on := 4, stop := false } (IntKind.u64.wrap ((p : Int) + IntKind.u64.wrap 0)) (manyM j) with | none => none | some k => _) = _
  rw [hpl]
  rfl
theorem stepM2 (j : Nat) (hj : j < 4) (x : Nat) (p : Nat) (h12 : 12 ≤ p) (hp : p + manyM j ≤ 60) : stepF (rM1 j x p) = some (rM2 j x p ((x % 2 ^ (8 * manyM j) : Nat) : Int)) := by
  have hlen : (memSet (memM j) p (x : Int) (manyM j)).length = 60 := by rw [memSet_len]; exact memM_len j
  have hf : fetch { rM1 j x p with on := 0, stop := false } = some (⟨ldO j, 10, 12, 0, 0⟩, 8) := by
    rw [← (fetchM j hj).2.1]
    exact fetch_same rfl rfl (hlen.trans (memM_len j).symm) 4 (by show IntKind.u64.wrap (4 - 0) = ((4 : Nat) : Int); decide) (fun i _ h2 => memSet_low _ _ _ _ _ (.inl (by omega)))
  have hpl := placeM (r := { rM1 j x p with on := 8, stop := false }) rfl hlen p (manyM j) hp
  have h : ∀ j, j < 4 → j = 0 ∨ j = 1 ∨ j = 2 ∨ j = 3 := fun j hj => by omega
  have hm8 : manyM j ≤ 8 := by rcases h j hj with rfl | rfl | rfl | rfl <;> decide
  have hld := ldm_set (memM j) p x (manyM j) hm8 (by rw [memM_len]; exact hp)
  refine step_of (i := ⟨ldO j, 10, 12, 0, 0⟩) (on := 8) (to := 8) (r' := { rM1 j x p with on := 8, regs := (regsM x p).set 10 ((x % 2 ^ (8 * manyM j) : Nat) : Int) }) rfl hf ?_
  have hform : formB (ldO j) = 76 := by rcases h j hj with rfl | rfl | rfl | rfl <;> rfl
  have h4 : ldO j ≠ 4 := by rcases h j hj with rfl | rfl | rfl | rfl <;> decide
  have hst : ldN (ldO j) = manyM j := by rcases h j hj with rfl | rfl | rfl | rfl <;> rfl
  have hE : ∀ y, ldE (ldO j) y = y := fun y => by rcases h j hj with rfl | rfl | rfl | rfl <;> rfl
  unfold doF
  simp only
  rw [hform]
  simp only
  rw [if_neg h4, hst]
  show (match place { rM1 j x p with on := 8, stop := false } (IntKind.u64.wrap ((p : Int) + IntKind.u64.wrap 0)) (manyM j) with | none => none | some k => _) = _
  rw [hpl]
  simp only
  rw [hE]
  show some ((8 : Int), Rn.wr { rM1 j x p with on := 8, stop := false } 10 (ldm (memSet (memM j) p (x : Int) (manyM j)) p (manyM j))) = _
  rw [hld]
  rfl
theorem stepM3 (j : Nat) (hj : j < 4) (x : Int) (p : Nat) (y : Int) (h12 : 12 ≤ p) : stepF (rM2 j x p y) = some (rM3 j x p y) := by
  have hlen : (memSet (memM j) p x (manyM j)).length = 60 := by rw [memSet_len]; exact memM_len j
  have hf : fetch { rM2 j x p y with on := 0, stop := false } = some (⟨65, 0, 0, 0, 0⟩, 12) := by
    rw [← (fetchM j hj).2.2]
    exact fetch_same rfl rfl (hlen.trans (memM_len j).symm) 8 (by show IntKind.u64.wrap (8 - 0) = ((8 : Nat) : Int); decide) (fun i _ h2 => memSet_low _ _ _ _ _ (.inl (by omega)))
  refine step_of (i := ⟨65, 0, 0, 0, 0⟩) (on := 12) (to := 12) (r' := { rM3 j x p y with pc := 8 }) rfl hf ?_
  rfl
/-- Three steps. -/
theorem goM (j : Nat) (hj : j < 4) (x : Nat) (p : Nat) (h12 : 12 ≤ p) (hp : p + manyM j ≤ 60) : goF 3 (rM j x p) = (rM3 j x p ((x % 2 ^ (8 * manyM j) : Nat) : Int), 3) := by
  rw [goF, stepM1 j hj x p hp]
  simp only
  rw [goF, stepM2 j hj x p h12 hp]
  simp only
  rw [goF, stepM3 j hj x p _ h12]
  rfl
theorem runM_eq (j : Nat) (hj : j < 4) (x : Nat) (p : Nat) (h12 : 12 ≤ p) (hp : p + manyM j ≤ 60) :
    ∃ b, runR 3 (rM j x p) = (rM3 j x p ((x % 2 ^ (8 * manyM j) : Nat) : Int), 3, b, 0) := by
  have hc : checkE (rM j x p) = 0 := checkE_of (by show (0 : Int) ≤ 2147483648; decide) (by show (memM j).length ≤ _; rw [memM_len]; decide) rfl (by show 0 ≤ 1000; decide)
  refine ⟨(stepF (goF 3 (rM j x p)).1).isNone, ?_⟩
  unfold runR
  rw [if_pos hc, goM j hj x p h12 hp]
end Go.Proofs.YtoehlmiadiiimaaGreatDoor
