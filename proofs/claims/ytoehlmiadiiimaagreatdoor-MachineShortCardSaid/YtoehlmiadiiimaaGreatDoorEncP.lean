/-
  Short forms of instructions: which registers and numbers rows take, plain.
-/
import Derived.Test.YtoehlmiadiiimaaGreatDoorEncH
namespace Go.Proofs.YtoehlmiadiiimaaGreatDoor.Ex
open Go

def regsP (f : Nat) (d s t : Int) : Prop := match f with
  | 97 => 8 ≤ d ∧ d ≤ 15 ∧ s = 2
  | 108 => 8 ≤ d ∧ d ≤ 15 ∧ 8 ≤ s ∧ s ≤ 15
  | 115 => 8 ≤ t ∧ t ≤ 15 ∧ 8 ≤ s ∧ s ≤ 15
  | 110 => d = 0 ∧ s = 0
  | 106 => d = 0 ∧ s = 0
  | 114 => d = s ∧ d ≠ 0
  | 122 => d ≠ 0 ∧ s = 0
  | 117 => d ≠ 0 ∧ d ≠ 2
  | 112 => d = 2 ∧ s = 2
  | 113 => d = s ∧ 8 ≤ d ∧ d ≤ 15
  | 109 => d = s ∧ 8 ≤ d ∧ d ≤ 15 ∧ 8 ≤ t ∧ t ≤ 15
  | 98 => 8 ≤ s ∧ s ≤ 15 ∧ t = 0
  | 119 => d ≠ 0 ∧ s = 2
  | 74 => d = 0 ∧ s ≠ 0
  | 75 => d = 1 ∧ s ≠ 0
  | 118 => d ≠ 0 ∧ s = 0 ∧ t ≠ 0
  | 100 => d ≠ 0 ∧ d = s ∧ t ≠ 0
  | 116 => s = 2
  | _ => False
/-- which registers an instruction of a form does not have, beside those that the form tells -/
def zeroP (f : Nat) (d s t : Int) : Prop := match f with
  | 115 => d = 0
  | 98 => d = 0
  | 116 => d = 0
  | 117 => s = 0 ∧ t = 0
  | 109 => True
  | 118 => True
  | 100 => True
  | _ => t = 0
def eqB (a b : Int) : Bool := a == b
def ltB (a b : Int) : Bool := decide (a < b)
theorem at_eqB (η : Nat → Int) (φ : Nat → List Int → Int) (a b : SE) (t f : Tr) : (Tr.eq a b t f).at η φ = cond (eqB (a.ev η φ) (b.ev η φ)) (t.at η φ) (f.at η φ) := by
  rw [Tr.at]; unfold eqB; cases (a.ev η φ == b.ev η φ) <;> rfl
theorem at_ltB (η : Nat → Int) (φ : Nat → List Int → Int) (a b : SE) (t f : Tr) : (Tr.lt a b t f).at η φ = cond (ltB (a.ev η φ) (b.ev η φ)) (t.at η φ) (f.at η φ) := by
  rw [Tr.at]; unfold ltB; cases decide (a.ev η φ < b.ev η φ) <;> rfl
theorem cond_eqB {α : Type} (a b : Int) (x y : α) : cond (eqB a b) x y = if a = b then x else y := by
  unfold eqB
  by_cases h : a = b
  · rw [if_pos h, show (a == b) = true from by simpa using h]; rfl
  · rw [if_neg h, show (a == b) = false from by simpa using h]; rfl
theorem cond_ltB {α : Type} (a b : Int) (x y : α) : cond (ltB a b) x y = if a < b then x else y := by
  unfold ltB
  by_cases h : a < b
  · rw [if_pos h, decide_eq_true h]; rfl
  · rw [if_neg h, decide_eq_false h]; rfl
theorem e0 (a b c : Int) : ηl [a, b, c] 0 = a := rfl
theorem e1 (a b c : Int) : ηl [a, b, c] 1 = b := rfl
theorem e2 (a b c : Int) : ηl [a, b, c] 2 = c := rfl
theorem tb (x : AV) (b : Bool) : tupB (some (.tup [x, .bool b])) = b := rfl
theorem regsOk_P (f : Nat) (hf : f ∈ RegsC.regForms) (d s t : Int) : regsOk f d s t = true ↔ regsP f d s t := by
  simp only [RegsC.regForms, List.mem_cons, List.not_mem_nil, or_false] at hf
  unfold regsOk regsV
  rcases hf with rfl | rfl | rfl | rfl | rfl | rfl | rfl | rfl | rfl | rfl | rfl | rfl | rfl | rfl | rfl | rfl | rfl | rfl
  all_goals
    simp only [regsTr, at_eqB, at_ltB, at_leaf, ev_var, ev_lit, e0, e1, e2]
    simp only [cond_eqB, cond_ltB, regsP]
    repeat' split
    all_goals simp only [tb, Bool.false_eq_true, false_iff, true_iff]
    all_goals omega
def bOf (x : Option AV) : Bool := match x with | some (.bool b) => b | _ => false
theorem bOf_some (b : Bool) : bOf (some (.bool b)) = b := rfl
/- numbers -/
theorem wrap_small (n : Int) (h : -9223372036854775808 ≤ n ∧ n ≤ 9223372036854775807) : IntKind.i64.wrap n = n := by
  unfold IntKind.wrap IntKind.bits IntKind.signed
  simp only [Bool.true_and, decide_eq_true_eq, ge_iff_le]
  split <;> omega
theorem quo_mul (u q : Int) (hu : 1 ≤ u) (hq : -2097152 ≤ q ∧ q ≤ 2097152) : ibin .quo .i64 (u * q) u = q := by
  have e : ibin .quo .i64 (u * q) u = IntKind.i64.wrap ((u * q).tdiv u) := by
    unfold ibin abin
    simp only
    rw [if_neg (by simp), if_neg (by omega)]
  rw [e, Int.mul_tdiv_cancel_left _ (by omega), wrap_small _ (by omega)]
theorem mul_two (q : Int) (hq : -2097152 ≤ q ∧ q ≤ 2097152) : ibin .mul .i64 2 q = 2 * q := by
  have e : ibin .mul .i64 2 q = IntKind.i64.wrap (2 * q) := by
    unfold ibin abin
    simp only
    rw [if_neg (by simp)]
  rw [e, wrap_small _ (by omega)]
theorem rem_mul (u q : Int) (hu : 1 ≤ u) : ibin .rem .i64 (u * q) u = 0 := by
  rw [rem_lit _ _ (by omega), Int.mul_tmod_right]
theorem rem_ne (u n : Int) (hu : 1 ≤ u) (h : n % u ≠ 0) : ibin .rem .i64 n u ≠ 0 := by
  rw [rem_lit _ _ (by omega)]
  intro k
  rw [tmod_zero] at k
  exact h k
/-- which numbers a row takes: the numbers q, by how much it goes -/
def qP (k m : Nat) (q : Int) : Prop := match k with
  | 112 => 1 ≤ q ∧ q < 2 ^ m
  | 117 => 0 ≤ q ∧ q < 2 ^ m
  | 48 => q = 0
  | 110 => q ≠ 0 ∧ -(2 ^ (m - 1)) ≤ q ∧ q < 2 ^ (m - 1)
  | 115 => -(2 ^ (m - 1)) ≤ q ∧ q < 2 ^ (m - 1)
  | 108 => (1 ≤ q ∧ q ≤ 31) ∨ (1048544 ≤ q ∧ q ≤ 1048575)
  | _ => False
def numP (k u m : Nat) (n : Int) : Prop := ∃ q : Int, n = u * q ∧ qP k m q
theorem numP_mul {k u m : Nat} (hu : 1 ≤ (u : Int)) (q : Int) : numP k u m (u * q) ↔ qP k m q :=
  ⟨fun ⟨q', e, h⟩ => (Int.eq_of_mul_eq_mul_left (by omega) e : q = q') ▸ h, fun h => ⟨q, rfl, h⟩⟩
theorem numT_ne {k u m : Nat} {n : Int} (hr : n % (u : Int) ≠ 0) : ¬ numP k u m n := by
  rintro ⟨q, e, -⟩
  subst e
  exact hr (Int.mul_emod_right _ _)
theorem numOk_P (k u m : Nat) (hx : (k, u, m) ∈ nums) (n : Int) (hn : -1048576 ≤ n ∧ n ≤ 1048575) : (numOk k u m n = true ↔ numP k u m n) ∧ (fitsV k u m n = true ↔ numP k u m n) := by
  simp only [nums, List.mem_cons, List.not_mem_nil, or_false, Prod.mk.injEq] at hx
  have hu : 1 ≤ (u : Int) := by omega
  have f0 : ηl [n] 0 = n := rfl
  by_cases hr : n % (u : Int) = 0
  · obtain ⟨q, rfl⟩ : ∃ q, n = (u : Int) * q := ⟨n / u, by have := Int.mul_ediv_add_emod n u; omega⟩
    have hq : -2097152 ≤ q ∧ q ≤ 2097152 := by
      rcases hx with ⟨rfl, rfl, rfl⟩ | ⟨rfl, rfl, rfl⟩ | ⟨rfl, rfl, rfl⟩ | ⟨rfl, rfl, rfl⟩ | ⟨rfl, rfl, rfl⟩ | ⟨rfl, rfl, rfl⟩ | ⟨rfl, rfl, rfl⟩ | ⟨rfl, rfl, rfl⟩ | ⟨rfl, rfl, rfl⟩ | ⟨rfl, rfl, rfl⟩ | ⟨rfl, rfl, rfl⟩ | ⟨rfl, rfl, rfl⟩ | ⟨rfl, rfl, rfl⟩ <;> constructor <;> omega
    have h1 := quo_mul u q hu hq
    have h2 := rem_mul u q hu
    have h4 := mul_two q hq
    rw [numP_mul hu]
    unfold numOk numV
    constructor
    · rcases hx with ⟨rfl, rfl, rfl⟩ | ⟨rfl, rfl, rfl⟩ | ⟨rfl, rfl, rfl⟩ | ⟨rfl, rfl, rfl⟩ | ⟨rfl, rfl, rfl⟩ | ⟨rfl, rfl, rfl⟩ | ⟨rfl, rfl, rfl⟩ | ⟨rfl, rfl, rfl⟩ | ⟨rfl, rfl, rfl⟩ | ⟨rfl, rfl, rfl⟩ | ⟨rfl, rfl, rfl⟩ | ⟨rfl, rfl, rfl⟩ | ⟨rfl, rfl, rfl⟩
      all_goals
        simp only [Int.cast_ofNat_Int] at h1 h2 f0 hn ⊢
        simp only [numTr, at_eqB, at_ltB, at_leaf, ev_var, ev_lit, ev_bin, f0, h1, h2, shr5, shr7, shr10, shr63]
        simp only [cond_eqB, cond_ltB, if_true, qP]
        repeat' split
        all_goals simp only [tb, Bool.false_eq_true, false_iff, true_iff]
        all_goals omega
    · show bOf _ = true ↔ _
      rcases hx with ⟨rfl, rfl, rfl⟩ | ⟨rfl, rfl, rfl⟩ | ⟨rfl, rfl, rfl⟩ | ⟨rfl, rfl, rfl⟩ | ⟨rfl, rfl, rfl⟩ | ⟨rfl, rfl, rfl⟩ | ⟨rfl, rfl, rfl⟩ | ⟨rfl, rfl, rfl⟩ | ⟨rfl, rfl, rfl⟩ | ⟨rfl, rfl, rfl⟩ | ⟨rfl, rfl, rfl⟩ | ⟨rfl, rfl, rfl⟩ | ⟨rfl, rfl, rfl⟩
      all_goals
        simp only [Int.cast_ofNat_Int] at h1 h2 f0 hn ⊢
        simp only [fitsTr, at_eqB, at_ltB, at_leaf, ev_var, ev_lit, ev_bin, f0, h1, h2, h4]
        simp only [cond_eqB, cond_ltB, if_true, qP]
        repeat' split
        all_goals simp only [bOf_some, Bool.false_eq_true, false_iff, true_iff]
        all_goals omega
  · have h1 := rem_ne u n hu hr
    have h2 := numT_ne (k := k) (m := m) hr
    constructor
    · refine ⟨fun h => ?_, fun h => absurd h h2⟩
      exfalso
      revert h
      unfold numOk numV
      rcases hx with ⟨rfl, rfl, rfl⟩ | ⟨rfl, rfl, rfl⟩ | ⟨rfl, rfl, rfl⟩ | ⟨rfl, rfl, rfl⟩ | ⟨rfl, rfl, rfl⟩ | ⟨rfl, rfl, rfl⟩ | ⟨rfl, rfl, rfl⟩ | ⟨rfl, rfl, rfl⟩ | ⟨rfl, rfl, rfl⟩ | ⟨rfl, rfl, rfl⟩ | ⟨rfl, rfl, rfl⟩ | ⟨rfl, rfl, rfl⟩ | ⟨rfl, rfl, rfl⟩
      all_goals
        simp only [Int.cast_ofNat_Int] at h1 f0
        simp only [numTr, at_eqB, at_leaf, ev_var, ev_lit, ev_bin, f0]
        simp only [cond_eqB, if_neg h1, tb]
        simp
    · refine ⟨fun h => ?_, fun h => absurd h h2⟩
      exfalso
      revert h
      show bOf _ = true → _
      rcases hx with ⟨rfl, rfl, rfl⟩ | ⟨rfl, rfl, rfl⟩ | ⟨rfl, rfl, rfl⟩ | ⟨rfl, rfl, rfl⟩ | ⟨rfl, rfl, rfl⟩ | ⟨rfl, rfl, rfl⟩ | ⟨rfl, rfl, rfl⟩ | ⟨rfl, rfl, rfl⟩ | ⟨rfl, rfl, rfl⟩ | ⟨rfl, rfl, rfl⟩ | ⟨rfl, rfl, rfl⟩ | ⟨rfl, rfl, rfl⟩ | ⟨rfl, rfl, rfl⟩
      all_goals
        simp only [Int.cast_ofNat_Int] at h1 f0
        simp only [fitsTr, at_eqB, at_leaf, ev_var, ev_lit, ev_bin, f0]
        simp only [cond_eqB, if_neg h1, bOf_some]
        simp
end Go.Proofs.YtoehlmiadiiimaaGreatDoor.Ex
