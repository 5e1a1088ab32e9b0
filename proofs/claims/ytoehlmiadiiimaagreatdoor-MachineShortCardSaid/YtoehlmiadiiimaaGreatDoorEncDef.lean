/-
  Short forms of instructions: what the small functions come to, plain.
-/
import Derived.Test.YtoehlmiadiiimaaGreatDoorEncTr
namespace Go.Proofs.YtoehlmiadiiimaaGreatDoor.Ex
open Go

theorem ev_var (η : Nat → Int) (φ : Nat → List Int → Int) (i : Nat) : (SE.var i).ev η φ = η i := rfl
theorem ev_bin (η : Nat → Int) (φ : Nat → List Int → Int) (o : BinOp) (k : IntKind) (a b : SE) : (SE.bin o k a b).ev η φ = ibin o k (a.ev η φ) (b.ev η φ) := rfl
theorem ev_wrap (η : Nat → Int) (φ : Nat → List Int → Int) (k : IntKind) (a : SE) : (SE.wrap k a).ev η φ = k.wrap (a.ev η φ) := rfl
theorem evs_pair (η : Nat → Int) (φ : Nat → List Int → Int) (a b : SE) : (SE.pair a b).evs η φ = a.evs η φ ++ b.evs η φ := rfl
theorem at_leaf (η : Nat → Int) (φ : Nat → List Int → Int) (v : AV) : (Tr.leaf v).at η φ = some v := rfl
theorem at_eq (η : Nat → Int) (φ : Nat → List Int → Int) (a b : SE) (t f : Tr) : (Tr.eq a b t f).at η φ = if a.ev η φ = b.ev η φ then t.at η φ else f.at η φ := by
  rw [Tr.at]
  by_cases h : a.ev η φ = b.ev η φ
  · rw [if_pos h, show (a.ev η φ == b.ev η φ) = true from by simpa using h]
  · rw [if_neg h, show (a.ev η φ == b.ev η φ) = false from by simpa using h]
theorem at_lt (η : Nat → Int) (φ : Nat → List Int → Int) (a b : SE) (t f : Tr) : (Tr.lt a b t f).at η φ = if a.ev η φ < b.ev η φ then t.at η φ else f.at η φ := by
  rw [Tr.at]
  by_cases h : a.ev η φ < b.ev η φ
  · rw [if_pos h, decide_eq_true h]
  · rw [if_neg h, decide_eq_false h]
theorem shr_lit (a : Int) (n : Nat) (h : n ≤ 64) : ibin .shr .i64 a (n : Int) = a / 2 ^ n := by
  have e : ibin .shr .i64 a (n : Int) = a.fdiv (2 ^ (min n 64)) := by
    unfold ibin abin
    simp only
    rw [if_neg (by omega)]
    rfl
  rw [e, Nat.min_eq_left h]
  have e : ((2 : Int) ^ n) = ((2 ^ n : Nat) : Int) := by rw [Int.natCast_pow]; rfl
  rw [e, Int.fdiv_eq_ediv_of_nonneg _ (Int.natCast_nonneg _)]
theorem shr5 (a : Int) : ibin .shr .i64 a 5 = a / 32 := shr_lit a 5 (by decide)
theorem shr7 (a : Int) : ibin .shr .i64 a 7 = a / 128 := shr_lit a 7 (by decide)
theorem shr10 (a : Int) : ibin .shr .i64 a 10 = a / 1024 := shr_lit a 10 (by decide)
theorem shr63 (a : Int) : ibin .shr .i64 a 63 = a / 9223372036854775808 := shr_lit a 63 (by decide)
theorem rem_lit (a b : Int) (h : b ≠ 0) : ibin .rem .i64 a b = a.tmod b := by
  unfold ibin abin
  simp only
  rw [if_neg (by simp), if_neg h]
theorem tmod_zero (a b : Int) : (a.tmod b = 0) = (a % b = 0) := propext (by rw [← Int.dvd_iff_tmod_eq_zero, Int.dvd_iff_emod_eq_zero])
theorem rem2 (a : Int) : (ibin .rem .i64 a 2 = 0) = (a % 2 = 0) := by rw [rem_lit a 2 (by decide), tmod_zero]
theorem rem16 (a : Int) : (ibin .rem .i64 a 16 = 0) = (a % 16 = 0) := by rw [rem_lit a 16 (by decide), tmod_zero]

def formsL : List Nat := ("UUJLBBBBBBLLLLLLLSSSSIIIIII666RRRRRRRRRRI555RRRRRRRRRRRRRRRRRRFNNNCCCZZZlAAAAAAAAAAlAAAAAAAAAA".toList).map Char.toNat
def knownI (op : Int) : Bool := decide (1 ≤ op) && decide (op ≤ 94)
def formI (op : Int) : Nat := match knownI op with
  | true => formsL.getD (op - 1).toNat 0
  | false => 0
def inI (lo hi n : Int) : Bool := decide (lo ≤ n) && decide (n ≤ hi)
def regI (has : Bool) (n : Int) : Bool := match has with
  | true => inI 0 31 n
  | false => n == 0
def mayF (form : Nat) (d s t m : Int) : Bool :=
  regI (shapeL form).d d && (regI (shapeL form).s s && (regI (shapeL form).t t && (inI (shapeL form).lo (shapeL form).hi m && m % (shapeL form).by_ == 0)))
def mayI (op d s t m : Int) : Bool := knownI op && mayF (formI op) d s t m
def forms2 : List Nat := [85, 74, 76, 66, 83, 73, 54, 82, 53, 70, 78, 67, 90, 108, 65]
theorem regT_at (η : Nat → Int) (φ : Nat → List Int → Int) (has : Bool) (x : SE) (yes no : Tr) : (regT has x yes no).at η φ = match regI has (x.ev η φ) with | true => yes.at η φ | false => no.at η φ := by
  by_cases h0 : x.ev η φ = 0 <;> by_cases h1 : x.ev η φ < 1 <;> by_cases h2 : 31 < x.ev η φ <;> cases has <;> cases hb : regI _ (x.ev η φ) <;> simp only [regI, inI, Bool.and_eq_true, Bool.and_eq_false_iff, beq_iff_eq, beq_eq_false_iff_ne, ne_eq, decide_eq_true_eq, decide_eq_false_iff_not] at hb <;>
    first
    | (exfalso; omega)
    | (simp only [regT, at_eq, at_lt, ev_lit, h0, h1, h2, if_true, if_false]; done)
    | (simp [regT, at_eq, at_lt, ev_lit, h0, h1, h2]; done)
theorem inT_at (η : Nat → Int) (φ : Nat → List Int → Int) (lo hi : Int) (x : SE) (yes no : Tr) : (inT lo hi x yes no).at η φ = match inI lo hi (x.ev η φ) with | true => yes.at η φ | false => no.at η φ := by
  by_cases h1 : x.ev η φ < lo <;> by_cases h2 : hi < x.ev η φ <;> cases hb : inI lo hi (x.ev η φ) <;> simp only [inI, Bool.and_eq_true, Bool.and_eq_false_iff, decide_eq_true_eq, decide_eq_false_iff_not] at hb <;>
    first
    | (exfalso; omega)
    | (simp [inT, at_lt, ev_lit, h1, h2]; done)
theorem fit_key (x p Q : Int) (hp : 0 < p) (hQ : 2 * p ≤ Q) : (x / p = x / Q) ↔ (-p ≤ x ∧ x ≤ p - 1) := by
  have a1 := Int.mul_ediv_add_emod x p
  have a2 := Int.emod_nonneg x (show p ≠ 0 by omega)
  have a3 := Int.emod_lt_of_pos x hp
  have b1 := Int.mul_ediv_add_emod x Q
  have b2 := Int.emod_nonneg x (show Q ≠ 0 by omega)
  have b3 := Int.emod_lt_of_pos x (show 0 < Q by omega)
  generalize x % p = r at *
  generalize x % Q = s at *
  constructor
  · intro h
    rw [← h] at b1
    generalize x / p = q at *
    have e : (Q - p) * q = r - s := by rw [Int.sub_mul]; omega
    by_cases h1 : 1 ≤ q
    · have := Int.mul_le_mul_of_nonneg_left h1 (show 0 ≤ Q - p by omega)
      omega
    · by_cases h2 : q ≤ -2
      · have := Int.mul_le_mul_of_nonneg_left h2 (show 0 ≤ Q - p by omega)
        omega
      · have h3 : q = 0 ∨ q = -1 := by omega
        rcases h3 with rfl | rfl <;> omega
  · intro h
    by_cases h0 : 0 ≤ x
    · rw [Int.ediv_eq_zero_of_lt h0 (by omega), Int.ediv_eq_zero_of_lt h0 (by omega)]
    · have c : ∀ d : Int, 0 < d → -d ≤ x → x / d = -1 := by
        intro d hd hx
        have h3 : (x + d) / d = 0 := Int.ediv_eq_zero_of_lt (by omega) (by omega)
        have h4 := Int.add_mul_ediv_right x 1 (show d ≠ 0 by omega)
        rw [Int.one_mul] at h4
        omega
      rw [c p hp h.1, c Q (by omega) (by omega)]
theorem fitT_at (η : Nat → Int) (φ : Nat → List Int → Int) (k : Nat) (hk : k < 63) (x : SE) (yes no : Tr) : (fitT k x yes no).at η φ = match inI (-(2 ^ k)) (2 ^ k - 1) (x.ev η φ) with | true => yes.at η φ | false => no.at η φ := by
  unfold fitT
  rw [at_eq, ev_bin, ev_bin, ev_lit, ev_lit, shr_lit _ k (by omega), show ((63 : Int)) = ((63 : Nat) : Int) from rfl, shr_lit _ 63 (by omega)]
  have hp : (0 : Int) < 2 ^ k := Int.pow_pos (by omega)
  have hle : 2 * ((2 : Int) ^ k) ≤ 2 ^ 63 := by
    have : (2 : Nat) ^ k ≤ 2 ^ 62 := Nat.pow_le_pow_right (by omega) (by omega)
    have e : ((2 : Int) ^ k) = ((2 ^ k : Nat) : Int) := by rw [Int.natCast_pow]; rfl
    rw [e]; omega
  have key := fit_key (x.ev η φ) _ _ hp hle
  generalize (2 : Int) ^ k = p at *
  cases hb : inI (-p) (p - 1) (x.ev η φ) <;> simp only [inI, Bool.and_eq_true, Bool.and_eq_false_iff, decide_eq_true_eq, decide_eq_false_iff_not] at hb
  · rw [if_neg (fun h => by have := key.1 h; omega)]
  · rw [if_pos (key.2 (by omega))]
theorem evenT_at (η : Nat → Int) (φ : Nat → List Int → Int) (x : SE) (yes no : Tr) : (evenT x yes no).at η φ = match x.ev η φ % 2 == 0 with | true => yes.at η φ | false => no.at η φ := by
  unfold evenT
  rw [at_eq, ev_bin, ev_lit, ev_lit]
  by_cases h : x.ev η φ % 2 = 0
  · rw [if_pos ((rem2 _).mpr h), h]; rfl
  · rw [if_neg (fun k => h ((rem2 _).mp k)), show (x.ev η φ % 2 == 0) = false from by simpa using h]
def numI (F : Nat) (m : Int) : Bool := inI (shapeL F).lo (shapeL F).hi m && m % (shapeL F).by_ == 0
theorem numI_1 (F : Nat) (h : (shapeL F).by_ = 1) (m : Int) : numI F m = inI (shapeL F).lo (shapeL F).hi m := by unfold numI; rw [h]; simp [Int.emod_one]
theorem numC_at (F : Nat) (hF : F ∈ forms2) (η : Nat → Int) (φ : Nat → List Int → Int) (x : SE) (yes no : Tr) :
    (numC x yes no F).at η φ = match numI F (x.ev η φ) with | true => yes.at η φ | false => no.at η φ := by
  simp only [forms2, List.mem_cons, List.not_mem_nil, or_false] at hF
  have f11 : inI (-(2 ^ 11)) (2 ^ 11 - 1) (x.ev η φ) = inI (-2048) 2047 (x.ev η φ) := rfl
  have f12 : inI (-(2 ^ 12)) (2 ^ 12 - 1) (x.ev η φ) = inI (-4096) 4095 (x.ev η φ) := rfl
  have f20 : inI (-(2 ^ 20)) (2 ^ 20 - 1) (x.ev η φ) = inI (-1048576) 1048575 (x.ev η φ) := rfl
  have z : ∀ yes no : Tr, (Tr.eq x (.lit 0) yes no).at η φ = match inI 0 0 (x.ev η φ) with | true => yes.at η φ | false => no.at η φ := by
    intro yes no
    rw [at_eq, ev_lit]
    by_cases h : x.ev η φ = 0
    · rw [if_pos h, h]; rfl
    · rw [if_neg h]
      cases hb : inI 0 0 (x.ev η φ) <;> simp only [inI, Bool.and_eq_true, Bool.and_eq_false_iff, decide_eq_true_eq, decide_eq_false_iff_not] at hb
      · rfl
      · exfalso; omega
  have ev2 : ∀ lo hi : Int, hi % 2 = 1 → (match inI lo hi (x.ev η φ) with | true => (match x.ev η φ % 2 == 0 with | true => yes.at η φ | false => no.at η φ) | false => no.at η φ) =
      match inI lo (hi - 1) (x.ev η φ) && x.ev η φ % 2 == 0 with | true => yes.at η φ | false => no.at η φ := by
    intro lo hi ho
    cases h2 : (x.ev η φ % 2 == 0)
    · rw [Bool.and_false]; cases inI lo hi (x.ev η φ) <;> rfl
    · rw [Bool.and_true]
      have : inI lo hi (x.ev η φ) = inI lo (hi - 1) (x.ev η φ) := by
        have h2 : x.ev η φ % 2 = 0 := by simpa using h2
        unfold inI
        congr 1
        exact decide_eq_decide.2 (by omega)
      rw [this]
  rcases hF with rfl | rfl | rfl | rfl | rfl | rfl | rfl | rfl | rfl | rfl | rfl | rfl | rfl | rfl | rfl
  · exact (inT_at ..).trans (by rw [numI_1 85 rfl]; rfl)
  · exact (fitT_at η φ 20 (by omega) x _ _).trans (by rw [evenT_at, f20]; exact ev2 _ _ rfl)
  · exact (fitT_at η φ 11 (by omega) x _ _).trans (by rw [numI_1 76 rfl, f11]; rfl)
  · exact (fitT_at η φ 12 (by omega) x _ _).trans (by rw [evenT_at, f12]; exact ev2 _ _ rfl)
  · exact (fitT_at η φ 11 (by omega) x _ _).trans (by rw [numI_1 83 rfl, f11]; rfl)
  · exact (fitT_at η φ 11 (by omega) x _ _).trans (by rw [numI_1 73 rfl, f11]; rfl)
  · exact (inT_at ..).trans (by rw [numI_1 54 rfl]; rfl)
  · exact (z ..).trans (by rw [numI_1 82 rfl]; rfl)
  · exact (inT_at ..).trans (by rw [numI_1 53 rfl]; rfl)
  · exact (inT_at ..).trans (by rw [numI_1 70 rfl]; rfl)
  · exact (z ..).trans (by rw [numI_1 78 rfl]; rfl)
  · exact (inT_at ..).trans (by rw [numI_1 67 rfl]; rfl)
  · exact (inT_at ..).trans (by rw [numI_1 90 rfl]; rfl)
  · exact (inT_at ..).trans (by rw [numI_1 108 rfl]; rfl)
  · exact (inT_at ..).trans (by rw [numI_1 65 rfl]; rfl)
theorem mayF_eq (F : Nat) (d s t m : Int) : mayF F d s t m = (regI (shapeL F).d d && (regI (shapeL F).s s && (regI (shapeL F).t t && numI F m))) := rfl
theorem checkTr_at (F : Nat) (hF : F ∈ forms2) (η : Nat → Int) (φ : Nat → List Int → Int) :
    (checkTr F).at η φ = some (.int .i64 (match mayF F (η 0) (η 1) (η 2) (η 3) with | true => 0 | false => 20)) := by
  unfold checkTr
  rw [regT_at, regT_at, regT_at, numC_at F hF η φ (.var 3), mayF_eq]
  simp only [ev_var, lf, at_leaf]
  cases h1 : regI (shapeL F).d (η 0) <;> cases h2 : regI (shapeL F).s (η 1) <;> cases h3 : regI (shapeL F).t (η 2) <;> cases h4 : numI F (η 3) <;> rfl
end Go.Proofs.YtoehlmiadiiimaaGreatDoor.Ex
