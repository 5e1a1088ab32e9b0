/-
  Half words: a tree for the law CdecSize (written by a program), and what is known class by class.
-/
import Derived.Test.YtoehlmiadiiimaaGreatDoorEncK
namespace Go.Proofs.YtoehlmiadiiimaaGreatDoor.Ex
open Go

def litJ (o d s t m : Int) : SE := .pair (.lit o) (.pair (.lit d) (.pair (.lit s) (.pair (.lit t) (.lit m))))
def signF (ps : List Nat) : SE × SE × Bool := (.bin .andNot .u32 (gT ps 0 (.lit 0)) (.lit ((2 ^ ps.length - 1 : Nat) : Int)), .lit 0, true)
def aliveF : List (SE × Int) := [(.fn 200 (litJ 22 1 1 0 5), 0x95), (.fn 201 (litJ 22 1 1 0 5), 0), (.fn 200 (litJ 31 10 0 11 0), 0x852e), (.fn 201 (litJ 31 10 0 11 0), 0), (.fn 200 (litJ 4 0 1 0 0), 0x8082), (.fn 201 (litJ 4 0 1 0 0), 0),
   (.fn 200 (litJ 13 8 9 0 4), 0x40c0), (.fn 201 (litJ 13 8 9 0 4), 0), (.fn 201 (litJ 0 0 0 0 0), 20), (.fn 200 (litJ 0 0 0 0 0), 0)]
/-- A half word's class: what is known of it. -/
def FS (n : Nat) : Fa := ⟨((.bin .and .u16 (.var 0) (.lit 3)), .lit 3, decide (24 ≤ clsOf n)) :: signedL.map signF, [], (swT, (clsOf n : Int)) :: ((if clsOf n = 12 then [(whichT, ((n - 31 : Nat) : Int))] else []) ++ aliveF)⟩
section defs
variable [Dec]
end defs
section
variable [Dec] [Env]
end
/- numbers -/
theorem and_nat (k : IntKind) (a b : Nat) (ha : a ≤ kmax k) (hb : b ≤ kmax k) : ibin .and k (a : Int) (b : Int) = ((Nat.land a b : Nat) : Int) := by
  have e : ibin .and k (a : Int) (b : Int) = k.wrap (BitVec.ofInt k.bits (a : Int) &&& BitVec.ofInt k.bits (b : Int)).toNat := by
    unfold ibin abin; simp only; rw [if_neg (by simp)]
  rw [e, BitVec.toNat_and, ofInt_nat k a ha, ofInt_nat k b hb]
  exact wrap_self k _ (Nat.le_trans Nat.and_le_left ha)
theorem or_nat (k : IntKind) (a b : Nat) (ha : a ≤ kmax k) (hb : b ≤ kmax k) : ibin .or k (a : Int) (b : Int) = ((Nat.lor a b : Nat) : Int) := by
  have e : ibin .or k (a : Int) (b : Int) = k.wrap (BitVec.ofInt k.bits (a : Int) ||| BitVec.ofInt k.bits (b : Int)).toNat := by
    unfold ibin abin; simp only; rw [if_neg (by simp)]
  rw [e, BitVec.toNat_or, ofInt_nat k a ha, ofInt_nat k b hb]
  obtain ⟨n, hn⟩ := kmax_pow k
  have := Nat.or_lt_two_pow (x := a) (y := b) (n := n) (by have := Nat.two_pow_pos n; omega) (by have := Nat.two_pow_pos n; omega)
  exact wrap_self k _ (by omega)
theorem shr_nat (a p : Nat) (hp : p ≤ 32) : ibin .shr .u32 (a : Int) (p : Int) = ((a / 2 ^ p : Nat) : Int) := by
  have e : ibin .shr .u32 (a : Int) (p : Int) = (a : Int).fdiv (2 ^ (min p 32)) := by
    unfold ibin abin; simp only; rw [if_neg (by omega)]; rfl
  rw [e, Nat.min_eq_left hp]
  have e : ((2 : Int) ^ p) = ((2 ^ p : Nat) : Int) := by rw [Int.natCast_pow]; rfl
  rw [e, Int.fdiv_eq_ediv_of_nonneg _ (Int.natCast_nonneg _)]
  rfl
theorem shl_nat (a p : Nat) (hp : p ≤ 32) (h : a * 2 ^ p ≤ kmax .u32) : ibin .shl .u32 (a : Int) (p : Int) = ((a * 2 ^ p : Nat) : Int) := by
  have e : ibin .shl .u32 (a : Int) (p : Int) = IntKind.u32.wrap ((a : Int) * 2 ^ (min p 32)) := by
    unfold ibin abin; simp only; rw [if_neg (by omega)]; rfl
  rw [e, Nat.min_eq_left hp]
  have e : ((a : Int) * (2 : Int) ^ p) = ((a * 2 ^ p : Nat) : Int) := by rw [Int.natCast_mul, Int.natCast_pow]; rfl
  rw [e]
  exact wrap_self _ _ h
theorem wS_ev (h : Nat) (hh : h < 65536) (φ : Nat → List Int → Int) : wS.ev (ηl [(h : Int)]) φ = (h : Int) := wrap_self .u32 h (by show h ≤ 4294967295; omega)
theorem bit_ev (h : Nat) (hh : h < 65536) (φ : Nat → List Int → Int) (p : Nat) (hp : p ≤ 32) : ∃ b : Nat, b ≤ 1 ∧ (SE.bin .and .u32 (.bin .shr .u32 wS (.lit (p : Nat))) (.lit 1)).ev (ηl [(h : Int)]) φ = (b : Int) := by
  rw [ev_bin, ev_bin, wS_ev h hh, ev_lit, ev_lit, shr_nat h p hp]
  have hk : kmax .u32 = 4294967295 := rfl
  have h1 : h / 2 ^ p ≤ kmax .u32 := Nat.le_trans (Nat.div_le_self _ _) (by omega)
  exact ⟨Nat.land (h / 2 ^ p) 1, Nat.and_le_right, and_nat .u32 _ 1 h1 (by decide)⟩
theorem gT_ev (h : Nat) (hh : h < 65536) (φ : Nat → List Int → Int) : ∀ (ps : List Nat) (i : Nat) (acc : SE) (a : Nat), (∀ p ∈ ps, p ≤ 32) → i + ps.length ≤ 20 → acc.ev (ηl [(h : Int)]) φ = (a : Int) → a < 2 ^ i → ∃ v : Nat, (gT ps i acc).ev (ηl [(h : Int)]) φ = (v : Int) ∧ v < 2 ^ (i + ps.length)
  | [], i, acc, a, _, _, ha, hb => ⟨a, ha, hb⟩
  | p :: ps, i, acc, a, hp, hl, ha, hb => by
    have hk : kmax .u32 = 4294967295 := rfl
    simp only [List.length_cons] at hl ⊢
    have h20 : 2 ^ (i + 1) ≤ 2 ^ 20 := Nat.pow_le_pow_right (by omega) (by omega)
    have hpow : 2 ^ (i + 1) = 2 ^ i * 2 := Nat.pow_succ 2 i
    obtain ⟨b, hb1, hbe⟩ := bit_ev h hh φ p (hp p List.mem_cons_self)
    have hbi : b * 2 ^ i ≤ 2 ^ i := by
      have := Nat.mul_le_mul_right (2 ^ i) hb1
      omega
    have e1 : (SE.bin .shl .u32 (.bin .and .u32 (.bin .shr .u32 wS (.lit (p : Nat))) (.lit 1)) (.lit (i : Nat))).ev (ηl [(h : Int)]) φ = ((b * 2 ^ i : Nat) : Int) := by
      rw [ev_bin, hbe, ev_lit, shl_nat b i (by omega) (by omega)]
    have e2 : (SE.bin .or .u32 acc (.bin .shl .u32 (.bin .and .u32 (.bin .shr .u32 wS (.lit (p : Nat))) (.lit 1)) (.lit (i : Nat)))).ev (ηl [(h : Int)]) φ = ((Nat.lor a (b * 2 ^ i) : Nat) : Int) := by
      rw [ev_bin, e1, ha, or_nat .u32 _ _ (by omega) (by omega)]
    obtain ⟨v, hv, hlt⟩ := gT_ev h hh φ ps (i + 1) _ _ (fun q hq => hp q (List.mem_cons_of_mem _ hq)) (by omega) e2 (Nat.or_lt_two_pow (by omega) (by have := Nat.two_pow_pos i; omega))
    exact ⟨v, hv, by rw [show i + (ps.length + 1) = i + 1 + ps.length by omega]; exact hlt⟩
theorem sw_ev (h : Nat) (hh : h < 65536) (φ : Nat → List Int → Int) : swT.ev (ηl [(h : Int)]) φ = ((8 * (h % 4) + h / 8192 : Nat) : Int) := by
  have hk : kmax .u32 = 4294967295 := rfl
  have tab : ((List.range 4).all fun a => (List.range 8).all fun b => Nat.beq (Nat.lor (a * 2 ^ 3) b) (8 * a + b)) = true := by decide
  have h4 : Nat.land h 3 = h % 4 := Nat.and_two_pow_sub_one_eq_mod h 2
  unfold swT
  rw [ev_bin, ev_bin, ev_bin, ev_bin, wS_ev h hh, ev_lit, ev_lit, show (3 : Int) = ((3 : Nat) : Int) from rfl, show (13 : Int) = ((13 : Nat) : Int) from rfl, and_nat .u32 h 3 (by omega) (by omega), h4, shl_nat _ 3 (by omega) (by omega), shr_nat h 13 (by omega),
    or_nat .u32 _ _ (by omega) (by omega)]
  have := Nat.eq_of_beq_eq_true (List.all_eq_true.1 (List.all_eq_true.1 tab (h % 4) (List.mem_range.2 (by omega))) (h / 8192) (List.mem_range.2 (by omega)))
  rw [show h / 2 ^ 13 = h / 8192 from rfl, this]
theorem w1 : encV 22 1 1 0 5 = 0x95 := by kernel_rfl
theorem w2 : encE 22 1 1 0 5 = 0 := by kernel_rfl
theorem w3 : encV 31 10 0 11 0 = 0x852e := by kernel_rfl
theorem w4 : encE 31 10 0 11 0 = 0 := by kernel_rfl
theorem w5 : encV 4 0 1 0 0 = 0x8082 := by kernel_rfl
theorem w6 : encE 4 0 1 0 0 = 0 := by kernel_rfl
theorem w7 : encV 13 8 9 0 4 = 0x40c0 := by kernel_rfl
theorem w8 : encE 13 8 9 0 4 = 0 := by kernel_rfl
theorem w9 : encE 0 0 0 0 0 = 20 := by kernel_rfl
theorem w0 : encV 0 0 0 0 0 = 0 := by kernel_rfl
theorem alive_on (η : Nat → Int) : ∀ x ∈ aliveF, x.1.ev η φ0 = x.2 := by
  intro x hx
  simp only [aliveF, List.mem_cons, List.not_mem_nil, or_false] at hx
  rcases hx with rfl | rfl | rfl | rfl | rfl | rfl | rfl | rfl | rfl | rfl
  · exact w1
  · exact w2
  · exact w3
  · exact w4
  · exact w5
  · exact w6
  · exact w7
  · exact w8
  · exact w9
  · exact w0
end Go.Proofs.YtoehlmiadiiimaaGreatDoor.Ex
