/-
  Half words: the bits that two numbers have both: by a walk.
-/
import Derived.Test.YtklenhohljeacaaDoorRows
import Derived.WalkKit
import Derived.Lib.Hide
import Derived.Test.YtklenhohljeacaaDoorEncD1
namespace Go.Proofs.YtklenhohljeacaaDoor
open Go.ChangeShapes Go.WideShapes Go.RowKit

def andN (a b : Nat) : Nat → Nat
  | 0 => 0
  | k + 1 => andN a b k + if a / 2 ^ k % 2 = 1 ∧ b / 2 ^ k % 2 = 1 then 2 ^ k else 0
theorem andN_eq (a b : Nat) : ∀ k, andN a b k = Nat.land a b % 2 ^ k
  | 0 => by simp [andN, Nat.mod_one]
  | k + 1 => by
    rw [andN, andN_eq a b k, Nat.mod_pow_succ, Nat.add_left_cancel_iff]
    have h : Nat.land a b / 2 ^ k % 2 = ((Nat.land a b).testBit k).toNat := (Nat.toNat_testBit (Nat.land a b) k).symm
    rw [h, show (Nat.land a b).testBit k = (a.testBit k && b.testBit k) from Nat.testBit_and a b k, Nat.testBit_eq_decide_div_mod_eq, Nat.testBit_eq_decide_div_mod_eq]
    by_cases h1 : a / 2 ^ k % 2 = 1 <;> by_cases h2 : b / 2 ^ k % 2 = 1 <;> simp [h1, h2]
theorem and_lt (a b : Nat) (ha : a < 65536) : andN a b 16 = Nat.land a b := by
  rw [andN_eq]
  have : Nat.land a b ≤ a := Nat.and_le_left
  exact Nat.mod_eq_of_lt (by omega)
theorem andN_lt (a b : Nat) (k : Nat) : andN a b k < 2 ^ k := by
  rw [andN_eq]; exact Nat.mod_lt _ (Nat.two_pow_pos k)
set_option maxHeartbeats 400000 in
theorem two_any (n : Nat) (hn : n ≤ 62) (w : World) : Calls Tryd.prog 54 #[.int .i64 n] w fun e w' => e = .returned (.int .i64 ((2 ^ n : Nat) : Int)) ∧ w' = w := by
  go_enter Tryd.func54, Tryd.ntmps54
  go_wp2
  go_loop [3, 4] (fun x i => ∃ k v : Nat, k ≤ n ∧ i = .int .i64 k ∧ x = .int .i64 v ∧ Hid (v = 2 ^ k)) (fun _ i => n - (intOf i).toNat)
  case atStart => exact ⟨0, 1, Nat.zero_le _, rfl, rfl, Lib.hid rfl⟩
  case round =>
    obtain ⟨k, v, hk, rfl, rfl, hv⟩ := hrel
    by_cases hlt : k < n
    · have h62 : k < 62 := by omega
      have hb : v ≤ 2305843009213693952 := by
        have := Nat.pow_le_pow_right (show 0 < 2 by omega) (show k ≤ 61 by omega)
        rw [hv.out]; omega
      go_wp2
      go_round
      case rel => exact ⟨k + 1, v * 2, by omega, by go_num, by go_num, Lib.hid (by rw [hv.out]; omega)⟩
      case measure => simp [intOf]; omega
    · go_wp2
      go_ret
      exact ⟨by show Ending.returned (Value.int IntKind.i64 (v : Int)) = _; rw [hv.out, show k = n by omega]; simp, rfl⟩
theorem step_tt {a b p v s : Nat} (h : s = v + if a / p % 2 = 1 ∧ b / p % 2 = 1 then p else 0) (h1 : (a : Int) / (p : Int) % 2 = 1) (h2 : ((b : Int) / (p : Int) % 2 == 1) = true) : v + p = s := by
  have e1 : (a : Int) / (p : Int) = ((a / p : Nat) : Int) := rfl
  have e2 : (b : Int) / (p : Int) = ((b / p : Nat) : Int) := rfl
  rw [e1] at h1
  rw [e2, beq_iff_eq] at h2
  rw [if_pos ⟨by omega, by omega⟩] at h
  omega
theorem step_tf {a b p v s : Nat} (h : s = v + if a / p % 2 = 1 ∧ b / p % 2 = 1 then p else 0) (h2 : ((b : Int) / (p : Int) % 2 == 1) = false) : v = s := by
  have e2 : (b : Int) / (p : Int) = ((b / p : Nat) : Int) := rfl
  rw [e2, beq_eq_false_iff_ne] at h2
  rw [if_neg (fun k => h2 (by have := k.2; omega))] at h
  omega
theorem step_f {a b p v s : Nat} (h : s = v + if a / p % 2 = 1 ∧ b / p % 2 = 1 then p else 0) (h1 : ¬ (a : Int) / (p : Int) % 2 = 1) : v = s := by
  have e1 : (a : Int) / (p : Int) = ((a / p : Nat) : Int) := rfl
  rw [e1] at h1
  rw [if_neg (fun k => h1 (by have := k.1; omega))] at h
  omega
set_option maxHeartbeats 400000 in
theorem both_c (a b c : Nat) (ha : a < 65536) (hb : b < 65536) (hc : ∀ k, k = 16 → Hid (c = andN a b k)) (w : World) : Calls Tryd.prog 38 #[.int .i64 a, .int .i64 b] w fun e w' => e = .returned (.int .i64 (c : Int)) ∧ w' = w := by
  go_enter Tryd.func38, Tryd.ntmps38
  go_wp2
  go_loop [5, 6] (fun x i => ∃ k v : Nat, k ≤ 16 ∧ i = .int .i64 k ∧ x = .int .i64 v ∧ v < 65536 ∧ Hid (v = andN a b k)) (fun _ i => 16 - (intOf i).toNat)
  case atStart => exact ⟨0, 0, Nat.zero_le _, rfl, rfl, by omega, Lib.hid rfl⟩
  case round =>
    obtain ⟨k, v, hk, rfl, rfl, hv, hs⟩ := hrel
    by_cases hlt : k < 16
    · obtain ⟨p, hp⟩ : ∃ p : Nat, Hid (p = 2 ^ k) := ⟨_, Lib.hid rfl⟩
      have hb1 : 1 ≤ p ∧ p ≤ 32768 := by
        have := Nat.pow_le_pow_right (show 0 < 2 by omega) (show k ≤ 15 by omega)
        have := Nat.two_pow_pos k
        rw [hp.out]; omega
      obtain ⟨p1, p2⟩ := hb1
      have two : Calls Tryd.prog 54 #[.int .i64 k] w fun e w' => e = .returned (.int .i64 (p : Int)) ∧ w' = w := by rw [hp.out]; exact two_any k (by omega) w
      have hstep : Hid (andN a b (k + 1) = v + if a / p % 2 = 1 ∧ b / p % 2 = 1 then p else 0) := Lib.hid (by rw [andN, hs.out, hp.out])
      have hle := andN_lt a b (k + 1)
      have h16 : 2 ^ (k + 1) ≤ 65536 := Nat.pow_le_pow_right (show 0 < 2 by omega) (show k + 1 ≤ 16 by omega)
      have hn : Hid (andN a b (k + 1) < 65536) := Lib.hid (by omega)
      clear hle h16
      have da : 0 ≤ (a : Int) / (p : Int) := Int.natCast_nonneg (a / p)
      have da' : (a : Int) / (p : Int) ≤ 65535 := by have := Nat.div_le_self a p; rw [show (a : Int) / (p : Int) = ((a / p : Nat) : Int) from rfl]; omega
      have db : 0 ≤ (b : Int) / (p : Int) := Int.natCast_nonneg (b / p)
      have db' : (b : Int) / (p : Int) ≤ 65535 := by have := Nat.div_le_self b p; rw [show (b : Int) / (p : Int) = ((b / p : Nat) : Int) from rfl]; omega
      go_wp2_with (go_at_call 54; refine two.mono ?_; rintro e w' ⟨rfl, rfl⟩)
      all_goals
        go_round
        case rel => first
          | (have e := step_tt hstep.out ‹_› ‹_›; exact ⟨k + 1, v + p, by omega, by go_num, by go_num, by rw [e]; exact hn.out, Lib.hid e⟩)
          | (have e := step_tf hstep.out ‹_›; exact ⟨k + 1, v, by omega, by go_num, rfl, by omega, Lib.hid e⟩)
          | (have e := step_f hstep.out ‹_›; exact ⟨k + 1, v, by omega, by go_num, rfl, by omega, Lib.hid e⟩)
        case measure => simp [intOf]; omega
    · go_wp2
      go_ret
      exact ⟨by show Ending.returned (Value.int IntKind.i64 (v : Int)) = _; rw [hs.out, (hc k (by omega)).out], rfl⟩
theorem both_any (a b : Nat) (ha : a < 65536) (hb : b < 65536) (w : World) : Calls Tryd.prog 38 #[.int .i64 a, .int .i64 b] w fun e w' => e = .returned (.int .i64 ((Nat.land a b : Nat) : Int)) ∧ Below w.heap.size w w' := by
  refine (both_c a b (Nat.land a b) ha hb (fun k hk => Lib.hid (by rw [hk, and_lt a b ha])) w).mono ?_
  rintro e w' ⟨he, rfl⟩
  exact ⟨he, Below.refl _ _⟩
end Go.Proofs.YtklenhohljeacaaDoor
