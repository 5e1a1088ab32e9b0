/-
  Half words: what is written is read, what is read is written; plain.
-/
import Derived.Test.YtklenhohljeacaaDoorEncG
namespace Go.Proofs.YtklenhohljeacaaDoor.Ex
open Go

def opNone : AV → Bool
  | .agg [.int .u8 n, _, _, _, _] => n == 0
  | _ => false
theorem raw_three {h : Nat} (hh : h < 65536) (h3 : h % 4 = 3) : (rawR h).op = 0 := by
  have hc : 24 ≤ clsN h ∧ clsN h < 32 := by
    have : Nat.beq (8 * (h % 4) + h / 8192) 12 = false := by rw [nat_beq]; exact decide_eq_false (by omega)
    unfold clsN
    rw [this]
    simp only
    omega
  have tab : ((List.range' 24 8).all fun n => (rawTr n).all opNone) = true := by kernel_rfl
  obtain ⟨v, hv, hk⟩ := Tr.all_at (η := ηh h) (φ := fun _ _ => 0) (List.all_eq_true.1 tab (clsN h) (List.mem_range'_1.2 (by omega)))
  unfold rawR
  rw [hv]
  unfold opNone at hk
  split at hk
  · rename_i n _ _ _ _
    have hk : n = 0 := by simpa using hk
    exact hk
  · cases hk
theorem half_fact {op d s t m : Int} (hm : mayI op d s t m = true) (hb : halfB op d s t m = true) :
    ∃ n : Nat, encV op d s t m = (n : Int) ∧ n < 65536 ∧ n % 4 ≠ 3 ∧ readR n = ⟨op, d, s, t, m⟩ ∧ readE n = 0 := by
  have hb' := hb
  unfold halfB at hb
  have hv : encV op d s t m = halfV op d s t m := by unfold encV; rw [hm]
  cases hs : sel op d s t m rowsL 0 with
  | none => rw [hs] at hb; cases hb
  | some x =>
    obtain ⟨k, r⟩ := x
    obtain ⟨hr, ho, h1, h2⟩ := sel_facts hs
    subst ho
    obtain ⟨n, a1, a2, a3⟩ := raw_spec hr (raws_all r hr) hm h1 h2
    have hv' : halfV r.op d s t m = aV r d s t m := by unfold halfV; rw [hs]
    have hE : encE r.op d s t m = 0 := by unfold encE; rw [hm, hb']
    have hB : readB n = true := by
      unfold readB
      rw [a3]
      simp only
      rw [hE, hv, hv', a1]
      simp
    refine ⟨n, by rw [hv, hv', a1], a2, fun h3 => ?_, ?_, ?_⟩
    · have h0 := raw_three a2 h3
      rw [a3] at h0
      replace h0 : (r.op : Int) = 0 := h0
      have hk : knownI (r.op : Int) = false := by rw [h0]; rfl
      unfold mayI at hm
      rw [hk] at hm
      cases hm
    · unfold readR; rw [hB, ← a3]
    · unfold readE; rw [hB]
theorem half_none {op d s t m : Int} (h : shortB op d s t m = false) : encV op d s t m = 0 := by
  unfold shortB at h
  unfold encV
  cases hm : mayI op d s t m with
  | false => rfl
  | true =>
    rw [hm] at h
    have hb : halfB op d s t m = false := by simpa using h
    unfold halfB at hb; unfold halfV
    cases hs : sel op d s t m rowsL 0 with
    | none => rfl
    | some x => rw [hs] at hb; cases hb
theorem enc_range (op d s t m : Int) : 0 ≤ encV op d s t m ∧ encV op d s t m < 65536 := by
  cases h : shortB op d s t m with
  | false => rw [half_none h]; omega
  | true =>
    unfold shortB at h
    obtain ⟨hm, hb⟩ := Bool.and_eq_true_iff.1 h
    obtain ⟨n, e, hn, -⟩ := half_fact hm hb
    rw [e]; omega
theorem read_op (h : Nat) (hh : h < 65536) : 0 ≤ (readR h).op ∧ (readR h).op < 256 := by
  unfold readR
  cases readB h with
  | true => exact rawR_op h hh
  | false => exact ⟨Int.le_refl 0, show (0 : Int) < 256 by decide⟩
/- the half words of two rows -/
def chkTwo (h : Nat) : Bool := !(twiceB (rawR h)) || ((rawR h).m == -32 || ((rawR h).m == -16 || ((rawR h).m == 16 || encV (rawR h).op (rawR h).d (rawR h).s (rawR h).t (rawR h).m == (h : Int))))
theorem two1 : ((List.range 1024).all fun j => chkTwo (24577 + 4 * j)) = true := by kernel_rfl
theorem two2 : ((List.range' 1024 1024).all fun j => chkTwo (24577 + 4 * j)) = true := by kernel_rfl
def opNot : AV → Bool
  | .agg [.int .u8 n, _, _, _, _] => !(n == 22)
  | _ => false
theorem twos (h : Nat) (_ : h < 65536) (h3 : h / 8192 = 3) : chkTwo h = true := by
  by_cases h1 : h % 4 = 1
  · by_cases hj : h < 24577 + 4096
    · have := List.all_eq_true.1 two1 ((h - 24577) / 4) (List.mem_range.2 (by omega))
      rwa [show 24577 + 4 * ((h - 24577) / 4) = h by omega] at this
    · have := List.all_eq_true.1 two2 ((h - 24577) / 4) (List.mem_range'_1.2 (by omega))
      rwa [show 24577 + 4 * ((h - 24577) / 4) = h by omega] at this
  · have hc : clsN h = 3 ∨ clsN h = 19 ∨ clsN h = 27 := by
      have : Nat.beq (8 * (h % 4) + h / 8192) 12 = false := by rw [nat_beq]; exact decide_eq_false (by omega)
      unfold clsN
      rw [this]
      simp only
      omega
    have tab : ([3, 19, 27].all fun n => (rawTr n).all opNot) = true := by kernel_rfl
    obtain ⟨v, hv, hk⟩ := Tr.all_at (η := ηh h) (φ := fun _ _ => 0) (List.all_eq_true.1 tab (clsN h) (by simp; omega))
    have ht : twiceB (rawR h) = false := by
      unfold rawR
      rw [hv]
      unfold opNot at hk
      split at hk
      · rename_i n _ _ _ _
        have hk : (n == (22 : Int)) = false := by simpa using hk
        unfold twiceB
        simp only [insnOf, fieldV]
        rw [hk]; rfl
      · cases hk
    unfold chkTwo
    rw [ht]; rfl
end Go.Proofs.YtklenhohljeacaaDoor.Ex
