/-
  Half words: what the laws CdecShort and CdecBack meet, way by way.
-/
import Derived.Test.YtklenhohljeacaaDoorEncJ
namespace Go.Proofs.YtklenhohljeacaaDoor.Ex
open Go

def rng (e : SE) (n : Int) : List (SE × SE × Bool) := [(e, .lit n, true), (e, .lit 0, false)]
def e200 : SE := .fn 200 eI
/-- a short one -/
def esShort : List (SE × SE × Bool) := [(.fn 202 eI, .lit 1, true), (.fn 203 eI, .lit 0, true), (.fn 201 eI, .lit 0, true), (.bin .and .u16 e200 (.lit 3), .lit 3, false), (.fn 405 e200, .lit 0, true),
  (.fn 400 e200, .var 4, true), (.fn 401 e200, .var 0, true), (.fn 402 e200, .var 1, true), (.fn 403 e200, .var 2, true), (.fn 404 e200, .var 3, true)]
def esLong : List (SE × SE × Bool) := [(.fn 202 eI, .lit 1, false), (.fn 201 eI, .lit 0, false)]
def FShort : Fa := ⟨esShort, opFacts ++ rng e200 65536, []⟩
def FLong : Fa := ⟨esLong, opFacts ++ rng e200 65536, []⟩
def longTr : Tr := .eq (.fn 203 eI) (.lit 0) (.leaf (.bool true)) (.leaf (.bool true))
def e40 : SE := .pair (.fn 400 (.var 5)) (.pair (.fn 401 (.var 5)) (.pair (.fn 402 (.var 5)) (.pair (.fn 403 (.var 5)) (.fn 404 (.var 5)))))
/-- not read -/
def hsNot : List (SE × SE × Bool) := [(.fn 405 (.var 5), .lit 0, false), (.fn 400 (.var 5), .lit 0, true), (.fn 401 (.var 5), .lit 0, true), (.fn 402 (.var 5), .lit 0, true), (.fn 403 (.var 5), .lit 0, true), (.fn 404 (.var 5), .lit 0, true)]
def hsRead : List (SE × SE × Bool) := [(.fn 405 (.var 5), .lit 0, true), (.fn 201 e40, .lit 0, true), (.fn 12 e40, .lit 1, true), (.bin .and .u16 (.var 5) (.lit 3), .lit 3, false)]
def hsSame : List (SE × SE × Bool) := hsRead ++ [(.fn 200 e40, .var 5, true)]
def hsTwo : List (SE × SE × Bool) := hsRead ++ [(.fn 200 e40, .var 5, false), (.fn 400 (.var 5), .lit 22, true), (.fn 401 (.var 5), .lit 2, true), (.fn 402 (.var 5), .lit 2, true)]
def Fih (es hs : List (SE × SE × Bool)) : Fa := ⟨es ++ hs, (opFacts ++ rng e200 65536) ++ (rng (.var 5) 65536 ++ rng (.fn 400 (.var 5)) 256), []⟩
def sameTr : Tr := .eq (.fn 400 (.var 5)) (.lit 22) (.eq (.fn 401 (.var 5)) (.lit 2) (.eq (.fn 402 (.var 5)) (.lit 2) (.eq (.fn 404 (.var 5)) (.lit (-32)) (.leaf (.bool true)) (.eq (.fn 404 (.var 5)) (.lit (-16)) (.leaf (.bool true)) (.eq (.fn 404 (.var 5)) (.lit 16) (.leaf (.bool true)) (.leaf (.bool true))))) (.leaf (.bool true))) (.leaf (.bool true))) (.leaf (.bool true))
def twoTr : Tr := .eq (.fn 404 (.var 5)) (.lit (-32)) (.leaf (.bool true)) (.eq (.fn 404 (.var 5)) (.lit (-16)) (.leaf (.bool true)) (.eq (.fn 404 (.var 5)) (.lit 16) (.leaf (.bool true)) (.leaf (.bool false))))
def allTrue : AV → Bool
  | .bool b => b
  | _ => false
theorem Tr.at_true {t : Tr} (h : t.all allTrue = true) (η : Nat → Int) (φ : Nat → List Int → Int) : t.at η φ = some (.bool true) := by
  obtain ⟨v, hv, hk⟩ := Tr.all_at (η := η) (φ := φ) h
  rw [hv]
  unfold allTrue at hk
  split at hk
  · subst hk; rfl
  · cases hk

section
variable {op d s t m : Int} {h : Nat}
abbrev η6 (op d s t m : Int) (h : Nat) : Nat → Int := ηl [d, s, t, m, op, (h : Int)]
theorem opFacts_on6 (ho : u8R op) : ∀ x ∈ opFacts ++ rng e200 65536, decide (x.1.ev (η6 op d s t m h) φ0 < x.2.1.ev (η6 op d s t m h) φ0) = x.2.2 := by
  obtain ⟨h1, h2⟩ := ho
  obtain ⟨k1, k2⟩ := enc_range op d s t m
  intro x hx
  simp only [opFacts, rng, List.cons_append, List.nil_append, List.mem_cons, List.not_mem_nil, or_false] at hx
  rcases hx with rfl | rfl | rfl | rfl
  · exact decide_eq_true h2
  · exact decide_eq_false (show ¬ op < 0 by omega)
  · exact decide_eq_true (show encV op d s t m < 65536 from k2)
  · exact decide_eq_false (show ¬ encV op d s t m < 0 by omega)
theorem hFacts_on6 (hh : h < 65536) : ∀ x ∈ rng (.var 5) 65536 ++ rng (.fn 400 (.var 5)) 256, decide (x.1.ev (η6 op d s t m h) φ0 < x.2.1.ev (η6 op d s t m h) φ0) = x.2.2 := by
  obtain ⟨k1, k2⟩ := read_op h hh
  intro x hx
  simp only [rng, List.cons_append, List.nil_append, List.mem_cons, List.not_mem_nil, or_false] at hx
  rcases hx with rfl | rfl | rfl | rfl
  · exact decide_eq_true (show (h : Int) < 65536 by omega)
  · exact decide_eq_false (show ¬ (h : Int) < 0 by omega)
  · exact decide_eq_true (show (readR ((h : Nat) : Int).toNat).op < 256 from k2)
  · exact decide_eq_false (show ¬ (readR ((h : Nat) : Int).toNat).op < 0 by rw [Int.toNat_natCast]; omega)
theorem and3 (n : Nat) (hn : n < 65536) : (ibin .and .u16 (n : Int) 3 == 3) = decide (n % 4 = 3) := by
  rw [show ibin .and .u16 (n : Int) 3 = ((n % 4 : Nat) : Int) from (and_nat .u16 n 3 (by show n ≤ 65535; omega) (by decide)).trans (by rw [show Nat.land n 3 = n % 4 from Nat.and_two_pow_sub_one_eq_mod n 2])]
  by_cases h3 : n % 4 = 3
  · rw [h3]; rfl
  · rw [decide_eq_false h3]
    have : ¬ (((n % 4 : Nat) : Int) = 3) := by omega
    simpa using this
theorem eqI {a b : Int} (h : a = b) : (a == b) = true := by simpa using h
theorem neI {a b : Int} (h : a ≠ b) : (a == b) = false := by simpa using h
theorem short_es (hs : shortB op d s t m = true) : ∀ x ∈ esShort, (x.1.ev (η6 op d s t m h) φ0 == x.2.1.ev (η6 op d s t m h) φ0) = x.2.2 := by
  have hs' := hs
  unfold shortB at hs'
  obtain ⟨hm, hb⟩ := Bool.and_eq_true_iff.1 hs'
  obtain ⟨n, e, hn, h4, hr, he⟩ := half_fact hm hb
  have hE : encE op d s t m = 0 := by unfold encE; rw [hm, hb]
  have hS : shortE op d s t m = 0 := by unfold shortE; rw [hm]
  have hR : readR (encV op d s t m).toNat = ⟨op, d, s, t, m⟩ := by rw [e, Int.toNat_natCast]; exact hr
  intro x hx
  simp only [esShort, List.mem_cons, List.not_mem_nil, or_false] at hx
  rcases hx with rfl | rfl | rfl | rfl | rfl | rfl | rfl | rfl | rfl | rfl
  · show (b01 (shortB op d s t m) == 1) = true
    rw [hs]; rfl
  · exact eqI hS
  · exact eqI hE
  · show (ibin .and .u16 (encV op d s t m) 3 == 3) = false
    rw [e, and3 n hn]; exact decide_eq_false h4
  · exact eqI (show readE (encV op d s t m).toNat = 0 by rw [e, Int.toNat_natCast]; exact he)
  · exact eqI (show (readR (encV op d s t m).toNat).op = op by rw [hR])
  · exact eqI (show (readR (encV op d s t m).toNat).d = d by rw [hR])
  · exact eqI (show (readR (encV op d s t m).toNat).s = s by rw [hR])
  · exact eqI (show (readR (encV op d s t m).toNat).t = t by rw [hR])
  · exact eqI (show (readR (encV op d s t m).toNat).m = m by rw [hR])
theorem long_es (hs : shortB op d s t m = false) : ∀ x ∈ esLong, (x.1.ev (η6 op d s t m h) φ0 == x.2.1.ev (η6 op d s t m h) φ0) = x.2.2 := by
  have hE : encE op d s t m ≠ 0 := by
    unfold shortB at hs
    unfold encE
    cases hm : mayI op d s t m with
    | false => exact show (20 : Int) ≠ 0 by decide
    | true =>
      rw [hm] at hs
      have hb : halfB op d s t m = false := by simpa using hs
      rw [hb]; exact show (6 : Int) ≠ 0 by decide
  intro x hx
  simp only [esLong, List.mem_cons, List.not_mem_nil, or_false] at hx
  rcases hx with rfl | rfl
  · show (b01 (shortB op d s t m) == 1) = false
    rw [hs]; rfl
  · exact neI hE
theorem FShort_on (ho : u8R op) (hs : shortB op d s t m = true) : FShort.On (η6 op d s t m 0) φ0 := ⟨short_es hs, opFacts_on6 ho, fun _ hx => (by cases hx)⟩
theorem FLong_on (ho : u8R op) (hs : shortB op d s t m = false) : FLong.On (η6 op d s t m 0) φ0 := ⟨long_es hs, opFacts_on6 ho, fun _ hx => (by cases hx)⟩
theorem Fih_on (ho : u8R op) (hh : h < 65536) {es hs : List (SE × SE × Bool)} (h1 : ∀ x ∈ es, (x.1.ev (η6 op d s t m h) φ0 == x.2.1.ev (η6 op d s t m h) φ0) = x.2.2) (h2 : ∀ x ∈ hs, (x.1.ev (η6 op d s t m h) φ0 == x.2.1.ev (η6 op d s t m h) φ0) = x.2.2) : (Fih es hs).On (η6 op d s t m h) φ0 where
  es x hx := (List.mem_append.1 hx).elim (h1 x) (h2 x)
  ls x hx := (List.mem_append.1 hx).elim (opFacts_on6 ho x) (hFacts_on6 hh x)
  vs x hx := by cases hx
theorem not_hs (hr : readB h = false) : ∀ x ∈ hsNot, (x.1.ev (η6 op d s t m h) φ0 == x.2.1.ev (η6 op d s t m h) φ0) = x.2.2 := by
  have hE : readE h = 60 := by unfold readE; rw [hr]
  have hR : readR h = ⟨0, 0, 0, 0, 0⟩ := by unfold readR; rw [hr]
  intro x hx
  simp only [hsNot, List.mem_cons, List.not_mem_nil, or_false] at hx
  rcases hx with rfl | rfl | rfl | rfl | rfl | rfl
  · exact neI (show readE h ≠ 0 by rw [hE]; decide)
  · exact eqI (show (readR h).op = 0 by rw [hR])
  · exact eqI (show (readR h).d = 0 by rw [hR])
  · exact eqI (show (readR h).s = 0 by rw [hR])
  · exact eqI (show (readR h).t = 0 by rw [hR])
  · exact eqI (show (readR h).m = 0 by rw [hR])
theorem read_enc (hr : readB h = true) : encE (readR h).op (readR h).d (readR h).s (readR h).t (readR h).m = 0 := by
  unfold readR
  rw [hr]
  unfold readB at hr
  have := (Bool.and_eq_true_iff.1 hr).1
  simpa using this
theorem enc_may (he : encE op d s t m = 0) : mayI op d s t m = true := by
  unfold encE at he
  cases hm : mayI op d s t m with
  | true => rfl
  | false => rw [hm] at he; cases he
theorem read_hs (hh : h < 65536) (hr : readB h = true) : ∀ x ∈ hsRead, (x.1.ev (η6 op d s t m h) φ0 == x.2.1.ev (η6 op d s t m h) φ0) = x.2.2 := by
  have hE : readE h = 0 := by unfold readE; rw [hr]
  have h4 : h % 4 ≠ 3 := by
    intro h3
    have h0 := raw_three hh h3
    have hm := enc_may (read_enc hr)
    have hR : (readR h).op = 0 := by unfold readR; rw [hr]; exact h0
    rw [hR] at hm
    have hk : knownI (0 : Int) = false := rfl
    unfold mayI at hm
    rw [hk] at hm
    cases hm
  intro x hx
  simp only [hsRead, List.mem_cons, List.not_mem_nil, or_false] at hx
  rcases hx with rfl | rfl | rfl | rfl
  · exact eqI hE
  · exact eqI (read_enc hr)
  · show (b01 (mayI (readR h).op (readR h).d (readR h).s (readR h).t (readR h).m) == 1) = true
    rw [enc_may (read_enc hr)]; rfl
  · show (ibin .and .u16 ((h : Nat) : Int) 3 == 3) = false
    rw [and3 h hh]; exact decide_eq_false h4
theorem same_hs (hh : h < 65536) (hr : readB h = true) (he : encV (readR h).op (readR h).d (readR h).s (readR h).t (readR h).m = (h : Int)) : ∀ x ∈ hsSame, (x.1.ev (η6 op d s t m h) φ0 == x.2.1.ev (η6 op d s t m h) φ0) = x.2.2 := by
  intro x hx
  rcases List.mem_append.1 hx with hx | hx
  · exact read_hs hh hr x hx
  · simp only [List.mem_cons, List.not_mem_nil, or_false] at hx
    subst hx
    exact eqI he
theorem two_hs (hh : h < 65536) (hr : readB h = true) (he : encV (readR h).op (readR h).d (readR h).s (readR h).t (readR h).m ≠ (h : Int)) :
    (∀ x ∈ hsTwo, (x.1.ev (η6 op d s t m h) φ0 == x.2.1.ev (η6 op d s t m h) φ0) = x.2.2) ∧ twoTr.at (η6 op d s t m h) φ0 = some (.bool true) := by
  have hR : readR h = rawR h := by unfold readR; rw [hr]
  have hq := hr
  unfold readB at hq
  rw [hR] at he
  have hq := (Bool.and_eq_true_iff.1 hq).2
  rw [show (encV (rawR h).op (rawR h).d (rawR h).s (rawR h).t (rawR h).m == (h : Int)) = false from neI he, Bool.false_or, Bool.and_eq_true, nat_beq] at hq
  obtain ⟨h2, h3⟩ := hq
  have h3 : h / 8192 = 3 := of_decide_eq_true h3
  have hw := twos h hh h3
  unfold chkTwo at hw
  rw [h2, neI he] at hw
  unfold twiceB at h2
  simp only [Bool.and_eq_true, beq_iff_eq] at h2
  obtain ⟨a1, a2, a3, -⟩ := h2
  refine ⟨?_, ?_⟩
  · intro x hx
    rcases List.mem_append.1 hx with hx | hx
    · exact read_hs hh hr x hx
    · simp only [List.mem_cons, List.not_mem_nil, or_false] at hx
      rcases hx with rfl | rfl | rfl | rfl
      · exact neI (by rw [← hR] at he; exact he)
      · exact eqI (show (readR h).op = 22 by rw [hR]; exact a1)
      · exact eqI (show (readR h).d = 2 by rw [hR]; exact a2)
      · exact eqI (show (readR h).s = 2 by rw [hR]; exact a3)
  · have q : (SE.fn 404 (.var 5)).ev (η6 op d s t m h) φ0 = (rawR h).m := by
      rw [← hR]; rfl
    unfold twoTr
    rw [at_eq, q, ev_lit]
    by_cases c1 : (rawR h).m = -32
    · rw [if_pos c1]; rfl
    · rw [if_neg c1, at_eq, q, ev_lit]
      by_cases c2 : (rawR h).m = -16
      · rw [if_pos c2]; rfl
      · rw [if_neg c2, at_eq, q, ev_lit]
        by_cases c3 : (rawR h).m = 16
        · rw [if_pos c3]; rfl
        · rw [neI c1, neI c2, neI c3] at hw
          cases hw
end
end Go.Proofs.YtklenhohljeacaaDoor.Ex
