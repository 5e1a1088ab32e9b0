import Derived.Test.YtoehlmiadiiimaaGreatDoorMemY3
/-
  Words: a word made of an instruction is read as it, in plain numbers.
-/
namespace Go.Proofs.YtoehlmiadiiimaaGreatDoor
open Go.ChangeShapes Go.WideShapes Go.RowKit Go.Proofs.YtoehlmiadiiimaaGreatDoor.Ex

/-- A number's bits, laid at places. -/
def scatN : List Nat → Nat → Nat
  | [], _ => 0
  | p :: ps, v => (v % 2) <<< p ||| scatN ps (v / 2)
/-- The bits at places, as a number. -/
def gatN : List Nat → Nat → Nat
  | [], _ => 0
  | p :: ps, w => (w / 2 ^ p) % 2 + 2 * gatN ps w
theorem bit_mod2 (v k : Nat) : (v % 2).testBit k = (decide (k = 0) && v.testBit 0) := by
  have h := Nat.testBit_mod_two_pow v 1 k
  rw [Nat.pow_one] at h
  rw [h]
  cases k with
  | zero => simp
  | succ k => simp
theorem scatN_out : ∀ (ps : List Nat) (v k : Nat), k ∉ ps → (scatN ps v).testBit k = false
  | [], v, k, _ => by simp [scatN]
  | p :: ps, v, k, h => by
    have h1 : k ≠ p := fun e => h (by simp [e])
    have h2 : k ∉ ps := fun e => h (by simp [e])
    rw [scatN, Nat.testBit_or, scatN_out ps _ k h2, Nat.testBit_shiftLeft, bit_mod2]
    have : ¬ (p ≤ k ∧ k - p = 0) := by omega
    by_cases hp : p ≤ k
    · have : k - p ≠ 0 := by omega
      simp [this]
    · simp [hp]
theorem scatN_in : ∀ (ps : List Nat), ps.Nodup → ∀ (v i k : Nat), ps[i]? = some k → (scatN ps v).testBit k = v.testBit i
  | [], _, v, i, k, h => by simp at h
  | p :: ps, hn, v, i, k, h => by
    obtain ⟨h1, h2⟩ := List.nodup_cons.1 hn
    cases i with
    | zero =>
      have e : p = k := by simpa using h
      subst e
      rw [scatN, Nat.testBit_or, scatN_out ps _ p h1, Nat.testBit_shiftLeft, bit_mod2]
      simp
    | succ i =>
      have h' : ps[i]? = some k := by simpa using h
      have hk : k ∈ ps := List.mem_of_getElem? h'
      have hne : k ≠ p := fun e => h1 (e ▸ hk)
      rw [scatN, Nat.testBit_or, scatN_in ps h2 (v / 2) i k h', Nat.testBit_shiftLeft, bit_mod2, Nat.testBit_div_two]
      by_cases hp : p ≤ k
      · have : k - p ≠ 0 := by omega
        simp [this]
      · simp [hp]
theorem bit_div (w p : Nat) : (w / 2 ^ p) % 2 = (w.testBit p).toNat := by
  rw [Nat.toNat_testBit]
theorem gatN_eq : ∀ (ps : List Nat) (w v : Nat), (∀ i k, ps[i]? = some k → w.testBit k = v.testBit i) → gatN ps w = v % 2 ^ ps.length
  | [], w, v, _ => by simp [gatN, Nat.mod_one]
  | p :: ps, w, v, h => by
    have h0 : w.testBit p = v.testBit 0 := h 0 p rfl
    have ih := gatN_eq ps w (v / 2) fun i k hk => by rw [Nat.testBit_div_two]; exact h (i + 1) k (by simpa using hk)
    rw [gatN, ih, bit_div, h0, ← bit_div, Nat.pow_zero, Nat.div_one, List.length_cons, Nat.pow_succ, Nat.mul_comm (2 ^ ps.length) 2, Nat.mod_mul]

/-- The word of an instruction: registers, and the bits of its number. -/
def wordN (op d s t v : Nat) : Nat := (((baseB op ||| d <<< 7) ||| s <<< 15) ||| t <<< 20) ||| scatN (placesF (formB op)) v
/-- What is known of all operations' fields, bit by bit. -/
def factO (op : Nat) : Bool :=
  let f := formB op
  Nat.blt (baseB op) 4294967296 && (Nat.blt (maskF f) 4294967296 && (decide (placesF f).Nodup && ((placesF f).all (fun p => Nat.blt p 32) && (List.range 32).all fun k =>
    let m := (maskF f).testBit k
    let b := (baseB op).testBit k
    let p := (placesF f).contains k
    let D := (regsF f).1 && (Nat.ble 7 k && Nat.blt k 12)
    let S := (regsF f).2.1 && (Nat.ble 15 k && Nat.blt k 20)
    let T := (regsF f).2.2 && (Nat.ble 20 k && Nat.blt k 25)
    (m || !b) && ((!m || (!p && (!D && (!S && !T)))) && (!p || (!D && (!S && !T))) && ((!D || !m) && ((!S || !m) && (!T || !m)))))))
theorem facts_all : ((List.range 94).all fun o => factO (o + 1)) = true := by kernel_rfl
structure FactO (op : Nat) : Prop where
  base : baseB op < 4294967296
  mask : maskF (formB op) < 4294967296
  nodup : (placesF (formB op)).Nodup
  lt : ∀ p ∈ placesF (formB op), p < 32
  b0 : ∀ k, k < 32 → (maskF (formB op)).testBit k = false → (baseB op).testBit k = false
  m1 : ∀ k, k < 32 → (maskF (formB op)).testBit k = true → k ∉ placesF (formB op) ∧ ((regsF (formB op)).1 = true → ¬ (7 ≤ k ∧ k < 12)) ∧ ((regsF (formB op)).2.1 = true → ¬ (15 ≤ k ∧ k < 20)) ∧ ((regsF (formB op)).2.2 = true → ¬ (20 ≤ k ∧ k < 25))
  p1 : ∀ k ∈ placesF (formB op), ((regsF (formB op)).1 = true → ¬ (7 ≤ k ∧ k < 12)) ∧ ((regsF (formB op)).2.1 = true → ¬ (15 ≤ k ∧ k < 20)) ∧ ((regsF (formB op)).2.2 = true → ¬ (20 ≤ k ∧ k < 25))
theorem fact_of (op : Nat) (h1 : 1 ≤ op) (h2 : op ≤ 94) : FactO op := by
  have h := List.all_eq_true.1 facts_all (op - 1) (List.mem_range.2 (by omega))
  rw [Nat.sub_add_cancel h1] at h
  unfold factO at h
  simp only [Bool.and_eq_true, List.all_eq_true, List.mem_range, decide_eq_true_eq, Nat.blt_eq, Bool.or_eq_true, Bool.not_eq_true', Bool.and_eq_false_iff] at h
  obtain ⟨hb, hm, hn, hl, hk⟩ := h
  have key : ∀ (c : Bool) (a b k : Nat), (c = false ∨ Nat.ble a k = false ∨ Nat.blt k b = false) → c = true → ¬ (a ≤ k ∧ k < b) := by
    intro c a b k hc hct hab
    rcases hc with h | h | h
    · rw [hct] at h; cases h
    · rw [Nat.ble_eq_true_of_le hab.1] at h; cases h
    · rw [show Nat.blt k b = true from by simpa using hab.2] at h; cases h
  refine ⟨hb, hm, hn, hl, fun k hk32 hmk => ?_, fun k hk32 hmk => ?_, fun k hkp => ?_⟩
  · rcases (hk k hk32).1 with h | h
    · rw [hmk] at h; cases h
    · exact h
  · rcases (hk k hk32).2.1.1 with h | h
    · rw [hmk] at h; cases h
    · refine ⟨fun hc => ?_, key _ _ _ k h.2.1, key _ _ _ k h.2.2.1, key _ _ _ k h.2.2.2⟩
      rw [List.contains_iff_mem.2 hc] at h
      cases h.1
  · rcases (hk k (hl k hkp)).2.1.2 with h | h
    · rw [List.contains_iff_mem.2 hkp] at h; cases h
    · exact ⟨key _ _ _ k h.1, key _ _ _ k h.2.1, key _ _ _ k h.2.2⟩
/-- Registers as a form has them. -/
structure RegsOK (f d s t : Nat) : Prop where
  d1 : d < 32
  s1 : s < 32
  t1 : t < 32
  d0 : (regsF f).1 = false → d = 0
  s0 : (regsF f).2.1 = false → s = 0
  t0 : (regsF f).2.2 = false → t = 0
theorem reg_bit (x at_ k : Nat) (hx : x < 32) : (x <<< at_).testBit k = (decide (at_ ≤ k ∧ k < at_ + 5) && x.testBit (k - at_)) := by
  rw [Nat.testBit_shiftLeft]
  by_cases h1 : at_ ≤ k
  · by_cases h2 : k < at_ + 5
    · simp [h1, h2]
    · have : x.testBit (k - at_) = false := Nat.testBit_lt_two_pow (Nat.lt_of_lt_of_le hx (Nat.pow_le_pow_right (by decide : 0 < 2) (by omega : 5 ≤ k - at_)))
      simp [this]
  · simp [h1]
section
variable {op d s t v : Nat}
theorem word_bit (h : RegsOK (formB op) d s t) (k : Nat) : (wordN op d s t v).testBit k = ((((((baseB op).testBit k || (decide (7 ≤ k ∧ k < 7 + 5) && d.testBit (k - 7))) || (decide (15 ≤ k ∧ k < 15 + 5) && s.testBit (k - 15))) || (decide (20 ≤ k ∧ k < 20 + 5) && t.testBit (k - 20)))) || (scatN (placesF (formB op)) v).testBit k) := by
  unfold wordN
  rw [Nat.testBit_or, Nat.testBit_or, Nat.testBit_or, Nat.testBit_or, reg_bit _ _ _ h.d1, reg_bit _ _ _ h.s1, reg_bit _ _ _ h.t1]
theorem no_reg {b : Bool} {x at_ k : Nat} (h0 : b = false → x = 0) (h1 : b = true → ¬ (at_ ≤ k ∧ k < at_ + 5)) : (decide (at_ ≤ k ∧ k < at_ + 5) && x.testBit (k - at_)) = false := by
  cases b with
  | false => rw [h0 rfl]; simp
  | true => simp [h1 rfl]
theorem word_lt (h1 : 1 ≤ op) (h2 : op ≤ 94) (h : RegsOK (formB op) d s t) : wordN op d s t v < 4294967296 := by
  have F := fact_of op h1 h2
  refine Nat.lt_pow_two_of_testBit (n := 32) _ fun k hk => ?_
  rw [word_bit h k, scatN_out _ _ _ (fun hm => by have := F.lt k hm; omega)]
  have hb : (baseB op).testBit k = false := Nat.testBit_lt_two_pow (Nat.lt_of_lt_of_le F.base (Nat.pow_le_pow_right (by omega) hk : 2 ^ 32 ≤ 2 ^ k))
  have e1 : decide (7 ≤ k ∧ k < 7 + 5) = false := by simp; omega
  have e2 : decide (15 ≤ k ∧ k < 15 + 5) = false := by simp; omega
  have e3 : decide (20 ≤ k ∧ k < 20 + 5) = false := by simp; omega
  rw [hb, e1, e2, e3]
  rfl
theorem word_mask (h1 : 1 ≤ op) (h2 : op ≤ 94) (h : RegsOK (formB op) d s t) : wordN op d s t v &&& maskF (formB op) = baseB op := by
  have F := fact_of op h1 h2
  refine Nat.eq_of_testBit_eq fun k => ?_
  rw [Nat.testBit_and]
  rcases Nat.lt_or_ge k 32 with hk | hk
  · cases hm : (maskF (formB op)).testBit k with
    | false => rw [F.b0 k hk hm]; simp
    | true =>
      obtain ⟨m1, m2, m3, m4⟩ := F.m1 k hk hm
      rw [word_bit h k, scatN_out _ _ _ m1, no_reg h.d0 m2, no_reg h.s0 m3, no_reg h.t0 m4]
      simp
  · have hb : (baseB op).testBit k = false := Nat.testBit_lt_two_pow (Nat.lt_of_lt_of_le F.base (Nat.pow_le_pow_right (by omega) hk : 2 ^ 32 ≤ 2 ^ k))
    have hm : (maskF (formB op)).testBit k = false := Nat.testBit_lt_two_pow (Nat.lt_of_lt_of_le F.mask (Nat.pow_le_pow_right (by omega) hk : 2 ^ 32 ≤ 2 ^ k))
    rw [hb, hm, Bool.and_false]
theorem word_d (h1 : 1 ≤ op) (h2 : op ≤ 94) (h : RegsOK (formB op) d s t) : regW (regsF (formB op)).1 7 (wordN op d s t v) = d := by
  have F := fact_of op h1 h2
  cases hd : (regsF (formB op)).1 with
  | false => rw [h.d0 hd]; rfl
  | true =>
    show wordN op d s t v / 2 ^ 7 % 2 ^ 5 = d
    refine Nat.eq_of_testBit_eq fun k => ?_
    rw [Nat.testBit_mod_two_pow, Nat.testBit_div_two_pow]
    rcases Nat.lt_or_ge k 5 with hk | hk
    · have hm : (maskF (formB op)).testBit (k + 7) = false := by
        cases hm : (maskF (formB op)).testBit (k + 7) with
        | false => rfl
        | true => exact absurd ⟨by omega, by omega⟩ ((F.m1 _ (by omega) hm).2.1 hd)
      have hp : k + 7 ∉ placesF (formB op) := fun hp => (F.p1 _ hp).1 hd ⟨by omega, by omega⟩
      have e1 : decide (7 ≤ k + 7 ∧ k + 7 < 7 + 5) = true := by simp; omega
      have e2 : decide (15 ≤ k + 7 ∧ k + 7 < 15 + 5) = false := by simp; omega
      have e3 : decide (20 ≤ k + 7 ∧ k + 7 < 20 + 5) = false := by simp; omega
      rw [word_bit h, scatN_out _ _ _ hp, F.b0 _ (by omega) hm, e1, e2, e3]
      simp [hk]
    · have : d.testBit k = false := Nat.testBit_lt_two_pow (Nat.lt_of_lt_of_le h.d1 (Nat.pow_le_pow_right (by omega) hk : 2 ^ 5 ≤ 2 ^ k))
      rw [this]
      simp; omega
theorem word_s (h1 : 1 ≤ op) (h2 : op ≤ 94) (h : RegsOK (formB op) d s t) : regW (regsF (formB op)).2.1 15 (wordN op d s t v) = s := by
  have F := fact_of op h1 h2
  cases hd : (regsF (formB op)).2.1 with
  | false => rw [h.s0 hd]; rfl
  | true =>
    show wordN op d s t v / 2 ^ 15 % 2 ^ 5 = s
    refine Nat.eq_of_testBit_eq fun k => ?_
    rw [Nat.testBit_mod_two_pow, Nat.testBit_div_two_pow]
    rcases Nat.lt_or_ge k 5 with hk | hk
    · have hm : (maskF (formB op)).testBit (k + 15) = false := by
        cases hm : (maskF (formB op)).testBit (k + 15) with
        | false => rfl
        | true => exact absurd ⟨by omega, by omega⟩ ((F.m1 _ (by omega) hm).2.2.1 hd)
      have hp : k + 15 ∉ placesF (formB op) := fun hp => (F.p1 _ hp).2.1 hd ⟨by omega, by omega⟩
      have e1 : decide (7 ≤ k + 15 ∧ k + 15 < 7 + 5) = false := by simp
      have e2 : decide (15 ≤ k + 15 ∧ k + 15 < 15 + 5) = true := by simp; omega
      have e3 : decide (20 ≤ k + 15 ∧ k + 15 < 20 + 5) = false := by simp; omega
      rw [word_bit h, scatN_out _ _ _ hp, F.b0 _ (by omega) hm, e1, e2, e3]
      simp [hk]
    · have : s.testBit k = false := Nat.testBit_lt_two_pow (Nat.lt_of_lt_of_le h.s1 (Nat.pow_le_pow_right (by omega) hk : 2 ^ 5 ≤ 2 ^ k))
      rw [this]
      simp; omega
theorem word_t (h1 : 1 ≤ op) (h2 : op ≤ 94) (h : RegsOK (formB op) d s t) : regW (regsF (formB op)).2.2 20 (wordN op d s t v) = t := by
  have F := fact_of op h1 h2
  cases hd : (regsF (formB op)).2.2 with
  | false => rw [h.t0 hd]; rfl
  | true =>
    show wordN op d s t v / 2 ^ 20 % 2 ^ 5 = t
    refine Nat.eq_of_testBit_eq fun k => ?_
    rw [Nat.testBit_mod_two_pow, Nat.testBit_div_two_pow]
    rcases Nat.lt_or_ge k 5 with hk | hk
    · have hm : (maskF (formB op)).testBit (k + 20) = false := by
        cases hm : (maskF (formB op)).testBit (k + 20) with
        | false => rfl
        | true => exact absurd ⟨by omega, by omega⟩ ((F.m1 _ (by omega) hm).2.2.2 hd)
      have hp : k + 20 ∉ placesF (formB op) := fun hp => (F.p1 _ hp).2.2 hd ⟨by omega, by omega⟩
      have e1 : decide (7 ≤ k + 20 ∧ k + 20 < 7 + 5) = false := by simp
      have e2 : decide (15 ≤ k + 20 ∧ k + 20 < 15 + 5) = false := by simp
      have e3 : decide (20 ≤ k + 20 ∧ k + 20 < 20 + 5) = true := by simp; omega
      rw [word_bit h, scatN_out _ _ _ hp, F.b0 _ (by omega) hm, e1, e2, e3]
      simp [hk]
    · have : t.testBit k = false := Nat.testBit_lt_two_pow (Nat.lt_of_lt_of_le h.t1 (Nat.pow_le_pow_right (by omega) hk : 2 ^ 5 ≤ 2 ^ k))
      rw [this]
      simp; omega
theorem word_gat (h1 : 1 ≤ op) (h2 : op ≤ 94) (h : RegsOK (formB op) d s t) : gatN (placesF (formB op)) (wordN op d s t v) = v % 2 ^ (placesF (formB op)).length := by
  have F := fact_of op h1 h2
  refine gatN_eq _ _ _ fun i k hk => ?_
  have hkp : k ∈ placesF (formB op) := List.mem_of_getElem? hk
  obtain ⟨p1, p2, p3⟩ := F.p1 k hkp
  have hm : (maskF (formB op)).testBit k = false := by
    cases hm : (maskF (formB op)).testBit k with
    | false => rfl
    | true => exact absurd hkp (F.m1 _ (F.lt k hkp) hm).1
  rw [word_bit h, scatN_in _ F.nodup v i k hk, F.b0 _ (F.lt k hkp) hm, no_reg h.d0 p1, no_reg h.s0 p2, no_reg h.t0 p3]
  simp
/-- Two operations' words are others. -/
def apartO (a b : Nat) : Bool := !((baseB b &&& maskF (formB a)) == (baseB a &&& maskF (formB b)))
theorem apart_all : ((List.range 94).all fun b => (List.range b).all fun a => apartO (a + 1) (b + 1)) = true := by kernel_rfl
theorem matchO_nat (a w : Nat) (hw : w < 4294967296) (hm : maskF (formB a) < 4294967296) : matchO a w = ((w &&& maskF (formB a)) == baseB a) := by
  unfold matchO
  rw [show bits .and .u32 (w : Int) (maskF (formB a) : Int) = ((w &&& maskF (formB a) : Nat) : Int) from and_nat .u32 w _ (by show w ≤ 4294967295; omega) (by show _ ≤ 4294967295; omega)]
  cases h : ((w &&& maskF (formB a)) == baseB a) with
  | true => rw [beq_iff_eq] at h; rw [h]; simp
  | false => rw [beq_eq_false_iff_ne] at h ⊢; omega
theorem match_word (h1 : 1 ≤ op) (h2 : op ≤ 94) (h : RegsOK (formB op) d s t) : matchO op (wordN op d s t v) = true := by
  rw [matchO_nat _ _ (word_lt h1 h2 h) (fact_of op h1 h2).mask, word_mask h1 h2 h]
  simp
theorem no_match (h1 : 1 ≤ op) (h2 : op ≤ 94) (h : RegsOK (formB op) d s t) {a : Nat} (ha : 1 ≤ a) (hlt : a < op) : matchO a (wordN op d s t v) = false := by
  rw [matchO_nat _ _ (word_lt h1 h2 h) (fact_of a ha (by omega)).mask]
  rw [beq_eq_false_iff_ne]
  intro he
  have hA := List.all_eq_true.1 (List.all_eq_true.1 apart_all (op - 1) (List.mem_range.2 (by omega))) (a - 1) (List.mem_range.2 (by omega))
  rw [Nat.sub_add_cancel h1, Nat.sub_add_cancel ha] at hA
  unfold apartO at hA
  rw [Bool.not_eq_true', beq_eq_false_iff_ne] at hA
  apply hA
  rw [← he, ← word_mask (v := v) h1 h2 h, Nat.and_assoc, Nat.and_assoc, Nat.and_comm (maskF (formB op))]
theorem dec_from (h1 : 1 ≤ op) (h2 : op ≤ 94) (h : RegsOK (formB op) d s t) : ∀ f k, k + f = 94 → k < op → decFrom (wordN op d s t v) f k = (fieldsI op (formB op) (wordN op d s t v), 0)
  | 0, k, hk, hlt => by omega
  | f + 1, k, hk, hlt => by
    rw [decFrom]
    rcases Nat.lt_or_ge (k + 1) op with hl | hl
    · rw [no_match h1 h2 h (by omega) hl]
      exact dec_from h1 h2 h f (k + 1) (by omega) hl
    · have e : k + 1 = op := by omega
      rw [e, match_word h1 h2 h]
theorem dec_word (h1 : 1 ≤ op) (h2 : op ≤ 94) (h : RegsOK (formB op) d s t) : decR (wordN op d s t v) = (⟨op, d, s, t, immW op (wordN op d s t v) (formB op)⟩, 0) := by
  rw [decR, dec_from h1 h2 h 94 0 rfl (by omega)]
  unfold fieldsI
  rw [word_d h1 h2 h, word_s h1 h2 h, word_t h1 h2 h]
end
end Go.Proofs.YtoehlmiadiiimaaGreatDoor

/-
  Words: the number of a word made of an instruction is the instruction's.
-/
namespace Go.Proofs.YtoehlmiadiiimaaGreatDoor
open Go.ChangeShapes Go.WideShapes Go.RowKit Go.Proofs.YtoehlmiadiiimaaGreatDoor.Ex

theorem gW_ev (op w : Nat) (hw : w < 4294967296) : ∀ (ps : List Nat) (i : Nat) (acc : SE) (a : Nat), (∀ p ∈ ps, p < 32) → i + ps.length ≤ 31 → acc.ev (ηW op w) φW = (a : Int) → a < 2 ^ i → (gW ps i acc).ev (ηW op w) φW = ((a + 2 ^ i * gatN ps w : Nat) : Int)
  | [], i, acc, a, _, _, ha, _ => by simpa [gW, gatN] using ha
  | p :: ps, i, acc, a, hp, hl, ha, hlt => by
    simp only [List.length_cons] at hl
    have h31 : 2 ^ (i + 1) ≤ 2 ^ 31 := Nat.pow_le_pow_right (by omega) (by omega)
    have hpow : 2 ^ (i + 1) = 2 ^ i * 2 := Nat.pow_succ 2 i
    have hp32 := hp p List.mem_cons_self
    have hb : (w / 2 ^ p) % 2 < 2 := Nat.mod_lt _ (by omega)
    generalize hbb : (w / 2 ^ p) % 2 = b at hb
    have hdiv : w / 2 ^ p ≤ w := Nat.div_le_self _ _
    have e1 : (SE.bin .and .u32 (.bin .shr .u32 (.var 0) (.lit (Int.ofNat p))) (.lit 1)).ev (ηW op w) φW = (b : Int) := by
      rw [ev_bin, ev_bin]
      show ibin .and .u32 (ibin .shr .u32 (w : Int) (Int.ofNat p)) 1 = _
      rw [shr_u32 w p (by omega)]
      refine (and_nat .u32 (w / 2 ^ p) 1 (by show _ ≤ 4294967295; omega) (by decide)).trans ?_
      rw [show Nat.land (w / 2 ^ p) 1 = w / 2 ^ p % 2 from Nat.and_one_is_mod _, hbb]
    have hbi : b * 2 ^ i ≤ 2 ^ i := by
      have : b * 2 ^ i ≤ 1 * 2 ^ i := Nat.mul_le_mul_right _ (by omega)
      omega
    have e2 : (SE.bin .shl .u32 (.bin .and .u32 (.bin .shr .u32 (.var 0) (.lit (Int.ofNat p))) (.lit 1)) (.lit (Int.ofNat i))).ev (ηW op w) φW = ((b * 2 ^ i : Nat) : Int) := by
      rw [ev_bin, e1]
      exact shl_nat b i (by omega) (by show _ ≤ 4294967295; omega)
    have e3 : (SE.bin .or .u32 acc (.bin .shl .u32 (.bin .and .u32 (.bin .shr .u32 (.var 0) (.lit (Int.ofNat p))) (.lit 1)) (.lit (Int.ofNat i)))).ev (ηW op w) φW = ((a + 2 ^ i * b : Nat) : Int) := by
      rw [ev_bin, ha, e2, or_nat .u32 _ _ (by show _ ≤ 4294967295; omega) (by show _ ≤ 4294967295; omega)]
      have : Nat.lor a (b * 2 ^ i) = a + 2 ^ i * b := by
        show a ||| b * 2 ^ i = _
        rw [Nat.mul_comm b, Nat.or_comm, ← Nat.two_pow_add_eq_or_of_lt hlt]; omega
      rw [this]
    have hlt2 : a + 2 ^ i * b < 2 ^ (i + 1) := by rw [Nat.mul_comm]; omega
    have ih := gW_ev op w hw ps (i + 1) _ _ (fun q hq => hp q (List.mem_cons_of_mem _ hq)) (by omega) e3 hlt2
    rw [gW, ih, gatN, hbb]
    congr 1
    rw [hpow, Nat.mul_add, Nat.mul_assoc]; omega
theorem places_bd (f : Nat) (hf : f ∈ formsAll) : (∀ p ∈ placesF f, p < 32) ∧ (placesF f).length ≤ 20 := by
  have h : (formsAll.all fun f => (placesF f).all (fun p => decide (p < 32)) && decide ((placesF f).length ≤ 20)) = true := by decide
  have := List.all_eq_true.1 h f hf
  simp only [Bool.and_eq_true, List.all_eq_true, decide_eq_true_eq] at this
  exact this
theorem gat_ev (op w f : Nat) (hf : f ∈ formsAll) (hw : w < 4294967296) : (gW (placesF f) 0 (.lit 0)).ev (ηW op w) φW = ((gatN (placesF f) w : Nat) : Int) := by
  obtain ⟨h1, h2⟩ := places_bd f hf
  have := gW_ev op w hw (placesF f) 0 (.lit 0) 0 h1 (by omega) rfl (by omega)
  simpa using this
theorem low_bits (V n : Nat) (hn : n ≤ 32) (hV : V < 2 ^ n) : V &&& (4294967295 - (2 ^ n - 1)) = 0 := by
  have h32 : 2 ^ n * 2 ^ (32 - n) = 4294967296 := by rw [← Nat.pow_add, Nat.add_sub_cancel' hn]
  have hp := Nat.two_pow_pos (32 - n)
  have e : 4294967295 - (2 ^ n - 1) = 2 ^ n * (2 ^ (32 - n) - 1) := by
    rw [Nat.mul_sub, h32]
    have := Nat.two_pow_pos n
    omega
  refine Nat.eq_of_testBit_eq fun k => ?_
  rw [Nat.testBit_and, e, Nat.testBit_two_pow_mul, Nat.zero_testBit]
  rcases Nat.lt_or_ge k n with hk | hk
  · simp; omega
  · rw [Nat.testBit_lt_two_pow (Nat.lt_of_lt_of_le hV (Nat.pow_le_pow_right (by omega) hk))]; rfl
theorem sign_ev12 (e : SE) (η : Nat → Int) (φ : Nat → List Int → Int) (V : Nat) (hV : V < 4096) (h : e.ev η φ = (V : Int)) : (signE e 12).ev η φ = if V < 2048 then (V : Int) else (V : Int) - 4096 := by
  unfold signE
  rw [ev_wrap, ev_bin, ev_wrap, ev_bin, h]
  have e1 : ibin .shl .u32 (V : Int) ((SE.lit (Int.ofNat (32 - 12))).ev η φ) = ((V * 2 ^ 20 : Nat) : Int) := shl_nat V 20 (by omega) (by show _ ≤ 4294967295; omega)
  rw [e1]
  have e2 : ∀ x : Int, ibin .shr .i32 x ((SE.lit (Int.ofNat (32 - 12))).ev η φ) = x / 1048576 := fun x => by
    show x.fdiv (2 ^ 20) = _
    rw [Int.fdiv_eq_ediv_of_nonneg _ (by decide)]
    rfl
  rw [e2, IntKind.wrap_i32, IntKind.wrap_i64]
  split <;> omega
theorem sign_ev20 (e : SE) (η : Nat → Int) (φ : Nat → List Int → Int) (V : Nat) (hV : V < 1048576) (h : e.ev η φ = (V : Int)) : (signE e 20).ev η φ = if V < 524288 then (V : Int) else (V : Int) - 1048576 := by
  unfold signE
  rw [ev_wrap, ev_bin, ev_wrap, ev_bin, h]
  have e1 : ibin .shl .u32 (V : Int) ((SE.lit (Int.ofNat (32 - 20))).ev η φ) = ((V * 2 ^ 12 : Nat) : Int) := shl_nat V 12 (by omega) (by show _ ≤ 4294967295; omega)
  rw [e1]
  have e2 : ∀ x : Int, ibin .shr .i32 x ((SE.lit (Int.ofNat (32 - 20))).ev η φ) = x / 4096 := fun x => by
    show x.fdiv (2 ^ 12) = _
    rw [Int.fdiv_eq_ediv_of_nonneg _ (by decide)]
    rfl
  rw [e2, IntKind.wrap_i32, IntKind.wrap_i64]
  split <;> omega
/-- The bits that are laid for a number. -/
def vN (f : Nat) (m : Int) : Nat := ((match kindF f with | 2 => m / 2 | _ => m) % 2 ^ (placesF f).length).toNat
theorem immW_leaf (op w f : Nat) (h : (fieldsTr f).at (ηW op w) φW = some (leafE f (immE f))) : immW op w f = (match immE f with | .int _ n => n | .sint _ e => e.ev (ηW op w) φW | _ => 0) := by
  unfold immW
  rw [h]
  unfold leafE
  cases immE f <;> rfl
theorem fields_leaf (op w f : Nat) (hf : f ∈ formsAll) (hw : w < 4294967296) (hlt : gatN (placesF f) w < 2 ^ (placesF f).length) : (fieldsTr f).at (ηW op w) φW = some (leafE f (immE f)) := by
  unfold fieldsTr
  split
  · rfl
  · rw [at_eq, ev_bin, gat_ev op w f hf hw]
    have hl := (places_bd f hf).2
    have h20 : 2 ^ (placesF f).length ≤ 2 ^ 20 := Nat.pow_le_pow_right (by omega) hl
    have h0 : ibin .andNot .u32 ((gatN (placesF f) w : Nat) : Int) ((2 ^ (placesF f).length - 1 : Nat) : Int) = 0 := by
      refine (u32_andNot_nat _ _ (by omega) (by omega)).trans ?_
      rw [low_bits _ _ (by omega) hlt]
      rfl
    exact if_pos h0
theorem imm_word (f : Nat) (hf : f ∈ formsAll) (op w : Nat) (hw : w < 4294967296) (m : Int) (hm : numI f m = true) (hg : gatN (placesF f) w = vN f m % 2 ^ (placesF f).length) : immW op w f = m := by
  have hlt : gatN (placesF f) w < 2 ^ (placesF f).length := by rw [hg]; exact Nat.mod_lt _ (Nat.two_pow_pos _)
  rw [immW_leaf op w f (fields_leaf op w f hf hw hlt)]
  have hv := gat_ev op w f hf hw
  rw [hg] at hv
  clear hg hlt
  unfold numI inI at hm
  simp only [formsAll, List.mem_cons, List.not_mem_nil, or_false] at hf
  have w64 : ∀ V : Nat, V < 9223372036854775808 → IntKind.i64.wrap (V : Int) = V := fun V h => by rw [IntKind.wrap_i64]; omega
  rcases hf with rfl | rfl | rfl | rfl | rfl | rfl | rfl | rfl | rfl | rfl | rfl | rfl | rfl | rfl | rfl
  all_goals simp only [shapeL, Bool.and_eq_true, decide_eq_true_eq, beq_iff_eq] at hm
  · have hv' : (gW (placesF 85) 0 (.lit 0)).ev (ηW op w) φW = m := by rw [hv]; show ((((m % 1048576).toNat % 1048576 : Nat)) : Int) = m; omega
    show IntKind.i64.wrap ((gW (placesF 85) 0 (.lit 0)).ev (ηW op w) φW) = m
    rw [hv', IntKind.wrap_i64]; omega
  · have := sign_ev20 _ _ _ _ (by show (((m / 2) % 1048576).toNat % 1048576) < 1048576; omega) hv
    show ibin .mul .i64 2 ((signE (gW (placesF 74) 0 (.lit 0)) 20).ev (ηW op w) φW) = m
    rw [this]
    show IntKind.i64.wrap (2 * (if (((m / 2) % 1048576).toNat % 1048576) < 524288 then ((((m / 2) % 1048576).toNat % 1048576 : Nat) : Int) else ((((m / 2) % 1048576).toNat % 1048576 : Nat) : Int) - 1048576)) = m
    rw [IntKind.wrap_i64]
    split <;> omega
  · have := sign_ev12 _ _ _ _ (by show (((m / 2) % 4096).toNat % 4096) < 4096; omega) hv
    show ibin .mul .i64 2 ((signE (gW (placesF 66) 0 (.lit 0)) 12).ev (ηW op w) φW) = m
    rw [this]
    show IntKind.i64.wrap (2 * (if (((m / 2) % 4096).toNat % 4096) < 2048 then ((((m / 2) % 4096).toNat % 4096 : Nat) : Int) else ((((m / 2) % 4096).toNat % 4096 : Nat) : Int) - 4096)) = m
    rw [IntKind.wrap_i64]
    split <;> omega
  · have := sign_ev12 _ _ _ _ (by show ((m % 4096).toNat % 4096) < 4096; omega) hv
    show (signE (gW (placesF 76) 0 (.lit 0)) 12).ev (ηW op w) φW = m
    rw [this]
    show (if ((m % 4096).toNat % 4096) < 2048 then (((m % 4096).toNat % 4096 : Nat) : Int) else (((m % 4096).toNat % 4096 : Nat) : Int) - 4096) = m
    split <;> omega
  · have := sign_ev12 _ _ _ _ (by show ((m % 4096).toNat % 4096) < 4096; omega) hv
    show (signE (gW (placesF 83) 0 (.lit 0)) 12).ev (ηW op w) φW = m
    rw [this]
    show (if ((m % 4096).toNat % 4096) < 2048 then (((m % 4096).toNat % 4096 : Nat) : Int) else (((m % 4096).toNat % 4096 : Nat) : Int) - 4096) = m
    split <;> omega
  · have := sign_ev12 _ _ _ _ (by show ((m % 4096).toNat % 4096) < 4096; omega) hv
    show (signE (gW (placesF 73) 0 (.lit 0)) 12).ev (ηW op w) φW = m
    rw [this]
    show (if ((m % 4096).toNat % 4096) < 2048 then (((m % 4096).toNat % 4096 : Nat) : Int) else (((m % 4096).toNat % 4096 : Nat) : Int) - 4096) = m
    split <;> omega
  · have hv' : (gW (placesF 54) 0 (.lit 0)).ev (ηW op w) φW = m := by rw [hv]; show ((((m % 64).toNat % 64 : Nat)) : Int) = m; omega
    show IntKind.i64.wrap ((gW (placesF 54) 0 (.lit 0)).ev (ηW op w) φW) = m
    rw [hv', IntKind.wrap_i64]; omega
  · have hv' : (gW (placesF 53) 0 (.lit 0)).ev (ηW op w) φW = m := by rw [hv]; show ((((m % 32).toNat % 32 : Nat)) : Int) = m; omega
    show IntKind.i64.wrap ((gW (placesF 53) 0 (.lit 0)).ev (ηW op w) φW) = m
    rw [hv', IntKind.wrap_i64]; omega
  · show (0 : Int) = m; omega
  · have hv' : (gW (placesF 70) 0 (.lit 0)).ev (ηW op w) φW = m := by rw [hv]; show ((((m % 256).toNat % 256 : Nat)) : Int) = m; omega
    show IntKind.i64.wrap ((gW (placesF 70) 0 (.lit 0)).ev (ηW op w) φW) = m
    rw [hv', IntKind.wrap_i64]; omega
  · show (0 : Int) = m; omega
  · have hv' : (gW (placesF 67) 0 (.lit 0)).ev (ηW op w) φW = m := by rw [hv]; show ((((m % 4096).toNat % 4096 : Nat)) : Int) = m; omega
    show IntKind.i64.wrap ((gW (placesF 67) 0 (.lit 0)).ev (ηW op w) φW) = m
    rw [hv', IntKind.wrap_i64]; omega
  · have hv' : (gW (placesF 90) 0 (.lit 0)).ev (ηW op w) φW = m := by rw [hv]; show ((((m % 4096).toNat % 4096 : Nat)) : Int) = m; omega
    show IntKind.i64.wrap ((gW (placesF 90) 0 (.lit 0)).ev (ηW op w) φW) = m
    rw [hv', IntKind.wrap_i64]; omega
  · have hv' : (gW (placesF 108) 0 (.lit 0)).ev (ηW op w) φW = m := by rw [hv]; show ((((m % 4).toNat % 4 : Nat)) : Int) = m; omega
    show IntKind.i64.wrap ((gW (placesF 108) 0 (.lit 0)).ev (ηW op w) φW) = m
    rw [hv', IntKind.wrap_i64]; omega
  · have hv' : (gW (placesF 65) 0 (.lit 0)).ev (ηW op w) φW = m := by rw [hv]; show ((((m % 4).toNat % 4 : Nat)) : Int) = m; omega
    show IntKind.i64.wrap ((gW (placesF 65) 0 (.lit 0)).ev (ηW op w) φW) = m
    rw [hv', IntKind.wrap_i64]; omega
/-- The word of an instruction that may be is read as it. -/
theorem formI_B (op : Nat) (h1 : 1 ≤ op) (h2 : op ≤ 94) : formI (op : Int) = formB op := by
  have h : ((List.range 94).all fun o => Nat.beq (formI ((o + 1 : Nat) : Int)) (formB (o + 1))) = true := by kernel_rfl
  have := List.all_eq_true.1 h (op - 1) (List.mem_range.2 (by omega))
  rw [Nat.sub_add_cancel h1] at this
  exact Nat.eq_of_beq_eq_true this
theorem shapeF (f : Nat) (hf : f ∈ formsAll) : (shapeL f).d = (regsF f).1 ∧ (shapeL f).s = (regsF f).2.1 ∧ (shapeL f).t = (regsF f).2.2 := by
  simp only [formsAll, List.mem_cons, List.not_mem_nil, or_false] at hf
  rcases hf with rfl | rfl | rfl | rfl | rfl | rfl | rfl | rfl | rfl | rfl | rfl | rfl | rfl | rfl | rfl <;> exact ⟨rfl, rfl, rfl⟩
theorem word_back (op d s t : Nat) (m : Int) (h : mayI (op : Int) (d : Int) (s : Int) (t : Int) m = true) : RegsOK (formB op) d s t ∧ decR (wordN op d s t (vN (formB op) m)) = (⟨op, d, s, t, m⟩, 0) := by
  unfold mayI at h
  simp only [Bool.and_eq_true] at h
  obtain ⟨hk, hm⟩ := h
  unfold knownI at hk
  simp only [Bool.and_eq_true, decide_eq_true_eq] at hk
  have h1 : 1 ≤ op := by omega
  have h2 : op ≤ 94 := by omega
  have hf := formB_mem op h1 h2
  rw [formI_B op h1 h2, mayF_eq] at hm
  simp only [Bool.and_eq_true] at hm
  obtain ⟨hd, hs, ht, hn⟩ := hm
  obtain ⟨e1, e2, e3⟩ := shapeF _ hf
  rw [e1] at hd
  rw [e2] at hs
  rw [e3] at ht
  have rr : ∀ (b : Bool) (n : Nat), regI b (n : Int) = true → n < 32 ∧ (b = false → n = 0) := fun b n h => by
    have hb := reg_bd h
    refine ⟨by omega, fun hf => ?_⟩
    subst hf
    have : (n : Int) = 0 := by simpa [regI] using h
    omega
  have hR : RegsOK (formB op) d s t := ⟨(rr _ _ hd).1, (rr _ _ hs).1, (rr _ _ ht).1, (rr _ _ hd).2, (rr _ _ hs).2, (rr _ _ ht).2⟩
  refine ⟨hR, ?_⟩
  rw [dec_word h1 h2 hR, imm_word _ hf op _ (word_lt h1 h2 hR) m hn (word_gat h1 h2 hR)]
end Go.Proofs.YtoehlmiadiiimaaGreatDoor

/-
  Words: the program's Word: what it comes to, operation by operation, as a text.
-/
namespace Go.Proofs.YtoehlmiadiiimaaGreatDoor
open Go.ChangeShapes Go.WideShapes Go.RowKit Go.Proofs.YtoehlmiadiiimaaGreatDoor.Ex

/-- The bits that are laid, as a text. -/
def nT (f : Nat) : SE := .bin .and .u32 (.wrap .u32 (match kindF f with | 2 => .bin .shr .i64 (.var 3) (.lit 1) | _ => .var 3)) (.lit ((2 ^ (placesF f).length - 1 : Nat) : Int))
def headT (op : Nat) : SE := .bin .or .u32 (.bin .or .u32 (.bin .or .u32 (.lit (baseB op : Nat)) (.bin .shl .u32 (.wrap .u32 (.var 0)) (.lit 7))) (.bin .shl .u32 (.wrap .u32 (.var 1)) (.lit 15))) (.bin .shl .u32 (.wrap .u32 (.var 2)) (.lit 20))
def wordT (op : Nat) : SE := .bin .or .u32 (headT op) (scatT (nT (formB op)) (placesF (formB op)) 0 (.lit 0))
def eW (op : Nat) : SE := .pair (.lit (op : Nat)) (.pair (.var 0) (.pair (.var 1) (.pair (.var 2) (.var 3))))
def argW (op : Nat) : List AV := [.agg [.int .u8 (op : Nat), .sint .i64 (.var 0), .sint .i64 (.var 1), .sint .i64 (.var 2), .sint .i64 (.var 3)]]
def FW (op : Nat) : Fa := ⟨[(.bin .andNot .u32 (nT (formB op)) (.lit ((2 ^ (placesF (formB op)).length - 1 : Nat) : Int)), .lit 0, true), (.fn 12 (eW op), .lit 1, true)], [], []⟩
def orcW (F : Fa) : ACall := only 59 (@orcCheck F.dec)
theorem orcW_OK : OrcOK Tryz.prog 13 φ0 orcW := fun F _ h => @orcCheck_ok F.dec h.env Tryz.prog 13 59 rfl check
noncomputable def wordIn (op : Nat) (ts : Nat → TypeId) : Bool := (Tr.leaf (.tup [.sint .u32 (wordT op), .int .i64 0])).ok (runG Tryz.prog vars 13 orcW 10000 43 (argW op) ts) (FW op)
/-- an instruction that may not be -/
def FWn : Fa := ⟨[(.fn 12 eI, .lit 1, false)], opFacts, []⟩
noncomputable def wordNo (ts : Nat → TypeId) : Bool := (Tr.leaf (.tup [.int .u32 0, .int .i64 20])).ok (runG Tryz.prog vars 13 orcW 10000 43 [symI] ts) FWn
end Go.Proofs.YtoehlmiadiiimaaGreatDoor

/-
  Words: the program's Word, its runs (a).
-/
namespace Go.Proofs.YtoehlmiadiiimaaGreatDoor
open Go.Proofs.YtoehlmiadiiimaaGreatDoor.Ex
theorem words_a : (fun ts => (List.range' 1 25).all fun op => wordIn op ts) = fun _ => true := by kernel_rfl

end Go.Proofs.YtoehlmiadiiimaaGreatDoor

/-
  Words: the program's Word, its runs (b).
-/
namespace Go.Proofs.YtoehlmiadiiimaaGreatDoor
open Go.Proofs.YtoehlmiadiiimaaGreatDoor.Ex
theorem words_b : (fun ts => (List.range' 26 23).all fun op => wordIn op ts) = fun _ => true := by kernel_rfl

end Go.Proofs.YtoehlmiadiiimaaGreatDoor

/-
  Words: the program's Word, its runs (c).
-/
namespace Go.Proofs.YtoehlmiadiiimaaGreatDoor
open Go.Proofs.YtoehlmiadiiimaaGreatDoor.Ex
theorem words_c : (fun ts => (List.range' 49 23).all fun op => wordIn op ts) = fun _ => true := by kernel_rfl

end Go.Proofs.YtoehlmiadiiimaaGreatDoor

/-
  Words: the program's Word, its runs (d).
-/
namespace Go.Proofs.YtoehlmiadiiimaaGreatDoor
open Go.Proofs.YtoehlmiadiiimaaGreatDoor.Ex
theorem words_d : (fun ts => (List.range' 72 23).all fun op => wordIn op ts) = fun _ => true := by kernel_rfl
theorem words_no : (fun ts => wordNo ts) = fun _ => true := by kernel_rfl
end Go.Proofs.YtoehlmiadiiimaaGreatDoor

/-
  Words: the contract of the program's Word.
-/
namespace Go.Proofs.YtoehlmiadiiimaaGreatDoor
open Go.ChangeShapes Go.WideShapes Go.RowKit Go.Proofs.YtoehlmiadiiimaaGreatDoor.Ex

theorem words_all (op : Nat) (h1 : 1 ≤ op) (h2 : op ≤ 94) (ts : Nat → TypeId) : wordIn op ts = true := by
  have ha := congrFun words_a ts
  have hb := congrFun words_b ts
  have hc := congrFun words_c ts
  have hd := congrFun words_d ts
  by_cases l1 : op < 26
  · exact List.all_eq_true.1 ha op (List.mem_range'_1.2 (by omega))
  · by_cases l2 : op < 49
    · exact List.all_eq_true.1 hb op (List.mem_range'_1.2 (by omega))
    · by_cases l3 : op < 72
      · exact List.all_eq_true.1 hc op (List.mem_range'_1.2 (by omega))
      · exact List.all_eq_true.1 hd op (List.mem_range'_1.2 (by omega))
/-- Bits laid at places, as the program does it. -/
theorem sc_ev (η : Nat → Int) (φ : Nat → List Int → Int) (v : SE) (V : Nat) (hV : V < 4294967296) (hv : v.ev η φ = (V : Int)) : ∀ (ps : List Nat) (i : Nat) (acc : SE) (a : Nat), (∀ p ∈ ps, p < 32) → i + ps.length ≤ 32 → acc.ev η φ = (a : Int) → a < 4294967296 → (scatT v ps i acc).ev η φ = ((a ||| scatN ps (V / 2 ^ i) : Nat) : Int) ∧ (a ||| scatN ps (V / 2 ^ i)) < 4294967296
  | [], i, acc, a, _, _, ha, hb => by simpa [scatT, scatN] using ⟨ha, hb⟩
  | p :: ps, i, acc, a, hp, hl, ha, hb => by
    simp only [List.length_cons] at hl
    have hp32 := hp p List.mem_cons_self
    have hdiv : V / 2 ^ i ≤ V := Nat.div_le_self _ _
    have hbit : V / 2 ^ i % 2 < 2 := Nat.mod_lt _ (by omega)
    have hk : kmax .u32 = 4294967295 := rfl
    have e1 : (SE.bin .and .u32 (.bin .shr .u32 v (.lit (i : Nat))) (.lit 1)).ev η φ = ((V / 2 ^ i % 2 : Nat) : Int) := by
      rw [ev_bin, ev_bin, hv, ev_lit, ev_lit, shr_nat V i (by omega)]
      refine (and_nat .u32 (V / 2 ^ i) 1 (by omega) (by decide)).trans ?_
      rw [show Nat.land (V / 2 ^ i) 1 = V / 2 ^ i % 2 from Nat.and_one_is_mod _]
    generalize hq : V / 2 ^ i % 2 = q at hbit e1
    have h2p : 2 ^ p ≤ 2 ^ 31 := Nat.pow_le_pow_right (by omega) (by omega)
    have hqp : q * 2 ^ p ≤ 2 ^ p := by
      have : q * 2 ^ p ≤ 1 * 2 ^ p := Nat.mul_le_mul_right _ (by omega)
      omega
    have e2 : (SE.bin .shl .u32 (.bin .and .u32 (.bin .shr .u32 v (.lit (i : Nat))) (.lit 1)) (.lit (p : Nat))).ev η φ = ((q <<< p : Nat) : Int) := by
      rw [ev_bin, e1, ev_lit, shl_nat q p (by omega) (by omega), Nat.shiftLeft_eq]
    have hsl : q <<< p < 4294967296 := by rw [Nat.shiftLeft_eq]; omega
    have e3 : (SE.bin .or .u32 acc (.bin .shl .u32 (.bin .and .u32 (.bin .shr .u32 v (.lit (i : Nat))) (.lit 1)) (.lit (p : Nat)))).ev η φ = ((a ||| q <<< p : Nat) : Int) := by
      rw [ev_bin, ha, e2, or_nat .u32 _ _ (by omega) (by omega)]
      rfl
    have hlt : (a ||| q <<< p) < 4294967296 := Nat.or_lt_two_pow (n := 32) hb hsl
    have ih := sc_ev η φ v V hV hv ps (i + 1) _ _ (fun r hr => hp r (List.mem_cons_of_mem _ hr)) (by omega) e3 hlt
    have e4 : (a ||| q <<< p) ||| scatN ps (V / 2 ^ (i + 1)) = a ||| scatN (p :: ps) (V / 2 ^ i) := by
      rw [scatN, hq, Nat.div_div_eq_div_mul, ← Nat.pow_succ, Nat.or_assoc]
    rw [e4] at ih
    exact ih
theorem kind_or (f : Nat) (hf : f ∈ formsAll) : kindF f = 0 ∨ kindF f = 1 ∨ kindF f = 2 := by
  have h : (formsAll.all fun f => Nat.ble (kindF f) 2) = true := by decide
  have := Nat.le_of_ble_eq_true (List.all_eq_true.1 h f hf)
  omega
theorem nT_ev (f : Nat) (hf : f ∈ formsAll) (d s t : Nat) (m op : Int) : (nT f).ev (ηl [(d : Int), (s : Int), (t : Int), m, op]) φ0 = ((vN f m : Nat) : Int) ∧ vN f m < 4294967296 := by
  have hl := (places_bd f hf).2
  have hpow : 2 ^ (placesF f).length ≤ 2 ^ 20 := Nat.pow_le_pow_right (by omega) hl
  have hpos := Nat.two_pow_pos (placesF f).length
  have key : ∀ x : Int, ∀ e : SE, e.ev (ηl [(d : Int), (s : Int), (t : Int), m, op]) φ0 = x → (SE.bin .and .u32 (.wrap .u32 e) (.lit ((2 ^ (placesF f).length - 1 : Nat) : Int))).ev (ηl [(d : Int), (s : Int), (t : Int), m, op]) φ0 = (((x % ((2 ^ (placesF f).length : Nat) : Int)).toNat : Nat) : Int) := by
    intro x e he
    rw [ev_bin, ev_wrap, he, ev_lit]
    obtain ⟨h1, h2⟩ := u32_nat x
    rw [h1]
    refine (and_nat .u32 _ _ (by show _ ≤ 4294967295; omega) (by show _ ≤ 4294967295; omega)).trans ?_
    rw [show Nat.land (IntKind.u32.wrap x).toNat (2 ^ (placesF f).length - 1) = (IntKind.u32.wrap x).toNat % 2 ^ (placesF f).length from Nat.and_two_pow_sub_one_eq_mod _ _]
    have hd : (2 ^ (placesF f).length) ∣ 4294967296 := by
      rw [show (4294967296 : Nat) = 2 ^ 32 from rfl]
      exact Nat.pow_dvd_pow 2 (by omega)
    have e1 : IntKind.u32.wrap x = x % 4294967296 := IntKind.wrap_u32' x
    have e2 : x % 4294967296 % ((2 ^ (placesF f).length : Nat) : Int) = x % ((2 ^ (placesF f).length : Nat) : Int) := Int.emod_emod_of_dvd x (Int.natCast_dvd_natCast.2 hd)
    have n1 : 0 ≤ x % 4294967296 := Int.emod_nonneg _ (by decide)
    have n2 : 0 ≤ x % ((2 ^ (placesF f).length : Nat) : Int) := Int.emod_nonneg _ (by omega)
    rw [Int.toNat_of_nonneg n2, ← e2, e1]
    rw [Int.natCast_emod, Int.toNat_of_nonneg n1]
  have ecast : ((2 : Int) ^ (placesF f).length) = ((2 ^ (placesF f).length : Nat) : Int) := by rw [Int.natCast_pow]; rfl
  refine ⟨?_, ?_⟩
  · unfold nT vN
    rw [ecast]
    rcases kind_or f hf with hk | hk | hk <;> rw [hk]
    · exact key _ _ rfl
    · exact key _ _ rfl
    · exact key _ _ (by have h := shr_lit m 1 (by decide); rw [show ((2 : Int) ^ 1) = 2 from rfl] at h; exact h)
  · unfold vN
    rw [ecast]
    have n2 : ∀ x : Int, (x % ((2 ^ (placesF f).length : Nat) : Int)).toNat < 2 ^ (placesF f).length := fun x => by
      have a1 := Int.emod_nonneg x (show ((2 ^ (placesF f).length : Nat) : Int) ≠ 0 by omega)
      have a2 := Int.emod_lt_of_pos x (show 0 < ((2 ^ (placesF f).length : Nat) : Int) by omega)
      omega
    split
    · have := n2 (m / 2); omega
    · have := n2 m; omega
theorem wordT_ev (op d s t : Nat) (m : Int) (h1 : 1 ≤ op) (h2 : op ≤ 94) (hd : d < 32) (hs : s < 32) (ht : t < 32) : (wordT op).ev (ηl [(d : Int), (s : Int), (t : Int), m, (op : Int)]) φ0 = ((wordN op d s t (vN (formB op) m) : Nat) : Int) := by
  have hf := formB_mem op h1 h2
  have hk : kmax .u32 = 4294967295 := rfl
  have F := fact_of op h1 h2
  obtain ⟨v1, v2⟩ := nT_ev (formB op) hf d s t m (op : Int)
  obtain ⟨p1, p2⟩ := places_bd (formB op) hf
  have hsc := (sc_ev _ _ _ _ v2 v1 (placesF (formB op)) 0 (.lit 0) 0 p1 (by omega) rfl (by omega))
  rw [Nat.pow_zero, Nat.div_one, Nat.zero_or] at hsc
  have hw : ∀ x : Nat, x < 32 → IntKind.u32.wrap (x : Int) = (x : Int) := fun x hx => by rw [IntKind.wrap_u32']; omega
  have sh : ∀ (x k : Nat), x < 32 → k ≤ 20 → ibin .shl .u32 (x : Int) (k : Int) = ((x <<< k : Nat) : Int) ∧ x <<< k < 4294967296 := by
    intro x k hx hk20
    have : x * 2 ^ k ≤ 31 * 2 ^ 20 := Nat.mul_le_mul (by omega) (Nat.pow_le_pow_right (by omega) hk20)
    refine ⟨by rw [shl_nat x k (by omega) (by omega), Nat.shiftLeft_eq], by rw [Nat.shiftLeft_eq]; omega⟩
  obtain ⟨d1, d2⟩ := sh d 7 hd (by omega)
  obtain ⟨s1, s2⟩ := sh s 15 hs (by omega)
  obtain ⟨t1, t2⟩ := sh t 20 ht (by omega)
  have o1 : (baseB op ||| d <<< 7) < 4294967296 := Nat.or_lt_two_pow (n := 32) F.base d2
  have o2 : ((baseB op ||| d <<< 7) ||| s <<< 15) < 4294967296 := Nat.or_lt_two_pow (n := 32) o1 s2
  have o3 : (((baseB op ||| d <<< 7) ||| s <<< 15) ||| t <<< 20) < 4294967296 := Nat.or_lt_two_pow (n := 32) o2 t2
  have eh : (headT op).ev (ηl [(d : Int), (s : Int), (t : Int), m, (op : Int)]) φ0 = (((((baseB op ||| d <<< 7) ||| s <<< 15) ||| t <<< 20) : Nat) : Int) := by
    unfold headT
    show ibin .or .u32 (ibin .or .u32 (ibin .or .u32 (baseB op : Int) (ibin .shl .u32 (IntKind.u32.wrap (d : Int)) ((7 : Nat) : Int))) (ibin .shl .u32 (IntKind.u32.wrap (s : Int)) ((15 : Nat) : Int))) (ibin .shl .u32 (IntKind.u32.wrap (t : Int)) ((20 : Nat) : Int)) = _
    rw [hw d hd, hw s hs, hw t ht, d1, s1, t1, or_nat .u32 _ _ (by have := F.base; omega) (by omega)]
    show ibin .or .u32 (ibin .or .u32 ((baseB op ||| d <<< 7 : Nat) : Int) _) _ = _
    rw [or_nat .u32 _ _ (by omega) (by omega)]
    show ibin .or .u32 (((baseB op ||| d <<< 7) ||| s <<< 15 : Nat) : Int) _ = _
    rw [or_nat .u32 _ _ (by omega) (by omega)]
    rfl
  unfold wordT wordN
  rw [ev_bin, eh, hsc.1, or_nat .u32 _ _ (by omega) (by have := hsc.2; omega)]
  rfl
theorem word_yes (op d s t : Nat) (m : Int) (h : mayI (op : Int) (d : Int) (s : Int) (t : Int) m = true) (W : World) (hL : LG W) :
    Calls Tryz.prog 43 #[insnV (op : Int) (d : Int) (s : Int) (t : Int) m] W fun e W' => e = .returned (.tuple #[.int .u32 (wordN op d s t (vN (formB op) m) : Nat), .int .i64 0]) ∧ Below W.heap.size W W' := by
  have hk := h
  unfold mayI knownI at hk
  simp only [Bool.and_eq_true, decide_eq_true_eq] at hk
  have h1 : 1 ≤ op := by omega
  have h2 : op ≤ 94 := by omega
  obtain ⟨hR, -⟩ := word_back op d s t m h
  have hf := formB_mem op h1 h2
  obtain ⟨v1, v2⟩ := nT_ev (formB op) hf d s t m (op : Int)
  have hl := (places_bd (formB op) hf).2
  have hon : (FW op).On (ηl [(d : Int), (s : Int), (t : Int), m, (op : Int)]) φ0 := by
    refine ⟨fun x hx => ?_, fun x hx => (by cases hx), fun x hx => (by cases hx)⟩
    rcases List.mem_cons.1 hx with rfl | hx
    · have hlt : vN (formB op) m < 2 ^ (placesF (formB op)).length := by
        unfold vN
        have ecast : ((2 : Int) ^ (placesF (formB op)).length) = ((2 ^ (placesF (formB op)).length : Nat) : Int) := by rw [Int.natCast_pow]; rfl
        rw [ecast]
        have hpos := Nat.two_pow_pos (placesF (formB op)).length
        have n2 : ∀ x : Int, (x % ((2 ^ (placesF (formB op)).length : Nat) : Int)).toNat < 2 ^ (placesF (formB op)).length := fun x => by
          have a1 := Int.emod_nonneg x (show ((2 ^ (placesF (formB op)).length : Nat) : Int) ≠ 0 by omega)
          have a2 := Int.emod_lt_of_pos x (show 0 < ((2 ^ (placesF (formB op)).length : Nat) : Int) by omega)
          omega
        split
        · exact n2 _
        · exact n2 _
      have h20 : 2 ^ (placesF (formB op)).length ≤ 2 ^ 20 := Nat.pow_le_pow_right (by omega) hl
      show ((SE.bin .andNot .u32 (nT (formB op)) (.lit ((2 ^ (placesF (formB op)).length - 1 : Nat) : Int))).ev _ _ == (0 : Int)) = true
      rw [ev_bin, v1, ev_lit]
      rw [show ibin .andNot .u32 ((vN (formB op) m : Nat) : Int) ((2 ^ (placesF (formB op)).length - 1 : Nat) : Int) = 0 from (u32_andNot_nat _ _ v2 (by omega)).trans (by rw [low_bits _ _ (by omega) hlt]; rfl)]
      rfl
    · rcases List.mem_cons.1 hx with rfl | hx
      · show (b01 (mayI (op : Int) (d : Int) (s : Int) (t : Int) m) == 1) = true
        rw [h]; rfl
      · cases hx
  have told : (fun ts => (Tr.leaf (.tup [.sint .u32 (wordT op), .int .i64 0])).ok (runG Tryz.prog vars 13 orcW 10000 43 (argW op) ts) (FW op)) = fun _ => true := funext fun ts => words_all op h1 h2 ts
  have := ret_laidG mixed orcW_OK told hon (v := .tup [.sint .u32 (wordT op), .int .i64 0]) rfl rfl rfl (as_ := [insnV (op : Int) (d : Int) (s : Int) (t : Int) m]) (u := .tuple #[.int .u32 ((wordT op).ev (ηl [(d : Int), (s : Int), (t : Int), m, (op : Int)]) φ0), .int .i64 0]) rfl rfl W hL
  rw [wordT_ev op d s t m h1 h2 hR.d1 hR.s1 hR.t1] at this
  exact this
theorem word_no (op d s t m : Int) (ho : u8R op) (h : mayI op d s t m = false) (W : World) (hL : LG W) :
    Calls Tryz.prog 43 #[insnV op d s t m] W fun e W' => e = .returned (.tuple #[.int .u32 0, .int .i64 20]) ∧ Below W.heap.size W W' := by
  have hon : FWn.On (ηl [d, s, t, m, op]) φ0 := by
    refine ⟨fun x hx => ?_, opFacts_on ho d s t m, fun x hx => (by cases hx)⟩
    rcases List.mem_cons.1 hx with rfl | hx
    · show (b01 (mayI op d s t m) == 1) = false
      rw [h]; rfl
    · cases hx
  exact ret_laidG mixed orcW_OK words_no hon (v := .tup [.int .u32 0, .int .i64 20]) rfl rfl rfl (as_ := [insnV op d s t m]) (u := .tuple #[.int .u32 0, .int .i64 20]) rfl rfl W hL
end Go.Proofs.YtoehlmiadiiimaaGreatDoor

