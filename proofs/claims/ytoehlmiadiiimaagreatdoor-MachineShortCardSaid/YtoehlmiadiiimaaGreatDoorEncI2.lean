/-
  Half words: what cdec.raw and cdec.Insn answer, plain.
-/
import Derived.Test.YtoehlmiadiiimaaGreatDoorEncI
namespace Go.Proofs.YtoehlmiadiiimaaGreatDoor.Ex
open Go

theorem whichN_lt (h : Nat) : whichN h < 8 := by
  unfold whichN
  have h1 : Nat.land (h / 4096) 1 ≤ 1 := Nat.and_le_right
  have h2 : Nat.land (h / 32) 3 ≤ 3 := Nat.and_le_right
  exact Nat.or_lt_two_pow (n := 3) (by omega) (by omega)
theorem clsN_lt (h : Nat) (hh : h < 65536) : clsN h < 39 := by
  have := whichN_lt h
  unfold clsN
  split
  · split <;> omega
  · omega
def opP : AV → Bool
  | .agg [.int .u8 n, _, _, _, _] => decide (0 ≤ n) && decide (n < 256)
  | _ => false
theorem rawR_op (h : Nat) (hh : h < 65536) : 0 ≤ (rawR h).op ∧ (rawR h).op < 256 := by
  have tab : ((List.range 39).all fun n => (rawTr n).all opP) = true := by kernel_rfl
  obtain ⟨v, hv, hk⟩ := Tr.all_at (η := ηh h) (φ := fun _ _ => 0) (List.all_eq_true.1 tab (clsN h) (List.mem_range.2 (clsN_lt h hh)))
  unfold rawR
  rw [hv]
  unfold opP at hk
  split at hk
  · simp only [Bool.and_eq_true, decide_eq_true_eq] at hk
    exact hk
  · cases hk
theorem which_evN (h : Nat) (hh : h < 65536) (φ : Nat → List Int → Int) : whichT.ev (ηl [(h : Int)]) φ = (whichN h : Int) := by
  have hk : kmax .u32 = 4294967295 := rfl
  have e1 : (SE.bin .and .u32 (.bin .shr .u32 wS (.lit 12)) (.lit 1)).ev (ηl [(h : Int)]) φ = ((Nat.land (h / 2 ^ 12) 1 : Nat) : Int) := by
    rw [ev_bin, ev_bin, wS_ev h hh, ev_lit, ev_lit, show (12 : Int) = ((12 : Nat) : Int) from rfl, show (1 : Int) = ((1 : Nat) : Int) from rfl, shr_nat h 12 (by omega)]
    exact and_nat .u32 _ 1 (Nat.le_trans (Nat.div_le_self _ _) (by omega)) (by omega)
  have e2 : (SE.bin .and .u32 (.bin .shr .u32 wS (.lit 5)) (.lit 3)).ev (ηl [(h : Int)]) φ = ((Nat.land (h / 2 ^ 5) 3 : Nat) : Int) := by
    rw [ev_bin, ev_bin, wS_ev h hh, ev_lit, ev_lit, show (5 : Int) = ((5 : Nat) : Int) from rfl, show (3 : Int) = ((3 : Nat) : Int) from rfl, shr_nat h 5 (by omega)]
    exact and_nat .u32 _ 3 (Nat.le_trans (Nat.div_le_self _ _) (by omega)) (by omega)
  have h1 : Nat.land (h / 2 ^ 12) 1 ≤ 1 := Nat.and_le_right
  have h3 : Nat.land (h / 2 ^ 5) 3 ≤ 3 := Nat.and_le_right
  unfold whichT
  rw [ev_bin, ev_bin, e1, e2, ev_lit, show (2 : Int) = ((2 : Nat) : Int) from rfl, shl_nat _ 2 (by omega) (by omega), or_nat .u32 _ _ (by omega) (by omega)]
  rfl
/-- A half word's own class. -/
theorem FS_onN (h : Nat) (hh : h < 65536) : (FS (clsN h)).On (ηl [(h : Int)]) φ0 := by
  have hw := which_evN h hh φ0
  have hlt := whichN_lt h
  have hc : clsOf (clsN h) = 8 * (h % 4) + h / 8192 ∧ (clsOf (clsN h) = 12 → clsN h - 31 = whichN h) := by
    unfold clsN
    cases hb : Nat.beq (8 * (h % 4) + h / 8192) 12 with
    | true =>
      have hb := Nat.eq_of_beq_eq_true hb
      cases hk : Nat.beq (whichN h) 0 with
      | true =>
        have hk := Nat.eq_of_beq_eq_true hk
        exact ⟨by rw [hb]; rfl, fun _ => (show (12 : Nat) - 31 = whichN h by omega)⟩
      | false =>
        have hk : whichN h ≠ 0 := fun e => by rw [e] at hk; cases hk
        simp only
        exact ⟨by unfold clsOf; rw [if_neg (by omega)]; omega, fun _ => by omega⟩
    | false =>
      have hb : 8 * (h % 4) + h / 8192 ≠ 12 := fun e => by rw [e] at hb; cases hb
      simp only
      exact ⟨by unfold clsOf; rw [if_pos (by omega)], fun e => by unfold clsOf at e; rw [if_pos (by omega)] at e; omega⟩
  obtain ⟨hc, h12⟩ := hc
  refine ⟨?_, fun x hx => (by cases hx), ?_⟩
  · intro x hx
    rcases List.mem_cons.1 hx with rfl | hx
    · show (ibin .and .u16 (h : Int) 3 == 3) = decide (24 ≤ clsOf (clsN h))
      rw [show ibin .and .u16 (h : Int) 3 = ((h % 4 : Nat) : Int) from (and_nat .u16 h 3 (by show h ≤ 65535; omega) (by decide)).trans (by rw [show Nat.land h 3 = h % 4 from Nat.and_two_pow_sub_one_eq_mod h 2]), hc]
      by_cases h3 : h % 4 = 3
      · rw [h3]; rw [decide_eq_true (by omega)]; rfl
      · rw [decide_eq_false (by omega)]
        have : ¬ (((h % 4 : Nat) : Int) = 3) := by omega
        simpa using this
    · obtain ⟨ps, hps, rfl⟩ := List.mem_map.1 hx
      have tab : (signedL.all fun ps => (ps.all fun p => Nat.ble p 32) && (Nat.ble ps.length 20 && [0, 5, 6, 8, 11].contains ps.length)) = true := by decide
      have tb := List.all_eq_true.1 tab ps hps
      simp only [Bool.and_eq_true] at tb
      obtain ⟨t1, t2, t3⟩ := tb
      obtain ⟨v, hv, hlt⟩ := gT_ev h hh φ0 ps 0 (.lit 0) 0 (fun p hp => Nat.le_of_ble_eq_true (List.all_eq_true.1 t1 p hp)) (by have := Nat.le_of_ble_eq_true t2; omega) rfl (by decide)
      show (ibin .andNot .u32 ((gT ps 0 (.lit 0)).ev _ _) ((2 ^ ps.length - 1 : Nat) : Int) == 0) = true
      rw [hv]
      rw [Nat.zero_add] at hlt
      exact List.all_eq_true.1 (List.all_eq_true.1 mask_zero ps.length (by simpa using t3)) v (List.mem_range.2 hlt)
  · intro x hx
    rcases List.mem_cons.1 hx with rfl | hx
    · show swT.ev _ _ = ((clsOf (clsN h) : Nat) : Int)
      rw [sw_ev h hh, hc]
    · rcases List.mem_append.1 hx with hx | hx
      · split at hx
        · rename_i e12
          simp only [List.mem_cons, List.not_mem_nil, or_false] at hx
          subst hx
          show whichT.ev _ _ = ((clsN h - 31 : Nat) : Int)
          rw [hw, h12 e12]
        · cases hx
      · exact alive_on _ x hx
theorem FI_on (h : Nat) (hh : h < 65536) : FI.On (ηl [(h : Int)]) φ0 where
  es x hx := by cases hx
  ls := by
    intro x hx
    obtain ⟨o1, o2⟩ := rawR_op h hh
    simp only [FI, List.mem_cons, List.not_mem_nil, or_false] at hx
    rcases hx with rfl | rfl | rfl | rfl
    · exact decide_eq_true (show (h : Int) < 65536 by omega)
    · exact decide_eq_false (show ¬ (h : Int) < 0 by omega)
    · exact decide_eq_true (show (rawR ((h : Nat) : Int).toNat).op < 256 from o2)
    · exact decide_eq_false (show ¬ (rawR ((h : Nat) : Int).toNat).op < 0 by rw [Int.toNat_natCast]; omega)
  vs x hx := by cases hx
def kd (k : IntKind) : AV → Bool
  | .int k' _ => decide (k' = k)
  | .sint k' _ => decide (k' = k)
  | _ => false
def kindsP : AV → Bool
  | .agg [o, d, s, t, m] => kd .u8 o && (kd .i64 d && (kd .i64 s && (kd .i64 t && kd .i64 m)))
  | _ => false
theorem kd_spec {k : IntKind} {v : AV} (hk : kd k v = true) (η : Nat → Int) (φ : Nat → List Int → Int) : v.plain = true ∧ v.toVal η φ = .int k (fieldV η φ v) := by
  cases v <;> simp only [kd, Bool.false_eq_true, decide_eq_true_eq] at hk <;> (subst hk; exact ⟨rfl, rfl⟩)
theorem kindsP_spec {v : AV} (hk : kindsP v = true) (η : Nat → Int) (φ : Nat → List Int → Int) : v.plain = true ∧ v.toVal η φ = insnVR (insnOf η φ (some v)) := by
  unfold kindsP at hk
  split at hk
  · simp only [Bool.and_eq_true] at hk
    obtain ⟨h1, h2, h3, h4, h5⟩ := hk
    obtain ⟨a1, b1⟩ := kd_spec h1 η φ
    obtain ⟨a2, b2⟩ := kd_spec h2 η φ
    obtain ⟨a3, b3⟩ := kd_spec h3 η φ
    obtain ⟨a4, b4⟩ := kd_spec h4 η φ
    obtain ⟨a5, b5⟩ := kd_spec h5 η φ
    refine ⟨?_, ?_⟩
    · simp only [AV.plain, AV.plains, a1, a2, a3, a4, a5, Bool.and_self]
    · simp only [AV.toVal, AV.toVals, b1, b2, b3, b4, b5]
      rfl
  · cases hk
/-- what is read, as a value -/
theorem raw_at (h : Nat) (hh : h < 65536) : ∃ v, (rawTr (clsN h)).at (ηl [(h : Int)]) φ0 = some v ∧ v.plain = true ∧ v.toVal (ηl [(h : Int)]) φ0 = insnVR (rawR h) := by
  have tab : ((List.range 39).all fun n => (rawTr n).all kindsP) = true := by kernel_rfl
  obtain ⟨v, hv, hk⟩ := Tr.all_at (η := ηh h) (φ := φ0) (List.all_eq_true.1 tab (clsN h) (List.mem_range.2 (clsN_lt h hh)))
  have hp := (at_pure (h : Int) φ0 (fun _ _ => 0) (rawTr_pure (clsN h) (clsN_lt h hh))).2.1
  have hr : rawR h = insnOf (ηh h) φ0 (some v) := by unfold rawR; rw [← hp, hv]
  obtain ⟨k1, k2⟩ := kindsP_spec hk (ηh h) φ0
  exact ⟨v, hv, k1, by rw [hr]; exact k2⟩
theorem insn_at (h : Nat) (_ : h < 65536) : ∃ v, insnTr.at (ηl [(h : Int)]) φ0 = some v ∧ v.plain = true ∧ v.toVal (ηl [(h : Int)]) φ0 = .tuple #[insnVR (readR h), .int .i64 (readE h)] := by
  have got : readB h = true → ∃ v, some gotV = some v ∧ v.plain = true ∧ v.toVal (ηl [(h : Int)]) φ0 = .tuple #[insnVR (readR h), .int .i64 (readE h)] := by
    intro hb
    refine ⟨gotV, rfl, rfl, ?_⟩
    unfold readR readE
    rw [hb]
    rfl
  have nope : readB h = false → ∃ v, some notV = some v ∧ v.plain = true ∧ v.toVal (ηl [(h : Int)]) φ0 = .tuple #[insnVR (readR h), .int .i64 (readE h)] := by
    intro hb
    refine ⟨notV, rfl, rfl, ?_⟩
    unfold readR readE
    rw [hb]
    rfl
  have q1 : (SE.fn 201 e19).ev (ηl [(h : Int)]) φ0 = encE (rawR h).op (rawR h).d (rawR h).s (rawR h).t (rawR h).m := rfl
  have q2 : (SE.fn 200 e19).ev (ηl [(h : Int)]) φ0 = encV (rawR h).op (rawR h).d (rawR h).s (rawR h).t (rawR h).m := rfl
  have q3 : (SE.fn 190 (.var 0)).ev (ηl [(h : Int)]) φ0 = (rawR h).op := rfl
  have q4 : (SE.fn 191 (.var 0)).ev (ηl [(h : Int)]) φ0 = (rawR h).d := rfl
  have q5 : (SE.fn 192 (.var 0)).ev (ηl [(h : Int)]) φ0 = (rawR h).s := rfl
  have q6 : (SE.fn 194 (.var 0)).ev (ηl [(h : Int)]) φ0 = (rawR h).m := rfl
  have q7 : (SE.bin .shr .u16 (.var 0) (.lit 13)).ev (ηl [(h : Int)]) φ0 = ((h / 8192 : Nat) : Int) := by
    show ibin .shr .u16 (h : Int) 13 = _
    have e : ibin .shr .u16 (h : Int) 13 = (h : Int).fdiv (2 ^ (min 13 16)) := rfl
    rw [e, Int.fdiv_eq_ediv_of_nonneg _ (by decide)]
    rfl
  have q8 : ((SE.bin .rem .i64 (.fn 194 (.var 0)) (.lit 16)).ev (ηl [(h : Int)]) φ0 = 0) = ((rawR h).m % 16 = 0) := by
    show (ibin .rem .i64 (rawR h).m 16 = 0) = _
    exact rem16 _
  have v0 : (SE.var 0).ev (ηl [(h : Int)]) φ0 = (h : Int) := rfl
  unfold insnTr
  rw [at_eq, q1, ev_lit]
  unfold readB at got nope
  by_cases c1 : encE (rawR h).op (rawR h).d (rawR h).s (rawR h).t (rawR h).m = 0
  · rw [if_pos c1, at_eq, q2, v0]
    rw [c1] at got nope
    by_cases c2 : encV (rawR h).op (rawR h).d (rawR h).s (rawR h).t (rawR h).m = (h : Int)
    · rw [if_pos c2]
      exact got (by rw [c2]; simp)
    · rw [if_neg c2, at_eq, q3, ev_lit]
      have c2' : (encV (rawR h).op (rawR h).d (rawR h).s (rawR h).t (rawR h).m == (h : Int)) = false := by simpa using c2
      rw [c2'] at got nope
      unfold twiceB at got nope
      by_cases c3 : (rawR h).op = 22
      · rw [if_pos c3, at_eq, q4, ev_lit]
        rw [c3] at got nope
        by_cases c4 : (rawR h).d = 2
        · rw [if_pos c4, at_eq, q5, ev_lit]
          rw [c4] at got nope
          by_cases c5 : (rawR h).s = 2
          · rw [if_pos c5, at_eq, ev_lit]
            rw [c5] at got nope
            by_cases c6 : (rawR h).m % 16 = 0
            · rw [if_pos (q8.mpr c6), at_eq, q6, ev_lit]
              rw [c6] at got nope
              by_cases c7 : (rawR h).m = 0
              · rw [if_pos c7]
                exact nope (by rw [c7]; simp)
              · rw [if_neg c7, at_eq, q7, ev_lit]
                have c7' : ((rawR h).m == 0) = false := by simpa using c7
                rw [c7'] at got nope
                by_cases c8 : h / 8192 = 3
                · rw [if_pos (by rw [c8]; rfl)]
                  exact got (by rw [c8]; rfl)
                · rw [if_neg (by omega)]
                  refine nope ?_
                  have : Nat.beq (h / 8192) 3 = false := by rw [nat_beq]; exact decide_eq_false c8
                  rw [this]; rfl
            · rw [if_neg (fun k => c6 (q8.mp k))]
              refine nope ?_
              have : ((rawR h).m % 16 == 0) = false := by simpa using c6
              rw [this]; rfl
          · rw [if_neg c5]
            refine nope ?_
            have : ((rawR h).s == 2) = false := by simpa using c5
            rw [this]; rfl
        · rw [if_neg c4]
          refine nope ?_
          have : ((rawR h).d == 2) = false := by simpa using c4
          rw [this]; rfl
      · rw [if_neg c3]
        refine nope ?_
        have : ((rawR h).op == 22) = false := by simpa using c3
        rw [this]; rfl
  · rw [if_neg c1]
    refine nope ?_
    have : (encE (rawR h).op (rawR h).d (rawR h).s (rawR h).t (rawR h).m == 0) = false := by simpa using c1
    rw [this]; rfl
end Go.Proofs.YtoehlmiadiiimaaGreatDoor.Ex
