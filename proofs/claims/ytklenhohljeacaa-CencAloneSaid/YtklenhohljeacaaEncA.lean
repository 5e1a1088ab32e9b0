/-
  Short forms of instructions: no two instructions have one; plain, and the law's own tree.
-/
import Derived.Test.YtklenhohljeacaaEncK
import Derived.Test.YtklenhohljeacaaEncB1
import Derived.Test.YtklenhohljeacaaEncB2
import Derived.Test.YtklenhohljeacaaEncB3
import Derived.Test.YtklenhohljeacaaEncB4
namespace Go.Proofs.Ytklenhohljeacaa.Ex
open Go

theorem back_all : ∀ r ∈ rowsL, allRow (backP r) r = true := by
  refine grp_mem fun k hk r hr => ?_
  match k, hk with
  | 0, _ => exact List.all_eq_true.1 back0 r hr
  | 1, _ => exact List.all_eq_true.1 back1 r hr
  | 2, _ => exact List.all_eq_true.1 back2 r hr
  | 3, _ => exact List.all_eq_true.1 back3 r hr
  | 4, _ => exact List.all_eq_true.1 back4 r hr
  | 5, _ => exact List.all_eq_true.1 back5 r hr
  | 6, _ => exact List.all_eq_true.1 back6 r hr
  | 7, _ => exact List.all_eq_true.1 back7 r hr
  | 8, _ => exact List.all_eq_true.1 back8 r hr
theorem sel_spec {op d s t m : Int} : ∀ {rs : List RowL} {k k' : Nat} {r : RowL}, sel op d s t m rs k = some (k', r) → r ∈ rs ∧ (r.op : Int) = op ∧ regsOk r.form d s t = true ∧ numOk r.kind r.unit r.places.length m = true
  | [], _, _, _, h => by cases h
  | x :: rs, k, k', r, h => by
    unfold sel at h
    split at h
    · rename_i hc
      simp only [Option.some.injEq, Prod.mk.injEq] at h
      obtain ⟨-, rfl⟩ := h
      simp only [Bool.and_eq_true, decide_eq_true_eq] at hc
      exact ⟨List.mem_cons_self, hc.1, hc.2.1, hc.2.2⟩
    · obtain ⟨h1, h2⟩ := sel_spec h
      exact ⟨List.mem_cons_of_mem _ h1, h2⟩
/-- A short form is read back. -/
theorem enc_back {op d s t m : Int} (hm : mayI op d s t m = true) (hb : halfB op d s t m = true) :
    ∃ n : Nat, encV op d s t m = (n : Int) ∧ decL (encV op d s t m) = some ⟨op, d, s, t, m⟩ ∧ n % 4 ≠ 3 := by
  unfold halfB at hb
  unfold encV halfV
  rw [hm]
  simp only
  cases hs : sel op d s t m rowsL 0 with
  | none => rw [hs] at hb; cases hb
  | some x =>
    obtain ⟨k, r⟩ := x
    obtain ⟨hr, ho, h1, h2⟩ := sel_spec hs
    subst ho
    exact back_spec hr (back_all r hr) hm h1 h2

def eK : SE := .pair (.var 9) (.pair (.var 5) (.pair (.var 6) (.pair (.var 7) (.var 8))))
def symK : AV := .agg [.sint .u8 (.var 9), .sint .i64 (.var 5), .sint .i64 (.var 6), .sint .i64 (.var 7), .sint .i64 (.var 8)]
def litI (o d s t m : Int) : SE := .pair (.lit o) (.pair (.lit d) (.pair (.lit s) (.pair (.lit t) (.lit m))))
def FL : Fa := ⟨[], [(.var 4, .lit 256, true), (.var 4, .lit 0, false), (.var 9, .lit 256, true), (.var 9, .lit 0, false)],
  [(.fn 200 (litI 22 1 1 0 5), 0x95), (.fn 201 (litI 22 1 1 0 5), 0), (.fn 200 (litI 22 2 2 0 16), 0x141), (.fn 201 (litI 22 2 2 0 16), 0), (.fn 200 (litI 22 2 2 0 64), 0x6121), (.fn 201 (litI 22 2 2 0 64), 0)]⟩
def yesT : Tr := .leaf (.bool true)
def noT : Tr := .leaf (.bool false)
/-- are both instructions the same? -/
def sameT (yes no : Tr) : Tr := .eq (.var 4) (.var 9) (.eq (.var 0) (.var 5) (.eq (.var 1) (.var 6) (.eq (.var 2) (.var 7) (.eq (.var 3) (.var 8) yes no) no) no) no) no
def aloneTr : Tr :=
  .eq (.fn 202 eI) (.lit 1)
    (.eq (.fn 201 eI) (.lit 0)
      (.eq (.fn 12 eI) (.lit 1)
        (.eq (.fn 203 eI) (.lit 0)
          (.eq (.bin .rem .u16 (.fn 200 eI) (.lit 4)) (.lit 3) noT
            (.eq (.fn 201 eK) (.lit 0) (.eq (.fn 200 eI) (.fn 200 eK) (sameT yesT noT) (sameT noT yesT)) yesT))
          noT)
        noT)
      (.eq (.fn 200 eI) (.lit 0) noT noT))
    (.eq (.fn 201 eI) (.lit 0)
      (.eq (.fn 12 eI) (.lit 1) noT noT)
      (.eq (.fn 200 eI) (.lit 0)
        (.eq (.fn 201 eI) (.lit 6)
          (.eq (.fn 203 eI) (.lit 0) yesT
            (.eq (.fn 201 eI) (.lit 20) (.eq (.fn 203 eI) (.fn 201 eI) yesT noT) noT))
          (.eq (.fn 201 eI) (.lit 20) (.eq (.fn 203 eI) (.fn 201 eI) yesT noT) noT))
        noT))
def ηb (d s t m op d' s' t' m' op' : Int) : Nat → Int := ηl [d, s, t, m, op, d', s', t', m', op']
section
variable (d s t m op d' s' t' m' op' : Int)
theorem a12 : (SE.fn 12 eI).ev (ηb d s t m op d' s' t' m' op') φ0 = b01 (mayI op d s t m) := rfl
theorem a200 : (SE.fn 200 eI).ev (ηb d s t m op d' s' t' m' op') φ0 = encV op d s t m := rfl
theorem a201 : (SE.fn 201 eI).ev (ηb d s t m op d' s' t' m' op') φ0 = encE op d s t m := rfl
theorem a202 : (SE.fn 202 eI).ev (ηb d s t m op d' s' t' m' op') φ0 = b01 (shortB op d s t m) := rfl
theorem a203 : (SE.fn 203 eI).ev (ηb d s t m op d' s' t' m' op') φ0 = shortE op d s t m := rfl
theorem k200 : (SE.fn 200 eK).ev (ηb d s t m op d' s' t' m' op') φ0 = encV op' d' s' t' m' := rfl
theorem k201 : (SE.fn 201 eK).ev (ηb d s t m op d' s' t' m' op') φ0 = encE op' d' s' t' m' := rfl
theorem sameT_at (yes no : Tr) : (sameT yes no).at (ηb d s t m op d' s' t' m' op') φ0 = if op = op' ∧ d = d' ∧ s = s' ∧ t = t' ∧ m = m' then yes.at (ηb d s t m op d' s' t' m' op') φ0 else no.at (ηb d s t m op d' s' t' m' op') φ0 := by
  unfold sameT
  simp only [at_eqB]
  show cond (eqB op op') (cond (eqB d d') (cond (eqB s s') (cond (eqB t t') (cond (eqB m m') _ _) _) _) _) _ = _
  simp only [cond_eqB]
  by_cases h1 : op = op' <;> by_cases h2 : d = d' <;> by_cases h3 : s = s' <;> by_cases h4 : t = t' <;> by_cases h5 : m = m' <;> simp [h1, h2, h3, h4, h5]
theorem rem4_u16 (n : Nat) : ibin .rem .u16 (n : Int) 4 = ((n % 4 : Nat) : Int) := by
  unfold ibin abin
  simp only
  rw [if_neg (by simp), if_neg (by decide)]
  rfl
theorem encE_zero : encE op d s t m = 0 ↔ (mayI op d s t m = true ∧ halfB op d s t m = true) := by
  unfold encE
  cases mayI op d s t m <;> cases halfB op d s t m <;> simp
theorem aloneTr_at : aloneTr.at (ηb d s t m op d' s' t' m' op') φ0 = some (.bool true) := by
  unfold aloneTr
  rw [at_eq, a202, ev_lit]
  have hK := encE_zero d' s' t' m' op'
  cases hmay : mayI op d s t m with
  | false =>
    have e2 : shortB op d s t m = false := by unfold shortB; rw [hmay]; rfl
    have e1 : encE op d s t m = 20 := by unfold encE; rw [hmay]
    have e0 : encV op d s t m = 0 := by unfold encV; rw [hmay]
    have e3 : shortE op d s t m = 20 := by unfold shortE; rw [hmay]
    rw [e2, if_neg (by decide), at_eq, a201, ev_lit, e1, if_neg (by decide), at_eq, a200, ev_lit, e0, if_pos rfl, at_eq, a201, ev_lit, e1, if_neg (by decide), at_eq, a201, ev_lit, e1, if_pos rfl, at_eq, a203, a201, e1, e3, if_pos rfl]
    rfl
  | true =>
    cases hb : halfB op d s t m with
    | false =>
      have e2 : shortB op d s t m = false := by unfold shortB; rw [hmay, hb]; rfl
      have e1 : encE op d s t m = 6 := by unfold encE; rw [hmay, hb]
      have e0 : encV op d s t m = 0 := by
        unfold encV halfV; rw [hmay]
        unfold halfB at hb
        cases hs : sel op d s t m rowsL 0 with
        | none => rfl
        | some x => rw [hs] at hb; cases hb
      have e3 : shortE op d s t m = 0 := by unfold shortE; rw [hmay]
      rw [e2, if_neg (by decide), at_eq, a201, ev_lit, e1, if_neg (by decide), at_eq, a200, ev_lit, e0, if_pos rfl, at_eq, a201, ev_lit, e1, if_pos rfl, at_eq, a203, ev_lit, e3, if_pos rfl]
      rfl
    | true =>
      obtain ⟨n, hn, hd, h4⟩ := enc_back hmay hb
      have e2 : shortB op d s t m = true := by unfold shortB; rw [hmay, hb]; rfl
      have e1 : encE op d s t m = 0 := by unfold encE; rw [hmay, hb]
      have e3 : shortE op d s t m = 0 := by unfold shortE; rw [hmay]
      rw [e2, if_pos (show b01 true = 1 from rfl), at_eq, a201, ev_lit, e1, if_pos rfl, at_eq, a12, ev_lit, hmay, if_pos (show b01 true = 1 from rfl), at_eq, a203, ev_lit, e3, if_pos rfl, at_eq, ev_bin, a200, ev_lit, ev_lit, hn, rem4_u16,
        if_neg (by omega), at_eq, k201, ev_lit]
      by_cases hk : encE op' d' s' t' m' = 0
      · rw [if_pos hk, at_eq, a200, k200, sameT_at, sameT_at]
        by_cases hab : encV op d s t m = encV op' d' s' t' m'
        · obtain ⟨hm', hb'⟩ := hK.1 hk
          obtain ⟨n', hn', hd', -⟩ := enc_back hm' hb'
          rw [← hab, hd] at hd'
          simp only [Option.some.injEq, InsnL.mk.injEq] at hd'
          rw [if_pos hab, if_pos hd']
          rfl
        · rw [if_neg hab]
          split
          · rename_i hs
            obtain ⟨rfl, rfl, rfl, rfl, rfl⟩ := hs
            exact absurd rfl hab
          · rfl
      · rw [if_neg hk]
        rfl
end
theorem v1 : encV 22 1 1 0 5 = 0x95 := by kernel_rfl
theorem v2 : encE 22 1 1 0 5 = 0 := by kernel_rfl
theorem v3 : encV 22 2 2 0 16 = 0x141 := by kernel_rfl
theorem v4 : encE 22 2 2 0 16 = 0 := by kernel_rfl
theorem v5 : encV 22 2 2 0 64 = 0x6121 := by kernel_rfl
theorem v6 : encE 22 2 2 0 64 = 0 := by kernel_rfl
theorem FL_on {op op' : Int} (ho : u8R op) (ho' : u8R op') (d s t m d' s' t' m' : Int) : FL.On (ηb d s t m op d' s' t' m' op') φ0 where
  es x hx := by cases hx
  ls := by
    intro x hx
    obtain ⟨h1, h2⟩ := ho
    obtain ⟨h3, h4⟩ := ho'
    simp only [FL, List.mem_cons, List.not_mem_nil, or_false] at hx
    rcases hx with rfl | rfl | rfl | rfl
    · exact decide_eq_true h2
    · exact decide_eq_false (show ¬ op < 0 by omega)
    · exact decide_eq_true h4
    · exact decide_eq_false (show ¬ op' < 0 by omega)
  vs := by
    intro x hx
    simp only [FL, List.mem_cons, List.not_mem_nil, or_false] at hx
    rcases hx with rfl | rfl | rfl | rfl | rfl | rfl
    · exact v1
    · exact v2
    · exact v3
    · exact v4
    · exact v5
    · exact v6
def orcA (half short check : FuncId) (F : Fa) : ACall := orElse (only half (@orcEnc F.dec)) (orElse (only short (@orcShort F.dec)) (only check (@orcCheck F.dec)))
theorem orcA_OK {P : Program} {half short check : FuncId} (h1 : EncC P half) (h2 : ShortC P short) (h3 : CheckC P check) : OrcOK P 0 φ0 (orcA half short check) :=
  fun F _ h => @callOK_or F.dec h.env P 0 _ _ (@orcEnc_ok F.dec h.env P 0 half rfl h1) (@callOK_or F.dec h.env P 0 _ _ (@orcShort_ok F.dec h.env P 0 short rfl h2) (@orcCheck_ok F.dec h.env P 0 check rfl h3))
theorem alone_of {P : Program} (hm : P.follows .mixedOrders = true) {f half short check : FuncId} (c1 : EncC P half) (c2 : ShortC P short) (c3 : CheckC P check) (h : aloneTr.ok (runT P (orcA half short check) 10000 0 f [symI, symK]) FL = true)
    {op op' : Int} (ho : u8R op) (ho' : u8R op') (d s t m d' s' t' m' : Int) : Ret P f [insnV op d s t m, insnV op' d' s' t' m'] (.bool true) :=
  ret_of (η := ηb d s t m op d' s' t' m' op') hm (orcA_OK c1 c2 c3) h (FL_on ho ho' ..) (aloneTr_at ..) rfl rfl rfl rfl
end Go.Proofs.Ytklenhohljeacaa.Ex
