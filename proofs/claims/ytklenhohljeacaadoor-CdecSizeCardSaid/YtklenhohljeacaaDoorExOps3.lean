/-
  An executor over the model's code: operations, one by one (3): slices, fields, elements; numbers and texts.
-/
import Derived.Test.YtklenhohljeacaaDoorExOps2
import Derived.Laws.BytesString
import Derived.Lib.Strings
namespace Go.Proofs.YtklenhohljeacaaDoor.Ex
open Go
variable [Dec] [Env]

inductive OVR (ρ : Rho) : Option AV → Option Value → Prop
  | none : OVR ρ none none
  | some (a : AV) (v : Value) (h : VR ρ a v) : OVR ρ (some a) (some v)

section
variable {P : Program} {w : World} {ρ : Rho} {H : AHeap}

theorem run_bound {x : AV} {v : Value} {y y' n : Nat} {code : BoundsCode} (h : VR ρ x v) (hx : abound x y = some n) (hy : y ≤ y') :
    (Instr.sliceBound v y' code).run P w = .ok n w ∧ n ≤ y := by
  cases h <;> simp [abound] at hx
  rename_i k i
  obtain ⟨⟨h0, h1⟩, rfl⟩ := hx
  refine ⟨?_, by omega⟩
  have : 0 ≤ i ∧ i ≤ (y' : Int) := ⟨h0, by omega⟩
  simp [Instr.sliceBound, asIntOf, this]

theorem run_bounds {isSlice : Bool} {len cap cap' l h m : Nat} {lo hi mx : Option AV} {vl vh vm : Option Value} (hlo : OVR ρ lo vl) (hhi : OVR ρ hi vh) (hmx : OVR ρ mx vm)
    (hb : abounds len cap lo hi mx = some (l, h, m)) (hc : cap ≤ cap') (hlen : len ≤ cap) :
    ∃ m', (Instr.sliceBounds isSlice len cap' vl vh vm).run P w = .ok (l, h, m') w ∧ l ≤ h ∧ h ≤ m ∧ m ≤ cap ∧ m ≤ m' ∧ (mx = none → m = cap ∧ m' = cap') ∧ (mx ≠ none → m' = m) := by
  simp only [abounds] at hb
  obtain ⟨m0, hm, hb⟩ := Option.bind_eq_some_iff.1 hb
  obtain ⟨h0, hh, hb⟩ := Option.bind_eq_some_iff.1 hb
  obtain ⟨l0, hl, hb⟩ := Option.bind_eq_some_iff.1 hb
  injection hb with hb
  simp only [Prod.mk.injEq] at hb
  obtain ⟨rfl, rfl, rfl⟩ := hb
  cases hmx with
  | none =>
    simp at hm; subst hm
    cases hhi with
    | none =>
      simp at hh; subst hh
      cases hlo with
      | none =>
        simp at hl; subst hl
        exact ⟨cap', by simp [Instr.sliceBounds], Nat.zero_le _, hlen, Nat.le_refl _, hc, fun _ => ⟨rfl, rfl⟩, fun e => absurd rfl e⟩
      | some a v hv =>
        obtain ⟨e1, e2⟩ := run_bound (P := P) (w := w) (code := .sliceB) hv hl (Nat.le_refl _)
        exact ⟨cap', by simp [Instr.sliceBounds, e1], e2, hlen, Nat.le_refl _, hc, fun _ => ⟨rfl, rfl⟩, fun e => absurd rfl e⟩
    | some a v hv =>
      obtain ⟨g1, g2⟩ := run_bound (P := P) (w := w) (code := if isSlice then .sliceAcap else .sliceAlen) hv hh hc
      cases hlo with
      | none =>
        simp at hl; subst hl
        exact ⟨cap', by simp [Instr.sliceBounds, g1], Nat.zero_le _, g2, Nat.le_refl _, hc, fun _ => ⟨rfl, rfl⟩, fun e => absurd rfl e⟩
      | some b u hu =>
        obtain ⟨e1, e2⟩ := run_bound (P := P) (w := w) (code := .sliceB) hu hl (Nat.le_refl _)
        exact ⟨cap', by simp [Instr.sliceBounds, g1, e1], e2, g2, Nat.le_refl _, hc, fun _ => ⟨rfl, rfl⟩, fun e => absurd rfl e⟩
  | some b u hu =>
    obtain ⟨f1, f2⟩ := run_bound (P := P) (w := w) (code := if isSlice then .slice3Acap else .slice3Alen) hu hm hc
    cases hhi with
    | none => simp at hh
    | some a v hv =>
      obtain ⟨g1, g2⟩ := run_bound (P := P) (w := w) (code := .slice3B) hv hh (Nat.le_refl m0)
      cases hlo with
      | none =>
        simp at hl; subst hl
        exact ⟨m0, by simp [Instr.sliceBounds, f1, g1], Nat.zero_le _, g2, f2, Nat.le_refl _, fun e => by simp at e, fun _ => rfl⟩
      | some b u hu =>
        obtain ⟨e1, e2⟩ := run_bound (P := P) (w := w) (code := .slice3C) hu hl (Nat.le_refl _)
        exact ⟨m0, by simp [Instr.sliceBounds, f1, g1, e1], e2, g2, f2, Nat.le_refl _, fun e => by simp at e, fun _ => rfl⟩

theorem op_slice {t : TypeId} {x y : AV} {v : Value} {lo hi mx : Option AV} {vl vh vm : Option Value} (hI : Inv P ρ H w) (hv : VR ρ x v) (hlo : OVR ρ lo vl) (hhi : OVR ρ hi vh) (hmx : OVR ρ mx vm)
    (hx : aslice P H t x lo hi mx = some y) : ∃ u, (Instr.sliceAt t v vl vh vm).run P w = .ok u w ∧ VR ρ y u := by
  unfold aslice at hx
  split at hx
  · rename_i s hu
    cases hv with
    | str S l hl =>
    split at hx
    · cases hx
    · obtain ⟨⟨l, h, m⟩, hb, rfl⟩ := Option.map_eq_some_iff.1 hx
      cases hmx
      have hsz : s.length = S.size := by rw [hl]; simp
      rw [hsz] at hb
      obtain ⟨m', e1, e2, e3, e4, -, -, -⟩ := run_bounds (P := P) (w := w) (isSlice := false) (cap' := S.size) hlo hhi .none hb (Nat.le_refl _) (Nat.le_refl _)
      refine ⟨.string (S.extract l h), ?_, .str _ _ ?_⟩
      · simp [Instr.sliceAt, Instr.slice, run_und hu, e1]
      · rw [hl, Lib.extract_data]
        simp [List.map_take, List.map_drop]
  · rename_i e b o len cap hu
    cases hv with
    | sl _ _ _ _ ccap r hr hll hcc htt hss =>
      split at hx
      · rename_i c e' tight hb
        split at hx
        · rename_i hte
          obtain ⟨n, hn, hx⟩ := Option.bind_eq_some_iff.1 hx
          obtain ⟨⟨l, h, m⟩, hbd, rfl⟩ := Option.map_eq_some_iff.1 hx
          obtain ⟨m', e1, e2, e3, e4, e5, e6, e7⟩ := run_bounds (P := P) (w := w) (isSlice := true) (cap' := ccap) hlo hhi hmx hbd hcc hll
          obtain ⟨C, fr, hC, k2, k3, k4, k5, k6, k7⟩ := hI.block hb hr
          refine ⟨.slice (if m' = l then some ⟨r.cb, r.co + o, none⟩ else some ⟨r.cb, r.co + o + l * n, none⟩) (h - l) (m' - l), ?_, ?_⟩
          · simp only [Instr.sliceAt, Instr.slice, run_und hu, Sem.run_bind, Result.andThen_ok, e1, run_sz hn, Sem.run_pure]
            simp [add_none]
          · show VR ρ (.sl b (o + l * n) (h - l) (m - l)) _
            by_cases hml : m' = l
            · rw [if_pos hml]
              have h1 : h - l = 0 := by omega
              have h2 : m - l = 0 := by omega
              have h3 : m' - l = 0 := by omega
              rw [h1, h2, h3]
              exact .sl0 _ _ _
            · rw [if_neg hml, Nat.add_assoc]
              refine .sl b (o + l * n) (h - l) (m - l) (m' - l) r hr (by omega) (by omega) ?_ ?_
              · intro ht
                have := htt ht
                cases mx with
                | none => obtain ⟨q1, q2⟩ := e6 rfl; omega
                | some _ => have := e7 (by simp); omega
              · intro ht
                have hs := hss ht
                have he : e' = e := by
                  rcases hte with h1 | h1
                  · rw [k2, ht] at h1; cases h1
                  · exact h1
                have hesz := (k7 (by rw [k2]; exact ht)).2
                have hne : n = r.esz := by
                  rw [← hesz, he]
                  obtain ⟨i, hi, rfl⟩ := Option.map_eq_some_iff.1 hn
                  simp [Program.cellsOf, hi]
                have hm : m' ≤ ccap := by
                  cases mx with
                  | none => have := e6 rfl; omega
                  | some _ => have := e7 (by simp); omega
                rw [hne]
                have : l * r.esz + (m' - l) * r.esz = m' * r.esz := by
                  rw [← Nat.add_mul]; congr 1; omega
                have h9 : m' * r.esz ≤ ccap * r.esz := Nat.mul_le_mul_right _ hm
                omega
        · cases hx
      · cases hx
    | sl0 _ _ a =>
      split at hx
      · split at hx
        · obtain ⟨n, hn, hx⟩ := Option.bind_eq_some_iff.1 hx
          obtain ⟨⟨l, h, m⟩, hbd, rfl⟩ := Option.map_eq_some_iff.1 hx
          obtain ⟨m', e1, e2, e3, e4, e5, e6, e7⟩ := run_bounds (P := P) (w := w) (isSlice := true) (cap' := 0) hlo hhi hmx hbd (Nat.le_refl _) (Nat.le_refl _)
          have hm0 : m' = 0 := by
            cases mx with
            | none => exact (e6 rfl).2
            | some _ => have := e7 (by simp); omega
          have hl0 : l = 0 := by omega
          have hh0 : h = 0 := by omega
          have hmm : m = 0 := by omega
          subst hm0; subst hl0; subst hh0; subst hmm
          refine ⟨.slice (some a) 0 0, ?_, .sl0 _ _ _⟩
          simp only [Instr.sliceAt, Instr.slice, run_und hu, Sem.run_bind, Result.andThen_ok, e1, run_sz hn, Sem.run_pure]
          simp
        · cases hx
      · cases hx
  · rename_i e hu
    cases hv
    split at hx
    case isFalse => cases hx
    rename_i hsz
    obtain ⟨⟨l, h, m⟩, hbd, rfl⟩ := Option.map_eq_some_iff.1 hx
    obtain ⟨n, hn⟩ := Option.isSome_iff_exists.1 hsz
    obtain ⟨m', e1, e2, e3, e4, e5, e6, e7⟩ := run_bounds (P := P) (w := w) (isSlice := true) (cap' := 0) hlo hhi hmx hbd (Nat.le_refl _) (Nat.le_refl _)
    have hm0 : m' = 0 := by
      cases mx with
      | none => exact (e6 rfl).2
      | some _ => have := e7 (by simp); omega
    have hl0 : l = 0 := by omega
    have hh0 : h = 0 := by omega
    subst hm0; subst hl0; subst hh0
    refine ⟨.slice none 0 0, ?_, .nilsl⟩
    simp only [Instr.sliceAt, Instr.slice, run_und hu, Sem.run_bind, Result.andThen_ok, e1, run_sz hn, Sem.run_pure]
    simp
  · rename_i k e b o hu
    cases hv with
    | ptr _ _ r hr =>
    obtain ⟨n, hn, hx⟩ := Option.bind_eq_some_iff.1 hx
    obtain ⟨tt, ht, hx⟩ := Option.bind_eq_some_iff.1 hx
    split at hx
    · rename_i htt
      obtain ⟨⟨l, h, m⟩, hbd, rfl⟩ := Option.map_eq_some_iff.1 hx
      obtain ⟨m', e1, e2, e3, e4, e5, e6, e7⟩ := run_bounds (P := P) (w := w) (isSlice := false) (cap' := k) hlo hhi hmx hbd (Nat.le_refl _) (Nat.le_refl _)
      have hmm : m' = m := by
        cases mx with
        | none => obtain ⟨q1, q2⟩ := e6 rfl; omega
        | some _ => exact e7 (by simp)
      subst hmm
      have htr : r.tight = true := by
        unfold tightAt at ht
        split at ht
        · rename_i hb
          injection ht with ht; subst ht
          obtain ⟨C, fr, hC, k2, -⟩ := hI.block hb hr
          rw [← k2]; exact htt
        · cases ht
      refine ⟨.slice (some (if m' = l then ⟨r.cb, r.co + o, none⟩ else ⟨r.cb, r.co + o + l * n, none⟩)) (h - l) (m' - l), ?_, ?_⟩
      · simp only [Instr.sliceAt, run_und hu, Sem.run_bind, Result.andThen_ok, Instr.sureAddr, Sem.run_pure, e1, run_sz hn]
        simp [add_none]
      · show VR ρ (.sl b (o + l * n) (h - l) (m' - l)) _
        by_cases hml : m' = l
        · rw [if_pos hml]
          have h1 : h - l = 0 := by omega
          have h2 : m' - l = 0 := by omega
          rw [h1, h2]
          exact .sl0 _ _ _
        · rw [if_neg hml, Nat.add_assoc]
          exact .sl b (o + l * n) (h - l) (m' - l) (m' - l) r hr (by omega) (Nat.le_refl _) (fun _ => rfl) (fun h => by rw [htr] at h; cases h)
    · cases hx
  · cases hx
end
end Go.Proofs.YtklenhohljeacaaDoor.Ex
