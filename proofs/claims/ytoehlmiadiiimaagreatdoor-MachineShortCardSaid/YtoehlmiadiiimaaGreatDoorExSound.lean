/-
  An executor over the model's code: it is sound: regions, code, calls.
-/
import Derived.Test.YtoehlmiadiiimaaGreatDoorExOp
namespace Go.Proofs.YtoehlmiadiiimaaGreatDoor.Ex
open Go
variable [Dec] [Env]

/-- What a call of the executor's answers is what the program's call comes to. -/
def CallOK (P : Program) (gl : Nat) (call : ACall) : Prop :=
  ∀ lim f args H v H', call lim f args H = some (v, H') → ∀ ρ w (args' : List Value), Inv P ρ H w → VRs ρ args args' → GOK ρ gl → lim ≤ H.next →
    Calls P f args'.toArray w fun e w' => ∃ ρ' v', e = .returned v' ∧ VR ρ' v v' ∧ Step P lim ρ H w ρ' H' w'

section
variable {P : Program} {gl lim : Nat} {call : ACall} {ops : Array Oper}

theorem yielded_eq {ρ : Rho} {fr : AFr} {a : Act} (hf : FR ρ fr a.tmps) : ayielded ops fr = yielded ops a.tmps := by
  funext j
  unfold ayielded yielded
  cases hd : (ops[j]?).bind (·.dst) with
  | none => rfl
  | some t =>
    have h := hf.2 t
    simp only [Option.bind_some]
    cases ht : a.tmps[t]? with
    | none =>
      have e : a.tmps.getD t undef = undef := by rw [Array.getD_eq_getD_getElem?, ht]; rfl
      rw [e] at h
      generalize AFr.at fr t = x at h
      unfold undef at h
      cases h
      rfl
    | some v =>
      have e : a.tmps.getD t undef = v := by rw [Array.getD_eq_getD_getElem?, ht]; rfl
      rw [e] at h
      generalize AFr.at fr t = x at h
      cases h <;> rfl

theorem astep_wp (hcall : CallOK P gl call) {o : Oper} {fr fr' : AFr} {H H' : AHeap} {ρ : Rho} {a : Act} {w : World} {K : Act → World → Prop} {Q : Exit → Act → World → Prop}
    (h : astep P gl call ops lim o fr H = some (fr', H')) (hI : Inv P ρ H w) (hf : FR ρ fr a.tmps) (hg : GOK ρ gl) (hl : lim ≤ H.next)
    (hK : ∀ ρ' v w', Step P lim ρ H w ρ' H' w' → FR ρ' fr' (a.put o.dst v).tmps → K (a.put o.dst v) w') :
    if Region.wanted o (yielded ops a.tmps) then o.wp P a w K Q else K (a.put o.dst undef) w := by
  unfold astep at h
  rw [yielded_eq hf] at h
  split at h
  · rename_i hw
    rw [hw, if_pos rfl]
    split at h
    · rename_i v H1 ho
      obtain ⟨ρ', v', w', h1, h2, h3, -⟩ := aop_sound hI hf hg hl ho
      split at h
      · rename_i fr1 hp
        simp only [Option.some.injEq, Prod.mk.injEq] at h
        obtain ⟨rfl, rfl⟩ := h
        obtain ⟨q1, q2⟩ := (hf.mono h3.ext).put (a := a) hp h2
        unfold Oper.wp
        rw [h1]
        exact hK ρ' v' w' h3 q1
      · cases h
    · rename_i H1 ho
      obtain ⟨-, ρ', w', h1, h3⟩ := aop_sound hI hf hg hl ho
      split at h
      · rename_i fr1 hp
        simp only [Option.some.injEq, Prod.mk.injEq] at h
        obtain ⟨rfl, rfl⟩ := h
        obtain ⟨q1, q2⟩ := (hf.mono h3.ext).put (a := a) hp (vr_undef ρ')
        unfold Oper.wp
        rw [h1]
        exact hK ρ' undef w' h3 q1
      · cases h
    · rename_i f args H1 ho
      obtain ⟨-, rfl, args', h1, h2⟩ := aop_sound hI hf hg hl ho
      split at h
      · rename_i v H2 hc
        split at h
        · rename_i fr1 hp
          simp only [Option.some.injEq, Prod.mk.injEq] at h
          obtain ⟨rfl, rfl⟩ := h
          unfold Oper.wp
          rw [h1]
          refine (hcall _ _ _ _ _ _ hc ρ w args' hI h2 hg hl).mono ?_
          rintro e w' ⟨ρ', v', rfl, hv, hst⟩
          obtain ⟨q1, q2⟩ := (hf.mono hst.ext).put (a := a) hp hv
          exact hK ρ' v' w' hst q1
        · cases h
      · cases h
    · cases h
  · rename_i hw
    rw [hw]
    split at h
    · rename_i fr1 hp
      simp only [Option.some.injEq, Prod.mk.injEq] at h
      obtain ⟨rfl, rfl⟩ := h
      obtain ⟨q1, q2⟩ := hf.put (a := a) hp (vr_undef ρ)
      exact hK ρ undef w (Step.refl hI) q1
    · cases h

omit [Env] in
theorem aops_cons (o : Oper) (l : List Oper) (fr : AFr) (H : AHeap) : aops P gl call ops lim (o :: l) fr H = match astep P gl call ops lim o fr H with
    | some (fr, H) => aops P gl call ops lim l fr H
    | none => none := rfl

theorem aops_sound (hcall : CallOK P gl call) {Q : Exit → Act → World → Prop} : ∀ (l : List Oper) (fr fr' : AFr) (H H' : AHeap) (ρ : Rho) (a : Act) (w : World), aops P gl call ops lim l fr H = some (fr', H') →
    Inv P ρ H w → FR ρ fr a.tmps → GOK ρ gl → lim ≤ H.next → (∀ ρ' a' w', Step P lim ρ H w ρ' H' w' → FR ρ' fr' a'.tmps → a'.defers = a.defers → Q .normal a' w') → wpList P ops Q l a w
  | [], fr, fr', H, H', ρ, a, w, h, hI, hf, hg, hl, hQ => by
    simp only [aops, Option.some.injEq, Prod.mk.injEq] at h
    obtain ⟨rfl, rfl⟩ := h
    exact hQ ρ a w (Step.refl hI) hf rfl
  | o :: l, fr, fr', H, H', ρ, a, w, h, hI, hf, hg, hl, hQ => by
    rw [aops_cons] at h
    split at h
    · rename_i fr1 H1 hs
      refine wpList_step fun K hK => astep_wp hcall hs hI hf hg hl fun ρ' v w' hst hf' => hK _ _ ?_
      refine aops_sound hcall l fr1 fr' H1 H' ρ' _ w' h hst.inv hf' (hg.mono hst.ext) (Nat.le_trans hl hst.next) fun ρ'' a'' w'' hst' hf'' hd => ?_
      refine hQ ρ'' a'' w'' (hst.trans hst') hf'' (hd.trans ?_)
      cases o.dst <;> rfl
    · cases h

def aexit : AExit → Exit
  | .normal => .normal
  | .exit id => .exit id
  | .ret => .ret

/-- What a run of code is good for. -/
def CodeOK (P : Program) (gl : Nat) (ex : Nat → Code → AFr → AHeap → Option (AExit × AFr × AHeap)) : Prop :=
  ∀ lim c fr H e fr' H', ex lim c fr H = some (e, fr', H') → ∀ (ρ : Rho) (a : Act) (w : World) (Q : Exit → Act → World → Prop), Inv P ρ H w → FR ρ fr a.tmps → GOK ρ gl → lim ≤ H.next →
    (∀ ρ' a' w', Step P lim ρ H w ρ' H' w' → FR ρ' fr' a'.tmps → a'.defers = a.defers → Q (aexit e) a' w') → c.wp P Q a w

omit [Dec] [Env] in
theorem aframe_get : ∀ (vs : List AV) (i : Nat) (t : T AV) (j : Nat), T.get (aframe vs i t) j = if i ≤ j ∧ j < i + vs.length then vs[j - i]? else T.get t j
  | [], i, t, j => by
    show T.get t j = _
    simp; intro h1 h2; omega
  | v :: vs, i, t, j => by
    show T.get (aframe vs (i + 1) (T.set t i (some v))) j = _
    rw [aframe_get vs (i + 1), T.get_set]
    by_cases h : i + 1 ≤ j ∧ j < i + 1 + vs.length
    · rw [if_pos h, if_pos (by simp; omega)]
      rw [show j - i = (j - (i + 1)) + 1 by omega]; simp
    · rw [if_neg h]
      by_cases hj : j = i
      · subst hj; simp
      · rw [if_neg hj, if_neg (by simp; omega)]

theorem frame_rel {ρ : Rho} {args : List AV} {args' : List Value} (h : VRs ρ args args') (n : Nat) :
    FR ρ ⟨Nat.max n args.length, aframe args 0 .leaf⟩ (args'.toArray ++ Array.replicate (n - args'.toArray.size) undef) := by
  have hl := h.length
  refine ⟨?_, fun t => ?_⟩
  · have : Nat.max n args.length = if n ≤ args.length then args.length else n := rfl
    simp only [this]
    split <;> simp <;> omega
  unfold AFr.at
  simp only [aframe_get, Nat.zero_le, true_and, Nat.zero_add, Nat.sub_zero]
  by_cases ht : t < args.length
  · rw [if_pos ht]
    obtain ⟨v, hv, hr⟩ := h.get t args[t] (by simp [ht])
    simp only [List.getElem?_eq_getElem ht]
    rw [Array.getD_eq_getD_getElem?, Array.getElem?_append_left (by simp; omega)]
    simp [hv]; exact hr
  · rw [if_neg ht, T.get_leaf]
    have : (args'.toArray ++ Array.replicate (n - args'.toArray.size) undef).getD t undef = undef := by
      rw [Array.getD_eq_getD_getElem?, Array.getElem?_append_right (by simp; omega)]
      simp [Array.getElem?_replicate]
      split <;> rfl
    rw [this]
    exact vr_undef ρ

def resOf (tmps : Array Value) : ResultVar → Sem Value
  | .tmp t => pure (tmps.getD t undef)
  | .cell a t => do loadVar t (← asAddr (tmps.getD a undef))

omit [Dec] [Env] in
theorem results_eq (fn : Func) (tmps : Array Value) : results fn tmps = (do
    let vs ← fn.results.mapM (resOf tmps)
    pure (if h : vs.size = 1 then vs[0] else .tuple vs)) := by
  unfold results
  congr 2

theorem results_rel {ρ : Rho} {fr : AFr} {H : AHeap} {tmps : Array Value} {w : World} (hI : Inv P ρ H w) (hf : FR ρ fr tmps) : ∀ (rs : List ResultVar) (vs : List AV), aresults P fr H rs = some vs →
    ∃ us : List Value, (rs.mapM (resOf tmps)).run P w = .ok us w ∧ VRs ρ vs us
  | [], vs, h => by simp [aresults] at h; subst h; exact ⟨[], by simp, .nil⟩
  | .tmp t :: rs, vs, h => by
    simp only [aresults, Option.map_eq_some_iff] at h
    obtain ⟨ws, hw, rfl⟩ := h
    obtain ⟨us, h1, h2⟩ := results_rel hI hf rs ws hw
    exact ⟨tmps.getD t undef :: us, by simp [List.mapM_cons, resOf, h1], .cons _ _ _ _ (hf.2 t) h2⟩
  | .cell x t :: rs, vs, h => by
    simp only [aresults] at h
    have hx := hf.2 x
    split at h
    · rename_i b o hb
      simp only [Option.bind_eq_some_iff, Option.map_eq_some_iff] at h
      obtain ⟨v, hv, ws, hw, rfl⟩ := h
      obtain ⟨us, h1, h2⟩ := results_rel hI hf rs ws hw
      rw [hb] at hx
      generalize hq : tmps.getD x undef = q at hx
      cases hx with | ptr _ _ r hr =>
      obtain ⟨u, hu, hrel⟩ := run_load (P := P) hI hr hv
      exact ⟨u :: us, by simp [List.mapM_cons, resOf, hq, asAddr, hu, h1], .cons _ _ _ _ hrel h2⟩
    · cases h

theorem acall_sound {orc : ACall} {ex : Nat → Code → AFr → AHeap → Option (AExit × AFr × AHeap)} (horc : CallOK P gl orc) (hex : CodeOK P gl ex) : CallOK P gl (acall P orc ex) := by
  intro lim f args H v H' h ρ w args' hI ha hg hl
  unfold acall at h
  split at h
  · rename_i r hr
    injection h with h; subst h
    exact horc _ _ _ _ _ _ hr ρ w args' hI ha hg hl
  · split at h
    · cases h
    · rename_i fn hfn
      split at h
      · cases h
      · rename_i c hb
        split at h
        · cases h
        · rename_i e fr H1 hne hx
          split at h
          · rename_i vs hvs
            simp only [Option.some.injEq, Prod.mk.injEq] at h
            obtain ⟨rfl, rfl⟩ := h
            refine calls_of_wp hfn hb ?_
            refine hex _ _ _ _ _ _ _ hx ρ _ w _ hI (frame_rel ha fn.ntmps) hg hl fun ρ' a' w' hst hf' hd => ?_
            obtain ⟨us, h1, h2⟩ := results_rel (P := P) hst.inv hf' _ _ hvs
            have hres : ∃ u, (results fn a'.tmps).run P w' = .ok u w' ∧ VR ρ' (aresult vs) u := by
              refine ⟨if h : us.toArray.size = 1 then us.toArray[0] else .tuple us.toArray, ?_, ?_⟩
              · have : (fn.results.mapM (resOf a'.tmps)).run P w' = .ok us.toArray w' := by
                  rw [← Array.toArray_toList (xs := fn.results), List.mapM_toArray]
                  simp only [Sem.run_map, h1, Result.andThen_ok]
                rw [results_eq]
                simp only [Sem.run_bind, this, Result.andThen_ok, Sem.run_pure]
              · match vs, us, h2 with
                | [], _, .nil => exact .tup _ [] .nil
                | [_], _, .cons _ u _ _ hu .nil => simpa [aresult] using hu
                | _ :: _ :: _, _, .cons _ u _ _ hu (.cons _ u' _ us' hu' ht) => simpa [aresult] using VR.tup _ (u :: u' :: us') (.cons _ u _ _ hu (.cons _ u' _ us' hu' ht))
            obtain ⟨u, hu, hrel⟩ := hres
            have hpost : a'.defers = [] ∧ ∃ v, (results fn a'.tmps).run P w' = .ok v w' ∧ ∃ ρ'' v', Ending.returned v = .returned v' ∧ VR ρ'' (aresult vs) v' ∧ Step P lim ρ H w ρ'' H1 w' :=
              ⟨hd, u, hu, ρ', u, rfl, hrel, hst⟩
            cases e with
            | normal => exact hpost
            | ret => exact hpost
            | exit id => exact absurd rfl (hne id)
          · cases h
        · cases h
end
end Go.Proofs.YtoehlmiadiiimaaGreatDoor.Ex
