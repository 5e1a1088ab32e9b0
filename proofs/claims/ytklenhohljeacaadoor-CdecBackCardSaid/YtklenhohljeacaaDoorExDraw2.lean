/-
  An executor over the model's code: regions that draw their order: whichever is drawn.
-/
import Derived.Test.YtklenhohljeacaaDoorExDraw
namespace Go.Proofs.YtklenhohljeacaaDoor.Ex
open Go
variable [Dec] [Env]

/-- What is known of blocks below a number. -/
def Rho.upto (ρ : Rho) (k : Nat) : Rho := fun b => if b < k then ρ b else none
omit [Dec] [Env] in
theorem Rho.upto_ext (ρ : Rho) (k : Nat) : Ext (ρ.upto k) ρ := fun b r h => by
  unfold Rho.upto at h; split at h
  · exact h
  · cases h
omit [Dec] [Env] in
theorem Rho.upto_mono {ρ ρ' : Rho} {k k' : Nat} (h : Ext ρ ρ') (hk : k ≤ k') : Ext (ρ.upto k) (ρ'.upto k') := fun b r hb => by
  unfold Rho.upto at hb ⊢
  split at hb
  · rw [if_pos (by omega)]; exact h _ _ hb
  · cases hb
omit [Dec] [Env] in
theorem Rho.upto_some {ρ : Rho} {k b : Nat} {r : RB} (h : ρ.upto k b = some r) : b < k ∧ ρ b = some r := by
  unfold Rho.upto at h; split at h
  · exact ⟨by assumption, h⟩
  · cases h

section
variable {P : Program} {lim gl : Nat} {ρ ρ' : Rho} {H H' H2 : AHeap} {w w' : World}

theorem upto_full (h : Inv P ρ H w) : Ext ρ (ρ.upto H.next) := fun b r hr => by
  unfold Rho.upto
  split
  · exact hr
  · rename_i hb
    rw [h.fresh b (by omega)] at hr; cases hr

/-- Nothing of a heap that is known has turned. -/
theorem Step.heap {ρ0 : Rho} {H0 : AHeap} {w0 : World} (h : Step P lim ρ0 H0 w0 ρ H w) (he : ∀ b, b < H.next → H2.get b = H.get b) (hk : H.next ≤ H2.next) (hl : lim ≤ H0.next) : Step P lim ρ0 H0 w0 ρ H2 w where
  ext := h.ext
  old := h.old
  next := Nat.le_trans h.next hk
  inv := {
    obj := fun b o r hb hr => by
      by_cases hlt : b < H.next
      · exact h.inv.obj b o r (by rw [← he b hlt]; exact hb) hr
      · rw [h.inv.fresh b (by omega)] at hr; cases hr
    inj := fun b c o p r s hb hp hr hs e => by
      by_cases hlt : b < H.next
      · by_cases hlc : c < H.next
        · exact h.inv.inj b c o p r s (by rw [← he b hlt]; exact hb) (by rw [← he c hlc]; exact hp) hr hs e
        · rw [h.inv.fresh c (by omega)] at hs; cases hs
      · rw [h.inv.fresh b (by omega)] at hr; cases hr
    fresh := fun b hb => h.inv.fresh b (by omega)
    lt := h.inv.lt }
  keep b hb := (he b (by have := h.next; omega)).trans (h.keep b hb)
  live b o hb ho := h.live b o hb (by rw [← he b (by have := h.next; omega)]; exact ho)
  size := h.size
  os := h.os
  tape := h.tape
  output := h.output
  frame := h.frame
  img b o r hb ho hr hs := by
    by_cases hlt : b < H.next
    · exact h.img b o r hb (by rw [← he b hlt]; exact ho) hr hs
    · rw [h.inv.fresh b (by omega)] at hr; cases hr

variable {call : ACall} {ops : Array Oper} {b : Array Nat}

omit [Env] in
theorem aopsD_cons (o : Oper) (l : List Oper) (j : Nat) (fr : AFr) (H : AHeap) : aopsD P gl call ops b lim (o :: l) j fr H =
    match astep P gl call ops (match fixedOp ops b j o with | true => lim | false => H.next) o fr H with
    | some (fr, H) => aopsD P gl call ops b lim l (Nat.succ j) fr H
    | none => none := rfl

omit [Env] in
/-- The frames and the heaps on the text's way. -/
theorem aopsD_seq : ∀ (l : List Oper) (j0 : Nat) (fr : AFr) (H : AHeap) (frN : AFr) (HN : AHeap), aopsD P gl call ops b lim l j0 fr H = some (frN, HN) →
    ∃ (F : Nat → AFr) (G : Nat → AHeap), F 0 = fr ∧ G 0 = H ∧ F l.length = frN ∧ G l.length = HN ∧
      ∀ i o, l[i]? = some o → astep P gl call ops (if fixedOp ops b (j0 + i) o = true then lim else (G i).next) o (F i) (G i) = some (F (i + 1), G (i + 1))
  | [], j0, fr, H, frN, HN, h => by
    simp only [aopsD, Option.some.injEq, Prod.mk.injEq] at h
    obtain ⟨rfl, rfl⟩ := h
    exact ⟨fun _ => fr, fun _ => H, rfl, rfl, rfl, rfl, fun i o hi => by simp at hi⟩
  | o :: l, j0, fr, H, frN, HN, h => by
    rw [aopsD_cons] at h
    split at h
    · rename_i fr1 H1 hs
      obtain ⟨F, G, hF, hG, hFn, hGn, hst⟩ := aopsD_seq l (j0 + 1) fr1 H1 frN HN h
      refine ⟨fun i => match i with | 0 => fr | i + 1 => F i, fun i => match i with | 0 => H | i + 1 => G i, rfl, rfl, hFn, hGn, fun i x hi => ?_⟩
      cases i with
      | zero =>
        simp at hi; subst hi
        dsimp only
        rw [hF, hG, ← hs]
        congr 1
        simp only [Nat.add_zero]
        cases fixedOp ops b j0 o <;> rfl
      | succ i =>
        have := hst i x (by simpa using hi)
        dsimp only
        rw [show j0 + (i + 1) = j0 + 1 + i by omega]
        exact this
    · cases h

omit [Env] in
theorem astep_put {o : Oper} {fr fr' : AFr} {lim' : Nat} (h : astep P gl call ops lim' o fr H = some (fr', H')) : ∃ x, AFr.put fr o.dst x = some fr' := by
  unfold astep at h
  split at h
  · split at h
    · split at h
      · rename_i hp
        simp only [Option.some.injEq, Prod.mk.injEq] at h
        exact ⟨_, by rw [hp, h.1]⟩
      · cases h
    · split at h
      · rename_i hp
        simp only [Option.some.injEq, Prod.mk.injEq] at h
        exact ⟨_, by rw [hp, h.1]⟩
      · cases h
    · split at h
      · split at h
        · rename_i hp
          simp only [Option.some.injEq, Prod.mk.injEq] at h
          exact ⟨_, by rw [hp, h.1]⟩
        · cases h
      · cases h
    · cases h
  · split at h
    · rename_i hp
      simp only [Option.some.injEq, Prod.mk.injEq] at h
      exact ⟨_, by rw [hp, h.1]⟩
    · cases h

omit [Dec] [Env] in
theorem put_at {fr fr' : AFr} {d : Option Nat} {x : AV} (h : AFr.put fr d x = some fr') : fr'.n = fr.n ∧ (∀ t, d ≠ some t → AFr.at fr' t = AFr.at fr t) ∧ ∀ t, d = some t → AFr.at fr' t = x ∧ t < fr.n := by
  cases d with
  | none => simp [AFr.put] at h; subst h; exact ⟨rfl, fun _ _ => rfl, fun t h => by cases h⟩
  | some d =>
    simp only [AFr.put] at h
    split at h
    · rename_i hb
      injection h with h; subst h
      refine ⟨rfl, fun t ht => ?_, fun t ht => ?_⟩
      · unfold AFr.at; rw [T.get_set, if_neg (fun e => ht (by rw [e]))]
      · injection ht with ht; subst ht
        exact ⟨by unfold AFr.at; rw [T.get_set, if_pos rfl], Nat.le_of_ble_eq_true hb⟩
    · cases h

/-- One operation, run. -/
theorem astep_exists (hcall : CallOK P gl call) {o : Oper} {fr fr' : AFr} {a : Act} {lim' : Nat} (h : astep P gl call ops lim' o fr H = some (fr', H')) (hI : Inv P ρ H w) (hf : FR ρ fr a.tmps) (hg : GOK ρ gl) (hl : lim' ≤ H.next) :
    (pureOp o = true → H' = H) ∧ ∃ ρ' v w', Step P lim' ρ H w ρ' H' w' ∧ FR ρ' fr' (a.put o.dst v).tmps := by
  unfold astep at h
  split at h
  · split at h
    · rename_i v H1 ho
      obtain ⟨ρ', v', w', h1, h2, h3, h4⟩ := aop_sound hI hf hg hl ho
      split at h
      · rename_i fr1 hp
        simp only [Option.some.injEq, Prod.mk.injEq] at h
        obtain ⟨rfl, rfl⟩ := h
        exact ⟨fun hp => (h4 hp).2.2, ρ', v', w', h3, ((hf.mono h3.ext).put (a := a) hp h2).1⟩
      · cases h
    · rename_i H1 ho
      obtain ⟨h0, ρ', w', h1, h3⟩ := aop_sound hI hf hg hl ho
      split at h
      · rename_i fr1 hp
        simp only [Option.some.injEq, Prod.mk.injEq] at h
        obtain ⟨rfl, rfl⟩ := h
        exact ⟨fun hp => (by rw [h0] at hp; cases hp), ρ', undef, w', h3, ((hf.mono h3.ext).put (a := a) hp (vr_undef ρ')).1⟩
      · cases h
    · rename_i f args H1 ho
      obtain ⟨h0, rfl, args', h1, h2⟩ := aop_sound hI hf hg hl ho
      split at h
      · rename_i v H2 hc
        split at h
        · rename_i fr1 hp
          simp only [Option.some.injEq, Prod.mk.injEq] at h
          obtain ⟨rfl, rfl⟩ := h
          obtain ⟨e, w', fr, ⟨ρ', v', rfl, hv, hst⟩, -⟩ := hcall _ _ _ _ _ _ hc ρ w args' hI h2 hg hl []
          exact ⟨fun hp => (by rw [h0] at hp; cases hp), ρ', v', w', hst, ((hf.mono hst.ext).put (a := a) hp hv).1⟩
        · cases h
      · cases h
    · cases h
  · split at h
    · rename_i fr1 hp
      simp only [Option.some.injEq, Prod.mk.injEq] at h
      obtain ⟨rfl, rfl⟩ := h
      exact ⟨fun _ => rfl, ρ, undef, w, Step.refl hI, (hf.put (a := a) hp (vr_undef ρ)).1⟩
    · cases h

omit [Dec] [Env] in
theorem tree_of (f : Tmp → AV) : ∀ l : List Tmp, ∃ t : T AV, ∀ x, T.get t x = if x ∈ l then some (f x) else none
  | [] => ⟨.leaf, fun x => by simp [T.get_leaf]⟩
  | y :: l => by
    obtain ⟨t, ht⟩ := tree_of f l
    refine ⟨t.set y (some (f y)), fun x => ?_⟩
    rw [T.get_set]
    by_cases e : x = y
    · subst e; simp
    · rw [if_neg e, ht]; simp [e]

omit [Dec] [Env] in
theorem looks_guard {o : Oper} {g : Nat} {want : Bool} {d : Tmp} (h : o.guard = some (g, want)) (hd : (ops[g]?).bind (·.dst) = some d) : d ∈ looks ops o := by
  unfold looks
  rw [h]
  simp [hd]

omit [Dec] [Env] in
theorem looks_oper {o : Oper} {t : Tmp} (h : Operand.tmp t ∈ o.op.operands) : t ∈ looks ops o := by
  unfold looks
  rw [List.mem_append]
  exact .inl (List.mem_filterMap.2 ⟨.tmp t, by simpa using h, rfl⟩)

omit [Dec] [Env] in
theorem noSel_spec (h : noSel ops = true) {j : Nat} {o : Oper} (ho : ops[j]? = some o) (cs : Array SelectCase) (bl : Bool) : o.op ≠ .select cs bl := by
  intro e
  have := Array.all_eq_true_iff_forall_mem.1 h o (Array.mem_of_getElem? ho)
  simp [e] at this

/-- One operation in a frame of which only what it looks at is known. -/
theorem local_wp (hcall : CallOK P gl call) (hns : noSel ops = true) {j : Nat} {o : Oper} {fr fr' : AFr} {c : Act} {lim' : Nat} {K : Act → World → Prop} {Q : Exit → Act → World → Prop} (ho : ops[j]? = some o)
    (h : astep P gl call ops lim' o fr H = some (fr', H')) (hI : Inv P ρ H w) (hsz : c.tmps.size = fr.n) (hlook : ∀ t ∈ looks ops o, VR ρ (AFr.at fr t) (c.tmps.getD t undef)) (hg : GOK ρ gl) (hl : lim' ≤ H.next)
    (hK : ∀ ρ' v x w', AFr.put fr o.dst x = some fr' → VR ρ' x v → Step P lim' ρ H w ρ' H' w' → (pureOp o = true → ρ' = ρ ∧ w' = w) → K (c.put o.dst v) w') : wpOp P ops Q j K c w := by
  obtain ⟨tr, htr⟩ := tree_of (AFr.at fr) (looks ops o)
  let fr2 : AFr := ⟨fr.n, tr⟩
  let a2 : Act := { tmps := Array.ofFn (n := fr.n) fun i => if i.1 ∈ looks ops o then c.tmps.getD i.1 undef else undef, defers := c.defers }
  have at2 : ∀ t, AFr.at fr2 t = if t ∈ looks ops o then AFr.at fr t else aundef := fun t => by
    show (match T.get tr t with | some v => v | none => aundef) = _
    rw [htr]; by_cases ht : t ∈ looks ops o <;> simp [ht]
  have tm2 : ∀ t, a2.tmps.getD t undef = if t ∈ looks ops o then c.tmps.getD t undef else undef := fun t => by
    simp only [a2, Array.getD_eq_getD_getElem?, Array.getElem?_ofFn]
    by_cases ht : t < fr.n
    · simp [ht]
    · rw [dif_neg ht]
      split
      · rw [Array.getElem?_eq_none (by omega)]
      · rfl
  have hf2 : FR ρ fr2 a2.tmps := ⟨by simp [a2, fr2], fun t => by
    rw [at2, tm2]
    split
    · exact hlook t (by assumption)
    · exact vr_undef ρ⟩
  have hex : execOp c.eval o = execOp a2.eval o := execOp_congr o (fun cs bl => noSel_spec hns ho cs bl) fun x hx => by
    cases x with
    | tmp t =>
      show c.tmps.getD t undef = a2.tmps.getD t undef
      rw [tm2, if_pos (looks_oper hx)]
    | _ => rfl
  have hao : ∀ H, aop P gl lim' fr H o = aop P gl lim' fr2 H o := fun H => aop_congr fun x hx => by
    cases x with
    | tmp t =>
      show some (AFr.at fr t) = some (AFr.at fr2 t)
      rw [at2, if_pos (looks_oper hx)]
    | _ => rfl
  have hw1 : Region.wanted o (ayielded ops fr) = Region.wanted o (yielded ops c.tmps) := by
    unfold Region.wanted
    cases hgd : o.guard with
    | none => rfl
    | some gw =>
      obtain ⟨g, want⟩ := gw
      have : ayielded ops fr g = yielded ops c.tmps g := by
        unfold ayielded yielded
        cases hd : (ops[g]?).bind (·.dst) with
        | none => rfl
        | some t =>
          have hv := hlook t (looks_guard hgd hd)
          simp only [Option.bind_some]
          cases ht : c.tmps[t]? with
          | none =>
            have e : c.tmps.getD t undef = undef := by rw [Array.getD_eq_getD_getElem?, ht]; rfl
            rw [e] at hv
            generalize AFr.at fr t = x at hv
            unfold undef at hv
            cases hv
            rfl
          | some v =>
            have e : c.tmps.getD t undef = v := by rw [Array.getD_eq_getD_getElem?, ht]; rfl
            rw [e] at hv
            generalize AFr.at fr t = x at hv
            cases hv <;> rfl
      simp only [this]
  unfold wpOp
  simp only [ho]
  unfold astep at h
  rw [hw1] at h
  split at h
  · rename_i hw
    rw [hw, if_pos rfl]
    refine .inl ?_
    unfold Oper.wp
    rw [hex]
    rw [hao] at h
    split at h
    · rename_i v H1 hop
      obtain ⟨ρ', v', w', h1, h2, h3, h4⟩ := aop_sound hI hf2 hg hl hop
      split at h
      · rename_i fr1 hp
        simp only [Option.some.injEq, Prod.mk.injEq] at h
        obtain ⟨rfl, rfl⟩ := h
        rw [h1]
        exact hK ρ' v' v w' hp h2 h3 fun hp => ⟨(h4 hp).1, (h4 hp).2.1⟩
      · cases h
    · rename_i H1 hop
      obtain ⟨h0, ρ', w', h1, h3⟩ := aop_sound hI hf2 hg hl hop
      split at h
      · rename_i fr1 hp
        simp only [Option.some.injEq, Prod.mk.injEq] at h
        obtain ⟨rfl, rfl⟩ := h
        rw [h1]
        exact hK ρ' undef aundef w' hp (vr_undef ρ') h3 fun hp => by rw [h0] at hp; cases hp
      · cases h
    · rename_i f args H1 hop
      obtain ⟨h0, rfl, args', h1, h2⟩ := aop_sound hI hf2 hg hl hop
      split at h
      · rename_i v H2 hc
        split at h
        · rename_i fr1 hp
          simp only [Option.some.injEq, Prod.mk.injEq] at h
          obtain ⟨rfl, rfl⟩ := h
          rw [h1]
          refine (hcall _ _ _ _ _ _ hc ρ w args' hI h2 hg hl).mono ?_
          rintro e w' ⟨ρ', v', rfl, hv, hst⟩
          exact hK ρ' v' v w' hp hv hst fun hp => by rw [h0] at hp; cases hp
        · cases h
      · cases h
    · cases h
  · rename_i hw
    rw [hw]
    split at h
    · rename_i fr1 hp
      simp only [Option.some.injEq, Prod.mk.injEq] at h
      obtain ⟨rfl, rfl⟩ := h
      exact hK ρ undef aundef w hp (vr_undef ρ) (Step.refl hI) fun _ => ⟨rfl, rfl⟩
    · cases h
end
end Go.Proofs.YtklenhohljeacaaDoor.Ex
