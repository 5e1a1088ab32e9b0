/-
  An executor over the model's code, for the kernel: regions, code, calls; it is the same.
-/
import Derived.Test.YtklenhohljeacaaDoorExC2
namespace Go.Proofs.YtklenhohljeacaaDoor.Ex
open Go
variable [Dec]

/-- One of a region's operations: does it stand in every order where the text has it; whose answer lets it run; itself. -/
structure Em where
  flag : Bool
  guard : Option (Nat × Bool × Option Nat)
  ix : Iy
def strike (o : Oper) : Oper := { o with guard := none }
def compG (ops : Array Oper) (o : Oper) : Option (Option (Nat × Bool × Option Nat)) :=
  match o.guard with
  | none => some none
  | some (j, want) => match (ops[j]?).bind (·.dst) with
    | some g => some (some (g, want, o.dst))
    | none => none
def compE (P : Program) (gl : Nat) (ops : Array Oper) (flag : Bool) (o : Oper) : Em :=
  match compG ops o with
  | some g => ⟨flag, g, compY P gl (strike o)⟩
  | none => ⟨flag, none, .ix (.slow o)⟩

noncomputable def beqB (a b : Bool) : Bool := Bool.rec (motive := fun _ => Bool) (notK b) b a
omit [Dec] in
theorem beqB_eq (a b : Bool) : beqB a b = (a == b) := by cases a <;> cases b <;> rfl
noncomputable def xGrd (P : Program) (gl : Nat) (call : ACall) (callT : CallT) (ops : Array Oper) (lim N : Nat) (i : Iy) (t : T AV) (H : AHeap) (k : KT) (g : Nat × Bool × Option Nat) : Rr :=
  onBool (atT t g.1) (fun b => Bool.rec (motive := fun _ => Rr) (putT N t g.2.2 aundef H k) (cstepY P gl call callT ops lim N i t H k) (beqB b g.2.1)) (putT N t g.2.2 aundef H k)
noncomputable def cstepE (P : Program) (gl : Nat) (call : ACall) (callT : CallT) (ops : Array Oper) (lim N : Nat) (e : Em) (t : T AV) (H : AHeap) (k : KT) : Rr :=
  Option.rec (motive := fun _ => Rr) (cstepY P gl call callT ops lim N e.ix t H k) (fun g => xGrd P gl call callT ops lim N e.ix t H k g) e.guard
noncomputable def limE (lim : Nat) (H : AHeap) (f : Bool) : Nat := Bool.rec (motive := fun _ => Nat) H.next lim f

section
variable {P : Program} {gl : Nat} {call : ACall} {callT : CallT} {ops : Array Oper} {lim N : Nat}
omit [Dec] in
theorem atT_eq (t : T AV) (n : Nat) : atT t n = AFr.at ⟨N, t⟩ n := by unfold atT AFr.at; cases T.get t n <;> rfl
theorem astep_strike {o : Oper} (t : T AV) (H : AHeap) : astep P gl call ops lim o ⟨N, t⟩ H = match Region.wanted o (ayielded ops ⟨N, t⟩) with
    | true => astep P gl call ops lim (strike o) ⟨N, t⟩ H
    | false => putK ⟨N, t⟩ o.dst aundef H := by
  have e : astep P gl call ops lim (strike o) ⟨N, t⟩ H = fin call lim ⟨N, t⟩ o.dst (aop P gl lim ⟨N, t⟩ H o) := astep_wanted rfl
  cases hw : Region.wanted o (ayielded ops ⟨N, t⟩) with
  | true =>
    simp only
    rw [e]
    unfold astep
    rw [hw]
    simp only
    cases aop P gl lim ⟨N, t⟩ H o with
    | none => rfl
    | some r => cases r with
      | val v H' => exact (putK_eq _ _ _ _).symm
      | skip H' => exact (putK_eq _ _ _ _).symm
      | enter f args H' =>
        unfold fin
        simp only
        cases call lim f args H' with
        | none => rfl
        | some r => exact (putK_eq _ _ _ _).symm
  | false =>
    unfold astep
    rw [hw]
    exact (putK_eq _ _ _ _).symm

theorem cstepE_eq (hc : CallEq call callT) {o : Oper} (f : Bool) (t : T AV) (H : AHeap) (k : KT) :
    cstepE P gl call callT ops lim N (compE P gl ops f o) t H k = kk (astep P gl call ops lim o ⟨N, t⟩ H) k := by
  unfold compE
  cases hg : compG ops o with
  | none => rfl
  | some g =>
    unfold compG at hg
    split at hg
    · rename_i h0
      injection hg with hg; subst hg
      show cstepY P gl call callT ops lim N (compY P gl (strike o)) t H k = _
      rw [cstepY_eq hc rfl, astep_strike (o := o)]
      rw [show Region.wanted o (ayielded ops ⟨N, t⟩) = true from by unfold Region.wanted; rw [h0]]
    · rename_i j want h0
      split at hg
      · rename_i g' hd
        injection hg with hg; subst hg
        show onBool (atT t g') (fun b => Bool.rec (motive := fun _ => Rr) (putT N t o.dst aundef H k) (cstepY P gl call callT ops lim N (compY P gl (strike o)) t H k) (beqB b want)) (putT N t o.dst aundef H k) = _
        rw [cstepY_eq hc rfl, astep_strike (o := o), atT_eq (N := N)]
        have hw : Region.wanted o (ayielded ops ⟨N, t⟩) = (ayielded ops ⟨N, t⟩ j == some want) := by unfold Region.wanted; rw [h0]
        rw [hw]
        have hy : ayielded ops ⟨N, t⟩ j = match AFr.at ⟨N, t⟩ g' with | .bool b => some b | _ => none := by
          unfold ayielded; rw [hd]; simp only
          cases AFr.at ⟨N, t⟩ g' <;> rfl
        rw [hy, putT_eq]
        cases AFr.at ⟨N, t⟩ g' <;> try rfl
        case bool b =>
          show Bool.rec (motive := fun _ => Rr) _ _ (beqB b want) = _
          rw [beqB_eq]
          cases b <;> cases want <;> rfl
      · cases hg

noncomputable def compLE (P : Program) (gl : Nat) (ops : Array Oper) (b : Array Nat) (draw : Bool) (l : List Oper) : Nat → List Em :=
  List.rec (motive := fun _ => Nat → List Em) (fun _ => []) (fun o _ ih j => compE P gl ops (Bool.rec (motive := fun _ => Bool) true (fixedOp ops b j o) draw) o :: ih (Nat.succ j)) l
noncomputable def compRE (P : Program) (gl : Nat) (ops : Array Oper) (draw : Bool) : Option (List Em) :=
  Bool.rec (motive := fun _ => Option (List Em)) (some (compLE P gl ops #[] false ops.toList 0))
    (Bool.rec (motive := fun _ => Option (List Em)) none (some (compLE P gl ops (Region.before ops) true ops.toList 0)) (drawOK ops (Region.before ops) && noSel ops)) draw
noncomputable def aopsT (P : Program) (gl : Nat) (call : ACall) (callT : CallT) (ops : Array Oper) (lim N : Nat) (l : List Em) : T AV → AHeap → KT → Rr :=
  List.rec (motive := fun _ => T AV → AHeap → KT → Rr) (fun t H k => k t H) (fun x _ ih t H k => cstepE P gl call callT ops (limE lim H x.flag) N x t H fun t H => ih t H k) l

omit [Dec] in
theorem put_n {fr fr' : AFr} {d : Option Nat} {v : AV} (h : AFr.put fr d v = some fr') : fr'.n = fr.n := by
  unfold AFr.put at h
  cases d with
  | none => simp at h; subst h; rfl
  | some d =>
    simp only at h
    split at h
    · injection h with h; subst h; rfl
    · cases h
theorem astep_n {o : Oper} {fr : AFr} {H : AHeap} {r : AFr × AHeap} (h : astep P gl call ops lim o fr H = some r) : r.1.n = fr.n := by
  unfold astep at h
  split at h
  · split at h
    · split at h
      · rename_i hp; injection h with h; subst h; exact put_n hp
      · cases h
    · split at h
      · rename_i hp; injection h with h; subst h; exact put_n hp
      · cases h
    · split at h
      · split at h
        · rename_i hp; injection h with h; subst h; exact put_n hp
        · cases h
      · cases h
    · cases h
  · split at h
    · rename_i hp; injection h with h; subst h; exact put_n hp
    · cases h
omit [Dec] in
theorem eta_n {fr : AFr} (h : fr.n = N) : fr = ⟨N, fr.t⟩ := by obtain ⟨n, t⟩ := fr; simp at h; subst h; rfl

theorem aopsT_eq (hc : CallEq call callT) : ∀ (l : List Oper) (j : Nat) (t : T AV) (H : AHeap) (k : KT),
    aopsT P gl call callT ops lim N (compLE P gl ops #[] false l j) t H k = kk (aops P gl call ops lim l ⟨N, t⟩ H) k ∧ ∀ r, aops P gl call ops lim l ⟨N, t⟩ H = some r → r.1.n = N
  | [], _, t, H, k => ⟨rfl, fun r h => by injection h with h; subst h; rfl⟩
  | o :: l, j, t, H, k => by
    have e : aops P gl call ops lim (o :: l) ⟨N, t⟩ H = obind (astep P gl call ops lim o ⟨N, t⟩ H) fun r => aops P gl call ops lim l r.1 r.2 := by
      show (match astep P gl call ops lim o ⟨N, t⟩ H with | some (fr, H) => aops P gl call ops lim l fr H | none => none) = _
      cases astep P gl call ops lim o ⟨N, t⟩ H <;> rfl
    rw [e]
    have e2 : aopsT P gl call callT ops lim N (compLE P gl ops #[] false (o :: l) j) t H k = kk (astep P gl call ops lim o ⟨N, t⟩ H) fun t H => aopsT P gl call callT ops lim N (compLE P gl ops #[] false l (j + 1)) t H k := by
      have h0 : ∀ (e : Em), e.flag = true → cstepE P gl call callT ops (limE lim H e.flag) N e t H (fun t H => aopsT P gl call callT ops lim N (compLE P gl ops #[] false l (j + 1)) t H k) = cstepE P gl call callT ops lim N e t H (fun t H => aopsT P gl call callT ops lim N (compLE P gl ops #[] false l (j + 1)) t H k) := fun e h => by rw [h]; rfl
      refine (h0 (compE P gl ops true o) ?_).trans (cstepE_eq hc _ t H _)
      unfold compE
      split <;> rfl
    rw [e2]
    cases hs : astep P gl call ops lim o ⟨N, t⟩ H with
    | none => exact ⟨rfl, fun r h => by cases h⟩
    | some r =>
      have hn := astep_n hs
      have ih := aopsT_eq hc l (j + 1) r.1.t r.2 k
      rw [← eta_n (N := N) hn] at ih
      exact ih
theorem aopsTD_eq (hc : CallEq call callT) {b : Array Nat} : ∀ (l : List Oper) (j : Nat) (t : T AV) (H : AHeap) (k : KT),
    aopsT P gl call callT ops lim N (compLE P gl ops b true l j) t H k = kk (aopsD P gl call ops b lim l j ⟨N, t⟩ H) k ∧ ∀ r, aopsD P gl call ops b lim l j ⟨N, t⟩ H = some r → r.1.n = N
  | [], _, t, H, k => ⟨rfl, fun r h => by injection h with h; subst h; rfl⟩
  | o :: l, j, t, H, k => by
    have el : (match fixedOp ops b j o with | true => lim | false => H.next) = limE lim H (fixedOp ops b j o) := by unfold limE; cases fixedOp ops b j o <;> rfl
    have e : aopsD P gl call ops b lim (o :: l) j ⟨N, t⟩ H = obind (astep P gl call ops (limE lim H (fixedOp ops b j o)) o ⟨N, t⟩ H) fun r => aopsD P gl call ops b lim l (j + 1) r.1 r.2 := by
      show (match astep P gl call ops (match fixedOp ops b j o with | true => lim | false => H.next) o ⟨N, t⟩ H with | some (fr, H) => aopsD P gl call ops b lim l (j + 1) fr H | none => none) = _
      rw [el]
      cases astep P gl call ops (limE lim H (fixedOp ops b j o)) o ⟨N, t⟩ H <;> rfl
    rw [e]
    have e2 : aopsT P gl call callT ops lim N (compLE P gl ops b true (o :: l) j) t H k = kk (astep P gl call ops (limE lim H (fixedOp ops b j o)) o ⟨N, t⟩ H) fun t H => aopsT P gl call callT ops lim N (compLE P gl ops b true l (j + 1)) t H k := by
      have h0 : ∀ (f : Bool) (e : Em), e.flag = f → cstepE P gl call callT ops (limE lim H e.flag) N e t H (fun t H => aopsT P gl call callT ops lim N (compLE P gl ops b true l (j + 1)) t H k) = cstepE P gl call callT ops (limE lim H f) N e t H (fun t H => aopsT P gl call callT ops lim N (compLE P gl ops b true l (j + 1)) t H k) := fun f e h => by rw [h]
      refine (h0 (fixedOp ops b j o) (compE P gl ops (fixedOp ops b j o) o) ?_).trans (cstepE_eq hc _ t H _)
      unfold compE
      split <;> rfl
    rw [e2]
    cases hs : astep P gl call ops (limE lim H (fixedOp ops b j o)) o ⟨N, t⟩ H with
    | none => exact ⟨rfl, fun r h => by cases h⟩
    | some r =>
      have hn := astep_n hs
      have ih := aopsTD_eq hc (b := b) l (j + 1) r.1.t r.2 k
      rw [← eta_n (N := N) hn] at ih
      exact ih

noncomputable def xRegT (P : Program) (gl : Nat) (call : ACall) (callT : CallT) (lim N : Nat) (ops : Array Oper) (draw : Bool) (t : T AV) (H : AHeap) (k : KT) : Rr :=
  obind (compRE P gl ops draw) fun l => aopsT P gl call callT ops lim N l t H k
theorem xRegT_eq (hc : CallEq call callT) {draw : Bool} (t : T AV) (H : AHeap) (k : KT) :
    xRegT P gl call callT lim N ops draw t H k = kk (aregion P gl call ops draw lim ⟨N, t⟩ H) k ∧ ∀ r, aregion P gl call ops draw lim ⟨N, t⟩ H = some r → r.1.n = N := by
  cases draw with
  | false => exact aopsT_eq hc _ _ _ _ _
  | true =>
    unfold aregion
    simp only
    have e : xRegT P gl call callT lim N ops true t H k = obind (Bool.rec (motive := fun _ => Option (List Em)) none (some (compLE P gl ops (Region.before ops) true ops.toList 0)) (drawOK ops (Region.before ops) && noSel ops)) fun l => aopsT P gl call callT ops lim N l t H k := rfl
    rw [e]
    cases drawOK ops (Region.before ops) && noSel ops with
    | false => exact ⟨rfl, fun r h => by cases h⟩
    | true => exact aopsTD_eq hc _ _ _ _ _
end

abbrev ExT := Nat → Nat → Code → T AV → AHeap → KT → (Nat → KT) → KT → Rr
def fnOf (P : Program) (f : FuncId) : Option (Nat × Code × List ResultVar) := (P.funcs[f]?).bind fun fn => fn.body.map fun c => (fn.ntmps, c, fn.results.toList)
noncomputable def resT (P : Program) (N : Nat) (t : T AV) (H : AHeap) (rs : List ResultVar) (k : AV → AHeap → Rr) : Rr := obind (aresults P ⟨N, t⟩ H rs) fun vs => k (aresult vs) H
noncomputable def enterT (P : Program) (ex : ExT) (lim : Nat) (args : List AV) (H : AHeap) (k : AV → AHeap → Rr) (N : Nat) (c : Code) (rs : List ResultVar) : Rr :=
  ex lim N c (aframe args 0 .leaf) H (fun t H => resT P N t H rs k) (fun _ _ _ => none) (fun t H => resT P N t H rs k)
noncomputable def acallT (P : Program) (orc : ACall) (ex : ExT) : CallT := fun lim f args H k =>
  Option.rec (motive := fun _ => Rr) (obind (fnOf P f) fun x => enterT P ex lim args H k (Nat.max x.1 (lenK args)) x.2.1 x.2.2) (fun r => k r.1 r.2) (orc lim f args H)

noncomputable def execT (P : Program) (gl : Nat) (orc : ACall) (n : Nat) : ExT :=
  Nat.rec (motive := fun _ => ExT) (fun _ _ _ _ _ _ _ _ => none) (fun n' ih lim N c t H kn kx kr =>
    Code.casesOn (motive := fun _ => Rr) c
      (kn t H)
      (fun _ ops draw => xRegT P gl (acall P orc (exec P gl orc n')) (acallT P orc ih) lim N ops draw t H kn)
      (fun a b => ih lim N a t H (fun t H => ih lim N b t H kn kx kr) kx kr)
      (fun c x y => srT (srOf gl c) t fun v => onBool v (fun b => Bool.rec (motive := fun _ => Rr) (ih lim N y t H kn kx kr) (ih lim N x t H kn kx kr) b) none)
      (fun id c => ih lim N c t H kn (fun id' t H => Bool.rec (motive := fun _ => Rr) (kx id' t H) (kn t H) (Nat.beq id' id)) kr)
      (fun c => ih lim N c t H (fun t H => ih lim N (.loop c) t H kn kx kr) kx kr)
      (fun _ _ _ _ => none)
      (fun id => kx id t H)
      (fun c => ih lim N c t H kn kx kr)
      (fun _ => kn t H)
      (fun _ => none)
      (kr t H)
      (fun _ => none)) n

/-- on, by how it ended -/
def onX (r : XR) (kn : KT) (kx : Nat → KT) (kr : KT) : Rr := match r with
  | none => none
  | some (.normal, fr, H) => kn fr.t H
  | some (.exit id, fr, H) => kx id fr.t H
  | some (.ret, fr, H) => kr fr.t H

omit [Dec] in
theorem acallT_eq {P : Program} {orc : ACall} {ex : Nat → Code → AFr → AHeap → XR} {exT : ExT}
    (h : ∀ lim N c t H kn kx kr, exT lim N c t H kn kx kr = onX (ex lim c ⟨N, t⟩ H) kn kx kr ∧ ∀ r, ex lim c ⟨N, t⟩ H = some r → r.2.1.n = N) : CallEq (acall P orc ex) (acallT P orc exT) := by
  intro lim f args H k
  unfold acallT acall
  cases orc lim f args H with
  | some r => rfl
  | none =>
    show (obind (fnOf P f) fun x => enterT P exT lim args H k (Nat.max x.1 (lenK args)) x.2.1 x.2.2) = _
    unfold fnOf
    simp only
    cases P.funcs[f]? with
    | none => rfl
    | some fn =>
      simp only [Option.bind_some]
      cases fn.body with
      | none => rfl
      | some c =>
        show enterT P exT lim args H k (Nat.max fn.ntmps (lenK args)) c fn.results.toList = _
        rw [lenK_eq]
        unfold enterT
        obtain ⟨h1, h2⟩ := h lim (Nat.max fn.ntmps args.length) c (aframe args 0 .leaf) H (fun t H => resT P (Nat.max fn.ntmps args.length) t H fn.results.toList k) (fun _ _ _ => none) (fun t H => resT P (Nat.max fn.ntmps args.length) t H fn.results.toList k)
        rw [h1]
        simp only
        cases hx : ex lim c ⟨Nat.max fn.ntmps args.length, aframe args 0 .leaf⟩ H with
        | none => rfl
        | some r =>
          obtain ⟨e, fr, H'⟩ := r
          have hn := h2 _ hx
          simp only at hn
          have key : resT P (Nat.max fn.ntmps args.length) fr.t H' fn.results.toList k = obind (match aresults P fr H' fn.results.toList with
              | some vs => some (aresult vs, H')
              | none => none) fun r => k r.1 r.2 := by
            unfold resT
            rw [← eta_n hn]
            cases aresults P fr H' fn.results.toList <;> rfl
          cases e with
          | normal => exact key
          | ret => exact key
          | exit id => rfl

theorem execT_eq (P : Program) (gl : Nat) (orc : ACall) : ∀ n lim N c t H kn kx kr,
    execT P gl orc n lim N c t H kn kx kr = onX (exec P gl orc n lim c ⟨N, t⟩ H) kn kx kr ∧ ∀ r, exec P gl orc n lim c ⟨N, t⟩ H = some r → r.2.1.n = N
  | 0 => fun lim N c t H kn kx kr => ⟨rfl, fun r h => by cases h⟩
  | n + 1 => by
    have ih := execT_eq P gl orc n
    intro lim N c t H kn kx kr
    cases c with
    | skip => exact ⟨rfl, fun r h => by injection h with h; subst h; rfl⟩
    | label l => exact ⟨rfl, fun r h => by injection h with h; subst h; rfl⟩
    | ret => exact ⟨rfl, fun r h => by injection h with h; subst h; rfl⟩
    | exit id => exact ⟨rfl, fun r h => by injection h with h; subst h; rfl⟩
    | rangeFunc f p a b => exact ⟨rfl, fun r h => by cases h⟩
    | goto l => exact ⟨rfl, fun r h => by cases h⟩
    | refuse w => exact ⟨rfl, fun r h => by cases h⟩
    | region id ops draw =>
      have hc : CallEq (acall P orc (exec P gl orc n)) (acallT P orc (execT P gl orc n)) := acallT_eq ih
      obtain ⟨h1, h2⟩ := xRegT_eq (P := P) (gl := gl) (ops := ops) (lim := lim) (N := N) hc (draw := draw) t H kn
      have e : exec P gl orc (n + 1) lim (.region id ops draw) ⟨N, t⟩ H = match aregion P gl (acall P orc (exec P gl orc n)) ops draw lim ⟨N, t⟩ H with
          | some (fr, H) => some (.normal, fr, H)
          | none => none := rfl
      rw [e]
      refine ⟨Eq.trans (show _ = xRegT P gl (acall P orc (exec P gl orc n)) (acallT P orc (execT P gl orc n)) lim N ops draw t H kn from rfl) (h1.trans ?_), fun r hr => ?_⟩
      · cases aregion P gl (acall P orc (exec P gl orc n)) ops draw lim ⟨N, t⟩ H <;> rfl
      · cases hq : aregion P gl (acall P orc (exec P gl orc n)) ops draw lim ⟨N, t⟩ H with
        | none => rw [hq] at hr; cases hr
        | some q => rw [hq] at hr; injection hr with hr; subst hr; exact h2 q hq
    | seq a b =>
      obtain ⟨h1, h2⟩ := ih lim N a t H (fun t H => execT P gl orc n lim N b t H kn kx kr) kx kr
      have e : exec P gl orc (n + 1) lim (.seq a b) ⟨N, t⟩ H = match exec P gl orc n lim a ⟨N, t⟩ H with
          | some (.normal, fr, H) => exec P gl orc n lim b fr H
          | r => r := rfl
      rw [e]
      refine ⟨Eq.trans (show _ = execT P gl orc n lim N a t H (fun t H => execT P gl orc n lim N b t H kn kx kr) kx kr from rfl) (h1.trans ?_), fun r hr => ?_⟩
      · cases hq : exec P gl orc n lim a ⟨N, t⟩ H with
        | none => rfl
        | some q =>
          obtain ⟨x, fr, H'⟩ := q
          have hn : fr.n = N := h2 _ hq
          cases x <;> try rfl
          case normal =>
            show execT P gl orc n lim N b fr.t H' kn kx kr = _
            rw [(ih lim N b fr.t H' kn kx kr).1, ← eta_n hn]
      · cases hq : exec P gl orc n lim a ⟨N, t⟩ H with
        | none => rw [hq] at hr; cases hr
        | some q =>
          obtain ⟨x, fr, H'⟩ := q
          have hn : fr.n = N := h2 _ hq
          rw [hq] at hr
          cases x with
          | normal =>
            simp only at hr
            rw [eta_n hn] at hr
            exact (ih lim N b fr.t H' kn kx kr).2 r hr
          | exit i => injection hr with hr; subst hr; exact hn
          | ret => injection hr with hr; subst hr; exact hn
    | cond c x y =>
      have e : exec P gl orc (n + 1) lim (.cond c x y) ⟨N, t⟩ H = match aev gl ⟨N, t⟩ c with
          | some (.bool true) => exec P gl orc n lim x ⟨N, t⟩ H
          | some (.bool false) => exec P gl orc n lim y ⟨N, t⟩ H
          | _ => none := rfl
      rw [e]
      have e2 : execT P gl orc (n + 1) lim N (.cond c x y) t H kn kx kr = obind (aev gl ⟨N, t⟩ c) fun v => onBool v (fun b => Bool.rec (motive := fun _ => Rr) (execT P gl orc n lim N y t H kn kx kr) (execT P gl orc n lim N x t H kn kx kr) b) none :=
        Eq.trans (show execT P gl orc (n + 1) lim N (.cond c x y) t H kn kx kr = srT (srOf gl c) t (fun v => onBool v (fun b => Bool.rec (motive := fun _ => Rr) (execT P gl orc n lim N y t H kn kx kr) (execT P gl orc n lim N x t H kn kx kr) b) none) from rfl) (srT_aev (N := N) ..)
      rw [e2]
      cases aev gl ⟨N, t⟩ c with
      | none => exact ⟨rfl, fun r h => by cases h⟩
      | some v =>
        cases v <;> try exact ⟨rfl, fun r h => by cases h⟩
        case bool b =>
          cases b with
          | true => exact ih lim N x t H kn kx kr
          | false => exact ih lim N y t H kn kx kr
    | block id c =>
      obtain ⟨h1, h2⟩ := ih lim N c t H kn (fun id' t H => Bool.rec (motive := fun _ => Rr) (kx id' t H) (kn t H) (Nat.beq id' id)) kr
      have e : exec P gl orc (n + 1) lim (.block id c) ⟨N, t⟩ H = match exec P gl orc n lim c ⟨N, t⟩ H with
          | some (.exit id', fr, H) => match Nat.beq id' id with
            | true => some (.normal, fr, H)
            | false => some (.exit id', fr, H)
          | r => r := rfl
      rw [e]
      refine ⟨Eq.trans (show _ = execT P gl orc n lim N c t H kn (fun id' t H => Bool.rec (motive := fun _ => Rr) (kx id' t H) (kn t H) (Nat.beq id' id)) kr from rfl) (h1.trans ?_), fun r hr => ?_⟩
      · cases hq : exec P gl orc n lim c ⟨N, t⟩ H with
        | none => rfl
        | some q =>
          obtain ⟨x, fr, H'⟩ := q
          cases x <;> try rfl
          case exit i =>
            show Bool.rec (motive := fun _ => Rr) (kx i fr.t H') (kn fr.t H') (Nat.beq i id) = onX (match Nat.beq i id with
              | true => some (.normal, fr, H')
              | false => some (.exit i, fr, H')) kn kx kr
            cases Nat.beq i id <;> rfl
      · cases hq : exec P gl orc n lim c ⟨N, t⟩ H with
        | none => rw [hq] at hr; cases hr
        | some q =>
          obtain ⟨x, fr, H'⟩ := q
          have hn : fr.n = N := h2 _ hq
          rw [hq] at hr
          cases x with
          | normal => injection hr with hr; subst hr; exact hn
          | exit i =>
            simp only at hr
            split at hr
            · injection hr with hr; subst hr; exact hn
            · injection hr with hr; subst hr; exact hn
          | ret => injection hr with hr; subst hr; exact hn
    | loop c =>
      obtain ⟨h1, h2⟩ := ih lim N c t H (fun t H => execT P gl orc n lim N (.loop c) t H kn kx kr) kx kr
      have e : exec P gl orc (n + 1) lim (.loop c) ⟨N, t⟩ H = match exec P gl orc n lim c ⟨N, t⟩ H with
          | some (.normal, fr, H) => exec P gl orc n lim (.loop c) fr H
          | r => r := rfl
      rw [e]
      refine ⟨Eq.trans (show _ = execT P gl orc n lim N c t H (fun t H => execT P gl orc n lim N (.loop c) t H kn kx kr) kx kr from rfl) (h1.trans ?_), fun r hr => ?_⟩
      · cases hq : exec P gl orc n lim c ⟨N, t⟩ H with
        | none => rfl
        | some q =>
          obtain ⟨x, fr, H'⟩ := q
          have hn : fr.n = N := h2 _ hq
          cases x <;> try rfl
          case normal =>
            show execT P gl orc n lim N (.loop c) fr.t H' kn kx kr = _
            rw [(ih lim N (.loop c) fr.t H' kn kx kr).1, ← eta_n hn]
      · cases hq : exec P gl orc n lim c ⟨N, t⟩ H with
        | none => rw [hq] at hr; cases hr
        | some q =>
          obtain ⟨x, fr, H'⟩ := q
          have hn : fr.n = N := h2 _ hq
          rw [hq] at hr
          cases x with
          | normal =>
            simp only at hr
            rw [eta_n hn] at hr
            exact (ih lim N (.loop c) fr.t H' kn kx kr).2 r hr
          | exit i => injection hr with hr; subst hr; exact hn
          | ret => injection hr with hr; subst hr; exact hn
    | scope c => exact ih lim N c t H kn kx kr

/-- The executor's call, as the kernel runs it. -/
theorem callT_eq (P : Program) (gl : Nat) (orc : ACall) (n : Nat) (lim : Nat) (f : FuncId) (args : List AV) (H : AHeap) :
    acallT P orc (execT P gl orc n) lim f args H (fun v H => some (v, H)) = acall P orc (exec P gl orc n) lim f args H := by
  rw [acallT_eq (execT_eq P gl orc n)]
  cases acall P orc (exec P gl orc n) lim f args H <;> rfl
end Go.Proofs.YtklenhohljeacaaDoor.Ex
