/-
  An executor over the model's code, for the kernel: operations made ready do the same.
-/
import Derived.Test.YtklenhohljeacaaDoorExK2
namespace Go.Proofs.YtklenhohljeacaaDoor.Ex
open Go
variable [Dec]
section
variable {P : Program} {gl : Nat} {call : ACall} {ops : Array Oper} {lim : Nat} {o : Oper} {fr : AFr} {H : AHeap}

omit [Dec] in
theorem val_ret (x : Option AV) : fin call lim fr o.dst (x.map fun v => .val v H) = obind x fun v => putK fr o.dst v H := by
  cases x with
  | none => rfl
  | some v => rfl

theorem cstep_eq : cstep P gl call ops lim (compOp P gl o) fr H = astep P gl call ops lim o fr H := by
  cases hg : o.guard with
  | some g => unfold compOp; rw [hg]; rfl
  | none =>
    rw [astep_wanted hg]
    have slow : cstep P gl call ops lim (.slow o) fr H = fin call lim fr o.dst (aop P gl lim fr H o) := astep_wanted hg
    unfold compOp
    rw [hg]
    simp only
    cases ho : o.op <;> simp only <;> try exact slow
    case move x =>
      show obind (srGet (srOf gl x) fr) (fun v => putK fr o.dst v H) = _
      unfold aop; rw [ho]; simp only
      rw [srGet_eq, val_ret]
    case assign x =>
      show obind (srGet (srOf gl x) fr) (fun v => putK fr o.dst v H) = _
      unfold aop; rw [ho]; simp only
      rw [srGet_eq, val_ret]
    case binOp op t x y u =>
      show obind (srGet (srOf gl x) fr) (fun a => obind (srGet (srOf gl y) fr) fun b => obind (binK a b (abinS P op t a b) (ibinK op)) fun v => putK fr o.dst v H) = _
      unfold aop; rw [ho]; simp only
      rw [srGet_eq, srGet_eq]
      cases aev gl fr x with
      | none => rfl
      | some a => cases aev gl fr y with
        | none => rfl
        | some b =>
          show obind (binK a b (abinS P op t a b) (ibinK op)) (fun v => putK fr o.dst v H) = _
          rw [binK_eq (P := P)]
          simp only [Option.bind_some]
          rw [val_ret]
    case convert s d x =>
      split
      · rename_i ts k hs hd
        show obind (srGet (srOf gl x) fr) (fun a => onInt a (fun _ n => putK fr o.dst (.int k (wrapK k n)) H) (obind (aconvS P H s d a) fun r => putK fr o.dst r.1 r.2)) = _
        unfold aop; rw [ho]; simp only
        rw [srGet_eq]
        cases aev gl fr x with
        | none => rfl
        | some a =>
          have gen : obind (aconvS P H s d a) (fun r => putK fr o.dst r.1 r.2) = fin call lim fr o.dst ((aconvS P H s d a).map fun (v, H) => Res.val v H) := by
            cases aconvS P H s d a <;> rfl
          simp only [Option.bind_some]
          rw [← gen]
          cases a <;> try rfl
          case int k' n =>
            show putK fr o.dst (.int k (wrapK k n)) H = _
            have : aconvS P H s d (.int k' n) = some (.int k (k.wrap n), H) := by
              unfold aconvS aconv
              simp only [hs, hd]
            rw [this, wrapK_eq]
            rfl
      · exact slow
    case load t a =>
      split
      · rename_i ha
        show obind (srGet (srOf gl a) fr) (fun a => onPtr a (xLd fr H o.dst) none) = _
        unfold aop; rw [ho]; simp only
        rw [srGet_eq]
        cases aev gl fr a with
        | none => rfl
        | some a =>
          cases a <;> try rfl
          case ptr b off =>
            show xLd fr H o.dst b off = _
            simp only [Option.bind_some]
            rw [val_ret]
            unfold xLd aload
            cases H.get b with
            | none => rfl
            | some x => cases x with
              | cells c e tt => simp only [ha, nthK_eq]; rfl
              | map es k => rfl
              | iter s p => rfl
      · rename_i ha
        split
        · rename_i n hn
          show obind (srGet (srOf gl a) fr) (fun a => onPtr a (xLdN fr H o.dst n) none) = _
          unfold aop; rw [ho]; simp only
          rw [srGet_eq]
          cases aev gl fr a with
          | none => rfl
          | some a =>
            cases a <;> try rfl
            case ptr b off =>
              show xLdN fr H o.dst n b off = _
              simp only [Option.bind_some]
              rw [val_ret]
              unfold xLdN aload
              cases H.get b with
              | none => rfl
              | some x => cases x with
                | cells c e tt =>
                  simp only [ha, hn, Option.bind_some]
                  show (if off + n ≤ c.length then _ else _) = _
                  split <;> rfl
                | map es k => rfl
                | iter s p => rfl
        · exact slow
      · exact slow
    case store t a x =>
      split
      · rename_i n hn
        show obind (srGet (srOf gl a) fr) (fun a => obind (srGet (srOf gl x) fr) fun v => onPtr a (xSt lim fr H o.dst n v) none) = _
        unfold aop; rw [ho]; simp only
        rw [srGet_eq, srGet_eq]
        cases aev gl fr a with
        | none => rfl
        | some a => cases aev gl fr x with
          | none => rfl
          | some v =>
            cases a <;> try rfl
            case ptr b off =>
              show xSt lim fr H o.dst n v b off = _
              simp only [Option.bind_some]
              unfold xSt astore
              rw [lenK_beq, hn]
              by_cases h : v.cells.length = n
              · rw [if_pos (by rw [h]), decide_eq_true h]
                show obind (awrite H lim b off v.cells) _ = _
                cases awrite H lim b off v.cells <;> rfl
              · rw [if_neg (by simpa using h), decide_eq_false h]
                rfl
      · exact slow
    case fieldAddr t x f =>
      split
      · rename_i fs hfs
        split
        · rename_i fd hfd
          split
          · rename_i n hn
            split
            · exact slow
            · rename_i h0
              show obind (srGet (srOf gl x) fr) (fun a => onPtr a (fun b off => putK fr o.dst (.ptr b (Nat.add off fd.offset)) H) none) = _
              unfold aop; rw [ho]; simp only
              rw [srGet_eq]
              cases aev gl fr x with
              | none => rfl
              | some a =>
                simp only [Option.bind_some, hfs]
                cases a <;> try rfl
                case ptr b off =>
                  simp only [hfd, Option.bind_some, hn, if_neg h0]
                  rfl
          · exact slow
        · exact slow
      · exact slow
    case field t x f =>
      split
      · rename_i fs hfs
        split
        · rename_i fd hfd
          split
          · rename_i ha
            show obind (srGet (srOf gl x) fr) (fun a => onAgg a (fun cs => obind (nthK cs fd.offset) fun v => putK fr o.dst v H) none) = _
            unfold aop; rw [ho]; simp only
            rw [srGet_eq]
            cases aev gl fr x with
            | none => rfl
            | some a =>
              simp only [Option.bind_some, hfs]
              cases a <;> try rfl
              case agg cs =>
                simp only [hfd, Option.bind_some]
                rw [val_ret]
                unfold apart
                rw [ha]
                show obind (nthK cs fd.offset) _ = _
                rw [nthK_eq]
          · rename_i ha
            split
            · rename_i n hn
              show obind (srGet (srOf gl x) fr) (fun a => onAgg a (fun cs => putK fr o.dst (.agg ((cs.drop fd.offset).take n)) H) none) = _
              unfold aop; rw [ho]; simp only
              rw [srGet_eq]
              cases aev gl fr x with
              | none => rfl
              | some a =>
                simp only [Option.bind_some, hfs]
                cases a <;> try rfl
                case agg cs =>
                  simp only [hfd, Option.bind_some]
                  rw [val_ret]
                  unfold apart
                  rw [ha, hn]
                  rfl
            · exact slow
          · exact slow
        · exact slow
      · exact slow
    case indexAddr t x i =>
      split
      · rename_i len e ht
        split
        · rename_i n hn
          show obind (srGet (srOf gl x) fr) (fun a => obind (srGet (srOf gl i) fr) fun i => onPtr a (fun b off => onInt i (fun _ i => xIaS fr H o.dst n b off len i) none) none) = _
          unfold aop; rw [ho]; simp only
          rw [srGet_eq, srGet_eq]
          cases aev gl fr x with
          | none => rfl
          | some a => cases aev gl fr i with
            | none => rfl
            | some i =>
              simp only [Option.bind_some, ht]
              cases a <;> try rfl
              case ptr b off =>
                cases i <;> try rfl
                case int k i =>
                  show xIaS fr H o.dst n b off len i = _
                  rw [xIaS_eq]
                  simp only [hn, Option.bind_some]
                  split <;> rfl
        · exact slow
      · rename_i e ht
        split
        · rename_i n hn
          unfold aop; rw [ho]; simp only
          show obind (srGet (srOf gl x) fr) (fun a => obind (srGet (srOf gl i) fr) fun i => match a with
            | .sl b off len _ => onInt i (fun _ i => xIaS fr H o.dst n b off len i) none
            | _ => none) = _
          rw [srGet_eq, srGet_eq]
          cases aev gl fr x with
          | none => rfl
          | some a => cases aev gl fr i with
            | none => rfl
            | some i =>
              simp only [Option.bind_some, ht]
              cases a <;> try rfl
              case sl b off len cap =>
                cases i <;> try rfl
                case int k i =>
                  show xIaS fr H o.dst n b off len i = _
                  rw [xIaS_eq]
                  simp only [hn, Option.bind_some]
                  split <;> rfl
        · exact slow
      · exact slow
    case extract x i =>
      show obind (srGet (srOf gl x) fr) (fun a => match a with
        | .tup vs => obind (nthK vs i) fun v => putK fr o.dst v H
        | _ => none) = _
      unfold aop; rw [ho]; simp only
      rw [srGet_eq]
      cases aev gl fr x with
      | none => rfl
      | some a =>
        simp only [Option.bind_some]
        cases a <;> try rfl
        case tup vs =>
          simp only
          rw [val_ret]
          show obind (nthK vs i) _ = _
          rw [nthK_eq]
    case call c =>
      split
      · rename_i f hf
        split
        · rename_i hb
          show obind (srGets fr (c.args.toList.map (srOf gl))) (fun args => obind (call lim f args H) fun r => putK fr o.dst r.1 r.2) = _
          unfold aop; rw [ho]; simp only
          rw [srGets_eq]
          cases aevs gl fr c.args.toList with
          | none => rfl
          | some args =>
            simp only [Option.bind_some, hf]
            show obind (call lim f args H) _ = _
            simp only [aev, Option.bind_some, hb, if_true, List.nil_append, List.append_nil]
            show _ = (match call lim f args H with | some (v, H) => putK fr o.dst v H | none => none)
            cases call lim f args H <;> rfl
        · exact slow
      · exact slow
    case build t parts =>
      split
      · rename_i z fs hz hfs
        split
        · rename_i hall
          split
          · rename_i ss e hc
            split
            · rename_i he
              subst he
              show obind (srGets fr ((parts.toList.map (·.2)).map (srOf gl))) (fun vs => obind (catK ss vs) fun cs => putK fr o.dst (.agg cs) H) = _
              unfold aop; rw [ho]; simp only
              rw [srGets_eq]
              cases hvs : aevs gl fr (parts.toList.map (·.2)) with
              | none => rfl
              | some vs =>
                simp only [Option.bind_some, hz, hfs, if_pos hall]
                unfold aparts
                rw [afill_zero hc (by rw [aevs_length hvs]; simp)]
                show obind (catK ss vs) _ = _
                cases catK ss vs <;> rfl
            · exact slow
          · exact slow
        · exact slow
      · rename_i z len e hz ht
        split
        · rename_i n hn
          split
          · rename_i ss m hc
            split
            · rename_i he
              subst he
              show obind (srGets fr ((parts.toList.map (·.2)).map (srOf gl))) (fun vs => obind (catK ss vs) fun cs => putK fr o.dst (.agg cs) H) = _
              unfold aop; rw [ho]; simp only
              rw [srGets_eq]
              cases hvs : aevs gl fr (parts.toList.map (·.2)) with
              | none => rfl
              | some vs =>
                simp only [Option.bind_some, hz, ht, hn]
                unfold aparts
                rw [afill_zero hc (by rw [aevs_length hvs]; simp)]
                show obind (catK ss vs) _ = _
                cases catK ss vs <;> rfl
            · exact slow
          · exact slow
        · exact slow
      · exact slow
    case buildSlice t len parts =>
      split
      · rename_i e ht
        split
        · rename_i n z hn hz
          split
          · rename_i hb
            split
            · rename_i ss m hc
              split
              · rename_i hm
                show obind (srGets fr ((parts.toList.map (·.2)).map (srOf gl))) (fun vs => obind (catK ss vs) fun cs => putK fr o.dst (.sl H.next 0 len len) (H.alloc (.cells cs e true))) = _
                unfold aop; rw [ho]; simp only
                rw [srGets_eq]
                cases hvs : aevs gl fr (parts.toList.map (·.2)) with
                | none => rfl
                | some vs =>
                  simp only [Option.bind_some, ht, hn, hz, if_pos hb]
                  unfold aparts
                  have hl : (azeros z.cells len).length = m := by rw [azeros_length, hb.1, hm]
                  rw [← hl] at hc
                  rw [afill_zero hc (by rw [aevs_length hvs]; simp)]
                  show obind (catK ss vs) _ = _
                  cases catK ss vs <;> rfl
              · exact slow
            · exact slow
          · exact slow
        · exact slow
      · exact slow
end

/-- A region's operations, made ready; true: it stands, in every order, where the text has it. -/
noncomputable def compL (P : Program) (gl : Nat) (ops : Array Oper) (b : Array Nat) (draw : Bool) (l : List Oper) : Nat → List (Bool × Ix) :=
  List.rec (motive := fun _ => Nat → List (Bool × Ix)) (fun _ => []) (fun o _ ih j => (Bool.rec (motive := fun _ => Bool) true (fixedOp ops b j o) draw, compOp P gl o) :: ih (Nat.succ j)) l
noncomputable def compR (P : Program) (gl : Nat) (ops : Array Oper) (draw : Bool) : Option (List (Bool × Ix)) :=
  Bool.rec (motive := fun _ => Option (List (Bool × Ix))) (some (compL P gl ops #[] false ops.toList 0))
    (Bool.rec (motive := fun _ => Option (List (Bool × Ix))) none (some (compL P gl ops (Region.before ops) true ops.toList 0)) (drawOK ops (Region.before ops) && noSel ops)) draw
noncomputable def aopsK (P : Program) (gl : Nat) (call : ACall) (ops : Array Oper) (lim : Nat) (l : List (Bool × Ix)) : AFr → AHeap → Option (AFr × AHeap) :=
  List.rec (motive := fun _ => AFr → AHeap → Option (AFr × AHeap)) (fun fr H => some (fr, H)) (fun x _ ih fr H =>
    obind (cstep P gl call ops (Bool.rec (motive := fun _ => Nat) H.next lim x.1) x.2 fr H) fun r => ih r.1 r.2) l
theorem aopsK_eq {P : Program} {gl : Nat} {call : ACall} {ops : Array Oper} {lim : Nat} : ∀ (l : List Oper) (j : Nat) (fr : AFr) (H : AHeap), aopsK P gl call ops lim (compL P gl ops #[] false l j) fr H = aops P gl call ops lim l fr H
  | [], _, _, _ => rfl
  | o :: l, j, fr, H => by
    show obind (cstep P gl call ops lim (compOp P gl o) fr H) (fun r => aopsK P gl call ops lim (compL P gl ops #[] false l (j + 1)) r.1 r.2) = match astep P gl call ops lim o fr H with
      | some (fr, H) => aops P gl call ops lim l fr H
      | none => none
    rw [cstep_eq]
    cases astep P gl call ops lim o fr H with
    | none => rfl
    | some r => exact aopsK_eq l (j + 1) r.1 r.2
theorem aopsDK_eq {P : Program} {gl : Nat} {call : ACall} {ops : Array Oper} {lim : Nat} {b : Array Nat} : ∀ (l : List Oper) (j : Nat) (fr : AFr) (H : AHeap), aopsK P gl call ops lim (compL P gl ops b true l j) fr H = aopsD P gl call ops b lim l j fr H
  | [], _, _, _ => rfl
  | o :: l, j, fr, H => by
    show obind (cstep P gl call ops (Bool.rec (motive := fun _ => Nat) H.next lim (fixedOp ops b j o)) (compOp P gl o) fr H) (fun r => aopsK P gl call ops lim (compL P gl ops b true l (j + 1)) r.1 r.2) =
      match astep P gl call ops (match fixedOp ops b j o with | true => lim | false => H.next) o fr H with
      | some (fr, H) => aopsD P gl call ops b lim l (j + 1) fr H
      | none => none
    rw [cstep_eq]
    have e : (Bool.rec (motive := fun _ => Nat) H.next lim (fixedOp ops b j o)) = (match fixedOp ops b j o with | true => lim | false => H.next) := by cases fixedOp ops b j o <;> rfl
    rw [e]
    cases astep P gl call ops (match fixedOp ops b j o with | true => lim | false => H.next) o fr H with
    | none => rfl
    | some r => exact aopsDK_eq l (j + 1) r.1 r.2
theorem aregionK_eq {P : Program} {gl : Nat} {call : ACall} {ops : Array Oper} {draw : Bool} {lim : Nat} {fr : AFr} {H : AHeap} :
    obind (compR P gl ops draw) (fun l => aopsK P gl call ops lim l fr H) = aregion P gl call ops draw lim fr H := by
  cases draw with
  | false => exact aopsK_eq _ _ _ _
  | true =>
    show obind (Bool.rec (motive := fun _ => Option (List (Bool × Ix))) none (some (compL P gl ops (Region.before ops) true ops.toList 0)) (drawOK ops (Region.before ops) && noSel ops)) _ = match drawOK ops (Region.before ops) && noSel ops with
      | true => aopsD P gl call ops (Region.before ops) lim ops.toList 0 fr H
      | false => none
    cases drawOK ops (Region.before ops) && noSel ops with
    | false => rfl
    | true => exact aopsDK_eq _ _ _ _

abbrev XR := Option (AExit × AFr × AHeap)
/-- what comes behind an outcome -/
noncomputable def onNorm (r : XR) (f : AFr → AHeap → XR) : XR :=
  Option.rec (motive := fun _ => XR) none (fun p => AExit.rec (motive := fun _ => XR) (f p.2.1 p.2.2) (fun _ => r) r p.1) r
noncomputable def onExit (r : XR) (id : Nat) : XR :=
  Option.rec (motive := fun _ => XR) none (fun p => AExit.rec (motive := fun _ => XR) r (fun id' => Bool.rec (motive := fun _ => XR) r (some (.normal, p.2)) (Nat.beq id' id)) r p.1) r
noncomputable def xReg (P : Program) (gl : Nat) (call : ACall) (lim : Nat) (ops : Array Oper) (draw : Bool) (fr : AFr) (H : AHeap) : XR :=
  obind (compR P gl ops draw) fun l => obind (aopsK P gl call ops lim l fr H) fun r => some (.normal, r)
def onBool {β : Type} (x : AV) (f : Bool → β) (g : β) : β := match x with | .bool b => f b | _ => g
noncomputable def xCond (fr : AFr) (c : Sr) (t e : XR) : XR := obind (srGet c fr) fun v => onBool v (fun b => Bool.rec (motive := fun _ => XR) e t b) none

noncomputable def execK (P : Program) (gl : Nat) (orc : ACall) (n : Nat) : Nat → Code → AFr → AHeap → XR :=
  Nat.rec (motive := fun _ => Nat → Code → AFr → AHeap → XR) (fun _ _ _ _ => none) (fun _ ih lim c fr H =>
    Code.casesOn (motive := fun _ => XR) c
      (some (.normal, fr, H))
      (fun _ ops draw => xReg P gl (acall P orc ih) lim ops draw fr H)
      (fun a b => onNorm (ih lim a fr H) (ih lim b))
      (fun c x y => xCond fr (srOf gl c) (ih lim x fr H) (ih lim y fr H))
      (fun id c => onExit (ih lim c fr H) id)
      (fun c => onNorm (ih lim c fr H) (ih lim (.loop c)))
      (fun _ _ _ _ => none)
      (fun id => some (.exit id, fr, H))
      (fun c => ih lim c fr H)
      (fun _ => some (.normal, fr, H))
      (fun _ => none)
      (some (.ret, fr, H))
      (fun _ => none)) n
theorem execK_eq (P : Program) (gl : Nat) (orc : ACall) : ∀ n, execK P gl orc n = exec P gl orc n
  | 0 => rfl
  | n + 1 => by
    have ih := execK_eq P gl orc n
    funext lim c fr H
    cases c with
    | region id ops draw =>
      show xReg P gl (acall P orc (execK P gl orc n)) lim ops draw fr H = match aregion P gl (acall P orc (exec P gl orc n)) ops draw lim fr H with
        | some (fr, H) => some (.normal, fr, H)
        | none => none
      rw [ih, ← aregionK_eq]
      unfold xReg
      cases compR P gl ops draw with
      | none => rfl
      | some l =>
        have e : obind (some l) (fun l => aopsK P gl (acall P orc (exec P gl orc n)) ops lim l fr H) = aopsK P gl (acall P orc (exec P gl orc n)) ops lim l fr H := rfl
        rw [e]
        show obind (aopsK P gl (acall P orc (exec P gl orc n)) ops lim l fr H) (fun r => some (AExit.normal, r)) = _
        cases aopsK P gl (acall P orc (exec P gl orc n)) ops lim l fr H <;> rfl
    | seq a b =>
      show onNorm (execK P gl orc n lim a fr H) (execK P gl orc n lim b) = match exec P gl orc n lim a fr H with
        | some (.normal, fr, H) => exec P gl orc n lim b fr H
        | r => r
      rw [ih]
      cases exec P gl orc n lim a fr H with
      | none => rfl
      | some r =>
        obtain ⟨e, fr, H⟩ := r
        cases e <;> rfl
    | cond c x y =>
      show xCond fr (srOf gl c) (execK P gl orc n lim x fr H) (execK P gl orc n lim y fr H) = match aev gl fr c with
        | some (.bool true) => exec P gl orc n lim x fr H
        | some (.bool false) => exec P gl orc n lim y fr H
        | _ => none
      rw [ih]
      unfold xCond
      rw [srGet_eq]
      cases aev gl fr c with
      | none => rfl
      | some v =>
        cases v <;> try rfl
        case bool b => cases b <;> rfl
    | block id c =>
      show onExit (execK P gl orc n lim c fr H) id = match exec P gl orc n lim c fr H with
        | some (.exit id', fr, H) => match Nat.beq id' id with
          | true => some (.normal, fr, H)
          | false => some (.exit id', fr, H)
        | r => r
      rw [ih]
      cases exec P gl orc n lim c fr H with
      | none => rfl
      | some r =>
        obtain ⟨e, fr, H⟩ := r
        cases e <;> try rfl
        case exit id' =>
          show Bool.rec (motive := fun _ => XR) _ _ (Nat.beq id' id) = match Nat.beq id' id with
            | true => some (.normal, fr, H)
            | false => some (.exit id', fr, H)
          cases Nat.beq id' id <;> rfl
    | loop c =>
      show onNorm (execK P gl orc n lim c fr H) (execK P gl orc n lim (.loop c)) = match exec P gl orc n lim c fr H with
        | some (.normal, fr, H) => exec P gl orc n lim (.loop c) fr H
        | r => r
      rw [ih]
      cases exec P gl orc n lim c fr H with
      | none => rfl
      | some r =>
        obtain ⟨e, fr, H⟩ := r
        cases e <;> rfl
    | scope c => exact congrFun (congrFun (congrFun (congrFun ih lim) c) fr) H
    | _ => rfl
end Go.Proofs.YtklenhohljeacaaDoor.Ex
