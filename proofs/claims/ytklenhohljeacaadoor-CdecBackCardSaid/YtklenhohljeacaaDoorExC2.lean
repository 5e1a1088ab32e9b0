/-
  An executor over the model's code, for the kernel: more operations made ready; code; calls.
-/
import Derived.Test.YtklenhohljeacaaDoorExC
namespace Go.Proofs.YtklenhohljeacaaDoor.Ex
open Go
variable [Dec]

inductive Iy where
  | ix (i : Ix)
  | un (d : Option Nat) (op : UnOp) (x : Sr)
  | pick (d : Option Nat) (c a b : Sr)
  | box (d : Option Nat) (e : TypeId) (x : Sr)
  | alloc (d : Option Nat) (e : TypeId) (z : List AV)
  | lenS (d : Option Nat) (x : Sr)
  | lenT (d : Option Nat) (x : Sr)
  | ixA (d : Option Nat) (len n : Nat) (x i : Sr)
  | ixT (d : Option Nat) (x i : Sr)
  | ixAN (d : Option Nat) (len n : Nat) (x i : Sr)
  | slow (o : Oper)

def isSlow : Ix → Bool
  | .slow _ => true
  | _ => false
def compZ (P : Program) (gl : Nat) (o : Oper) : Iy :=
  match o.op with
  | .unOp op _ x => .un o.dst op (srOf gl x)
  | .pick c a b => .pick o.dst (srOf gl c) (srOf gl a) (srOf gl b)
  | .box e x => .box o.dst e (srOf gl x)
  | .alloc e => match zero P e with
    | some z => .alloc o.dst e z.cells
    | none => .slow o
  | .index t x i => match und P t with
    | some (.array len e) => match sz P e, agg? P e with
      | some n, some false => .ixA o.dst len n (srOf gl x) (srOf gl i)
      | some n, some true => .ixAN o.dst len n (srOf gl x) (srOf gl i)
      | _, _ => .slow o
    | some .string => .ixT o.dst (srOf gl x) (srOf gl i)
    | _ => .slow o
  | .call c => match c.callee, c.argTypes.toList, c.args.toList with
    | .builtin .len, t :: _, [x] => match und P t with
      | some (.slice _) => .lenS o.dst (srOf gl x)
      | some .string => .lenT o.dst (srOf gl x)
      | _ => .slow o
    | _, _, _ => .slow o
  | _ => .slow o
def compY (P : Program) (gl : Nat) (o : Oper) : Iy := match isSlow (compOp P gl o) with
  | false => .ix (compOp P gl o)
  | true => compZ P gl o

noncomputable def nthN (l : List Nat) (n : Nat) : Option Nat := List.rec (motive := fun _ => Nat → Option Nat) (fun _ => none) (fun a _ ih n => Bool.rec (motive := fun _ => Option Nat) (ih (Nat.pred n)) (some a) (Nat.beq n (nat_lit 0))) l n
omit [Dec] in
theorem nthN_eq : ∀ (l : List Nat) (n : Nat), nthN l n = l[n]?
  | [], n => rfl
  | a :: l, n => by
    show Bool.rec (motive := fun _ => Option Nat) (nthN l (Nat.pred n)) (some a) (Nat.beq n 0) = _
    rw [nthN_eq l]
    cases n <;> rfl
noncomputable def lenN (l : List Nat) : Nat := List.rec (motive := fun _ => Nat) (nat_lit 0) (fun _ _ ih => Nat.succ ih) l
omit [Dec] in
theorem lenN_eq : ∀ (l : List Nat), lenN l = l.length
  | [] => rfl
  | _ :: l => congrArg Nat.succ (lenN_eq l)

noncomputable def finT (callT : CallT) (lim N : Nat) (t : T AV) (d : Option Nat) (r : Option Res) (k : KT) : Rr :=
  obind r fun r => Res.rec (motive := fun _ => Rr) (fun v H => putT N t d v H k) (fun H => putT N t d aundef H k) (fun f args H => callT lim f args H fun v H => putT N t d v H k) r
def onStr {β : Type} (x : AV) (f : List Nat → β) (g : β) : β := match x with | .str l => f l | _ => g
noncomputable def xPick (N : Nat) (d : Option Nat) (t : T AV) (H : AHeap) (k : KT) (s : Sr) : Rr := srT s t fun v => putT N t d v H k
noncomputable def xLenS (N : Nat) (d : Option Nat) (t : T AV) (H : AHeap) (k : KT) (a : AV) : Rr := match a with
  | .sl _ _ n _ => putT N t d (.int .i64 (.ofNat n)) H k
  | .nilsl => putT N t d (.int .i64 (.ofNat 0)) H k
  | _ => none
noncomputable def xIxA (N : Nat) (d : Option Nat) (t : T AV) (H : AHeap) (k : KT) (len n : Nat) (cs : List AV) (i : Int) : Rr :=
  Int.rec (motive := fun _ => Rr) (fun i => Bool.rec (motive := fun _ => Rr) none (obind (nthK cs (Nat.mul i n)) fun v => putT N t d v H k) (Nat.ble (Nat.succ i) len)) (fun _ => none) i
noncomputable def xIxAN (N : Nat) (d : Option Nat) (t : T AV) (H : AHeap) (k : KT) (len n : Nat) (cs : List AV) (i : Int) : Rr :=
  Int.rec (motive := fun _ => Rr) (fun i => Bool.rec (motive := fun _ => Rr) none (putT N t d (partK cs (Nat.mul i n) n) H k) (Nat.ble (Nat.succ i) len)) (fun _ => none) i
noncomputable def xIxT (N : Nat) (d : Option Nat) (t : T AV) (H : AHeap) (k : KT) (s : List Nat) (i : Int) : Rr :=
  Int.rec (motive := fun _ => Rr) (fun i => obind (nthN s i) fun b => putT N t d (.int .u8 (.ofNat b)) H k) (fun _ => none) i

noncomputable def cstepY (P : Program) (gl : Nat) (call : ACall) (callT : CallT) (ops : Array Oper) (lim N : Nat) (i : Iy) (t : T AV) (H : AHeap) (k : KT) : Rr :=
  Iy.rec (motive := fun _ => Rr)
    (fun i => cstepT P gl call callT ops lim N i t H k)
    (fun d op x => srT x t fun a => obind (aunS op a) fun v => putT N t d v H k)
    (fun d c a b => srT c t fun c => onBool c (fun c => Bool.rec (motive := fun _ => Rr) (xPick N d t H k b) (xPick N d t H k a) c) none)
    (fun d e x => srT x t fun v => putT N t d (.ptr H.next 0) (H.alloc (.cells v.cells e true)) k)
    (fun d e z => putT N t d (.ptr H.next 0) (H.alloc (.cells z e true)) k)
    (fun d x => srT x t fun a => xLenS N d t H k a)
    (fun d x => srT x t fun a => onStr a (fun s => putT N t d (.int .i64 (.ofNat (lenN s))) H k) none)
    (fun d len n x i => srT x t fun a => srT i t fun i => onAgg a (fun cs => onInt i (fun _ i => xIxA N d t H k len n cs i) none) none)
    (fun d x i => srT x t fun a => srT i t fun i => onStr a (fun s => onInt i (fun _ i => xIxT N d t H k s i) none) none)
    (fun d len n x i => srT x t fun a => srT i t fun i => onAgg a (fun cs => onInt i (fun _ i => xIxAN N d t H k len n cs i) none) none)
    (fun o => finT callT lim N t o.dst (aop P gl lim ⟨N, t⟩ H o) k)
    i

section
variable {P : Program} {gl : Nat} {call : ACall} {callT : CallT} {ops : Array Oper} {lim N : Nat}
omit [Dec] in
theorem kk_fin_map {d : Option Nat} (x : Option AV) (H : AHeap) (t : T AV) (k : KT) : kk (fin call lim ⟨N, t⟩ d (x.map fun v => .val v H)) k = obind x fun v => putT N t d v H k := by
  cases x with
  | none => rfl
  | some v => exact (putT_eq ..).symm
omit [Dec] in
theorem srT_aev (s : Operand) (t : T AV) (k : AV → Rr) : srT (srOf gl s) t k = obind (aev gl ⟨N, t⟩ s) k := by rw [srT_eq N, srGet_eq]

omit [Dec] in
theorem finT_eq (hc : CallEq call callT) (d : Option Nat) (t : T AV) (r : Option Res) (k : KT) : finT callT lim N t d r k = kk (fin call lim ⟨N, t⟩ d r) k := by
  cases r with
  | none => rfl
  | some r => cases r with
    | val v H => exact putT_eq ..
    | skip H => exact putT_eq ..
    | enter f args H =>
      show callT lim f args H (fun v H => putT N t d v H k) = _
      rw [hc]
      unfold fin
      simp only
      cases call lim f args H with
      | none => rfl
      | some r => exact putT_eq ..

theorem cstepY_eq (hc : CallEq call callT) {o : Oper} (hg : o.guard = none) (t : T AV) (H : AHeap) (k : KT) :
    cstepY P gl call callT ops lim N (compY P gl o) t H k = kk (astep P gl call ops lim o ⟨N, t⟩ H) k := by
  unfold compY
  split
  · show cstepT P gl call callT ops lim N (compOp P gl o) t H k = _
    rw [cstepT_eq hc, cstep_eq]
  · rename_i hslow
    clear hslow
    rw [astep_wanted hg]
    have slow : cstepY P gl call callT ops lim N (.slow o) t H k = kk (fin call lim ⟨N, t⟩ o.dst (aop P gl lim ⟨N, t⟩ H o)) k := finT_eq hc ..
    unfold compZ
    cases ho : o.op <;> simp only <;> try exact slow
    case unOp op ty x =>
      show srT (srOf gl x) t (fun a => obind (aunS op a) fun v => putT N t o.dst v H k) = _
      unfold aop; rw [ho]; simp only
      rw [srT_aev (N := N)]
      cases aev gl ⟨N, t⟩ x with
      | none => rfl
      | some a => exact (kk_fin_map ..).symm
    case pick c a b =>
      show srT (srOf gl c) t (fun c => onBool c (fun c => Bool.rec (motive := fun _ => Rr) (xPick N o.dst t H k (srOf gl b)) (xPick N o.dst t H k (srOf gl a)) c) none) = _
      unfold aop; rw [ho]; simp only
      rw [srT_aev (N := N)]
      cases aev gl ⟨N, t⟩ c with
      | none => rfl
      | some c =>
        cases c <;> try rfl
        case bool c =>
          cases c with
          | true => exact (srT_aev (N := N) ..).trans (kk_fin_map ..).symm
          | false => exact (srT_aev (N := N) ..).trans (kk_fin_map ..).symm
    case box e x =>
      show srT (srOf gl x) t (fun v => putT N t o.dst (.ptr H.next 0) (H.alloc (.cells v.cells e true)) k) = _
      unfold aop; rw [ho]; simp only
      rw [srT_aev (N := N)]
      cases aev gl ⟨N, t⟩ x with
      | none => rfl
      | some a => exact putT_eq ..
    case alloc e =>
      split
      · rename_i z hz
        show putT N t o.dst (.ptr H.next 0) (H.alloc (.cells z.cells e true)) k = _
        unfold aop; rw [ho]; simp only
        rw [hz]
        exact putT_eq ..
      · exact slow
    case index ty x i =>
      split
      · rename_i len e hty
        split
        · rename_i n hn ha
          show srT (srOf gl x) t (fun a => srT (srOf gl i) t fun i => onAgg a (fun cs => onInt i (fun _ i => xIxA N o.dst t H k len n cs i) none) none) = _
          unfold aop; rw [ho]; simp only
          rw [srT_aev (N := N)]
          cases aev gl ⟨N, t⟩ x with
          | none => rfl
          | some a =>
            simp only [Option.bind_some]
            show srT (srOf gl i) t (fun i => onAgg a (fun cs => onInt i (fun _ i => xIxA N o.dst t H k len n cs i) none) none) = _
            rw [srT_aev (N := N)]
            cases aev gl ⟨N, t⟩ i with
            | none => rfl
            | some i =>
              simp only [Option.bind_some, hty]
              cases a <;> try rfl
              case agg cs =>
                cases i <;> try rfl
                case int kd i =>
                  simp only [hn, Option.bind_some]
                  show xIxA N o.dst t H k len n cs i = _
                  cases i with
                  | negSucc i => rw [if_neg (by intro h; have := h.1; rw [Int.negSucc_eq] at this; omega)]; rfl
                  | ofNat i =>
                    show Bool.rec (motive := fun _ => Rr) none (obind (nthK cs (Nat.mul i n)) fun v => putT N t o.dst v H k) (Nat.ble (Nat.succ i) len) = _
                    rw [nat_ble]
                    by_cases hl : Nat.succ i ≤ len
                    · rw [decide_eq_true hl, if_pos ⟨by simp, by simp; omega⟩]
                      unfold apart
                      rw [ha]
                      simp only
                      rw [kk_fin_map, nthK_eq]
                      rfl
                    · rw [decide_eq_false hl, if_neg (by simp; omega)]
                      rfl
        · rename_i n hn ha
          show srT (srOf gl x) t (fun a => srT (srOf gl i) t fun i => onAgg a (fun cs => onInt i (fun _ i => xIxAN N o.dst t H k len n cs i) none) none) = _
          unfold aop; rw [ho]; simp only
          rw [srT_aev (N := N)]
          cases aev gl ⟨N, t⟩ x with
          | none => rfl
          | some a =>
            simp only [Option.bind_some]
            show srT (srOf gl i) t (fun i => onAgg a (fun cs => onInt i (fun _ i => xIxAN N o.dst t H k len n cs i) none) none) = _
            rw [srT_aev (N := N)]
            cases aev gl ⟨N, t⟩ i with
            | none => rfl
            | some i =>
              simp only [Option.bind_some, hty]
              cases a <;> try rfl
              case agg cs =>
                cases i <;> try rfl
                case int kd i =>
                  simp only [hn, Option.bind_some]
                  show xIxAN N o.dst t H k len n cs i = _
                  cases i with
                  | negSucc i => rw [if_neg (by intro h; have := h.1; rw [Int.negSucc_eq] at this; omega)]; rfl
                  | ofNat i =>
                    show Bool.rec (motive := fun _ => Rr) none (putT N t o.dst (partK cs (Nat.mul i n) n) H k) (Nat.ble (Nat.succ i) len) = _
                    rw [nat_ble]
                    by_cases hl : Nat.succ i ≤ len
                    · rw [decide_eq_true hl, if_pos ⟨by simp, by simp; omega⟩]
                      unfold apart
                      rw [ha, hn, partK_eq]
                      exact putT_eq ..
                    · rw [decide_eq_false hl, if_neg (by simp; omega)]
                      rfl
        · exact slow
      · rename_i hty
        show srT (srOf gl x) t (fun a => srT (srOf gl i) t fun i => onStr a (fun s => onInt i (fun _ i => xIxT N o.dst t H k s i) none) none) = _
        unfold aop; rw [ho]; simp only
        rw [srT_aev (N := N)]
        cases aev gl ⟨N, t⟩ x with
        | none => rfl
        | some a =>
          simp only [Option.bind_some]
          show srT (srOf gl i) t (fun i => onStr a (fun s => onInt i (fun _ i => xIxT N o.dst t H k s i) none) none) = _
          rw [srT_aev (N := N)]
          cases aev gl ⟨N, t⟩ i with
          | none => rfl
          | some i =>
            simp only [Option.bind_some, hty]
            cases a <;> try rfl
            case str s =>
              cases i <;> try rfl
              case int kd i =>
                simp only
                show xIxT N o.dst t H k s i = _
                cases i with
                | negSucc i => rw [if_neg (by intro h; rw [Int.negSucc_eq] at h; omega)]; rfl
                | ofNat i =>
                  show (obind (nthN s i) fun b => putT N t o.dst (.int .u8 (.ofNat b)) H k) = _
                  rw [if_pos (by simp), nthN_eq]
                  show _ = kk (fin call lim ⟨N, t⟩ o.dst ((s[i]?).map fun b => .val (.int .u8 (Int.ofNat b)) H)) k
                  cases s[i]? with
                  | none => rfl
                  | some b => exact putT_eq ..
      · exact slow
    case call c =>
      split
      · rename_i ty tys x h1 h2 h3
        split
        · rename_i e hty
          show srT (srOf gl x) t (fun a => xLenS N o.dst t H k a) = _
          unfold aop; rw [ho]; simp only
          rw [srT_aev (N := N), h1, h2, h3]
          simp only [aevs]
          cases aev gl ⟨N, t⟩ x with
          | none => rfl
          | some a =>
            simp only [Option.bind_some, Option.map_some, abuiltin]
            unfold alen
            rw [hty]
            cases a <;> try rfl
            · exact putT_eq ..
            · exact putT_eq ..
        · rename_i hty
          show srT (srOf gl x) t (fun a => onStr a (fun s => putT N t o.dst (.int .i64 (.ofNat (lenN s))) H k) none) = _
          unfold aop; rw [ho]; simp only
          rw [srT_aev (N := N), h1, h2, h3]
          simp only [aevs]
          cases aev gl ⟨N, t⟩ x with
          | none => rfl
          | some a =>
            simp only [Option.bind_some, Option.map_some, abuiltin]
            unfold alen
            rw [hty]
            cases a <;> try rfl
            case str s =>
              show putT N t o.dst (.int .i64 (.ofNat (lenN s))) H k = _
              rw [lenN_eq]
              exact putT_eq ..
        · exact slow
      · exact slow
end
end Go.Proofs.YtklenhohljeacaaDoor.Ex
