/-
  An executor over the model's code, for the kernel: what comes next is handed on.
-/
import Derived.Test.YtklenhohljeacaaDoorExK3
namespace Go.Proofs.YtklenhohljeacaaDoor.Ex
open Go

abbrev Rr := Option (AV × AHeap)
abbrev KT := T AV → AHeap → Rr
abbrev CallT := Nat → FuncId → List AV → AHeap → (AV → AHeap → Rr) → Rr

noncomputable def atT (t : T AV) (n : Nat) : AV := Option.rec (motive := fun _ => AV) aundef (fun v => v) (T.get t n)
noncomputable def srT (s : Sr) (t : T AV) (k : AV → Rr) : Rr := Sr.rec (motive := fun _ => Rr) (fun n => k (atT t n)) (fun v => k v) none s
noncomputable def srTs (t : T AV) (l : List Sr) : (List AV → Rr) → Rr := List.rec (motive := fun _ => (List AV → Rr) → Rr) (fun k => k []) (fun s _ ih k => srT s t fun v => ih fun vs => k (v :: vs)) l
noncomputable def putT (N : Nat) (t : T AV) (d : Option Nat) (v : AV) (H : AHeap) (k : KT) : Rr :=
  Option.rec (motive := fun _ => Rr) (k t H) (fun d => Bool.rec (motive := fun _ => Rr) none (k (T.set t d (some v)) H) (Nat.ble (Nat.succ d) N)) d
/-- on with an outcome -/
noncomputable def kk (r : Option (AFr × AHeap)) (k : KT) : Rr := obind r fun r => k r.1.t r.2

theorem srT_eq (N : Nat) (s : Sr) (t : T AV) (k : AV → Rr) : srT s t k = obind (srGet s ⟨N, t⟩) k := by cases s <;> rfl
theorem obind_assoc {α β γ : Type} (x : Option α) (f : α → Option β) (g : β → Option γ) : obind (obind x f) g = obind x fun a => obind (f a) g := by cases x <;> rfl
theorem srTs_eq (N : Nat) (t : T AV) : ∀ (l : List Sr) (k : List AV → Rr), srTs t l k = obind (srGets ⟨N, t⟩ l) k
  | [], _ => rfl
  | s :: l, k => by
    show srT s t (fun v => srTs t l fun vs => k (v :: vs)) = obind (obind (srGet s ⟨N, t⟩) fun v => obind (srGets ⟨N, t⟩ l) fun vs => some (v :: vs)) k
    rw [srT_eq N, obind_assoc]
    congr 1
    funext v
    rw [srTs_eq N t l, obind_assoc]
    rfl
theorem putT_eq (N : Nat) (t : T AV) (d : Option Nat) (v : AV) (H : AHeap) (k : KT) : putT N t d v H k = kk (putK ⟨N, t⟩ d v H) k := by
  cases d with
  | none => rfl
  | some d =>
    show Bool.rec (motive := fun _ => Rr) none (k (T.set t d (some v)) H) (Nat.ble (Nat.succ d) N) = kk (Bool.rec (motive := fun _ => Option (AFr × AHeap)) none (some (⟨N, T.set t d (some v)⟩, H)) (Nat.ble (Nat.succ d) N)) k
    cases Nat.ble (Nat.succ d) N <;> rfl
theorem kk_obind {α : Type} (x : Option α) (f : α → Option (AFr × AHeap)) (k : KT) : kk (obind x f) k = obind x fun a => kk (f a) k := obind_assoc _ _ _

variable [Dec]

noncomputable def fadd (k : IntKind) (a : Int) (k' : IntKind) (b : Int) : Option AV := ck (kbeq k k') (some (.int k (wrapK k (iadd a b))))
noncomputable def fsub (k : IntKind) (a : Int) (k' : IntKind) (b : Int) : Option AV := ck (kbeq k k') (some (.int k (wrapK k (isub a b))))
noncomputable def feql (k : IntKind) (a : Int) (k' : IntKind) (b : Int) : Option AV := ck (kbeq k k') (some (.bool (ieqb a b)))
noncomputable def fneq (k : IntKind) (a : Int) (k' : IntKind) (b : Int) : Option AV := ck (kbeq k k') (some (.bool (notK (ieqb a b))))
noncomputable def flss (k : IntKind) (a : Int) (k' : IntKind) (b : Int) : Option AV := ck (kbeq k k') (some (.bool (iltb a b)))
noncomputable def fleq (k : IntKind) (a : Int) (k' : IntKind) (b : Int) : Option AV := ck (kbeq k k') (some (.bool (notK (iltb b a))))
noncomputable def fgtr (k : IntKind) (a : Int) (k' : IntKind) (b : Int) : Option AV := ck (kbeq k k') (some (.bool (iltb b a)))
noncomputable def fgeq (k : IntKind) (a : Int) (k' : IntKind) (b : Int) : Option AV := ck (kbeq k k') (some (.bool (notK (iltb a b))))
noncomputable def fand (k : IntKind) (a : Int) (k' : IntKind) (b : Int) : Option AV := ck (kbeq k k') (some (.int k (iand k a b)))
noncomputable def ibinF (op : BinOp) : IntKind → Int → IntKind → Int → Option AV :=
  BinOp.rec (motive := fun _ => IntKind → Int → IntKind → Int → Option AV) fadd fsub (ibinK .mul) (ibinK .quo) (ibinK .rem) fand (ibinK .or) (ibinK .xor) (ibinK .shl) (ibinK .shr) (ibinK .andNot) feql fneq flss fleq fgtr fgeq op
omit [Dec] in
theorem ibinF_eq (op : BinOp) (k : IntKind) (a : Int) (k' : IntKind) (b : Int) : ibinF op k a k' b = ibinK op k a k' b := by cases op <;> rfl
noncomputable def slowBin (P : Program) (op : BinOp) (ty : TypeId) (a b : AV) (k : AV → Rr) : Rr := obind (abinS P op ty a b) k
noncomputable def binT (P : Program) (op : BinOp) (ty : TypeId) (a b : AV) (k : AV → Rr) : Rr :=
  onInt a (fun k1 x => onInt b (fun k2 y => obind (ibinF op k1 x k2 y) k) (slowBin P op ty a b k)) (slowBin P op ty a b k)
theorem binT_eq (P : Program) (op : BinOp) (ty : TypeId) (a b : AV) (k : AV → Rr) : binT P op ty a b k = obind (binK a b (abinS P op ty a b) (ibinK op)) k := by
  cases a <;> try rfl
  cases b <;> try rfl
  show obind (ibinF op _ _ _ _) k = obind (ibinK op _ _ _ _) k
  rw [ibinF_eq]

noncomputable def dropK (l : List AV) : Nat → List AV := List.rec (motive := fun _ => Nat → List AV) (fun _ => []) (fun a l ih n => Bool.rec (motive := fun _ => List AV) (ih (Nat.pred n)) (a :: l) (Nat.beq n (nat_lit 0))) l
noncomputable def takeK (l : List AV) : Nat → List AV := List.rec (motive := fun _ => Nat → List AV) (fun _ => []) (fun a _ ih n => Bool.rec (motive := fun _ => List AV) (a :: ih (Nat.pred n)) [] (Nat.beq n (nat_lit 0))) l
omit [Dec] in
theorem dropK_eq : ∀ (l : List AV) (n : Nat), dropK l n = l.drop n
  | [], n => by show ([] : List AV) = _; simp
  | a :: l, n => by
    show Bool.rec (motive := fun _ => List AV) (dropK l (Nat.pred n)) (a :: l) (Nat.beq n 0) = _
    rw [dropK_eq l]
    cases n <;> rfl
omit [Dec] in
theorem takeK_eq : ∀ (l : List AV) (n : Nat), takeK l n = l.take n
  | [], n => by show ([] : List AV) = _; simp
  | a :: l, n => by
    show Bool.rec (motive := fun _ => List AV) (a :: takeK l (Nat.pred n)) [] (Nat.beq n 0) = _
    rw [takeK_eq l]
    cases n <;> rfl
noncomputable def partK (l : List AV) (o n : Nat) : AV := .agg (takeK (dropK l o) n)
omit [Dec] in
theorem partK_eq (l : List AV) (o n : Nat) : partK l o n = .agg ((l.drop o).take n) := by unfold partK; rw [dropK_eq, takeK_eq]
noncomputable def cellsK (x : AObj) (f : List AV → Rr) : Rr := AObj.rec (motive := fun _ => Rr) (fun c _ _ => f c) (fun _ _ => none) (fun _ _ => none) x
noncomputable def xLdT (N : Nat) (t : T AV) (H : AHeap) (d : Option Nat) (k : KT) (b o : Nat) : Rr :=
  obind (H.get b) fun x => cellsK x fun c => obind (nthK c o) fun v => putT N t d v H k
noncomputable def xLdNT (N : Nat) (t : T AV) (H : AHeap) (d : Option Nat) (n : Nat) (k : KT) (b o : Nat) : Rr :=
  obind (H.get b) fun x => cellsK x fun c => Bool.rec (motive := fun _ => Rr) none (putT N t d (partK c o n) H k) (Nat.ble (Nat.add o n) (lenK c))
noncomputable def xStT (lim N : Nat) (t : T AV) (H : AHeap) (d : Option Nat) (n : Nat) (v : AV) (k : KT) (b o : Nat) : Rr :=
  Bool.rec (motive := fun _ => Rr) none (obind (awrite H lim b o v.cells) fun H => putT N t d aundef H k) (Nat.beq (lenK v.cells) n)
noncomputable def xIaT (N : Nat) (t : T AV) (H : AHeap) (d : Option Nat) (n len : Nat) (i : AV) (k : KT) (b o : Nat) : Rr :=
  onInt i (fun _ i => Int.rec (motive := fun _ => Rr) (fun i => Bool.rec (motive := fun _ => Rr) none (putT N t d (.ptr b (Nat.add o (Nat.mul i n))) H k) (Nat.ble (Nat.succ i) len)) (fun _ => none) i) none
def onSl {β : Type} (x : AV) (f : Nat → Nat → Nat → Nat → β) (g : β) : β := match x with | .sl b o l c => f b o l c | _ => g
def onTup {β : Type} (x : AV) (f : List AV → β) (g : β) : β := match x with | .tup l => f l | _ => g

noncomputable def cstepT (P : Program) (gl : Nat) (call : ACall) (callT : CallT) (ops : Array Oper) (lim N : Nat) (i : Ix) (t : T AV) (H : AHeap) (k : KT) : Rr :=
  Ix.rec (motive := fun _ => Rr)
    (fun d x => srT x t fun v => putT N t d v H k)
    (fun d op ty x y => srT x t fun a => srT y t fun b => binT P op ty a b fun v => putT N t d v H k)
    (fun d s u kd x => srT x t fun a => onInt a (fun _ n => putT N t d (.int kd (wrapK kd n)) H k) (obind (aconvS P H s u a) fun r => putT N t d r.1 r.2 k))
    (fun d x => srT x t fun a => onPtr a (xLdT N t H d k) none)
    (fun d n x => srT x t fun a => onPtr a (xLdNT N t H d n k) none)
    (fun d n a x => srT a t fun a => srT x t fun v => onPtr a (xStT lim N t H d n v k) none)
    (fun d off x => srT x t fun a => onPtr a (fun b o => putT N t d (.ptr b (Nat.add o off)) H k) none)
    (fun d off x => srT x t fun a => onAgg a (fun cs => obind (nthK cs off) fun v => putT N t d v H k) none)
    (fun d off n x => srT x t fun a => onAgg a (fun cs => putT N t d (partK cs off n) H k) none)
    (fun d len n x i => srT x t fun a => srT i t fun i => onPtr a (xIaT N t H d n len i k) none)
    (fun d n x i => srT x t fun a => srT i t fun i => onSl a (fun b o len _ => xIaT N t H d n len i k b o) none)
    (fun d i x => srT x t fun a => onTup a (fun vs => obind (nthK vs i) fun v => putT N t d v H k) none)
    (fun d f xs => srTs t xs fun args => callT lim f args H fun v H => putT N t d v H k)
    (fun d ss xs => srTs t xs fun vs => obind (catK ss vs) fun cs => putT N t d (.agg cs) H k)
    (fun d ss len e xs => srTs t xs fun vs => obind (catK ss vs) fun cs => putT N t d (.sl H.next 0 len len) (H.alloc (.cells cs e true)) k)
    (fun o => kk (astep P gl call ops lim o ⟨N, t⟩ H) k)
    i

def CallEq (call : ACall) (callT : CallT) : Prop := ∀ lim f args H k, callT lim f args H k = obind (call lim f args H) fun r => k r.1 r.2

section
variable {P : Program} {gl : Nat} {call : ACall} {callT : CallT} {ops : Array Oper} {lim N : Nat}
omit [Dec] in
theorem xIaT_eq (t : T AV) (H : AHeap) (d : Option Nat) (n len : Nat) (i : AV) (k : KT) (b o : Nat) : xIaT N t H d n len i k b o = kk (onInt i (fun _ i => xIaS ⟨N, t⟩ H d n b o len i) none) k := by
  cases i <;> try rfl
  case int kd i =>
    cases i with
    | negSucc i => rfl
    | ofNat i =>
      show Bool.rec (motive := fun _ => Rr) none (putT N t d (.ptr b (Nat.add o (Nat.mul i n))) H k) (Nat.ble (Nat.succ i) len) = kk (Bool.rec (motive := fun _ => Option (AFr × AHeap)) none (putK ⟨N, t⟩ d (.ptr b (Nat.add o (Nat.mul i n))) H) (Nat.ble (Nat.succ i) len)) k
      rw [putT_eq]
      cases Nat.ble (Nat.succ i) len <;> rfl

theorem cstepT_eq (hc : CallEq call callT) (i : Ix) (t : T AV) (H : AHeap) (k : KT) : cstepT P gl call callT ops lim N i t H k = kk (cstep P gl call ops lim i ⟨N, t⟩ H) k := by
  cases i with
  | mv d x =>
    dsimp only [cstepT, cstep]
    rw [srT_eq N, kk_obind]; congr 1; funext v; exact putT_eq ..
  | bin d op ty x y =>
    dsimp only [cstepT, cstep]
    rw [srT_eq N, kk_obind]; congr 1; funext a
    rw [srT_eq N, kk_obind]; congr 1; funext b
    rw [binT_eq, kk_obind]; congr 1; funext v; exact putT_eq ..
  | cvt d s u kd x =>
    dsimp only [cstepT, cstep]
    rw [srT_eq N, kk_obind]; congr 1; funext a
    have gen : (obind (aconvS P H s u a) fun r => putT N t d r.1 r.2 k) = kk (obind (aconvS P H s u a) fun r => putK ⟨N, t⟩ d r.1 r.2) k := by
      rw [kk_obind]; congr 1; funext r; exact putT_eq ..
    rw [gen]
    cases a <;> try rfl
    exact putT_eq ..
  | ld d x =>
    dsimp only [cstepT, cstep]
    rw [srT_eq N, kk_obind]; congr 1; funext a
    cases a <;> try rfl
    case ptr b o =>
      show xLdT N t H d k b o = kk (xLd ⟨N, t⟩ H d b o) k
      unfold xLdT xLd
      rw [kk_obind]; congr 1; funext x
      cases x <;> try rfl
      case cells c e tt =>
        show (obind (nthK c o) fun v => putT N t d v H k) = kk (obind (nthK c o) fun v => putK ⟨N, t⟩ d v H) k
        rw [kk_obind]; congr 1; funext v; exact putT_eq ..
  | ldN d n x =>
    dsimp only [cstepT, cstep]
    rw [srT_eq N, kk_obind]; congr 1; funext a
    cases a <;> try rfl
    case ptr b o =>
      show xLdNT N t H d n k b o = kk (xLdN ⟨N, t⟩ H d n b o) k
      unfold xLdNT xLdN
      rw [kk_obind]; congr 1; funext x
      cases x <;> try rfl
      case cells c e tt =>
        show Bool.rec (motive := fun _ => Rr) none (putT N t d (partK c o n) H k) (Nat.ble (Nat.add o n) (lenK c)) = kk (if o + n ≤ c.length then putK ⟨N, t⟩ d (.agg ((c.drop o).take n)) H else none) k
        rw [lenK_eq, nat_ble, partK_eq]
        by_cases h : o + n ≤ c.length
        · rw [if_pos h, ← putT_eq, decide_eq_true (show Nat.add o n ≤ c.length from h)]
        · rw [if_neg h, decide_eq_false (show ¬ Nat.add o n ≤ c.length from h)]; rfl
  | st d n a x =>
    dsimp only [cstepT, cstep]
    rw [srT_eq N, kk_obind]; congr 1; funext a
    rw [srT_eq N, kk_obind]; congr 1; funext v
    cases a <;> try rfl
    case ptr b o =>
      show Bool.rec (motive := fun _ => Rr) none (obind (awrite H lim b o v.cells) fun H => putT N t d aundef H k) (Nat.beq (lenK v.cells) n) =
        kk (Bool.rec (motive := fun _ => Option (AFr × AHeap)) none (obind (awrite H lim b o v.cells) fun H => putK ⟨N, t⟩ d aundef H) (Nat.beq (lenK v.cells) n)) k
      cases Nat.beq (lenK v.cells) n with
      | false => rfl
      | true =>
        show (obind (awrite H lim b o v.cells) fun H => putT N t d aundef H k) = kk (obind (awrite H lim b o v.cells) fun H => putK ⟨N, t⟩ d aundef H) k
        rw [kk_obind]; congr 1; funext H'; exact putT_eq ..
  | fa d off x =>
    dsimp only [cstepT, cstep]
    rw [srT_eq N, kk_obind]; congr 1; funext a
    cases a <;> try rfl
    exact putT_eq ..
  | fl d off x =>
    dsimp only [cstepT, cstep]
    rw [srT_eq N, kk_obind]; congr 1; funext a
    cases a <;> try rfl
    case agg cs =>
      show (obind (nthK cs off) fun v => putT N t d v H k) = kk (obind (nthK cs off) fun v => putK ⟨N, t⟩ d v H) k
      rw [kk_obind]; congr 1; funext v; exact putT_eq ..
  | flN d off n x =>
    dsimp only [cstepT, cstep]
    rw [srT_eq N, kk_obind]; congr 1; funext a
    cases a <;> try rfl
    case agg cs =>
      show putT N t d (partK cs off n) H k = _
      rw [partK_eq]
      exact putT_eq ..
  | iaA d len n x i =>
    dsimp only [cstepT, cstep]
    rw [srT_eq N, kk_obind]; congr 1; funext a
    rw [srT_eq N, kk_obind]; congr 1; funext i
    cases a <;> try rfl
    exact xIaT_eq ..
  | iaS d n x i =>
    dsimp only [cstepT, cstep]
    rw [srT_eq N, kk_obind]; congr 1; funext a
    rw [srT_eq N, kk_obind]; congr 1; funext i
    cases a <;> try rfl
    exact xIaT_eq ..
  | ext d i x =>
    dsimp only [cstepT, cstep]
    rw [srT_eq N, kk_obind]; congr 1; funext a
    cases a <;> try rfl
    case tup vs =>
      show (obind (nthK vs i) fun v => putT N t d v H k) = kk (obind (nthK vs i) fun v => putK ⟨N, t⟩ d v H) k
      rw [kk_obind]; congr 1; funext v; exact putT_eq ..
  | call d f xs =>
    dsimp only [cstepT, cstep]
    rw [srTs_eq N, kk_obind]; congr 1; funext args
    rw [hc, kk_obind]; congr 1; funext r; exact putT_eq ..
  | bld d ss xs =>
    dsimp only [cstepT, cstep]
    rw [srTs_eq N, kk_obind]; congr 1; funext vs
    rw [kk_obind]; congr 1; funext cs; exact putT_eq ..
  | bls d ss len e xs =>
    dsimp only [cstepT, cstep]
    rw [srTs_eq N, kk_obind]; congr 1; funext vs
    rw [kk_obind]; congr 1; funext cs; exact putT_eq ..
  | slow o => rfl
end
end Go.Proofs.YtklenhohljeacaaDoor.Ex
