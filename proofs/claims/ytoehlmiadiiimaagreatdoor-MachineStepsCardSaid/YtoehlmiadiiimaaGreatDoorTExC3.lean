import Derived.Test.YtoehlmiadiiimaaGreatDoorTExK3
namespace Go.Proofs.YtoehlmiadiiimaaGreatDoor.Ex
open Go
abbrev Rr:=Option (AV×AHeap)
abbrev KT:=T AV→AHeap→Rr
abbrev CallT:=Nat→FuncId→List AV→AHeap→(AV→AHeap→Rr)→Rr
noncomputable def atT (t:T AV) (n:Nat) : AV:=Option.rec (motive:=fun _=>AV) aundef (fun v=>v) (T.get t n)
noncomputable def srT (s:Sr) (t:T AV) (k:AV→Rr) : Rr:=Sr.rec (motive:=fun _=>Rr) (fun n=>k (atT t n)) (fun v=>k v) none s
noncomputable def srTs (t:T AV) (l:List Sr) : (List AV→Rr)→Rr:=List.rec (motive:=fun _=>(List AV→Rr)→Rr) (fun k=>k []) (fun s _ ih k=>srT s t fun v=>ih fun vs=>k (v :: vs)) l
noncomputable def putT (N:Nat) (t:T AV) (d:Option Nat) (v:AV) (H:AHeap) (k:KT) : Rr :=
 Option.rec (motive:=fun _=>Rr) (k t H) (fun d=>Bool.rec (motive:=fun _=>Rr) none (k (T.set t d (some v)) H) (Nat.ble (Nat.succ d) N)) d
noncomputable def kk (r:Option (AFr×AHeap)) (k:KT) : Rr:=obind r fun r=>k r.1.t r.2
theorem srT_eq (N:Nat) (s:Sr) (t:T AV) (k:AV→Rr) : srT s t k=obind (srGet s ⟨N,t⟩) k:=by cases s <;> rfl
theorem obind_assoc {α β γ:Type} (x:Option α) (f:α→Option β) (g:β→Option γ) : obind (obind x f) g=obind x fun a=>obind (f a) g:=by cases x <;> rfl
theorem srTs_eq (N:Nat) (t:T AV) : ∀ (l:List Sr) (k:List AV→Rr),srTs t l k=obind (srGets ⟨N,t⟩ l) k
 | [],_=>rfl
 | s :: l,k=>by
  show srT s t (fun v=>srTs t l fun vs=>k (v :: vs))=obind (obind (srGet s ⟨N,t⟩) fun v=>obind (srGets ⟨N,t⟩ l) fun vs=>some (v :: vs)) k
  rw [srT_eq N,obind_assoc]
  congr 1
  funext v
  rw [srTs_eq N t l,obind_assoc]
  rfl
theorem putT_eq (N:Nat) (t:T AV) (d:Option Nat) (v:AV) (H:AHeap) (k:KT) : putT N t d v H k=kk (putK ⟨N,t⟩ d v H) k:=by
 cases d with
 | none=>rfl
 | some d =>
  show Bool.rec (motive:=fun _=>Rr) none (k (T.set t d (some v)) H) (Nat.ble (Nat.succ d) N)=kk (Bool.rec (motive:=fun _=>Option (AFr×AHeap)) none (some (⟨N,T.set t d (some v)⟩,H)) (Nat.ble (Nat.succ d) N)) k
  cases Nat.ble (Nat.succ d) N <;> rfl
theorem kk_obind {α:Type} (x:Option α) (f:α→Option (AFr×AHeap)) (k:KT) : kk (obind x f) k=obind x fun a=>kk (f a) k:=obind_assoc _ _ _
variable [Dec]
noncomputable def fadd (k:IntKind) (a:Int) (k':IntKind) (b:Int) : Option AV:=ck (kbeq k k') (some (.int k (wrapK k (iadd a b))))
noncomputable def fsub (k:IntKind) (a:Int) (k':IntKind) (b:Int) : Option AV:=ck (kbeq k k') (some (.int k (wrapK k (isub a b))))
noncomputable def feql (k:IntKind) (a:Int) (k':IntKind) (b:Int) : Option AV:=ck (kbeq k k') (some (.bool (ieqb a b)))
noncomputable def fneq (k:IntKind) (a:Int) (k':IntKind) (b:Int) : Option AV:=ck (kbeq k k') (some (.bool (notK (ieqb a b))))
noncomputable def flss (k:IntKind) (a:Int) (k':IntKind) (b:Int) : Option AV:=ck (kbeq k k') (some (.bool (iltb a b)))
noncomputable def fleq (k:IntKind) (a:Int) (k':IntKind) (b:Int) : Option AV:=ck (kbeq k k') (some (.bool (notK (iltb b a))))
noncomputable def fgtr (k:IntKind) (a:Int) (k':IntKind) (b:Int) : Option AV:=ck (kbeq k k') (some (.bool (iltb b a)))
noncomputable def fgeq (k:IntKind) (a:Int) (k':IntKind) (b:Int) : Option AV:=ck (kbeq k k') (some (.bool (notK (iltb a b))))
noncomputable def fand (k:IntKind) (a:Int) (k':IntKind) (b:Int) : Option AV:=ck (kbeq k k') (some (.int k (iand k a b)))
noncomputable def ibinF (op:BinOp) : IntKind→Int→IntKind→Int→Option AV :=
 BinOp.rec (motive:=fun _=>IntKind→Int→IntKind→Int→Option AV) fadd fsub (ibinK .mul) (ibinK .quo) (ibinK .rem) fand (ibinK .or) (ibinK .xor) (ibinK .shl) (ibinK .shr) (ibinK .andNot) feql fneq flss fleq fgtr fgeq op
omit [Dec] in
theorem ibinF_eq (op:BinOp) (k:IntKind) (a:Int) (k':IntKind) (b:Int) : ibinF op k a k' b=ibinK op k a k' b:=by cases op <;> rfl
noncomputable def slowBin (P:Program) (op:BinOp) (ty:TypeId) (a b:AV) (k:AV→Rr) : Rr:=obind (abinS P op ty a b) k
noncomputable def binT (P:Program) (op:BinOp) (ty:TypeId) (a b:AV) (k:AV→Rr) : Rr :=
 onInt a (fun k1 x=>onInt b (fun k2 y=>obind (ibinF op k1 x k2 y) k) (slowBin P op ty a b k)) (slowBin P op ty a b k)
theorem binT_eq (P:Program) (op:BinOp) (ty:TypeId) (a b:AV) (k:AV→Rr) : binT P op ty a b k=obind (binK a b (abinS P op ty a b) (ibinK op)) k:=by
 cases a <;> try rfl
 cases b <;> try rfl
 show obind (ibinF op _ _ _ _) k=obind (ibinK op _ _ _ _) k
 rw [ibinF_eq]
noncomputable def dropK (l:List AV) : Nat→List AV:=List.rec (motive:=fun _=>Nat→List AV) (fun _=>[]) (fun a l ih n=>Bool.rec (motive:=fun _=>List AV) (ih (Nat.pred n)) (a :: l) (Nat.beq n (nat_lit 0))) l
noncomputable def takeK (l:List AV) : Nat→List AV:=List.rec (motive:=fun _=>Nat→List AV) (fun _=>[]) (fun a _ ih n=>Bool.rec (motive:=fun _=>List AV) (a :: ih (Nat.pred n)) [] (Nat.beq n (nat_lit 0))) l
omit [Dec] in
theorem dropK_eq:∀ (l:List AV) (n:Nat),dropK l n=l.drop n
 | [],n=>by show ([] : List AV)=_; simp
 | a :: l,n=>by
  show Bool.rec (motive:=fun _=>List AV) (dropK l (Nat.pred n)) (a :: l) (Nat.beq n 0)=_
  rw [dropK_eq l]
  cases n <;> rfl
omit [Dec] in
theorem takeK_eq:∀ (l:List AV) (n:Nat),takeK l n=l.take n
 | [],n=>by show ([] : List AV)=_; simp
 | a :: l,n=>by
  show Bool.rec (motive:=fun _=>List AV) (a :: takeK l (Nat.pred n)) [] (Nat.beq n 0)=_
  rw [takeK_eq l]
  cases n <;> rfl
noncomputable def partK (l:List AV) (o n:Nat) : AV:=.agg (takeK (dropK l o) n)
omit [Dec] in
theorem partK_eq (l:List AV) (o n:Nat) : partK l o n=.agg ((l.drop o).take n):=by unfold partK; rw [dropK_eq,takeK_eq]
noncomputable def cellsK (x:AObj) (f:List AV→Rr) : Rr:=AObj.rec (motive:=fun _=>Rr) (fun c _ _=>f c) (fun _ _=>none) (fun _ _=>none) x
noncomputable def xLdT (N:Nat) (t:T AV) (H:AHeap) (d:Option Nat) (k:KT) (b o:Nat) : Rr :=
 obind (H.get b) fun x=>cellsK x fun c=>obind (nthK c o) fun v=>putT N t d v H k
noncomputable def xLdNT (N:Nat) (t:T AV) (H:AHeap) (d:Option Nat) (n:Nat) (k:KT) (b o:Nat) : Rr :=
 obind (H.get b) fun x=>cellsK x fun c=>Bool.rec (motive:=fun _=>Rr) none (putT N t d (partK c o n) H k) (Nat.ble (Nat.add o n) (lenK c))
noncomputable def xStT (lim N:Nat) (t:T AV) (H:AHeap) (d:Option Nat) (n:Nat) (v:AV) (k:KT) (b o:Nat) : Rr :=
 Bool.rec (motive:=fun _=>Rr) none (obind (awrite H lim b o v.cells) fun H=>putT N t d aundef H k) (Nat.beq (lenK v.cells) n)
noncomputable def xIaT (N:Nat) (t:T AV) (H:AHeap) (d:Option Nat) (n len:Nat) (i:AV) (k:KT) (b o:Nat) : Rr :=
 onInt i (fun _ i=>Int.rec (motive:=fun _=>Rr) (fun i=>Bool.rec (motive:=fun _=>Rr) none (putT N t d (.ptr b (Nat.add o (Nat.mul i n))) H k) (Nat.ble (Nat.succ i) len)) (fun _=>none) i) none
def onSl {β:Type} (x:AV) (f:Nat→Nat→Nat→Nat→β) (g:β) : β:=match x with | .sl b o l c=>f b o l c | _=>g
def onTup {β:Type} (x:AV) (f:List AV→β) (g:β) : β:=match x with | .tup l=>f l | _=>g
noncomputable def cstepT (P:Program) (gl:Nat) (call:ACall) (callT:CallT) (ops:Array Oper) (lim N:Nat) (i:Ix) (t:T AV) (H:AHeap) (k:KT) : Rr :=
 Ix.rec (motive:=fun _=>Rr)
  (fun d x=>srT x t fun v=>putT N t d v H k)
  (fun d op ty x y=>srT x t fun a=>srT y t fun b=>binT P op ty a b fun v=>putT N t d v H k)
  (fun d s u kd x=>srT x t fun a=>onInt a (fun _ n=>putT N t d (.int kd (wrapK kd n)) H k) (obind (aconvS P H s u a) fun r=>putT N t d r.1 r.2 k))
  (fun d x=>srT x t fun a=>onPtr a (xLdT N t H d k) none)
  (fun d n x=>srT x t fun a=>onPtr a (xLdNT N t H d n k) none)
  (fun d n a x=>srT a t fun a=>srT x t fun v=>onPtr a (xStT lim N t H d n v k) none)
  (fun d off x=>srT x t fun a=>onPtr a (fun b o=>putT N t d (.ptr b (Nat.add o off)) H k) none)
  (fun d off x=>srT x t fun a=>onAgg a (fun cs=>obind (nthK cs off) fun v=>putT N t d v H k) none)
  (fun d off n x=>srT x t fun a=>onAgg a (fun cs=>putT N t d (partK cs off n) H k) none)
  (fun d len n x i=>srT x t fun a=>srT i t fun i=>onPtr a (xIaT N t H d n len i k) none)
  (fun d n x i=>srT x t fun a=>srT i t fun i=>onSl a (fun b o len _=>xIaT N t H d n len i k b o) none)
  (fun d i x=>srT x t fun a=>onTup a (fun vs=>obind (nthK vs i) fun v=>putT N t d v H k) none)
  (fun d f xs=>srTs t xs fun args=>callT lim f args H fun v H=>putT N t d v H k)
  (fun d ss xs=>srTs t xs fun vs=>obind (catK ss vs) fun cs=>putT N t d (.agg cs) H k)
  (fun d ss len e xs=>srTs t xs fun vs=>obind (catK ss vs) fun cs=>putT N t d (.sl H.next 0 len len) (H.alloc (.cells cs e true)) k)
  (fun o=>kk (astep P gl call ops lim o ⟨N,t⟩ H) k)
  i
def CallEq (call:ACall) (callT:CallT) : Prop:=∀ lim f args H k,callT lim f args H k=obind (call lim f args H) fun r=>k r.1 r.2
section
variable {P:Program} {gl:Nat} {call:ACall} {callT:CallT} {ops:Array Oper} {lim N:Nat}
omit [Dec] in
theorem xIaT_eq (t:T AV) (H:AHeap) (d:Option Nat) (n len:Nat) (i:AV) (k:KT) (b o:Nat) : xIaT N t H d n len i k b o=kk (onInt i (fun _ i=>xIaS ⟨N,t⟩ H d n b o len i) none) k:=by
 cases i <;> try rfl
 case int kd i =>
  cases i with
  | negSucc i=>rfl
  | ofNat i =>
   show Bool.rec (motive:=fun _=>Rr) none (putT N t d (.ptr b (Nat.add o (Nat.mul i n))) H k) (Nat.ble (Nat.succ i) len)=kk (Bool.rec (motive:=fun _=>Option (AFr×AHeap)) none (putK ⟨N,t⟩ d (.ptr b (Nat.add o (Nat.mul i n))) H) (Nat.ble (Nat.succ i) len)) k
   rw [putT_eq]
   cases Nat.ble (Nat.succ i) len <;> rfl
theorem cstepT_eq (hc:CallEq call callT) (i:Ix) (t:T AV) (H:AHeap) (k:KT) : cstepT P gl call callT ops lim N i t H k=kk (cstep P gl call ops lim i ⟨N,t⟩ H) k:=by
 cases i with
 | mv d x =>
  dsimp only [cstepT,cstep]
  rw [srT_eq N,kk_obind]; congr 1; funext v; exact putT_eq ..
 | bin d op ty x y =>
  dsimp only [cstepT,cstep]
  rw [srT_eq N,kk_obind]; congr 1; funext a
  rw [srT_eq N,kk_obind]; congr 1; funext b
  rw [binT_eq,kk_obind]; congr 1; funext v; exact putT_eq ..
 | cvt d s u kd x =>
  dsimp only [cstepT,cstep]
  rw [srT_eq N,kk_obind]; congr 1; funext a
  have gen:(obind (aconvS P H s u a) fun r=>putT N t d r.1 r.2 k)=kk (obind (aconvS P H s u a) fun r=>putK ⟨N,t⟩ d r.1 r.2) k:=by
   rw [kk_obind]; congr 1; funext r; exact putT_eq ..
  rw [gen]
  cases a <;> try rfl
  exact putT_eq ..
 | ld d x =>
  dsimp only [cstepT,cstep]
  rw [srT_eq N,kk_obind]; congr 1; funext a
  cases a <;> try rfl
  case ptr b o =>
   show xLdT N t H d k b o=kk (xLd ⟨N,t⟩ H d b o) k
   unfold xLdT xLd
   rw [kk_obind]; congr 1; funext x
   cases x <;> try rfl
   case cells c e tt =>
    show (obind (nthK c o) fun v=>putT N t d v H k)=kk (obind (nthK c o) fun v=>putK ⟨N,t⟩ d v H) k
    rw [kk_obind]; congr 1; funext v; exact putT_eq ..
 | ldN d n x =>
  dsimp only [cstepT,cstep]
  rw [srT_eq N,kk_obind]; congr 1; funext a
  cases a <;> try rfl
  case ptr b o =>
   show xLdNT N t H d n k b o=kk (xLdN ⟨N,t⟩ H d n b o) k
   unfold xLdNT xLdN
   rw [kk_obind]; congr 1; funext x
   cases x <;> try rfl
   case cells c e tt =>
    show Bool.rec (motive:=fun _=>Rr) none (putT N t d (partK c o n) H k) (Nat.ble (Nat.add o n) (lenK c))=kk (if o+n≤c.length then putK ⟨N,t⟩ d (.agg ((c.drop o).take n)) H else none) k
    rw [lenK_eq,nat_ble,partK_eq]
    by_cases h:o+n≤c.length
    ·rw [if_pos h,← putT_eq,decide_eq_true (show Nat.add o n≤c.length from h)]
    ·rw [if_neg h,decide_eq_false (show ¬ Nat.add o n≤c.length from h)]; rfl
 | st d n a x =>
  dsimp only [cstepT,cstep]
  rw [srT_eq N,kk_obind]; congr 1; funext a
  rw [srT_eq N,kk_obind]; congr 1; funext v
  cases a <;> try rfl
  case ptr b o =>
   show Bool.rec (motive:=fun _=>Rr) none (obind (awrite H lim b o v.cells) fun H=>putT N t d aundef H k) (Nat.beq (lenK v.cells) n) =
    kk (Bool.rec (motive:=fun _=>Option (AFr×AHeap)) none (obind (awrite H lim b o v.cells) fun H=>putK ⟨N,t⟩ d aundef H) (Nat.beq (lenK v.cells) n)) k
   cases Nat.beq (lenK v.cells) n with
   | false=>rfl
   | true =>
    show (obind (awrite H lim b o v.cells) fun H=>putT N t d aundef H k)=kk (obind (awrite H lim b o v.cells) fun H=>putK ⟨N,t⟩ d aundef H) k
    rw [kk_obind]; congr 1; funext H'; exact putT_eq ..
 | fa d off x =>
  dsimp only [cstepT,cstep]
  rw [srT_eq N,kk_obind]; congr 1; funext a
  cases a <;> try rfl
  exact putT_eq ..
 | fl d off x =>
  dsimp only [cstepT,cstep]
  rw [srT_eq N,kk_obind]; congr 1; funext a
  cases a <;> try rfl
  case agg cs =>
   show (obind (nthK cs off) fun v=>putT N t d v H k)=kk (obind (nthK cs off) fun v=>putK ⟨N,t⟩ d v H) k
   rw [kk_obind]; congr 1; funext v; exact putT_eq ..
 | flN d off n x =>
  dsimp only [cstepT,cstep]
  rw [srT_eq N,kk_obind]; congr 1; funext a
  cases a <;> try rfl
  case agg cs =>
   show putT N t d (partK cs off n) H k=_
   rw [partK_eq]
   exact putT_eq ..
 | iaA d len n x i =>
  dsimp only [cstepT,cstep]
  rw [srT_eq N,kk_obind]; congr 1; funext a
  rw [srT_eq N,kk_obind]; congr 1; funext i
  cases a <;> try rfl
  exact xIaT_eq ..
 | iaS d n x i =>
  dsimp only [cstepT,cstep]
  rw [srT_eq N,kk_obind]; congr 1; funext a
  rw [srT_eq N,kk_obind]; congr 1; funext i
  cases a <;> try rfl
  exact xIaT_eq ..
 | ext d i x =>
  dsimp only [cstepT,cstep]
  rw [srT_eq N,kk_obind]; congr 1; funext a
  cases a <;> try rfl
  case tup vs =>
   show (obind (nthK vs i) fun v=>putT N t d v H k)=kk (obind (nthK vs i) fun v=>putK ⟨N,t⟩ d v H) k
   rw [kk_obind]; congr 1; funext v; exact putT_eq ..
 | call d f xs =>
  dsimp only [cstepT,cstep]
  rw [srTs_eq N,kk_obind]; congr 1; funext args
  rw [hc,kk_obind]; congr 1; funext r; exact putT_eq ..
 | bld d ss xs =>
  dsimp only [cstepT,cstep]
  rw [srTs_eq N,kk_obind]; congr 1; funext vs
  rw [kk_obind]; congr 1; funext cs; exact putT_eq ..
 | bls d ss len e xs =>
  dsimp only [cstepT,cstep]
  rw [srTs_eq N,kk_obind]; congr 1; funext vs
  rw [kk_obind]; congr 1; funext cs; exact putT_eq ..
 | slow o=>rfl
end
end Go.Proofs.YtoehlmiadiiimaaGreatDoor.Ex
namespace Go.Proofs.YtoehlmiadiiimaaGreatDoor.Ex
open Go
variable [Dec]
inductive Iy where
 | ix (i:Ix)
 | un (d:Option Nat) (op:UnOp) (x:Sr)
 | pick (d:Option Nat) (c a b:Sr)
 | box (d:Option Nat) (e:TypeId) (x:Sr)
 | alloc (d:Option Nat) (e:TypeId) (z:List AV)
 | lenS (d:Option Nat) (x:Sr)
 | lenT (d:Option Nat) (x:Sr)
 | ixA (d:Option Nat) (len n:Nat) (x i:Sr)
 | ixT (d:Option Nat) (x i:Sr)
 | ixAN (d:Option Nat) (len n:Nat) (x i:Sr)
 | slow (o:Oper)
def isSlow:Ix→Bool
 | .slow _=>true
 | _=>false
def compZ (P:Program) (gl:Nat) (o:Oper) : Iy :=
 match o.op with
 | .unOp op _ x=>.un o.dst op (srOf gl x)
 | .pick c a b=>.pick o.dst (srOf gl c) (srOf gl a) (srOf gl b)
 | .box e x=>.box o.dst e (srOf gl x)
 | .alloc e=>match zero P e with
  | some z=>.alloc o.dst e z.cells
  | none=>.slow o
 | .index t x i=>match und P t with
  | some (.array len e)=>match sz P e,agg? P e with
   | some n,some false=>.ixA o.dst len n (srOf gl x) (srOf gl i)
   | some n,some true=>.ixAN o.dst len n (srOf gl x) (srOf gl i)
   | _,_=>.slow o
  | some .string=>.ixT o.dst (srOf gl x) (srOf gl i)
  | _=>.slow o
 | .call c=>match c.callee,c.argTypes.toList,c.args.toList with
  | .builtin .len,t :: _,[x]=>match und P t with
   | some (.slice _)=>.lenS o.dst (srOf gl x)
   | some .string=>.lenT o.dst (srOf gl x)
   | _=>.slow o
  | _,_,_=>.slow o
 | _=>.slow o
def compY (P:Program) (gl:Nat) (o:Oper) : Iy:=match isSlow (compOp P gl o) with
 | false=>.ix (compOp P gl o)
 | true=>compZ P gl o
noncomputable def nthN (l:List Nat) (n:Nat) : Option Nat:=List.rec (motive:=fun _=>Nat→Option Nat) (fun _=>none) (fun a _ ih n=>Bool.rec (motive:=fun _=>Option Nat) (ih (Nat.pred n)) (some a) (Nat.beq n (nat_lit 0))) l n
omit [Dec] in
theorem nthN_eq:∀ (l:List Nat) (n:Nat),nthN l n=l[n]?
 | [],n=>rfl
 | a :: l,n=>by
  show Bool.rec (motive:=fun _=>Option Nat) (nthN l (Nat.pred n)) (some a) (Nat.beq n 0)=_
  rw [nthN_eq l]
  cases n <;> rfl
noncomputable def lenN (l:List Nat) : Nat:=List.rec (motive:=fun _=>Nat) (nat_lit 0) (fun _ _ ih=>Nat.succ ih) l
omit [Dec] in
theorem lenN_eq:∀ (l:List Nat),lenN l=l.length
 | []=>rfl
 | _ :: l=>congrArg Nat.succ (lenN_eq l)
noncomputable def finT (callT:CallT) (lim N:Nat) (t:T AV) (d:Option Nat) (r:Option Res) (k:KT) : Rr :=
 obind r fun r=>Res.rec (motive:=fun _=>Rr) (fun v H=>putT N t d v H k) (fun H=>putT N t d aundef H k) (fun f args H=>callT lim f args H fun v H=>putT N t d v H k) r
def onStr {β:Type} (x:AV) (f:List Nat→β) (g:β) : β:=match x with | .str l=>f l | _=>g
noncomputable def xPick (N:Nat) (d:Option Nat) (t:T AV) (H:AHeap) (k:KT) (s:Sr) : Rr:=srT s t fun v=>putT N t d v H k
noncomputable def xLenS (N:Nat) (d:Option Nat) (t:T AV) (H:AHeap) (k:KT) (a:AV) : Rr:=match a with
 | .sl _ _ n _=>putT N t d (.int .i64 (.ofNat n)) H k
 | .nilsl=>putT N t d (.int .i64 (.ofNat 0)) H k
 | _=>none
noncomputable def xIxA (N:Nat) (d:Option Nat) (t:T AV) (H:AHeap) (k:KT) (len n:Nat) (cs:List AV) (i:Int) : Rr :=
 Int.rec (motive:=fun _=>Rr) (fun i=>Bool.rec (motive:=fun _=>Rr) none (obind (nthK cs (Nat.mul i n)) fun v=>putT N t d v H k) (Nat.ble (Nat.succ i) len)) (fun _=>none) i
noncomputable def xIxAN (N:Nat) (d:Option Nat) (t:T AV) (H:AHeap) (k:KT) (len n:Nat) (cs:List AV) (i:Int) : Rr :=
 Int.rec (motive:=fun _=>Rr) (fun i=>Bool.rec (motive:=fun _=>Rr) none (putT N t d (partK cs (Nat.mul i n) n) H k) (Nat.ble (Nat.succ i) len)) (fun _=>none) i
noncomputable def xIxT (N:Nat) (d:Option Nat) (t:T AV) (H:AHeap) (k:KT) (s:List Nat) (i:Int) : Rr :=
 Int.rec (motive:=fun _=>Rr) (fun i=>obind (nthN s i) fun b=>putT N t d (.int .u8 (.ofNat b)) H k) (fun _=>none) i
noncomputable def cstepY (P:Program) (gl:Nat) (call:ACall) (callT:CallT) (ops:Array Oper) (lim N:Nat) (i:Iy) (t:T AV) (H:AHeap) (k:KT) : Rr :=
 Iy.rec (motive:=fun _=>Rr)
  (fun i=>cstepT P gl call callT ops lim N i t H k)
  (fun d op x=>srT x t fun a=>obind (aunS op a) fun v=>putT N t d v H k)
  (fun d c a b=>srT c t fun c=>onBool c (fun c=>Bool.rec (motive:=fun _=>Rr) (xPick N d t H k b) (xPick N d t H k a) c) none)
  (fun d e x=>srT x t fun v=>putT N t d (.ptr H.next 0) (H.alloc (.cells v.cells e true)) k)
  (fun d e z=>putT N t d (.ptr H.next 0) (H.alloc (.cells z e true)) k)
  (fun d x=>srT x t fun a=>xLenS N d t H k a)
  (fun d x=>srT x t fun a=>onStr a (fun s=>putT N t d (.int .i64 (.ofNat (lenN s))) H k) none)
  (fun d len n x i=>srT x t fun a=>srT i t fun i=>onAgg a (fun cs=>onInt i (fun _ i=>xIxA N d t H k len n cs i) none) none)
  (fun d x i=>srT x t fun a=>srT i t fun i=>onStr a (fun s=>onInt i (fun _ i=>xIxT N d t H k s i) none) none)
  (fun d len n x i=>srT x t fun a=>srT i t fun i=>onAgg a (fun cs=>onInt i (fun _ i=>xIxAN N d t H k len n cs i) none) none)
  (fun o=>finT callT lim N t o.dst (aop P gl lim ⟨N,t⟩ H o) k)
  i
section
variable {P:Program} {gl:Nat} {call:ACall} {callT:CallT} {ops:Array Oper} {lim N:Nat}
omit [Dec] in
theorem kk_fin_map {d:Option Nat} (x:Option AV) (H:AHeap) (t:T AV) (k:KT) : kk (fin call lim ⟨N,t⟩ d (x.map fun v=>.val v H)) k=obind x fun v=>putT N t d v H k:=by
 cases x with
 | none=>rfl
 | some v=>exact (putT_eq ..).symm
omit [Dec] in
theorem srT_aev (s:Operand) (t:T AV) (k:AV→Rr) : srT (srOf gl s) t k=obind (aev gl ⟨N,t⟩ s) k:=by rw [srT_eq N,srGet_eq]
omit [Dec] in
theorem finT_eq (hc:CallEq call callT) (d:Option Nat) (t:T AV) (r:Option Res) (k:KT) : finT callT lim N t d r k=kk (fin call lim ⟨N,t⟩ d r) k:=by
 cases r with
 | none=>rfl
 | some r=>cases r with
  | val v H=>exact putT_eq ..
  | skip H=>exact putT_eq ..
  | enter f args H =>
   show callT lim f args H (fun v H=>putT N t d v H k)=_
   rw [hc]
   unfold fin
   simp only
   cases call lim f args H with
   | none=>rfl
   | some r=>exact putT_eq ..
theorem cstepY_eq (hc:CallEq call callT) {o:Oper} (hg:o.guard=none) (t:T AV) (H:AHeap) (k:KT) :
  cstepY P gl call callT ops lim N (compY P gl o) t H k=kk (astep P gl call ops lim o ⟨N,t⟩ H) k:=by
 unfold compY
 split
 ·show cstepT P gl call callT ops lim N (compOp P gl o) t H k=_
  rw [cstepT_eq hc,cstep_eq]
 ·rename_i hslow
  clear hslow
  rw [astep_wanted hg]
  have slow:cstepY P gl call callT ops lim N (.slow o) t H k=kk (fin call lim ⟨N,t⟩ o.dst (aop P gl lim ⟨N,t⟩ H o)) k:=finT_eq hc ..
  unfold compZ
  cases ho:o.op <;> simp only <;> try exact slow
  case unOp op ty x =>
   show srT (srOf gl x) t (fun a=>obind (aunS op a) fun v=>putT N t o.dst v H k)=_
   unfold aop; rw [ho]; simp only
   rw [srT_aev (N:=N)]
   cases aev gl ⟨N,t⟩ x with
   | none=>rfl
   | some a=>exact (kk_fin_map ..).symm
  case pick c a b =>
   show srT (srOf gl c) t (fun c=>onBool c (fun c=>Bool.rec (motive:=fun _=>Rr) (xPick N o.dst t H k (srOf gl b)) (xPick N o.dst t H k (srOf gl a)) c) none)=_
   unfold aop; rw [ho]; simp only
   rw [srT_aev (N:=N)]
   cases aev gl ⟨N,t⟩ c with
   | none=>rfl
   | some c =>
    cases c <;> try rfl
    case bool c =>
     cases c with
     | true=>exact (srT_aev (N:=N) ..).trans (kk_fin_map ..).symm
     | false=>exact (srT_aev (N:=N) ..).trans (kk_fin_map ..).symm
  case box e x =>
   show srT (srOf gl x) t (fun v=>putT N t o.dst (.ptr H.next 0) (H.alloc (.cells v.cells e true)) k)=_
   unfold aop; rw [ho]; simp only
   rw [srT_aev (N:=N)]
   cases aev gl ⟨N,t⟩ x with
   | none=>rfl
   | some a=>exact putT_eq ..
  case alloc e =>
   split
   ·rename_i z hz
    show putT N t o.dst (.ptr H.next 0) (H.alloc (.cells z.cells e true)) k=_
    unfold aop; rw [ho]; simp only
    rw [hz]
    exact putT_eq ..
   ·exact slow
  case index ty x i =>
   split
   ·rename_i len e hty
    split
    ·rename_i n hn ha
     show srT (srOf gl x) t (fun a=>srT (srOf gl i) t fun i=>onAgg a (fun cs=>onInt i (fun _ i=>xIxA N o.dst t H k len n cs i) none) none)=_
     unfold aop; rw [ho]; simp only
     rw [srT_aev (N:=N)]
     cases aev gl ⟨N,t⟩ x with
     | none=>rfl
     | some a =>
      simp only [Option.bind_some]
      show srT (srOf gl i) t (fun i=>onAgg a (fun cs=>onInt i (fun _ i=>xIxA N o.dst t H k len n cs i) none) none)=_
      rw [srT_aev (N:=N)]
      cases aev gl ⟨N,t⟩ i with
      | none=>rfl
      | some i =>
       simp only [Option.bind_some,hty]
       cases a <;> try rfl
       case agg cs =>
        cases i <;> try rfl
        case int kd i =>
         simp only [hn,Option.bind_some]
         show xIxA N o.dst t H k len n cs i=_
         cases i with
         | negSucc i=>rw [if_neg (by intro h; have:=h.1; rw [Int.negSucc_eq] at this; omega)]; rfl
         | ofNat i =>
          show Bool.rec (motive:=fun _=>Rr) none (obind (nthK cs (Nat.mul i n)) fun v=>putT N t o.dst v H k) (Nat.ble (Nat.succ i) len)=_
          rw [nat_ble]
          by_cases hl:Nat.succ i≤len
          ·rw [decide_eq_true hl,if_pos ⟨by simp,by simp; omega⟩]
           unfold apart
           rw [ha]
           simp only
           rw [kk_fin_map,nthK_eq]
           rfl
          ·rw [decide_eq_false hl,if_neg (by simp; omega)]
           rfl
    ·rename_i n hn ha
     show srT (srOf gl x) t (fun a=>srT (srOf gl i) t fun i=>onAgg a (fun cs=>onInt i (fun _ i=>xIxAN N o.dst t H k len n cs i) none) none)=_
     unfold aop; rw [ho]; simp only
     rw [srT_aev (N:=N)]
     cases aev gl ⟨N,t⟩ x with
     | none=>rfl
     | some a =>
      simp only [Option.bind_some]
      show srT (srOf gl i) t (fun i=>onAgg a (fun cs=>onInt i (fun _ i=>xIxAN N o.dst t H k len n cs i) none) none)=_
      rw [srT_aev (N:=N)]
      cases aev gl ⟨N,t⟩ i with
      | none=>rfl
      | some i =>
       simp only [Option.bind_some,hty]
       cases a <;> try rfl
       case agg cs =>
        cases i <;> try rfl
        case int kd i =>
         simp only [hn,Option.bind_some]
         show xIxAN N o.dst t H k len n cs i=_
         cases i with
         | negSucc i=>rw [if_neg (by intro h; have:=h.1; rw [Int.negSucc_eq] at this; omega)]; rfl
         | ofNat i =>
          show Bool.rec (motive:=fun _=>Rr) none (putT N t o.dst (partK cs (Nat.mul i n) n) H k) (Nat.ble (Nat.succ i) len)=_
          rw [nat_ble]
          by_cases hl:Nat.succ i≤len
          ·rw [decide_eq_true hl,if_pos ⟨by simp,by simp; omega⟩]
           unfold apart
           rw [ha,hn,partK_eq]
           exact putT_eq ..
          ·rw [decide_eq_false hl,if_neg (by simp; omega)]
           rfl
    ·exact slow
   ·rename_i hty
    show srT (srOf gl x) t (fun a=>srT (srOf gl i) t fun i=>onStr a (fun s=>onInt i (fun _ i=>xIxT N o.dst t H k s i) none) none)=_
    unfold aop; rw [ho]; simp only
    rw [srT_aev (N:=N)]
    cases aev gl ⟨N,t⟩ x with
    | none=>rfl
    | some a =>
     simp only [Option.bind_some]
     show srT (srOf gl i) t (fun i=>onStr a (fun s=>onInt i (fun _ i=>xIxT N o.dst t H k s i) none) none)=_
     rw [srT_aev (N:=N)]
     cases aev gl ⟨N,t⟩ i with
     | none=>rfl
     | some i =>
      simp only [Option.bind_some,hty]
      cases a <;> try rfl
      case str s =>
       cases i <;> try rfl
       case int kd i =>
        simp only
        show xIxT N o.dst t H k s i=_
        cases i with
        | negSucc i=>rw [if_neg (by intro h; rw [Int.negSucc_eq] at h; omega)]; rfl
        | ofNat i =>
         show (obind (nthN s i) fun b=>putT N t o.dst (.int .u8 (.ofNat b)) H k)=_
         rw [if_pos (by simp),nthN_eq]
         show _=kk (fin call lim ⟨N,t⟩ o.dst ((s[i]?).map fun b=>.val (.int .u8 (Int.ofNat b)) H)) k
         cases s[i]? with
         | none=>rfl
         | some b=>exact putT_eq ..
   ·exact slow
  case call c =>
   split
   ·rename_i ty tys x h1 h2 h3
    split
    ·rename_i e hty
     show srT (srOf gl x) t (fun a=>xLenS N o.dst t H k a)=_
     unfold aop; rw [ho]; simp only
     rw [srT_aev (N:=N),h1,h2,h3]
     simp only [aevs]
     cases aev gl ⟨N,t⟩ x with
     | none=>rfl
     | some a =>
      simp only [Option.bind_some,Option.map_some,abuiltin]
      unfold alen
      rw [hty]
      cases a <;> try rfl
      ·exact putT_eq ..
      ·exact putT_eq ..
    ·rename_i hty
     show srT (srOf gl x) t (fun a=>onStr a (fun s=>putT N t o.dst (.int .i64 (.ofNat (lenN s))) H k) none)=_
     unfold aop; rw [ho]; simp only
     rw [srT_aev (N:=N),h1,h2,h3]
     simp only [aevs]
     cases aev gl ⟨N,t⟩ x with
     | none=>rfl
     | some a =>
      simp only [Option.bind_some,Option.map_some,abuiltin]
      unfold alen
      rw [hty]
      cases a <;> try rfl
      case str s =>
       show putT N t o.dst (.int .i64 (.ofNat (lenN s))) H k=_
       rw [lenN_eq]
       exact putT_eq ..
    ·exact slow
   ·exact slow
end
end Go.Proofs.YtoehlmiadiiimaaGreatDoor.Ex
namespace Go.Proofs.YtoehlmiadiiimaaGreatDoor.Ex
open Go
variable [Dec]
structure Em where
 flag:Bool
 guard:Option (Nat×Bool×Option Nat)
 ix:Iy
def strike (o:Oper) : Oper:={ o with guard:=none }
def compG (ops:Array Oper) (o:Oper) : Option (Option (Nat×Bool×Option Nat)) :=
 match o.guard with
 | none=>some none
 | some (j,want)=>match (ops[j]?).bind (·.dst) with
  | some g=>some (some (g,want,o.dst))
  | none=>none
def compE (P:Program) (gl:Nat) (ops:Array Oper) (flag:Bool) (o:Oper) : Em :=
 match compG ops o with
 | some g=>⟨flag,g,compY P gl (strike o)⟩
 | none=>⟨flag,none,.ix (.slow o)⟩
noncomputable def beqB (a b:Bool) : Bool:=Bool.rec (motive:=fun _=>Bool) (notK b) b a
omit [Dec] in
theorem beqB_eq (a b:Bool) : beqB a b=(a == b):=by cases a <;> cases b <;> rfl
noncomputable def xGrd (P:Program) (gl:Nat) (call:ACall) (callT:CallT) (ops:Array Oper) (lim N:Nat) (i:Iy) (t:T AV) (H:AHeap) (k:KT) (g:Nat×Bool×Option Nat) : Rr :=
 onBool (atT t g.1) (fun b=>Bool.rec (motive:=fun _=>Rr) (putT N t g.2.2 aundef H k) (cstepY P gl call callT ops lim N i t H k) (beqB b g.2.1)) (putT N t g.2.2 aundef H k)
noncomputable def cstepE (P:Program) (gl:Nat) (call:ACall) (callT:CallT) (ops:Array Oper) (lim N:Nat) (e:Em) (t:T AV) (H:AHeap) (k:KT) : Rr :=
 Option.rec (motive:=fun _=>Rr) (cstepY P gl call callT ops lim N e.ix t H k) (fun g=>xGrd P gl call callT ops lim N e.ix t H k g) e.guard
noncomputable def limE (lim:Nat) (H:AHeap) (f:Bool) : Nat:=Bool.rec (motive:=fun _=>Nat) H.next lim f
section
variable {P:Program} {gl:Nat} {call:ACall} {callT:CallT} {ops:Array Oper} {lim N:Nat}
omit [Dec] in
theorem atT_eq (t:T AV) (n:Nat) : atT t n=AFr.at ⟨N,t⟩ n:=by unfold atT AFr.at; cases T.get t n <;> rfl
theorem astep_strike {o:Oper} (t:T AV) (H:AHeap) : astep P gl call ops lim o ⟨N,t⟩ H=match Region.wanted o (ayielded ops ⟨N,t⟩) with
  | true=>astep P gl call ops lim (strike o) ⟨N,t⟩ H
  | false=>putK ⟨N,t⟩ o.dst aundef H:=by
 have e:astep P gl call ops lim (strike o) ⟨N,t⟩ H=fin call lim ⟨N,t⟩ o.dst (aop P gl lim ⟨N,t⟩ H o):=astep_wanted rfl
 cases hw:Region.wanted o (ayielded ops ⟨N,t⟩) with
 | true =>
  simp only
  rw [e]
  unfold astep
  rw [hw]
  simp only
  cases aop P gl lim ⟨N,t⟩ H o with
  | none=>rfl
  | some r=>cases r with
   | val v H'=>exact (putK_eq _ _ _ _).symm
   | skip H'=>exact (putK_eq _ _ _ _).symm
   | enter f args H' =>
    unfold fin
    simp only
    cases call lim f args H' with
    | none=>rfl
    | some r=>exact (putK_eq _ _ _ _).symm
 | false =>
  unfold astep
  rw [hw]
  exact (putK_eq _ _ _ _).symm
theorem cstepE_eq (hc:CallEq call callT) {o:Oper} (f:Bool) (t:T AV) (H:AHeap) (k:KT) :
  cstepE P gl call callT ops lim N (compE P gl ops f o) t H k=kk (astep P gl call ops lim o ⟨N,t⟩ H) k:=by
 unfold compE
 cases hg:compG ops o with
 | none=>rfl
 | some g =>
  unfold compG at hg
  split at hg
  ·rename_i h0
   injection hg with hg; subst hg
   show cstepY P gl call callT ops lim N (compY P gl (strike o)) t H k=_
   rw [cstepY_eq hc rfl,astep_strike (o:=o)]
   rw [show Region.wanted o (ayielded ops ⟨N,t⟩)=true from by unfold Region.wanted; rw [h0]]
  ·rename_i j want h0
   split at hg
   ·rename_i g' hd
    injection hg with hg; subst hg
    show onBool (atT t g') (fun b=>Bool.rec (motive:=fun _=>Rr) (putT N t o.dst aundef H k) (cstepY P gl call callT ops lim N (compY P gl (strike o)) t H k) (beqB b want)) (putT N t o.dst aundef H k)=_
    rw [cstepY_eq hc rfl,astep_strike (o:=o),atT_eq (N:=N)]
    have hw:Region.wanted o (ayielded ops ⟨N,t⟩)=(ayielded ops ⟨N,t⟩ j == some want):=by unfold Region.wanted; rw [h0]
    rw [hw]
    have hy:ayielded ops ⟨N,t⟩ j=match AFr.at ⟨N,t⟩ g' with | .bool b=>some b | _=>none:=by
     unfold ayielded; rw [hd]; simp only
     cases AFr.at ⟨N,t⟩ g' <;> rfl
    rw [hy,putT_eq]
    cases AFr.at ⟨N,t⟩ g' <;> try rfl
    case bool b =>
     show Bool.rec (motive:=fun _=>Rr) _ _ (beqB b want)=_
     rw [beqB_eq]
     cases b <;> cases want <;> rfl
   ·cases hg
noncomputable def compLE (P:Program) (gl:Nat) (ops:Array Oper) (b:Array Nat) (draw:Bool) (l:List Oper) : Nat→List Em :=
 List.rec (motive:=fun _=>Nat→List Em) (fun _=>[]) (fun o _ ih j=>compE P gl ops (Bool.rec (motive:=fun _=>Bool) true (fixedOp ops b j o) draw) o :: ih (Nat.succ j)) l
noncomputable def compRE (P:Program) (gl:Nat) (ops:Array Oper) (draw:Bool) : Option (List Em) :=
 Bool.rec (motive:=fun _=>Option (List Em)) (some (compLE P gl ops #[] false ops.toList 0))
  (Bool.rec (motive:=fun _=>Option (List Em)) none (some (compLE P gl ops (Region.before ops) true ops.toList 0)) (drawOK ops (Region.before ops) && noSel ops)) draw
noncomputable def aopsT (P:Program) (gl:Nat) (call:ACall) (callT:CallT) (ops:Array Oper) (lim N:Nat) (l:List Em) : T AV→AHeap→KT→Rr :=
 List.rec (motive:=fun _=>T AV→AHeap→KT→Rr) (fun t H k=>k t H) (fun x _ ih t H k=>cstepE P gl call callT ops (limE lim H x.flag) N x t H fun t H=>ih t H k) l
omit [Dec] in
theorem put_n {fr fr':AFr} {d:Option Nat} {v:AV} (h:AFr.put fr d v=some fr') : fr'.n=fr.n:=by
 unfold AFr.put at h
 cases d with
 | none=>simp at h; subst h; rfl
 | some d =>
  simp only at h
  split at h
  ·injection h with h; subst h; rfl
  ·cases h
theorem astep_n {o:Oper} {fr:AFr} {H:AHeap} {r:AFr×AHeap} (h:astep P gl call ops lim o fr H=some r) : r.1.n=fr.n:=by
 unfold astep at h
 split at h
 ·split at h
  ·split at h
   ·rename_i hp; injection h with h; subst h; exact put_n hp
   ·cases h
  ·split at h
   ·rename_i hp; injection h with h; subst h; exact put_n hp
   ·cases h
  ·split at h
   ·split at h
    ·rename_i hp; injection h with h; subst h; exact put_n hp
    ·cases h
   ·cases h
  ·cases h
 ·split at h
  ·rename_i hp; injection h with h; subst h; exact put_n hp
  ·cases h
omit [Dec] in
theorem eta_n {fr:AFr} (h:fr.n=N) : fr=⟨N,fr.t⟩:=by obtain ⟨n,t⟩:=fr; simp at h; subst h; rfl
theorem aopsT_eq (hc:CallEq call callT) : ∀ (l:List Oper) (j:Nat) (t:T AV) (H:AHeap) (k:KT),
  aopsT P gl call callT ops lim N (compLE P gl ops #[] false l j) t H k=kk (aops P gl call ops lim l ⟨N,t⟩ H) k∧∀ r,aops P gl call ops lim l ⟨N,t⟩ H=some r→r.1.n=N
 | [],_,t,H,k=>⟨rfl,fun r h=>by injection h with h; subst h; rfl⟩
 | o :: l,j,t,H,k=>by
  have e:aops P gl call ops lim (o :: l) ⟨N,t⟩ H=obind (astep P gl call ops lim o ⟨N,t⟩ H) fun r=>aops P gl call ops lim l r.1 r.2:=by
   show (match astep P gl call ops lim o ⟨N,t⟩ H with | some (fr,H)=>aops P gl call ops lim l fr H | none=>none)=_
   cases astep P gl call ops lim o ⟨N,t⟩ H <;> rfl
  rw [e]
  have e2:aopsT P gl call callT ops lim N (compLE P gl ops #[] false (o :: l) j) t H k=kk (astep P gl call ops lim o ⟨N,t⟩ H) fun t H=>aopsT P gl call callT ops lim N (compLE P gl ops #[] false l (j+1)) t H k:=by
   have h0:∀ (e:Em),e.flag=true→cstepE P gl call callT ops (limE lim H e.flag) N e t H (fun t H=>aopsT P gl call callT ops lim N (compLE P gl ops #[] false l (j+1)) t H k)=cstepE P gl call callT ops lim N e t H (fun t H=>aopsT P gl call callT ops lim N (compLE P gl ops #[] false l (j+1)) t H k):=fun e h=>by rw [h]; rfl
   refine (h0 (compE P gl ops true o) ?_).trans (cstepE_eq hc _ t H _)
   unfold compE
   split <;> rfl
  rw [e2]
  cases hs:astep P gl call ops lim o ⟨N,t⟩ H with
  | none=>exact ⟨rfl,fun r h=>by cases h⟩
  | some r =>
   have hn:=astep_n hs
   have ih:=aopsT_eq hc l (j+1) r.1.t r.2 k
   rw [← eta_n (N:=N) hn] at ih
   exact ih
theorem aopsTD_eq (hc:CallEq call callT) {b:Array Nat} : ∀ (l:List Oper) (j:Nat) (t:T AV) (H:AHeap) (k:KT),
  aopsT P gl call callT ops lim N (compLE P gl ops b true l j) t H k=kk (aopsD P gl call ops b lim l j ⟨N,t⟩ H) k∧∀ r,aopsD P gl call ops b lim l j ⟨N,t⟩ H=some r→r.1.n=N
 | [],_,t,H,k=>⟨rfl,fun r h=>by injection h with h; subst h; rfl⟩
 | o :: l,j,t,H,k=>by
  have el:(match fixedOp ops b j o with | true=>lim | false=>H.next)=limE lim H (fixedOp ops b j o):=by unfold limE; cases fixedOp ops b j o <;> rfl
  have e:aopsD P gl call ops b lim (o :: l) j ⟨N,t⟩ H=obind (astep P gl call ops (limE lim H (fixedOp ops b j o)) o ⟨N,t⟩ H) fun r=>aopsD P gl call ops b lim l (j+1) r.1 r.2:=by
   show (match astep P gl call ops (match fixedOp ops b j o with | true=>lim | false=>H.next) o ⟨N,t⟩ H with | some (fr,H)=>aopsD P gl call ops b lim l (j+1) fr H | none=>none)=_
   rw [el]
   cases astep P gl call ops (limE lim H (fixedOp ops b j o)) o ⟨N,t⟩ H <;> rfl
  rw [e]
  have e2:aopsT P gl call callT ops lim N (compLE P gl ops b true (o :: l) j) t H k=kk (astep P gl call ops (limE lim H (fixedOp ops b j o)) o ⟨N,t⟩ H) fun t H=>aopsT P gl call callT ops lim N (compLE P gl ops b true l (j+1)) t H k:=by
   have h0:∀ (f:Bool) (e:Em),e.flag=f→cstepE P gl call callT ops (limE lim H e.flag) N e t H (fun t H=>aopsT P gl call callT ops lim N (compLE P gl ops b true l (j+1)) t H k)=cstepE P gl call callT ops (limE lim H f) N e t H (fun t H=>aopsT P gl call callT ops lim N (compLE P gl ops b true l (j+1)) t H k):=fun f e h=>by rw [h]
   refine (h0 (fixedOp ops b j o) (compE P gl ops (fixedOp ops b j o) o) ?_).trans (cstepE_eq hc _ t H _)
   unfold compE
   split <;> rfl
  rw [e2]
  cases hs:astep P gl call ops (limE lim H (fixedOp ops b j o)) o ⟨N,t⟩ H with
  | none=>exact ⟨rfl,fun r h=>by cases h⟩
  | some r =>
   have hn:=astep_n hs
   have ih:=aopsTD_eq hc (b:=b) l (j+1) r.1.t r.2 k
   rw [← eta_n (N:=N) hn] at ih
   exact ih
noncomputable def xRegT (P:Program) (gl:Nat) (call:ACall) (callT:CallT) (lim N:Nat) (ops:Array Oper) (draw:Bool) (t:T AV) (H:AHeap) (k:KT) : Rr :=
 Bool.rec (motive:=fun _=>Rr) (obind (compRE P gl ops draw) fun l=>aopsT P gl call callT ops lim N l t H k) (kk (aregion P gl call ops draw lim ⟨N,t⟩ H) k) (draw && calmReg P ops)
theorem aopsC_n {b:Array Nat} {bs:List Nat} : ∀ (l:List Oper) (j:Nat) (fr:AFr) (H:AHeap) (r:AFr×AHeap),aopsC P gl call ops b bs lim l j fr H=some r→r.1.n=fr.n
 | [],_,fr,H,r,h=>by injection h with h; subst h; rfl
 | o :: l,j,fr,H,r,h=>by
  have e:aopsC P gl call ops b bs lim (o :: l) j fr H=match spare gl fr bs o && calmIn fr bs o with
   | true=>match astep P gl call ops (match fixedF P ops b j o with | true=>lim | false=>H.next) o fr H with
    | some (fr,H)=>match calmDst P fr o with
     | true=>aopsC P gl call ops b bs lim l (j+1) fr H
     | false=>none
    | none=>none
   | false=>none:=rfl
  rw [e] at h
  split at h
  ·split at h
   ·rename_i fr1 H1 hs
    split at h
    ·rw [aopsC_n l _ _ _ _ h]; exact astep_n hs
    ·cases h
   ·cases h
  ·cases h
theorem xRegT_eq (hc:CallEq call callT) {draw:Bool} (t:T AV) (H:AHeap) (k:KT) :
  xRegT P gl call callT lim N ops draw t H k=kk (aregion P gl call ops draw lim ⟨N,t⟩ H) k∧∀ r,aregion P gl call ops draw lim ⟨N,t⟩ H=some r→r.1.n=N:=by
 cases draw with
 | false=>exact aopsT_eq hc _ _ _ _ _
 | true =>
  cases hk:calmReg P ops with
  | true =>
   refine ⟨by unfold xRegT; rw [hk]; rfl,fun r h=>?_⟩
   unfold aregion at h
   simp only [hk] at h
   split at h
   ·exact aopsC_n _ _ _ _ _ h
   ·cases h
  | false =>
  unfold aregion
  simp only [hk]
  have e:xRegT P gl call callT lim N ops true t H k=obind (Bool.rec (motive:=fun _=>Option (List Em)) none (some (compLE P gl ops (Region.before ops) true ops.toList 0)) (drawOK ops (Region.before ops) && noSel ops)) fun l=>aopsT P gl call callT ops lim N l t H k:=by
   unfold xRegT; rw [hk]; rfl
  rw [e]
  cases drawOK ops (Region.before ops) && noSel ops with
  | false=>exact ⟨rfl,fun r h=>by cases h⟩
  | true=>exact aopsTD_eq hc _ _ _ _ _
end
abbrev ExT:=Nat→Nat→Code→T AV→AHeap→KT→(Nat→KT)→KT→Rr
def fnOf (P:Program) (f:FuncId) : Option (Nat×Code×List ResultVar):=(P.funcs[f]?).bind fun fn=>fn.body.map fun c=>(fn.ntmps,c,fn.results.toList)
noncomputable def resT (P:Program) (N:Nat) (t:T AV) (H:AHeap) (rs:List ResultVar) (k:AV→AHeap→Rr) : Rr:=obind (aresults P ⟨N,t⟩ H rs) fun vs=>k (aresult vs) H
noncomputable def enterT (P:Program) (ex:ExT) (lim:Nat) (args:List AV) (H:AHeap) (k:AV→AHeap→Rr) (N:Nat) (c:Code) (rs:List ResultVar) : Rr :=
 ex lim N c (aframe args 0 .leaf) H (fun t H=>resT P N t H rs k) (fun _ _ _=>none) (fun t H=>resT P N t H rs k)
noncomputable def acallT (P:Program) (orc:ACall) (ex:ExT) : CallT:=fun lim f args H k =>
 Option.rec (motive:=fun _=>Rr) (obind (fnOf P f) fun x=>enterT P ex lim args H k (Nat.max x.1 (lenK args)) x.2.1 x.2.2) (fun r=>k r.1 r.2) (orc lim f args H)
noncomputable def execT (P:Program) (gl:Nat) (orc:ACall) (n:Nat) : ExT :=
 Nat.rec (motive:=fun _=>ExT) (fun _ _ _ _ _ _ _ _=>none) (fun n' ih lim N c t H kn kx kr =>
  Code.casesOn (motive:=fun _=>Rr) c
   (kn t H)
   (fun _ ops draw=>xRegT P gl (acall P orc (exec P gl orc n')) (acallT P orc ih) lim N ops draw t H kn)
   (fun a b=>ih lim N a t H (fun t H=>ih lim N b t H kn kx kr) kx kr)
   (fun c x y=>srT (srOf gl c) t fun v=>onBool v (fun b=>Bool.rec (motive:=fun _=>Rr) (ih lim N y t H kn kx kr) (ih lim N x t H kn kx kr) b) none)
   (fun id c=>ih lim N c t H kn (fun id' t H=>Bool.rec (motive:=fun _=>Rr) (kx id' t H) (kn t H) (Nat.beq id' id)) kr)
   (fun c=>ih lim N c t H (fun t H=>ih lim N (.loop c) t H kn kx kr) kx kr)
   (fun _ _ _ _=>none)
   (fun id=>kx id t H)
   (fun c=>ih lim N c t H kn kx kr)
   (fun _=>kn t H)
   (fun _=>none)
   (kr t H)
   (fun _=>none)) n
def onX (r:XR) (kn:KT) (kx:Nat→KT) (kr:KT) : Rr:=match r with
 | none=>none
 | some (.normal,fr,H)=>kn fr.t H
 | some (.exit id,fr,H)=>kx id fr.t H
 | some (.ret,fr,H)=>kr fr.t H
omit [Dec] in
theorem acallT_eq {P:Program} {orc:ACall} {ex:Nat→Code→AFr→AHeap→XR} {exT:ExT}
  (h:∀ lim N c t H kn kx kr,exT lim N c t H kn kx kr=onX (ex lim c ⟨N,t⟩ H) kn kx kr∧∀ r,ex lim c ⟨N,t⟩ H=some r→r.2.1.n=N) : CallEq (acall P orc ex) (acallT P orc exT):=by
 intro lim f args H k
 unfold acallT acall
 cases orc lim f args H with
 | some r=>rfl
 | none =>
  show (obind (fnOf P f) fun x=>enterT P exT lim args H k (Nat.max x.1 (lenK args)) x.2.1 x.2.2)=_
  unfold fnOf
  simp only
  cases P.funcs[f]? with
  | none=>rfl
  | some fn =>
   simp only [Option.bind_some]
   cases fn.body with
   | none=>rfl
   | some c =>
    show enterT P exT lim args H k (Nat.max fn.ntmps (lenK args)) c fn.results.toList=_
    rw [lenK_eq]
    unfold enterT
    obtain ⟨h1,h2⟩:=h lim (Nat.max fn.ntmps args.length) c (aframe args 0 .leaf) H (fun t H=>resT P (Nat.max fn.ntmps args.length) t H fn.results.toList k) (fun _ _ _=>none) (fun t H=>resT P (Nat.max fn.ntmps args.length) t H fn.results.toList k)
    rw [h1]
    simp only
    cases hx:ex lim c ⟨Nat.max fn.ntmps args.length,aframe args 0 .leaf⟩ H with
    | none=>rfl
    | some r =>
     obtain ⟨e,fr,H'⟩:=r
     have hn:=h2 _ hx
     simp only at hn
     have key:resT P (Nat.max fn.ntmps args.length) fr.t H' fn.results.toList k=obind (match aresults P fr H' fn.results.toList with
       | some vs=>some (aresult vs,H')
       | none=>none) fun r=>k r.1 r.2:=by
      unfold resT
      rw [← eta_n hn]
      cases aresults P fr H' fn.results.toList <;> rfl
     cases e with
     | normal=>exact key
     | ret=>exact key
     | exit id=>rfl
theorem execT_eq (P:Program) (gl:Nat) (orc:ACall) : ∀ n lim N c t H kn kx kr,
  execT P gl orc n lim N c t H kn kx kr=onX (exec P gl orc n lim c ⟨N,t⟩ H) kn kx kr∧∀ r,exec P gl orc n lim c ⟨N,t⟩ H=some r→r.2.1.n=N
 | 0=>fun lim N c t H kn kx kr=>⟨rfl,fun r h=>by cases h⟩
 | n+1=>by
  have ih:=execT_eq P gl orc n
  intro lim N c t H kn kx kr
  cases c with
  | skip=>exact ⟨rfl,fun r h=>by injection h with h; subst h; rfl⟩
  | label l=>exact ⟨rfl,fun r h=>by injection h with h; subst h; rfl⟩
  | ret=>exact ⟨rfl,fun r h=>by injection h with h; subst h; rfl⟩
  | exit id=>exact ⟨rfl,fun r h=>by injection h with h; subst h; rfl⟩
  | rangeFunc f p a b=>exact ⟨rfl,fun r h=>by cases h⟩
  | goto l=>exact ⟨rfl,fun r h=>by cases h⟩
  | refuse w=>exact ⟨rfl,fun r h=>by cases h⟩
  | region id ops draw =>
   have hc:CallEq (acall P orc (exec P gl orc n)) (acallT P orc (execT P gl orc n)):=acallT_eq ih
   obtain ⟨h1,h2⟩:=xRegT_eq (P:=P) (gl:=gl) (ops:=ops) (lim:=lim) (N:=N) hc (draw:=draw) t H kn
   have e:exec P gl orc (n+1) lim (.region id ops draw) ⟨N,t⟩ H=match aregion P gl (acall P orc (exec P gl orc n)) ops draw lim ⟨N,t⟩ H with
     | some (fr,H)=>some (.normal,fr,H)
     | none=>none:=rfl
   rw [e]
   refine ⟨Eq.trans (show _=xRegT P gl (acall P orc (exec P gl orc n)) (acallT P orc (execT P gl orc n)) lim N ops draw t H kn from rfl) (h1.trans ?_),fun r hr=>?_⟩
   ·cases aregion P gl (acall P orc (exec P gl orc n)) ops draw lim ⟨N,t⟩ H <;> rfl
   ·cases hq:aregion P gl (acall P orc (exec P gl orc n)) ops draw lim ⟨N,t⟩ H with
    | none=>rw [hq] at hr; cases hr
    | some q=>rw [hq] at hr; injection hr with hr; subst hr; exact h2 q hq
  | seq a b =>
   obtain ⟨h1,h2⟩:=ih lim N a t H (fun t H=>execT P gl orc n lim N b t H kn kx kr) kx kr
   have e:exec P gl orc (n+1) lim (.seq a b) ⟨N,t⟩ H=match exec P gl orc n lim a ⟨N,t⟩ H with
     | some (.normal,fr,H)=>exec P gl orc n lim b fr H
     | r=>r:=rfl
   rw [e]
   refine ⟨Eq.trans (show _=execT P gl orc n lim N a t H (fun t H=>execT P gl orc n lim N b t H kn kx kr) kx kr from rfl) (h1.trans ?_),fun r hr=>?_⟩
   ·cases hq:exec P gl orc n lim a ⟨N,t⟩ H with
    | none=>rfl
    | some q =>
     obtain ⟨x,fr,H'⟩:=q
     have hn:fr.n=N:=h2 _ hq
     cases x <;> try rfl
     case normal =>
      show execT P gl orc n lim N b fr.t H' kn kx kr=_
      rw [(ih lim N b fr.t H' kn kx kr).1,← eta_n hn]
   ·cases hq:exec P gl orc n lim a ⟨N,t⟩ H with
    | none=>rw [hq] at hr; cases hr
    | some q =>
     obtain ⟨x,fr,H'⟩:=q
     have hn:fr.n=N:=h2 _ hq
     rw [hq] at hr
     cases x with
     | normal =>
      simp only at hr
      rw [eta_n hn] at hr
      exact (ih lim N b fr.t H' kn kx kr).2 r hr
     | exit i=>injection hr with hr; subst hr; exact hn
     | ret=>injection hr with hr; subst hr; exact hn
  | cond c x y =>
   have e:exec P gl orc (n+1) lim (.cond c x y) ⟨N,t⟩ H=match aev gl ⟨N,t⟩ c with
     | some (.bool true)=>exec P gl orc n lim x ⟨N,t⟩ H
     | some (.bool false)=>exec P gl orc n lim y ⟨N,t⟩ H
     | _=>none:=rfl
   rw [e]
   have e2:execT P gl orc (n+1) lim N (.cond c x y) t H kn kx kr=obind (aev gl ⟨N,t⟩ c) fun v=>onBool v (fun b=>Bool.rec (motive:=fun _=>Rr) (execT P gl orc n lim N y t H kn kx kr) (execT P gl orc n lim N x t H kn kx kr) b) none :=
    Eq.trans (show execT P gl orc (n+1) lim N (.cond c x y) t H kn kx kr=srT (srOf gl c) t (fun v=>onBool v (fun b=>Bool.rec (motive:=fun _=>Rr) (execT P gl orc n lim N y t H kn kx kr) (execT P gl orc n lim N x t H kn kx kr) b) none) from rfl) (srT_aev (N:=N) ..)
   rw [e2]
   cases aev gl ⟨N,t⟩ c with
   | none=>exact ⟨rfl,fun r h=>by cases h⟩
   | some v =>
    cases v <;> try exact ⟨rfl,fun r h=>by cases h⟩
    case bool b =>
     cases b with
     | true=>exact ih lim N x t H kn kx kr
     | false=>exact ih lim N y t H kn kx kr
  | block id c =>
   obtain ⟨h1,h2⟩:=ih lim N c t H kn (fun id' t H=>Bool.rec (motive:=fun _=>Rr) (kx id' t H) (kn t H) (Nat.beq id' id)) kr
   have e:exec P gl orc (n+1) lim (.block id c) ⟨N,t⟩ H=match exec P gl orc n lim c ⟨N,t⟩ H with
     | some (.exit id',fr,H)=>match Nat.beq id' id with
      | true=>some (.normal,fr,H)
      | false=>some (.exit id',fr,H)
     | r=>r:=rfl
   rw [e]
   refine ⟨Eq.trans (show _=execT P gl orc n lim N c t H kn (fun id' t H=>Bool.rec (motive:=fun _=>Rr) (kx id' t H) (kn t H) (Nat.beq id' id)) kr from rfl) (h1.trans ?_),fun r hr=>?_⟩
   ·cases hq:exec P gl orc n lim c ⟨N,t⟩ H with
    | none=>rfl
    | some q =>
     obtain ⟨x,fr,H'⟩:=q
     cases x <;> try rfl
     case exit i =>
      show Bool.rec (motive:=fun _=>Rr) (kx i fr.t H') (kn fr.t H') (Nat.beq i id)=onX (match Nat.beq i id with
       | true=>some (.normal,fr,H')
       | false=>some (.exit i,fr,H')) kn kx kr
      cases Nat.beq i id <;> rfl
   ·cases hq:exec P gl orc n lim c ⟨N,t⟩ H with
    | none=>rw [hq] at hr; cases hr
    | some q =>
     obtain ⟨x,fr,H'⟩:=q
     have hn:fr.n=N:=h2 _ hq
     rw [hq] at hr
     cases x with
     | normal=>injection hr with hr; subst hr; exact hn
     | exit i =>
      simp only at hr
      split at hr
      ·injection hr with hr; subst hr; exact hn
      ·injection hr with hr; subst hr; exact hn
     | ret=>injection hr with hr; subst hr; exact hn
  | loop c =>
   obtain ⟨h1,h2⟩:=ih lim N c t H (fun t H=>execT P gl orc n lim N (.loop c) t H kn kx kr) kx kr
   have e:exec P gl orc (n+1) lim (.loop c) ⟨N,t⟩ H=match exec P gl orc n lim c ⟨N,t⟩ H with
     | some (.normal,fr,H)=>exec P gl orc n lim (.loop c) fr H
     | r=>r:=rfl
   rw [e]
   refine ⟨Eq.trans (show _=execT P gl orc n lim N c t H (fun t H=>execT P gl orc n lim N (.loop c) t H kn kx kr) kx kr from rfl) (h1.trans ?_),fun r hr=>?_⟩
   ·cases hq:exec P gl orc n lim c ⟨N,t⟩ H with
    | none=>rfl
    | some q =>
     obtain ⟨x,fr,H'⟩:=q
     have hn:fr.n=N:=h2 _ hq
     cases x <;> try rfl
     case normal =>
      show execT P gl orc n lim N (.loop c) fr.t H' kn kx kr=_
      rw [(ih lim N (.loop c) fr.t H' kn kx kr).1,← eta_n hn]
   ·cases hq:exec P gl orc n lim c ⟨N,t⟩ H with
    | none=>rw [hq] at hr; cases hr
    | some q =>
     obtain ⟨x,fr,H'⟩:=q
     have hn:fr.n=N:=h2 _ hq
     rw [hq] at hr
     cases x with
     | normal =>
      simp only at hr
      rw [eta_n hn] at hr
      exact (ih lim N (.loop c) fr.t H' kn kx kr).2 r hr
     | exit i=>injection hr with hr; subst hr; exact hn
     | ret=>injection hr with hr; subst hr; exact hn
  | scope c=>exact ih lim N c t H kn kx kr
theorem callT_eq (P:Program) (gl:Nat) (orc:ACall) (n:Nat) (lim:Nat) (f:FuncId) (args:List AV) (H:AHeap) :
  acallT P orc (execT P gl orc n) lim f args H (fun v H=>some (v,H))=acall P orc (exec P gl orc n) lim f args H:=by
 rw [acallT_eq (execT_eq P gl orc n)]
 cases acall P orc (exec P gl orc n) lim f args H <;> rfl
end Go.Proofs.YtoehlmiadiiimaaGreatDoor.Ex
