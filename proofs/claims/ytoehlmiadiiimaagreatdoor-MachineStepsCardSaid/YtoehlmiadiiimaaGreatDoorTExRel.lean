import Derived.Tactics
import Derived.Orders
import Derived.KernelRfl
import Derived.Laws.Cells
import Derived.Laws.IdiomCopy
import Derived.Below
/-
  An executor over the model's code, on values and a heap of its own: the definitions. (Its soundness: ExSound.)
-/
namespace Go.Proofs.YtoehlmiadiiimaaGreatDoor.Ex
open Go
inductive T (α:Type) where
 | leaf
 | node (l:T α) (v:Option α) (r:T α)
noncomputable def T.get {α:Type} (t:T α) : Nat→Option α :=
 T.rec (motive:=fun _=>Nat→Option α) (fun _=>none)
  (fun _ v _ gl gr n=>Bool.rec (Bool.rec (gr (Nat.pred (Nat.div n (nat_lit 2)))) (gl (Nat.div n (nat_lit 2))) (Nat.beq (Nat.mod n (nat_lit 2)) (nat_lit 1))) v (Nat.beq n (nat_lit 0))) t
noncomputable def T.put {α:Type} (x:Option α) (f:Nat) : T α→Nat→T α :=
 Nat.rec (motive:=fun _=>T α→Nat→T α) (fun t _=>t) (fun _ ih t n =>
  T.rec (motive:=fun _=>T α)
   (Bool.rec (Bool.rec (.node .leaf none (ih .leaf (Nat.pred (Nat.div n (nat_lit 2))))) (.node (ih .leaf (Nat.div n (nat_lit 2))) none .leaf) (Nat.beq (Nat.mod n (nat_lit 2)) (nat_lit 1)))
     (.node .leaf x .leaf) (Nat.beq n (nat_lit 0)))
   (fun l v r _ _=>Bool.rec (Bool.rec (.node l v (ih r (Nat.pred (Nat.div n (nat_lit 2))))) (.node (ih l (Nat.div n (nat_lit 2))) v r) (Nat.beq (Nat.mod n (nat_lit 2)) (nat_lit 1)))
     (.node l x r) (Nat.beq n (nat_lit 0))) t) f
noncomputable def T.set {α:Type} (t:T α) (n:Nat) (x:Option α) : T α:=T.put x (Nat.succ n) t n
inductive SE where
 | var (i:Nat)
 | lit (n:Int)
 | bin (op:BinOp) (k:IntKind) (a b:SE)
 | un (op:UnOp) (k:IntKind) (a:SE)
 | wrap (k:IntKind) (a:SE)
 | fn (i:Nat) (a:SE)
 | pair (a b:SE)
def SE.beq:SE→SE→Bool
 | .var i,.var j=>Nat.beq i j
 | .lit m,.lit n=>decide (m=n)
 | .bin o k a b,.bin o' k' a' b'=>decide (o=o') && (decide (k=k') && (SE.beq a a' && SE.beq b b'))
 | .un o k a,.un o' k' a'=>decide (o=o') && (decide (k=k') && SE.beq a a')
 | .wrap k a,.wrap k' a'=>decide (k=k') && SE.beq a a'
 | .fn i a,.fn j b=>Nat.beq i j && SE.beq a b
 | .pair a b,.pair a' b'=>SE.beq a a' && SE.beq b b'
 | _,_=>false
class Dec where
 eqs:SE→SE→Option Bool
 lts:SE→SE→Option Bool
 vals:SE→Option Int
def look (a b:SE) : List (SE×SE×Bool)→Option Bool
 | []=>none
 | x :: xs=>match SE.beq x.1 a && SE.beq x.2.1 b with
  | true=>some x.2.2
  | false=>look a b xs
def lookVal (a:SE) : List (SE×Int)→Option Int
 | []=>none
 | x :: xs=>match SE.beq x.1 a with
  | true=>some x.2
  | false=>lookVal a xs
abbrev Dec.of (es ls:List (SE×SE×Bool)) (vs:List (SE×Int)) : Dec:=⟨fun a b=>look a b es,fun a b=>look a b ls,fun a=>lookVal a vs⟩
abbrev Dec.none:Dec:=⟨fun _ _=>.none,fun _ _=>.none,fun _=>.none⟩
inductive AV where
 | bool (b:Bool)
 | int (k:IntKind) (n:Int)
 | sint (k:IntKind) (e:SE)
 | str (s:List Nat)
 | ptr (b o:Nat)
 | nilptr
 | sl (b o len cap:Nat)
 | nilsl
 | map (r:Nat)
 | nilmap
 | fn (fn:Fn) (first captured:List AV)
 | nilfn
 | iface (t:TypeId) (v:AV)
 | nilif
 | agg (cs:List AV)
 | tup (vs:List AV)
def AV.cells:AV→List AV
 | .agg cs=>cs
 | v=>[v]
def AV.one:AV→Bool
 | .agg _ | .tup _=>false
 | _=>true
def aundef:AV:=.tup []
variable [Dec]
def mkInt (k:IntKind) (e:SE) : AV :=
 match Dec.vals e with
 | some n=>.int k n
 | none=>.sint k e
def ival:AV→Option (IntKind×SE)
 | .int k n=>some (k,.lit n)
 | .sint k e=>some (k,e)
 | _=>none
def isS:AV→Bool
 | .sint ..=>true
 | _=>false
def sbin (op:BinOp) (k:IntKind) (a:SE) (k':IntKind) (b:SE) : Option AV :=
 match op with
 | .shl=>match b with
  | .lit n=>if n < 0 then none else some (mkInt k (.bin .shl k a (.lit n)))
  | b=>match Dec.lts b (.lit 0) with
   | some false=>some (mkInt k (.bin .shl k a b))
   | _=>none
 | .shr=>match b with
  | .lit n=>if n < 0 then none else some (mkInt k (.bin .shr k a (.lit n)))
  | b=>match Dec.lts b (.lit 0) with
   | some false=>some (mkInt k (.bin .shr k a b))
   | _=>none
 | op=>if k≠k' then none else match op with
  | .add=>some (mkInt k (.bin .add k a b))
  | .sub=>some (mkInt k (.bin .sub k a b))
  | .mul=>some (mkInt k (.bin .mul k a b))
  | .quo=>match b with
   | .lit n=>if n=0 then none else some (mkInt k (.bin .quo k a (.lit n)))
   | b=>match Dec.eqs b (.lit 0) with
    | some false=>some (mkInt k (.bin .quo k a b))
    | _=>none
  | .rem=>match b with
   | .lit n=>if n=0 then none else some (mkInt k (.bin .rem k a (.lit n)))
   | b=>match Dec.eqs b (.lit 0) with
    | some false=>some (mkInt k (.bin .rem k a b))
    | _=>none
  | .and=>some (mkInt k (.bin .and k a b))
  | .or=>some (mkInt k (.bin .or k a b))
  | .xor=>some (mkInt k (.bin .xor k a b))
  | .andNot=>some (mkInt k (.bin .andNot k a b))
  | .eql=>(Dec.eqs a b).map .bool
  | .neq=>(Dec.eqs a b).map fun r=>.bool !r
  | .lss=>(Dec.lts a b).map .bool
  | .geq=>(Dec.lts a b).map fun r=>.bool !r
  | .gtr=>(Dec.lts b a).map .bool
  | .leq=>(Dec.lts b a).map fun r=>.bool !r
  | _=>none
mutual
def ofV:Value→Option AV
 | .bool b=>some (.bool b)
 | .int k n=>some (.int k n)
 | .string s=>some (.str (s.data.toList.map UInt8.toNat))
 | .pointer none=>some .nilptr
 | .slice none 0 0=>some .nilsl
 | .map none=>some .nilmap
 | .nilFunc=>some .nilfn
 | .func (.func f) ⟨[]⟩ ⟨[]⟩=>some (.fn (.func f) [] [])
 | .nilIface=>some .nilif
 | .iface t v=>(ofV v).map (.iface t)
 | .agg ⟨cs⟩=>(ofVs cs).map .agg
 | .tuple ⟨cs⟩=>(ofVs cs).map .tup
 | _=>none
def ofVs:List Value→Option (List AV)
 | []=>some []
 | v :: vs=>(ofV v).bind fun a=>(ofVs vs).map (a :: ·)
end
structure Ent where
 key:AV
 val:AV
 born:Nat
inductive AObj where
 | cells (c:List AV) (elem:TypeId) (tight:Bool)
 | map (es:List Ent) (clock:Nat)
 | iter (s:List Nat) (pos:Nat)
structure AHeap where
 next:Nat
 t:T AObj
noncomputable def AHeap.get (H:AHeap) (b:Nat) : Option AObj:=T.get H.t b
noncomputable def AHeap.put (H:AHeap) (b:Nat) (o:Option AObj) : AHeap:=⟨H.next,T.set H.t b o⟩
noncomputable def AHeap.alloc (H:AHeap) (o:AObj) : AHeap:=⟨Nat.succ H.next,T.set H.t H.next (some o)⟩
structure AFr where
 n:Nat
 t:T AV
noncomputable def AFr.at (fr:AFr) (t:Nat) : AV:=match T.get fr.t t with | some v=>v | none=>aundef
noncomputable def AFr.put (fr:AFr) (d:Option Nat) (v:AV) : Option AFr :=
 match d with
 | none=>some fr
 | some d=>match Nat.ble (Nat.succ d) fr.n with
  | true=>some ⟨fr.n,T.set fr.t d (some v)⟩
  | false=>none
noncomputable def aev (gl:Nat) (fr:AFr) : Operand→Option AV
 | .tmp t=>some (AFr.at fr t)
 | .const v=>ofV v
 | .global g=>match Nat.ble (Nat.succ g) gl with
  | true=>some (.ptr g 0)
  | false=>none
 | .func f=>some (.fn (.func f) [] [])
noncomputable def aevs (gl:Nat) (fr:AFr) : List Operand→Option (List AV)
 | []=>some []
 | o :: os=>(aev gl fr o).bind fun v=>(aevs gl fr os).map (v :: ·)
inductive Res where
 | val (v:AV) (H:AHeap)
 | skip (H:AHeap)
 | enter (f:FuncId) (args:List AV) (H:AHeap)
section
variable (P:Program)
def und (t:TypeId) : Option TypeDesc:=P.underlying t
def sz (t:TypeId) : Option Nat:=(P.info? t).map (·.size)
def zero (t:TypeId) : Option AV:=((P.info? t).bind (·.zero)).bind ofV
def agg? (t:TypeId) : Option Bool :=
 match und P t with
 | some (.struct _) | some (.array ..)=>some true
 | some _=>some false
 | none=>none
def apart (t:TypeId) (cs:List AV) (off:Nat) : Option AV :=
 match agg? P t with
 | some true=>(sz P t).map fun n=>.agg ((cs.drop off).take n)
 | some false=>cs[off]?
 | none=>none
noncomputable def aload (H:AHeap) (t:TypeId) (b o:Nat) : Option AV :=
 match H.get b with
 | some (.cells c _ _)=>match agg? P t with
  | some true=>(sz P t).bind fun n=>if o+n≤c.length then some (.agg ((c.drop o).take n)) else none
  | some false=>c[o]?
  | none=>none
 | _=>none
def splice (c:List AV) (o:Nat) (vs:List AV) : List AV:=c.take o ++ vs ++ c.drop (o+vs.length)
noncomputable def awrite (H:AHeap) (lim:Nat) (b o:Nat) (vs:List AV) : Option AHeap :=
 if lim≤b then
  match H.get b with
  | some (.cells c e t)=>if o+vs.length≤c.length∧vs.all AV.one=true then some (H.put b (some (.cells (splice c o vs) e t))) else none
  | _=>none
 else none
noncomputable def astore (H:AHeap) (lim:Nat) (t:TypeId) (b o:Nat) (v:AV) : Option AHeap :=
 if some v.cells.length=sz P t then awrite H lim b o v.cells else none
def afill (place:Nat→Option (Nat×Nat)) (cells:List AV) : List (Nat×AV)→Option (List AV)
 | []=>some cells
 | (i,v) :: rest =>
   match place i with
   | none=>none
   | some (off,size)=>if v.cells.length=size∧off+size≤cells.length then afill place (splice cells off v.cells) rest else none
def aparts (evs:List Nat) (vs:List AV) : List (Nat×AV):=evs.zip vs
def aplaces (fs:Array Field) (i:Nat) : Option (Nat×Nat):=(fs[i]?).bind fun f=>(sz P f.type).map fun n=>(f.offset,n)
def azeros (z:List AV) : Nat→List AV
 | 0=>[]
 | n+1=>z ++ azeros z n
def abound (v:AV) (y:Nat) : Option Nat :=
 match v with
 | .int _ i=>if 0≤i∧i≤(y:Int) then some i.toNat else none
 | _=>none
def abounds (len cap:Nat) (low high max:Option AV) : Option (Nat×Nat×Nat) :=
 (match max with | some v=>abound v cap | none=>some cap).bind fun m =>
 (match high,max with
   | some v,_=>abound v m
   | none,none=>some len
   | none,some _=>none).bind fun h =>
 (match low with | some v=>abound v h | none=>some 0).bind fun l=>some (l,h,m)
noncomputable def tightAt (H:AHeap) (b:Nat) : Option Bool :=
 match H.get b with
 | some (.cells _ _ t)=>some t
 | _=>none
noncomputable def aslice (H:AHeap) (t:TypeId) (x:AV) (low high max:Option AV) : Option AV :=
 match und P t,x with
 | some .string,.str s =>
  match max with
  | some _=>none
  | none=>(abounds s.length s.length low high none).map fun (l,h,_)=>.str ((s.drop l).take (h - l))
 | some (.slice elem),.sl b o len cap =>
  match H.get b with
  | some (.cells _ e tight)=>if tight=true∨e=elem then (sz P elem).bind fun size=>(abounds len cap low high max).map fun (l,h,m)=>.sl b (o+l*size) (h - l) (m - l) else none
  | _=>none
 | some (.slice e),.nilsl=>if (sz P e).isSome=true then (abounds 0 0 low high max).map fun _=>.nilsl else none
 | some (.array n elem),.ptr b o =>
  (sz P elem).bind fun size=>(tightAt H b).bind fun tt=>if tt then (abounds n n low high max).map fun (l,h,m)=>.sl b (o+l*size) (h - l) (m - l) else none
 | _,_=>none
def alss:List Nat→List Nat→Bool
 | _,[]=>false
 | [],_ :: _=>true
 | a :: x,b :: y=>decide (a < b) || (a == b && alss x y)
def abin (op:BinOp) (x y:AV) : Option AV :=
 match x,y with
 | .int k a,.int k' b =>
  match op with
  | .shl=>if b < 0 then none else some (.int k (k.wrap (a*2 ^ (min b.toNat k.bits))))
  | .shr=>if b < 0 then none else some (.int k (a.fdiv (2 ^ (min b.toNat k.bits))))
  | op=>if k≠k' then none else match op with
   | .add=>some (.int k (k.wrap (a+b)))
   | .sub=>some (.int k (k.wrap (a - b)))
   | .mul=>some (.int k (k.wrap (a*b)))
   | .quo=>if b=0 then none else some (.int k (k.wrap (a.tdiv b)))
   | .rem=>if b=0 then none else some (.int k (a.tmod b))
   | .and=>some (.int k (k.wrap (BitVec.ofInt k.bits a &&& BitVec.ofInt k.bits b).toNat))
   | .or=>some (.int k (k.wrap (BitVec.ofInt k.bits a ||| BitVec.ofInt k.bits b).toNat))
   | .xor=>some (.int k (k.wrap (BitVec.ofInt k.bits a ^^^ BitVec.ofInt k.bits b).toNat))
   | .andNot=>some (.int k (k.wrap (BitVec.ofInt k.bits a &&& ~~~BitVec.ofInt k.bits b).toNat))
   | .eql=>some (.bool (a == b))
   | .neq=>some (.bool (a != b))
   | .lss=>some (.bool (decide (a < b)))
   | .leq=>some (.bool (decide (a≤b)))
   | .gtr=>some (.bool (decide (b < a)))
   | .geq=>some (.bool (decide (b≤a)))
   | _=>none
 | .str a,.str b =>
  match op with
  | .eql=>some (.bool (a == b))
  | .neq=>some (.bool !(a == b))
  | .add=>if a.length+b.length≤4294967296 then some (.str (a ++ b)) else none
  | .lss=>some (.bool (alss a b))
  | .leq=>some (.bool (alss a b || a == b))
  | .gtr=>some (.bool !(alss a b || a == b))
  | .geq=>some (.bool !alss a b)
  | _=>none
 | _,_=>none
end
def aeqFields (P:Program) (eq:TypeId→AV→AV→Option Bool) (xs ys:List AV) : List Field→Option Bool
 | []=>some true
 | f :: fs=>if f.name≠"_" then (apart P f.type xs f.offset).bind fun x=>(apart P f.type ys f.offset).bind fun y=>(eq f.type x y).bind fun b =>
   match b with
   | true=>aeqFields P eq xs ys fs
   | false=>some false
  else aeqFields P eq xs ys fs
def aeqElems (P:Program) (eq:AV→AV→Option Bool) (e n:Nat) (xs ys:List AV) : List Nat→Option Bool
 | []=>some true
 | i :: is=>(apart P e xs (i*n)).bind fun x=>(apart P e ys (i*n)).bind fun y=>(eq x y).bind fun b =>
   match b with
   | true=>aeqElems P eq e n xs ys is
   | false=>some false
def aeqD (P:Program) : Nat→TypeId→AV→AV→Option Bool
 | 0,_,_,_=>none
 | d+1,t,x,y=>match und P t,x,y with
  | some .bool,.bool a,.bool b=>some (a == b)
  | some (.int _),.int k a,.int k' b=>if k=k' then some (a == b) else none
  | some (.int _),x,y=>(ival x).bind fun a=>(ival y).bind fun b=>if a.1=b.1 then Dec.eqs a.2 b.2 else none
  | some .string,.str a,.str b=>some (a == b)
  | some (.struct fs),.agg xs,.agg ys=>if P.stoodInHeld t then none else aeqFields P (aeqD P d) xs ys fs.toList
  | some (.array len e),.agg xs,.agg ys=>(sz P e).bind fun n=>aeqElems P (aeqD P d e) e n xs ys (List.range' 0 len)
  | _,_,_=>none
def aeqT (P:Program) (t:TypeId) (x y:AV) : Option Bool :=
 match und P t,x,y with
 | some .bool,.bool a,.bool b=>some (a == b)
 | some (.pointer _),.nilptr,.nilptr=>some true
 | some (.pointer _),.nilptr,.ptr _ _=>some false
 | some (.pointer _),.ptr _ _,.nilptr=>some false
 | some (.slice _),.nilsl,.nilsl=>some true
 | some (.slice _),.nilsl,.sl ..=>some false
 | some (.slice _),.sl ..,.nilsl=>some false
 | some (.map _ _),.nilmap,.nilmap=>some true
 | some (.map _ _),.nilmap,.map _=>some false
 | some (.map _ _),.map _,.nilmap=>some false
 | some (.func ..),.nilfn,.nilfn=>some true
 | some (.func ..),.nilfn,.fn ..=>some false
 | some (.func ..),.fn ..,.nilfn=>some false
 | some (.interface _),.nilif,.iface ..=>some false
 | some (.interface _),.iface ..,.nilif=>some false
 | some (.interface _),.iface tx vx,.iface ty vy =>
  if tx≠ty then some false else match P.info? tx with
   | some i=>if i.comparable then aeqD P 10 tx vx vy else none
   | none=>none
 | some (.struct _),.agg xs,.agg ys=>if P.eqGuardType P.depth t then none else aeqD P 10 t (.agg xs) (.agg ys)
 | some (.array ..),.agg xs,.agg ys=>if P.eqGuardType P.depth t then none else aeqD P 10 t (.agg xs) (.agg ys)
 | _,_,_=>none
def abinT (P:Program) (op:BinOp) (t:TypeId) (x y:AV) : Option AV :=
 match x,y with
 | .int k a,.int k' b=>abin op (.int k a) (.int k' b)
 | .str a,.str b=>abin op (.str a) (.str b)
 | x,y =>
  match op with
  | .eql=>(aeqT P t x y).map .bool
  | .neq=>(aeqT P t x y).map fun b=>.bool !b
  | _=>none
def aun (op:UnOp) (x:AV) : Option AV :=
 match op,x with
 | .neg,.int k n=>some (.int k (k.wrap (0 - n)))
 | .xor,.int k n=>some (.int k (k.wrap (BitVec.ofInt k.bits (if k.signed then -1 else k.max) ^^^ BitVec.ofInt k.bits n).toNat))
 | .not,.bool b=>some (.bool !b)
 | _,_=>none
def abinS (P:Program) (op:BinOp) (t:TypeId) (x y:AV) : Option AV :=
 match isS x || isS y with
 | false=>abinT P op t x y
 | true=>(ival x).bind fun a=>(ival y).bind fun b=>sbin op a.1 a.2 b.1 b.2
def isC:Operand→Bool
 | .const _=>true
 | _=>false
def nilNil (P:Program) (op:BinOp) (t:TypeId) (p q:Operand) (x y:AV) : Option Bool :=
 match und P t,x,y with
 | some (.interface _),.nilif,.nilif=>match isC p || isC q with
  | true=>match op with
   | .eql=>some true
   | .neq=>some false
   | _=>none
  | false=>none
 | _,_,_=>none
def abinN (P:Program) (op:BinOp) (t:TypeId) (p q:Operand) (x y:AV) : Option AV :=
 match nilNil P op t p q x y with
 | some b=>some (.bool b)
 | none=>abinS P op t x y
def aunS (op:UnOp) (x:AV) : Option AV :=
 match op,x with
 | .neg,.sint k e=>some (mkInt k (.un .neg k e))
 | .xor,.sint k e=>some (mkInt k (.un .xor k e))
 | op,x=>aun op x
def keyEq (x y:AV) : Option Bool :=
 match x,y with
 | .int k a,.int k' b=>if k=k' then some (a == b) else none
 | .str a,.str b=>some (a == b)
 | .bool a,.bool b=>some (a == b)
 | _,_=>none
def afind (k:AV) : List Ent→Nat→Option (Option (Nat×AV))
 | [],_=>some none
 | e :: es,i=>match keyEq k e.key with
  | some true=>some (some (i,e.val))
  | some false=>afind k es (i+1)
  | none=>none
def keyType (P:Program) (t:TypeId) (k:AV) : Bool :=
 match und P t,k with
 | some .bool,.bool _=>true
 | some (.int _),.int _ _=>true
 | some .string,.str _=>true
 | _,_=>false
noncomputable def amapOf (H:AHeap) : AV→Option (List Ent)
 | .nilmap=>some []
 | .map r=>match H.get r with
  | some (.map es _)=>some es
  | _=>none
 | _=>none
noncomputable def alookup (P:Program) (H:AHeap) (t:TypeId) (m k:AV) (ok:Bool) : Option AV :=
 match und P t with
 | some (.map kt et)=>if keyType P kt k=true then (amapOf H m).bind fun es=>(afind k es 0).bind fun r =>
   match r with
   | some (_,v)=>some (if ok then .tup [v,.bool true] else v)
   | none=>(zero P et).map fun z=>if ok then .tup [z,.bool false] else z
  else none
 | _=>none
noncomputable def amapPut (P:Program) (lim:Nat) (H:AHeap) (t:TypeId) (m k v:AV) : Option AHeap :=
 match und P t,m with
 | some (.map kt _),.map r=>if keyType P kt k=true∧lim≤r then match H.get r with
   | some (.map es c)=>(afind k es 0).bind fun x=>match x with
    | some (i,_)=>some (H.put r (some (.map (es.modify i fun e=>{ e with key:=k,val:=v }) c)))
    | none=>some (H.put r (some (.map (es ++ [⟨k,v,c⟩]) (c+1))))
   | _=>none
  else none
 | _,_=>none
def abytes (s:List Nat) : List AV:=s.map fun b=>.int .u8 (Int.ofNat b)
def aofBytes:List AV→Option (List Nat)
 | []=>some []
 | .int .u8 n :: vs=>(aofBytes vs).map (n.toNat % 256 :: ·)
 | _=>none
noncomputable def aconv (P:Program) (H:AHeap) (src dst:TypeId) (x:AV) : Option (AV×AHeap) :=
 match und P src,und P dst,x with
 | some _,some (.int k),.int _ n=>some (.int k (k.wrap n),H)
 | some .string,some .string,.str s=>some (.str s,H)
 | some .string,some (.slice e),.str s=>match und P e with
  | some (.int .u8)=>if s.length≤4294967296∧sz P e=some 1 then some (.sl H.next 0 s.length s.length,H.alloc (.cells (abytes s) e false)) else none
  | _=>none
 | some (.slice e),some .string,.nilsl=>match und P e with
  | some (.int .u8)=>some (.str [],H)
  | _=>none
 | some (.slice e),some .string,.sl b o n _=>match und P e,H.get b with
  | some (.int .u8),some (.cells c _ _)=>if o+n≤c.length then (aofBytes ((c.drop o).take n)).map fun l=>(.str l,H) else none
  | _,_=>none
 | _,_,_=>none
noncomputable def aconvS (P:Program) (H:AHeap) (src dst:TypeId) (x:AV) : Option (AV×AHeap) :=
 match x with
 | .sint _ e=>match und P src,und P dst with
  | some _,some (.int k)=>some (mkInt k (.wrap k e),H)
  | _,_=>none
 | x=>aconv P H src dst x
noncomputable def asrc (H:AHeap) (size:Nat) : AV→Option (Nat×List AV)
 | .nilsl=>some (0,[])
 | .sl b o n _=>match H.get b with
  | some (.cells c _ _)=>if o+n*size≤c.length then some (n,(c.drop o).take (n*size)) else none
  | _=>none
 | .str s=>some (s.length,abytes s)
 | _=>none
noncomputable def asrcZ (H:AHeap) (zs:Bool) (z:List AV) (size:Nat) (x:AV) : Option (Nat×List AV) :=
 match zs with
 | false=>asrc H size x
 | true=>match x with
  | .int .i64 n=>if 0≤n∧n≤65536∧0 < z.length then some (n.toNat,azeros z n.toNat) else none
  | _=>none
noncomputable def aappend (P:Program) (lim:Nat) (H:AHeap) (t:TypeId) (s x:AV) (zs:Bool) : Option (AV×AHeap) :=
 match und P t with
 | some (.slice elem)=>(P.info? elem).bind fun info=>((info.zero).bind ofV).bind fun z=>(asrcZ H zs z.cells info.size x).bind fun (n,new) =>
  if info.bytes≤65536∧new.length=n*info.size∧z.cells.length=info.size∧new.all AV.one=true then match s with
   | .nilsl=>if n=0 then some (.nilsl,H) else if n≤1048576 then some (.sl H.next 0 n n,H.alloc (.cells new elem false)) else none
   | .sl b o len cap =>
    if n=0 then some (.sl b o len cap,H)
    else if len+n≤cap then (awrite H lim b (o+len*info.size) new).map fun H=>(.sl b o (len+n) cap,H)
    else if len+n≤1048576 then (asrc H info.size (.sl b o len cap)).bind fun (_,old)=>match H.get b with
     | some (.cells _ e tight)=>if e=elem then
       if tight then some (.sl H.next 0 (len+n) (len+n),H.alloc (.cells (old ++ new) elem false))
       else if lim≤b then some (.sl H.next 0 (len+n) (len+n),(H.put b none).alloc (.cells (old ++ new) elem false)) else none
      else none
     | _=>none
    else none
   | _=>none
  else none
 | _=>none
noncomputable def alen (P:Program) (H:AHeap) (t:TypeId) (x:AV) : Option AV :=
 match und P t,x with
 | some .string,.str s=>some (.int .i64 s.length)
 | some (.array n _),_=>some (.int .i64 n)
 | some (.slice _),.sl _ _ n _=>some (.int .i64 n)
 | some (.slice _),.nilsl=>some (.int .i64 0)
 | some (.map _ _),.nilmap=>some (.int .i64 0)
 | some (.map _ _),.map r=>match H.get r with
  | some (.map es _)=>some (.int .i64 es.length)
  | _=>none
 | _,_=>none
noncomputable def acopy (P:Program) (lim:Nat) (H:AHeap) (t:TypeId) (d s:AV) : Option (AV×AHeap) :=
 match und P t,d with
 | some (.slice elem),.sl b o dl _=>(sz P elem).bind fun size =>
   if dl=0 then (match s with
    | .sl .. | .nilsl | .str _=>some (.int .i64 0,H)
    | _=>none)
   else (match s with | .sl b' o' n' c'=>asrc H size (.sl b' o' (min n' dl) c') | .str l=>asrc H size (.str (l.take dl)) | .nilsl=>some (0,[]) | _=>none).bind fun (n,new) =>
    if new.all AV.one=true then (awrite H lim b o new).map fun H=>(.int .i64 n,H) else none
 | some (.slice e),.nilsl=>if (sz P e).isSome=true then (match s with
   | .sl .. | .nilsl | .str _=>some (.int .i64 0,H)
   | _=>none)
  else none
 | _,_=>none
noncomputable def abuiltin (P:Program) (lim:Nat) (H:AHeap) (b:Builtin) (ts:List TypeId) (args:List AV) : Option (AV×AHeap) :=
 match b,ts,args with
 | .append,t :: t' :: _,[s,x]=>match und P t' with
  | some (.int _)=>aappend P lim H t s x true
  | some _=>aappend P lim H t s x false
  | none=>none
 | .len,t :: _,[x]=>(alen P H t x).map fun v=>(v,H)
 | .copy,t :: _,[d,s]=>acopy P lim H t d s
 | .min,_,[.int k a,.int k' b]=>if k=k' then some (.int k (if b < a then b else a),H) else none
 | .max,_,[.int k a,.int k' b]=>if k=k' then some (.int k (if b > a then b else a),H) else none
 | _,_,_=>none
def acallee (P:Program) (f:FuncId) : Bool :=
 match P.funcs[f]? with
 | some fn=>fn.body.isSome && fn.name != "runtime.NumGoroutine"
 | none=>false
noncomputable def aop (P:Program) (gl lim:Nat) (fr:AFr) (H:AHeap) (o:Oper) : Option Res :=
 match o.op with
 | .move x | .assign x=>(aev gl fr x).map fun v=>.val v H
 | .pick c a b=>(aev gl fr c).bind fun c=>match c with
  | .bool true=>(aev gl fr a).map fun v=>.val v H
  | .bool false=>(aev gl fr b).map fun v=>.val v H
  | _=>none
 | .alloc elem=>(zero P elem).map fun z=>.val (.ptr H.next 0) (H.alloc (.cells z.cells elem true))
 | .box elem x=>(aev gl fr x).map fun v=>.val (.ptr H.next 0) (H.alloc (.cells v.cells elem true))
 | .build t parts=>(aevs gl fr (parts.toList.map (·.2))).bind fun vs=>(zero P t).bind fun z =>
  match und P t with
  | some (.struct fs)=>if fs.all (fun f=>(sz P f.type).isSome)=true then (afill (aplaces P fs) z.cells (aparts (parts.toList.map (·.1)) vs)).map fun cs=>.val (.agg cs) H else none
  | some (.array _ e)=>(sz P e).bind fun n=>(afill (fun i=>some (i*n,n)) z.cells (aparts (parts.toList.map (·.1)) vs)).map fun cs=>.val (.agg cs) H
  | _=>none
 | .buildSlice t len parts=>(aevs gl fr (parts.toList.map (·.2))).bind fun vs =>
  match und P t with
  | some (.slice e)=>(sz P e).bind fun n=>(zero P e).bind fun z=>if z.cells.length=n∧len*n≤16777216 then
    (afill (fun i=>some (i*n,n)) (azeros z.cells len) (aparts (parts.toList.map (·.1)) vs)).map fun cs=>.val (.sl H.next 0 len len) (H.alloc (.cells cs e true))
   else none
  | _=>none
 | .load t a=>(aev gl fr a).bind fun a=>match a with
  | .ptr b o=>(aload P H t b o).map fun v=>.val v H
  | _=>none
 | .store t a x=>(aev gl fr a).bind fun a=>(aev gl fr x).bind fun v=>match a with
  | .ptr b o=>(astore P H lim t b o v).map fun H=>.skip H
  | _=>none
 | .nilCheck x=>(aev gl fr x).bind fun v=>match v with
  | .ptr b o=>some (.val (.ptr b o) H)
  | .fn (.func f) xs ys=>some (.val (.fn (.func f) xs ys) H)
  | _=>none
 | .binOp op t x y _=>(aev gl fr x).bind fun a=>(aev gl fr y).bind fun b=>(abinN P op t x y a b).map fun v=>.val v H
 | .unOp op _ x=>(aev gl fr x).bind fun a=>(aunS op a).map fun v=>.val v H
 | .convert s d x=>(aev gl fr x).bind fun a=>(aconvS P H s d a).map fun (v,H)=>.val v H
 | .makeInterface t x=>(aev gl fr x).bind fun a=>match und P t with
  | some (.interface _)=>none
  | some _=>some (.val (.iface t a) H)
  | none=>none
 | .makeFunc (.func f) first captured=>(aevs gl fr first.toList).bind fun xs=>(aevs gl fr captured.toList).map fun ys=>.val (.fn (.func f) xs ys) H
 | .makeMap _ none=>some (.val (.map H.next) (H.alloc (.map [] 0)))
 | .makeSlice t l c=>(aev gl fr l).bind fun l=>(aev gl fr c).bind fun c=>match und P t,l,c with
  | some (.slice e),.int _ l,.int _ c=>(P.info? e).bind fun info=>(zero P e).bind fun z =>
    if 0≤l∧l≤c∧c≤16777216∧info.bytes≤65536∧z.cells.length=info.size then
     some (.val (.sl H.next 0 l.toNat c.toNat) (H.alloc (.cells (azeros z.cells c.toNat) e true)))
    else none
  | _,_,_=>none
 | .slice t x lo hi mx=>(aev gl fr x).bind fun x =>
  (match lo with | none=>some none | some y=>(aev gl fr y).map some).bind fun lo =>
  (match hi with | none=>some none | some y=>(aev gl fr y).map some).bind fun hi =>
  (match mx with | none=>some none | some y=>(aev gl fr y).map some).bind fun mx=>(aslice P H t x lo hi mx).map fun v=>.val v H
 | .fieldAddr t x f=>(aev gl fr x).bind fun a=>match und P t,a with
  | some (.struct fs),.ptr b o=>(fs[f]?).bind fun f=>(sz P f.type).bind fun n=>if n=0 then none else some (.val (.ptr b (o+f.offset)) H)
  | _,_=>none
 | .field t x f=>(aev gl fr x).bind fun a=>match und P t,a with
  | some (.struct fs),.agg cs=>(fs[f]?).bind fun f=>(apart P f.type cs f.offset).map fun v=>.val v H
  | _,_=>none
 | .indexAddr t x ix=>(aev gl fr x).bind fun a=>(aev gl fr ix).bind fun i=>match und P t,a,i with
  | some (.array len e),.ptr b o,.int _ i=>(sz P e).bind fun n=>if 0≤i∧i < (len:Int) then some (.val (.ptr b (o+i.toNat*n)) H) else none
  | some (.slice e),.sl b o len _,.int _ i=>(sz P e).bind fun n=>if 0≤i∧i < (len:Int) then some (.val (.ptr b (o+i.toNat*n)) H) else none
  | _,_,_=>none
 | .index t x ix=>(aev gl fr x).bind fun a=>(aev gl fr ix).bind fun i=>match und P t,a,i with
  | some (.array len e),.agg cs,.int _ i=>(sz P e).bind fun n=>if 0≤i∧i < (len:Int) then (apart P e cs (i.toNat*n)).map fun v=>.val v H else none
  | some .string,.str s,.int _ i=>if 0≤i then (s[i.toNat]?).map fun b=>.val (.int .u8 (Int.ofNat b)) H else none
  | _,_,_=>none
 | .lookup t m k ok=>(aev gl fr m).bind fun m=>(aev gl fr k).bind fun k=>(alookup P H t m k ok).map fun v=>.val v H
 | .mapUpdate t m k x | .insert t m k x=>(aev gl fr m).bind fun m=>(aev gl fr k).bind fun k=>(aev gl fr x).bind fun x=>(amapPut P lim H t m k x).map fun H=>.skip H
 | .range t x=>(aev gl fr x).bind fun a=>match und P t,a with
  | some .string,.str s=>some (.val (.ptr H.next 0) (H.alloc (.iter s 0)))
  | _,_=>none
 | .extract x i=>(aev gl fr x).bind fun a=>match a with
  | .tup vs=>(vs[i]?).map fun v=>.val v H
  | _=>none
 | .call c=>(aevs gl fr c.args.toList).bind fun args=>match c.callee with
  | .builtin b=>(abuiltin P lim H b c.argTypes.toList args).map fun (v,H)=>.val v H
  | .value f=>(aev gl fr f).bind fun f=>match f with
   | .fn (.func f) first captured=>if acallee P f then some (.enter f (first ++ args ++ captured) H) else none
   | _=>none
  | _=>none
 | _=>none
inductive AExit where
 | normal
 | exit (id:Nat)
 | ret
noncomputable def ayielded (ops:Array Oper) (fr:AFr) (j:Nat) : Option Bool :=
 match (ops[j]?).bind (·.dst) with
 | some t=>match AFr.at fr t with
  | .bool b=>some b
  | _=>none
 | none=>none
noncomputable def aframe (vs:List AV) : Nat→T AV→T AV :=
 List.rec (motive:=fun _=>Nat→T AV→T AV) (fun _ t=>t) (fun v _ ih i t=>ih (Nat.succ i) (T.set t i (some v))) vs
noncomputable def aresults (P:Program) (fr:AFr) (H:AHeap) : List ResultVar→Option (List AV)
 | []=>some []
 | .tmp t :: rs=>(aresults P fr H rs).map (AFr.at fr t :: ·)
 | .cell a t :: rs=>match AFr.at fr a with
  | .ptr b o=>(aload P H t b o).bind fun v=>(aresults P fr H rs).map (v :: ·)
  | _=>none
def aresult:List AV→AV
 | [v]=>v
 | vs=>.tup vs
abbrev ACall:=Nat→FuncId→List AV→AHeap→Option (AV×AHeap)
noncomputable def astep (P:Program) (gl:Nat) (call:ACall) (ops:Array Oper) (lim:Nat) (o:Oper) (fr:AFr) (H:AHeap) : Option (AFr×AHeap) :=
 match Region.wanted o (ayielded ops fr) with
 | true=>match aop P gl lim fr H o with
  | some (.val v H)=>match AFr.put fr o.dst v with
   | some fr=>some (fr,H)
   | none=>none
  | some (.skip H)=>match AFr.put fr o.dst aundef with
   | some fr=>some (fr,H)
   | none=>none
  | some (.enter f args H)=>match call lim f args H with
   | some (v,H)=>match AFr.put fr o.dst v with
    | some fr=>some (fr,H)
    | none=>none
   | none=>none
  | none=>none
 | false=>match AFr.put fr o.dst aundef with
  | some fr=>some (fr,H)
  | none=>none
noncomputable def aops (P:Program) (gl:Nat) (call:ACall) (ops:Array Oper) (lim:Nat) (l:List Oper) : AFr→AHeap→Option (AFr×AHeap) :=
 List.rec (motive:=fun _=>AFr→AHeap→Option (AFr×AHeap)) (fun fr H=>some (fr,H)) (fun o _ ih fr H =>
  match astep P gl call ops lim o fr H with
  | some (fr,H)=>ih fr H
  | none=>none) l
def pureOp (o:Oper) : Bool :=
 match o.op with
 | .move _ | .assign _ | .pick .. | .binOp .. | .unOp .. | .makeInterface .. | .makeFunc .. | .fieldAddr .. | .field .. | .indexAddr .. | .index .. | .extract .. | .nilCheck _ | .build ..=>true
 | _=>false
def lookOp (o:Oper) : Bool:=pureOp o || match o.op with
 | .load .. | .slice ..=>true
 | _=>false
def looks (ops:Array Oper) (o:Oper) : List Tmp :=
 (o.op.operands.toList.filterMap fun | .tmp t=>some t | _=>none) ++
 (match o.guard with
  | some (g,_)=>((ops[g]?).bind (·.dst)).toList
  | none=>[])
def isBefore (b:Array Nat) (i j:Nat) : Bool:=(b.getD j 0).testBit i
def fixedOp (ops:Array Oper) (b:Array Nat) (j:Nat) (o:Oper) : Bool :=
 !pureOp o && (ops.toList.zipIdx.all fun (x,i)=>i == j || pureOp x || (if i < j then isBefore b i j else isBefore b j i))
def drawOK (ops:Array Oper) (b:Array Nat) : Bool :=
 ops.toList.zipIdx.all fun (y,j)=>(y.after.all fun e=>!Region.binds .any e || e.on < j) && ops.toList.zipIdx.all fun (x,i)=>j≤i ||
  ((match x.dst, y.dst with | some d, some e => d != e | _, _ => true) &&
   (match x.dst with | some d=>!(looks ops y).contains d || isBefore b i j | none=>true) &&
   (match y.dst with | some e=>!(looks ops x).contains e || isBefore b i j | none=>true))
def noSel (ops:Array Oper) : Bool:=ops.all fun o=>match o.op with | .select .. | .go _ | .defer _=>false | _=>true
noncomputable def aopsD (P:Program) (gl:Nat) (call:ACall) (ops:Array Oper) (b:Array Nat) (lim:Nat) (l:List Oper) : Nat→AFr→AHeap→Option (AFr×AHeap) :=
 List.rec (motive:=fun _=>Nat→AFr→AHeap→Option (AFr×AHeap)) (fun _ fr H=>some (fr,H)) (fun o _ ih j fr H =>
  match astep P gl call ops (match fixedOp ops b j o with | true=>lim | false=>H.next) o fr H with
  | some (fr,H)=>ih (Nat.succ j) fr H
  | none=>none) l
def calmOp (P:Program) (o:Oper) : Bool :=
 match o.op with
 | .load _ (.tmp _)=>true
 | .slice t _ _ _ _=>match und P t with
  | some .string=>true
  | _=>false
 | _=>false
def prC (P:Program) (o:Oper) : Bool:=pureOp o || calmOp P o
def writer (o:Oper) : Bool :=
 match o.op with
 | .store ..=>true
 | .call c=>match c.callee with
  | .builtin .append=>true
  | _=>false
 | _=>false
def fixedC (P:Program) (ops:Array Oper) (b:Array Nat) (j:Nat) (o:Oper) : Bool :=
 writer o && (ops.toList.zipIdx.all fun (x,i)=>i == j || prC P x || (if i < j then isBefore b i j else isBefore b j i))
def fixedF (P:Program) (ops:Array Oper) (b:Array Nat) (j:Nat) (o:Oper) : Bool:=fixedC P ops b j o || (!prC P o && fixedOp ops b j o)
def calmReg (P:Program) (ops:Array Oper) : Bool :=
 ops.toList.zipIdx.any fun (o,j)=>writer o && (fixedC P ops (Region.before ops) j o && !fixedOp ops (Region.before ops) j o)
def calmL (l:List Oper) : List Oper:=l.filter fun o=>match o.op with
 | .load ..=>true
 | .fieldAddr ..=>match o.dst with
  | some d=>l.any fun p=>match p.op with
   | .load _ (.tmp a)=>Nat.beq a d
   | .fieldAddr _ (.tmp a) _=>Nat.beq a d
   | _=>false
  | none=>false
 | _=>false
noncomputable def calmBs (fr:AFr) (n:Nat) : List Oper→List Nat
 | []=>[]
 | o :: os=>match (match o.op with
   | .load _ (.tmp a)=>AFr.at fr a
   | .fieldAddr _ (.tmp a) _=>AFr.at fr a
   | _=>.nilptr) with
  | .ptr b _=>match Nat.blt b n with
   | true=>b :: calmBs fr n os
   | false=>calmBs fr n os
  | _=>calmBs fr n os
def notIn (b:Nat) : List Nat→Bool
 | []=>true
 | x :: xs=>match Nat.beq b x with
  | true=>false
  | false=>notIn b xs
noncomputable def calmIn (fr:AFr) (bs:List Nat) (o:Oper) : Bool :=
 match o.op with
 | .load _ (.tmp a)=>match AFr.at fr a with
  | .ptr b _=>!notIn b bs
  | _=>true
 | _=>true
noncomputable def spare (gl:Nat) (fr:AFr) (bs:List Nat) (o:Oper) : Bool :=
 match o.op with
 | .store _ a _=>match aev gl fr a with
  | some (.ptr b _)=>notIn b bs
  | _=>false
 | .call c=>match c.callee,c.args.toList with
  | .builtin .append,s :: _=>match aev gl fr s with
   | some (.sl b _ _ _)=>notIn b bs
   | some .nilsl=>true
   | _=>false
  | _,_=>true
 | _=>true
mutual
def AV.flat:AV→Bool
 | .bool _ | .int .. | .sint .. | .str _ | .nilptr | .nilsl | .nilmap | .nilfn | .nilif=>true
 | .iface _ v=>v.flat
 | .agg l | .tup l=>AV.flats l
 | _=>false
def AV.flats:List AV→Bool
 | []=>true
 | a :: l=>match a.flat with
  | true=>AV.flats l
  | false=>false
end
noncomputable def calmDst (P:Program) (fr:AFr) (o:Oper) : Bool :=
 match calmOp P o,o.dst with
 | true,some d=>(AFr.at fr d).flat
 | _,_=>true
noncomputable def aopsC (P:Program) (gl:Nat) (call:ACall) (ops:Array Oper) (b:Array Nat) (bs:List Nat) (lim:Nat) (l:List Oper) : Nat→AFr→AHeap→Option (AFr×AHeap) :=
 List.rec (motive:=fun _=>Nat→AFr→AHeap→Option (AFr×AHeap)) (fun _ fr H=>some (fr,H)) (fun o _ ih j fr H =>
  match spare gl fr bs o && calmIn fr bs o with
  | true=>match astep P gl call ops (match fixedF P ops b j o with | true=>lim | false=>H.next) o fr H with
   | some (fr,H)=>match calmDst P fr o with
    | true=>ih (Nat.succ j) fr H
    | false=>none
   | none=>none
  | false=>none) l
noncomputable def aregion (P:Program) (gl:Nat) (call:ACall) (ops:Array Oper) (draw:Bool) (lim:Nat) (fr:AFr) (H:AHeap) : Option (AFr×AHeap) :=
 match draw with
 | false=>aops P gl call ops lim ops.toList fr H
 | true=>match drawOK ops (Region.before ops) && noSel ops with
  | true=>match calmReg P ops with
   | false=>aopsD P gl call ops (Region.before ops) lim ops.toList 0 fr H
   | true=>aopsC P gl call ops (Region.before ops) (calmBs fr H.next (calmL ops.toList)) lim ops.toList 0 fr H
  | false=>none
noncomputable def acall (P:Program) (orc:ACall) (ex:Nat→Code→AFr→AHeap→Option (AExit×AFr×AHeap)) (lim:Nat) (f:FuncId) (args:List AV) (H:AHeap) : Option (AV×AHeap) :=
 match orc lim f args H with
 | some r=>some r
 | none=>match P.funcs[f]? with
  | none=>none
  | some fn=>match fn.body with
   | none=>none
   | some c=>match ex lim c ⟨Nat.max fn.ntmps args.length,aframe args 0 .leaf⟩ H with
    | some (.exit _,_,_)=>none
    | some (_,fr,H)=>match aresults P fr H fn.results.toList with
     | some vs=>some (aresult vs,H)
     | none=>none
    | none=>none
noncomputable def exec (P:Program) (gl:Nat) (orc:ACall) (n:Nat) : Nat→Code→AFr→AHeap→Option (AExit×AFr×AHeap) :=
 Nat.rec (motive:=fun _=>Nat→Code→AFr→AHeap→Option (AExit×AFr×AHeap)) (fun _ _ _ _=>none) (fun _ ih lim c fr H =>
  match c with
  | .skip=>some (.normal,fr,H)
  | .label _=>some (.normal,fr,H)
  | .region _ ops draw=>match aregion P gl (acall P orc ih) ops draw lim fr H with
   | some (fr,H)=>some (.normal,fr,H)
   | none=>none
  | .seq a b=>match ih lim a fr H with
   | some (.normal,fr,H)=>ih lim b fr H
   | r=>r
  | .cond c x y=>match aev gl fr c with
   | some (.bool true)=>ih lim x fr H
   | some (.bool false)=>ih lim y fr H
   | _=>none
  | .block id c=>match ih lim c fr H with
   | some (.exit id',fr,H)=>match Nat.beq id' id with
    | true=>some (.normal,fr,H)
    | false=>some (.exit id',fr,H)
   | r=>r
  | .loop c=>match ih lim c fr H with
   | some (.normal,fr,H)=>ih lim (.loop c) fr H
   | r=>r
  | .exit id=>some (.exit id,fr,H)
  | .scope c=>ih lim c fr H
  | .ret=>some (.ret,fr,H)
  | _=>none) n
noncomputable def run (P:Program) (gl:Nat) (orc:ACall) (n:Nat) (f:FuncId) (args:List AV) (H:AHeap) : Option (AV×AHeap):=acall P orc (exec P gl orc n) H.next f args H
def noOrc:ACall:=fun _ _ _ _=>none
end Go.Proofs.YtoehlmiadiiimaaGreatDoor.Ex

/-
  An executor over the model's code: how its values and its heap stand for the model's.
-/
namespace Go.Proofs.YtoehlmiadiiimaaGreatDoor.Ex
open Go
section tree
variable {α:Type}
theorem T.get_leaf (n:Nat) : T.get (.leaf:T α) n=none:=rfl
theorem T.get_node (l:T α) (v:Option α) (r:T α) (n:Nat) :
  T.get (.node l v r) n=if n=0 then v else if n % 2=1 then T.get l (n / 2) else T.get r (n / 2 - 1):=by
 show Bool.rec (motive:=fun _=>Option α) (Bool.rec (motive:=fun _=>Option α) (T.get r (Nat.pred (n / 2))) (T.get l (n / 2)) (Nat.beq (n % 2) 1)) v (Nat.beq n 0)=_
 by_cases h0:n=0
 ·subst h0; rfl
 ·have e0:Nat.beq n 0=false:=by cases h:Nat.beq n 0 with | false=>rfl | true=>exact absurd (Nat.eq_of_beq_eq_true h) h0
  rw [e0,if_neg h0]
  by_cases h1:n % 2=1
  ·rw [h1,if_pos rfl]; rfl
  ·have e1:Nat.beq (n % 2) 1=false:=by cases h:Nat.beq (n % 2) 1 with | false=>rfl | true=>exact absurd (Nat.eq_of_beq_eq_true h) h1
   rw [e1,if_neg h1]; rfl
theorem T.put_leaf (x:Option α) (f n:Nat) : T.put x (f+1) .leaf n =
  if n=0 then .node .leaf x .leaf else if n % 2=1 then .node (T.put x f .leaf (n / 2)) none .leaf else .node .leaf none (T.put x f .leaf (n / 2 - 1)):=by
 show Bool.rec (motive:=fun _=>T α) (Bool.rec (motive:=fun _=>T α) (T.node .leaf none (T.put x f .leaf (Nat.pred (n / 2)))) (T.node (T.put x f .leaf (n / 2)) none .leaf) (Nat.beq (n % 2) 1)) (T.node .leaf x .leaf) (Nat.beq n 0)=_
 by_cases h0:n=0
 ·subst h0; rfl
 ·have e0:Nat.beq n 0=false:=by cases h:Nat.beq n 0 with | false=>rfl | true=>exact absurd (Nat.eq_of_beq_eq_true h) h0
  rw [e0,if_neg h0]
  by_cases h1:n % 2=1
  ·rw [h1,if_pos rfl]; rfl
  ·have e1:Nat.beq (n % 2) 1=false:=by cases h:Nat.beq (n % 2) 1 with | false=>rfl | true=>exact absurd (Nat.eq_of_beq_eq_true h) h1
   rw [e1,if_neg h1]; rfl
theorem T.put_node (x:Option α) (f n:Nat) (l:T α) (v:Option α) (r:T α) : T.put x (f+1) (.node l v r) n =
  if n=0 then .node l x r else if n % 2=1 then .node (T.put x f l (n / 2)) v r else .node l v (T.put x f r (n / 2 - 1)):=by
 show Bool.rec (motive:=fun _=>T α) (Bool.rec (motive:=fun _=>T α) (T.node l v (T.put x f r (Nat.pred (n / 2)))) (T.node (T.put x f l (n / 2)) v r) (Nat.beq (n % 2) 1)) (T.node l x r) (Nat.beq n 0)=_
 by_cases h0:n=0
 ·subst h0; rfl
 ·have e0:Nat.beq n 0=false:=by cases h:Nat.beq n 0 with | false=>rfl | true=>exact absurd (Nat.eq_of_beq_eq_true h) h0
  rw [e0,if_neg h0]
  by_cases h1:n % 2=1
  ·rw [h1,if_pos rfl]; rfl
  ·have e1:Nat.beq (n % 2) 1=false:=by cases h:Nat.beq (n % 2) 1 with | false=>rfl | true=>exact absurd (Nat.eq_of_beq_eq_true h) h1
   rw [e1,if_neg h1]; rfl
theorem T.get_put (x:Option α) : ∀ (f:Nat) (t:T α) (n m:Nat),n < f→T.get (T.put x f t n) m=if m=n then x else T.get t m:=by
 intro f
 induction f with
 | zero=>intro t n m h; omega
 | succ f ih =>
  intro t n m h
  cases t with
  | leaf =>
   rw [T.put_leaf,T.get_leaf]
   by_cases h0:n=0
   ·subst h0; rw [if_pos rfl,T.get_node]; split
    ·rfl
    ·simp [T.get_leaf]
   ·rw [if_neg h0]
    by_cases h1:n % 2=1
    ·rw [if_pos h1,T.get_node]
     by_cases m0:m=0
     ·subst m0; rw [if_pos rfl,if_neg (by omega)]
     ·rw [if_neg m0]
      by_cases m1:m % 2=1
      ·rw [if_pos m1,ih _ _ _ (by omega),T.get_leaf]
       by_cases e:m=n
       ·rw [if_pos e,if_pos (by omega)]
       ·rw [if_neg e,if_neg (by omega)]
      ·rw [if_neg m1,T.get_leaf,if_neg (by omega)]
    ·rw [if_neg h1,T.get_node]
     by_cases m0:m=0
     ·subst m0; rw [if_pos rfl,if_neg (by omega)]
     ·rw [if_neg m0]
      by_cases m1:m % 2=1
      ·rw [if_pos m1,T.get_leaf,if_neg (by omega)]
      ·rw [if_neg m1,ih _ _ _ (by omega),T.get_leaf]
       by_cases e:m=n
       ·rw [if_pos e,if_pos (by omega)]
       ·rw [if_neg e,if_neg (by omega)]
  | node l v r =>
   rw [T.put_node,T.get_node]
   by_cases h0:n=0
   ·subst h0; rw [if_pos rfl,T.get_node]; split <;> simp_all
   ·rw [if_neg h0]
    by_cases h1:n % 2=1
    ·rw [if_pos h1,T.get_node]
     by_cases m0:m=0
     ·subst m0; rw [if_pos rfl,if_neg (by omega),if_pos rfl]
     ·rw [if_neg m0,if_neg m0]
      by_cases m1:m % 2=1
      ·rw [if_pos m1,if_pos m1,ih _ _ _ (by omega)]
       by_cases e:m=n
       ·rw [if_pos e,if_pos (by omega)]
       ·rw [if_neg e,if_neg (by omega)]
      ·rw [if_neg m1,if_neg m1,if_neg (by omega)]
    ·rw [if_neg h1,T.get_node]
     by_cases m0:m=0
     ·subst m0; rw [if_pos rfl,if_neg (by omega),if_pos rfl]
     ·rw [if_neg m0,if_neg m0]
      by_cases m1:m % 2=1
      ·rw [if_pos m1,if_pos m1,if_neg (by omega)]
      ·rw [if_neg m1,if_neg m1,ih _ _ _ (by omega)]
       by_cases e:m=n
       ·rw [if_pos e,if_pos (by omega)]
       ·rw [if_neg e,if_neg (by omega)]
theorem T.get_set (t:T α) (n m:Nat) (x:Option α) : T.get (T.set t n x) m=if m=n then x else T.get t m:=T.get_put x (n+1) t n m (by omega)
end tree
theorem AHeap.get_put (H:AHeap) (b c:Nat) (o:Option AObj) : (H.put b o).get c=if c=b then o else H.get c:=T.get_set _ _ _ _
theorem AHeap.get_alloc (H:AHeap) (o:AObj) (c:Nat) : (H.alloc o).get c=if c=H.next then some o else H.get c:=T.get_set _ _ _ _
@[simp] theorem AHeap.next_put (H:AHeap) (b:Nat) (o:Option AObj) : (H.put b o).next=H.next:=rfl
@[simp] theorem AHeap.next_alloc (H:AHeap) (o:AObj) : (H.alloc o).next=H.next+1:=rfl
theorem AHeap.get_take (H:AHeap) (b:Nat) (o:AObj) (c:Nat) : ((H.put b none).alloc o).get c=if c=H.next then some o else if c=b then none else H.get c:=by
 have h1:=AHeap.get_alloc (H.put b none) o c
 by_cases e:c=H.next
 ·rw [if_pos e,h1]; exact if_pos e
 ·rw [if_neg e,h1]; exact (if_neg e).trans (AHeap.get_put _ _ _ _)
def ibin (op:BinOp) (k:IntKind) (x y:Int) : Int:=match abin op (.int k x) (.int k y) with | some (.int _ n)=>n | _=>0
def iun (op:UnOp) (k:IntKind) (x:Int) : Int:=match aun op (.int k x) with | some (.int _ n)=>n | _=>0
def SE.evs (η:Nat→Int) (φ:Nat→List Int→Int) : SE→List Int
 | .var i=>[η i]
 | .lit n=>[n]
 | .bin op k a b=>[ibin op k ((a.evs η φ).headD 0) ((b.evs η φ).headD 0)]
 | .un op k a=>[iun op k ((a.evs η φ).headD 0)]
 | .wrap k a=>[k.wrap ((a.evs η φ).headD 0)]
 | .fn i a=>[φ i (a.evs η φ)]
 | .pair a b=>a.evs η φ ++ b.evs η φ
def SE.ev (η:Nat→Int) (φ:Nat→List Int→Int) (e:SE) : Int:=(e.evs η φ).headD 0
variable [Dec]
class Env where
 η:Nat→Int
 φ:Nat→List Int→Int
 eqs:∀ a b r,Dec.eqs a b=some r→(a.ev η φ == b.ev η φ)=r
 lts:∀ a b r,Dec.lts a b=some r→decide (a.ev η φ < b.ev η φ)=r
 vals:∀ a n,Dec.vals a=some n→a.ev η φ=n
variable [Env]
def sev (e:SE) : Int:=e.ev Env.η Env.φ
structure RB where
 cb:Nat
 co:Nat
 tight:Bool
 size:Nat
 esz:Nat
abbrev Rho:=Nat→Option RB
mutual
inductive VR (ρ:Rho) : AV→Value→Prop
 | bool (b:Bool) : VR ρ (.bool b) (.bool b)
 | int (k:IntKind) (n:Int) : VR ρ (.int k n) (.int k n)
 | sint (k:IntKind) (e:SE) : VR ρ (.sint k e) (.int k (sev e))
 | str (s:ByteArray) (l:List Nat) (h:l=s.data.toList.map UInt8.toNat) : VR ρ (.str l) (.string s)
 | nilptr:VR ρ .nilptr (.pointer none)
 | ptr (b o:Nat) (r:RB) (h:ρ b=some r) : VR ρ (.ptr b o) (.pointer (some ⟨r.cb,r.co+o,none⟩))
 | nilsl:VR ρ .nilsl (.slice none 0 0)
 | sl (b o len cap ccap:Nat) (r:RB) (h:ρ b=some r) (hl:len≤cap) (hc:cap≤ccap) (ht:r.tight=true→cap=ccap)
   (hs:r.tight=false→r.co+o+ccap*r.esz≤r.size) : VR ρ (.sl b o len cap) (.slice (some ⟨r.cb,r.co+o,none⟩) len ccap)
 | sl0 (b o:Nat) (a:Addr) : VR ρ (.sl b o 0 0) (.slice (some a) 0 0)
 | map (b:Nat) (r:RB) (h:ρ b=some r) : VR ρ (.map b) (.map (some r.cb))
 | nilmap:VR ρ .nilmap (.map none)
 | fn (f:Fn) (xs ys:List AV) (us vs:List Value) (h:VRs ρ xs us) (h':VRs ρ ys vs) : VR ρ (.fn f xs ys) (.func f us.toArray vs.toArray)
 | nilfn:VR ρ .nilfn .nilFunc
 | iface (t:TypeId) (a:AV) (v:Value) (h:VR ρ a v) : VR ρ (.iface t a) (.iface t v)
 | nilif:VR ρ .nilif .nilIface
 | agg (cs:List AV) (vs:List Value) (h:VRs ρ cs vs) : VR ρ (.agg cs) (.agg vs.toArray)
 | tup (cs:List AV) (vs:List Value) (h:VRs ρ cs vs) : VR ρ (.tup cs) (.tuple vs.toArray)
inductive VRs (ρ:Rho) : List AV→List Value→Prop
 | nil:VRs ρ [] []
 | cons (a:AV) (v:Value) (as:List AV) (vs:List Value) (h:VR ρ a v) (t:VRs ρ as vs) : VRs ρ (a :: as) (v :: vs)
end
theorem VR.int_inv {ρ:Rho} {k:IntKind} {n:Int} {v:Value} (h:VR ρ (.int k n) v) : v=.int k n:=by cases h; rfl
omit [Dec] [Env] in
theorem SE.beq_eq:∀ (a b:SE),SE.beq a b=true→a=b
 | .var i,b,h=>by cases b <;> simp [SE.beq] at h; subst h; rfl
 | .lit i,b,h=>by cases b <;> simp [SE.beq] at h; subst h; rfl
 | .bin o k x y,b,h=>by
  cases b <;> simp [SE.beq] at h
  obtain ⟨rfl,rfl,h1,h2⟩:=h
  rw [SE.beq_eq _ _ h1,SE.beq_eq _ _ h2]
 | .un o k x,b,h=>by
  cases b <;> simp [SE.beq] at h
  obtain ⟨rfl,rfl,h1⟩:=h
  rw [SE.beq_eq _ _ h1]
 | .wrap k x,b,h=>by
  cases b <;> simp [SE.beq] at h
  obtain ⟨rfl,h1⟩:=h
  rw [SE.beq_eq _ _ h1]
 | .fn k x,b,h=>by
  cases b <;> simp [SE.beq] at h
  obtain ⟨rfl,h1⟩:=h
  rw [SE.beq_eq _ _ h1]
 | .pair x y,b,h=>by
  cases b <;> simp [SE.beq] at h
  rw [SE.beq_eq _ _ h.1,SE.beq_eq _ _ h.2]
omit [Dec] [Env] in
theorem look_mem {a b:SE} {r:Bool} : ∀ {l:List (SE×SE×Bool)},look a b l=some r→(a,b,r)∈l
 | [],h=>by cases h
 | x :: xs,h=>by
  unfold look at h
  split at h
  ·rename_i hb
   obtain ⟨h1,h2⟩:=Bool.and_eq_true_iff.1 hb
   have e1:=SE.beq_eq _ _ h1
   have e2:=SE.beq_eq _ _ h2
   injection h with h
   subst e1; subst e2; subst h
   exact List.mem_cons_self
  ·exact List.mem_cons_of_mem _ (look_mem h)
omit [Dec] [Env] in
theorem lookVal_mem {a:SE} {n:Int} : ∀ {l:List (SE×Int)},lookVal a l=some n→(a,n)∈l
 | [],h=>by cases h
 | x :: xs,h=>by
  unfold lookVal at h
  split at h
  ·rename_i hb
   have e1:=SE.beq_eq _ _ hb
   injection h with h
   subst e1; subst h
   exact List.mem_cons_self
  ·exact List.mem_cons_of_mem _ (lookVal_mem h)
theorem look_eq {a b:SE} {r:Bool} (h:Dec.eqs a b=some r) : (sev a == sev b)=r:=Env.eqs _ _ _ h
theorem look_lt {a b:SE} {r:Bool} (h:Dec.lts a b=some r) : decide (sev a < sev b)=r:=Env.lts _ _ _ h
abbrev Env.none : @Env Dec.none:=@Env.mk Dec.none (fun _=>0) (fun _ _=>0) (fun _ _ _ h=>by cases h) (fun _ _ _ h=>by cases h) (fun _ _ h=>by cases h)
theorem ival_rel {ρ:Rho} {x:AV} {p:IntKind×SE} {v:Value} (h:ival x=some p) (hx:VR ρ x v) : v=.int p.1 (sev p.2):=by
 cases hx <;> simp [ival] at h <;> subst h <;> rfl
theorem mkInt_rel (ρ:Rho) (k:IntKind) (e:SE) : VR ρ (mkInt k e) (.int k (sev e)):=by
 unfold mkInt
 split
 ·rename_i n hn
  have e1:sev e=n:=Env.vals _ _ hn
  rw [e1]
  exact .int _ _
 ·exact .sint _ _
def Ext (ρ ρ':Rho) : Prop:=∀ b r,ρ b=some r→ρ' b=some r
omit [Dec] [Env] in
theorem Ext.refl (ρ:Rho) : Ext ρ ρ:=fun _ _ h=>h
omit [Dec] [Env] in
theorem Ext.trans {a b c:Rho} (h:Ext a b) (k:Ext b c) : Ext a c:=fun _ _ x=>k _ _ (h _ _ x)
mutual
theorem VR.mono {ρ ρ':Rho} (e:Ext ρ ρ') : ∀ {a:AV} {v:Value},VR ρ a v→VR ρ' a v
 | _,_,.bool b=>.bool b
 | _,_,.int k n=>.int k n
 | _,_,.sint k e=>.sint k e
 | _,_,.str s l h=>.str s l h
 | _,_,.nilptr=>.nilptr
 | _,_,.ptr b o r h=>.ptr b o r (e _ _ h)
 | _,_,.nilsl=>.nilsl
 | _,_,.sl b o l c cc r h hl hc ht hs=>.sl b o l c cc r (e _ _ h) hl hc ht hs
 | _,_,.sl0 b o a=>.sl0 b o a
 | _,_,.map b r h=>.map b r (e _ _ h)
 | _,_,.nilmap=>.nilmap
 | _,_,.fn f xs ys us vs h h'=>.fn f xs ys us vs (VRs.mono e h) (VRs.mono e h')
 | _,_,.nilfn=>.nilfn
 | _,_,.iface t a v h=>.iface t a v (VR.mono e h)
 | _,_,.nilif=>.nilif
 | _,_,.agg cs vs h=>.agg cs vs (VRs.mono e h)
 | _,_,.tup cs vs h=>.tup cs vs (VRs.mono e h)
theorem VRs.mono {ρ ρ':Rho} (e:Ext ρ ρ') : ∀ {as:List AV} {vs:List Value},VRs ρ as vs→VRs ρ' as vs
 | _,_,.nil=>.nil
 | _,_,.cons a v as vs h t=>.cons a v as vs (VR.mono e h) (VRs.mono e t)
end
section lists
variable {ρ:Rho}
theorem VRs.length:∀ {as:List AV} {vs:List Value},VRs ρ as vs→as.length=vs.length
 | _,_,.nil=>rfl
 | _,_,.cons _ _ _ _ _ t=>by simp [t.length]
theorem VRs.get:∀ {as:List AV} {vs:List Value},VRs ρ as vs→∀ (i:Nat) (a:AV),as[i]?=some a→∃ v,vs[i]?=some v∧VR ρ a v
 | _,_,.nil=>fun i a h=>by simp at h
 | _,_,.cons a v as vs h t=>fun i x hx=>by
  cases i with
  | zero=>simp at hx; subst hx; exact ⟨v,by simp,h⟩
  | succ i=>simp at hx; obtain ⟨u,hu,hr⟩:=t.get i x hx; exact ⟨u,by simpa using hu,hr⟩
theorem VRs.append:∀ {as:List AV} {vs:List Value},VRs ρ as vs→∀ {bs:List AV} {ws:List Value},VRs ρ bs ws→VRs ρ (as ++ bs) (vs ++ ws)
 | _,_,.nil=>fun k=>k
 | _,_,.cons a v as vs h t=>fun k=>.cons a v _ _ h (t.append k)
theorem VRs.drop:∀ {as:List AV} {vs:List Value},VRs ρ as vs→∀ n,VRs ρ (as.drop n) (vs.drop n)
 | _,_,.nil=>fun n=>by simpa using VRs.nil
 | _,_,.cons a v as vs h t=>fun n=>by
  cases n with
  | zero=>exact .cons a v _ _ h t
  | succ n=>simpa using t.drop n
theorem VRs.take:∀ {as:List AV} {vs:List Value},VRs ρ as vs→∀ n,VRs ρ (as.take n) (vs.take n)
 | _,_,.nil=>fun n=>by simpa using VRs.nil
 | _,_,.cons a v as vs h t=>fun n=>by
  cases n with
  | zero=>exact .nil
  | succ n=>simpa using VRs.cons a v _ _ h (t.take n)
theorem VRs.map_bytes (s:List UInt8) : VRs ρ (abytes (s.map UInt8.toNat)) (s.map fun b=>Value.int .u8 b.toNat):=by
 induction s with
 | nil=>exact .nil
 | cons b s ih=>exact .cons _ _ _ _ (.int _ _) ih
theorem VRs.splice {c vs:List AV} {C Vs:List Value} (o:Nat) (h:VRs ρ c C) (k:VRs ρ vs Vs) : VRs ρ (splice c o vs) (C.take o ++ Vs ++ C.drop (o+Vs.length)):=by
 unfold Ex.splice
 rw [k.length]
 exact ((h.take o).append k).append (h.drop _)
theorem VRs.azeros {z:List AV} {Z:List Value} (h:VRs ρ z Z) : ∀ n,VRs ρ (azeros z n) ((List.replicate n Z).flatten)
 | 0=>.nil
 | n+1=>by
  rw [List.replicate_succ,List.flatten_cons]
  exact h.append (VRs.azeros h n)
end lists
theorem VR.cells {ρ:Rho} {a:AV} {v:Value} (h:VR ρ a v) : VRs ρ a.cells v.cells.toList:=by
 cases h with
 | agg cs vs h=>simpa [AV.cells,Value.cells] using h
 | _=>exact .cons _ _ _ _ (by constructor <;> assumption) .nil
theorem VR.one {ρ:Rho} {a:AV} {v:Value} (h:VR ρ a v) : v.oneCell'=a.one:=by
 cases h <;> rfl
theorem VRs.ones {ρ:Rho} : ∀ {as:List AV} {vs:List Value},VRs ρ as vs→as.all AV.one=true→∀ v∈vs,v.oneCell'=true
 | _,_,.nil=>fun _ v h=>by simp at h
 | _,_,.cons a v as vs h t=>fun k u hu=>by
  simp at k
  rcases List.mem_cons.1 hu with rfl | hu
  ·rw [h.one]; exact k.1
  ·exact t.ones (by simpa using k.2) u hu
mutual
theorem ofV_rel {ρ:Rho} : ∀ (v:Value) (a:AV),ofV v=some a→VR ρ a v
 | .bool b,a,h=>by simp [ofV] at h; subst h; exact .bool b
 | .int k n,a,h=>by simp [ofV] at h; subst h; exact .int k n
 | .string s,a,h=>by simp [ofV] at h; subst h; exact .str s _ (by simp)
 | .pointer none,a,h=>by simp [ofV] at h; subst h; exact .nilptr
 | .pointer (some _),a,h=>by simp [ofV] at h
 | .slice none 0 0,a,h=>by simp [ofV] at h; subst h; exact .nilsl
 | .slice none 0 (_+1),a,h=>by simp [ofV] at h
 | .slice none (_+1) _,a,h=>by simp [ofV] at h
 | .slice (some _) _ _,a,h=>by simp [ofV] at h
 | .map none,a,h=>by simp [ofV] at h; subst h; exact .nilmap
 | .map (some _),a,h=>by simp [ofV] at h
 | .nilFunc,a,h=>by simp [ofV] at h; subst h; exact .nilfn
 | .func (.func f) ⟨[]⟩ ⟨[]⟩,a,h=>by simp [ofV] at h; subst h; exact .fn _ [] [] [] [] .nil .nil
 | .func (.func f) ⟨[]⟩ ⟨_ :: _⟩,a,h=>by simp [ofV] at h
 | .func (.func f) ⟨_ :: _⟩ _,a,h=>by simp [ofV] at h
 | .func (.method _) _ _,a,h=>by simp [ofV] at h
 | .func (.methodOf ..) _ _,a,h=>by simp [ofV] at h
 | .func (.via ..) _ _,a,h=>by simp [ofV] at h
 | .func (.yield _) _ _,a,h=>by simp [ofV] at h
 | .nilIface,a,h=>by simp [ofV] at h; subst h; exact .nilif
 | .iface t v,a,h=>by
  simp only [ofV,Option.map_eq_some_iff] at h
  obtain ⟨x,hx,rfl⟩:=h
  exact .iface t x v (ofV_rel v x hx)
 | .agg ⟨cs⟩,a,h=>by
  simp only [ofV,Option.map_eq_some_iff] at h
  obtain ⟨x,hx,rfl⟩:=h
  exact .agg x cs (ofVs_rel cs x hx)
 | .tuple ⟨cs⟩,a,h=>by
  simp only [ofV,Option.map_eq_some_iff] at h
  obtain ⟨x,hx,rfl⟩:=h
  exact .tup x cs (ofVs_rel cs x hx)
 | .float ..,a,h=>by simp [ofV] at h
 | .complex ..,a,h=>by simp [ofV] at h
 | .chan _,a,h=>by simp [ofV] at h
theorem ofVs_rel {ρ:Rho} : ∀ (vs:List Value) (as:List AV),ofVs vs=some as→VRs ρ as vs
 | [],as,h=>by simp [ofVs] at h; subst h; exact .nil
 | v :: vs,as,h=>by
  simp only [ofVs,Option.bind_eq_some_iff,Option.map_eq_some_iff] at h
  obtain ⟨x,hx,xs,hxs,rfl⟩:=h
  exact .cons x v xs vs (ofV_rel v x hx) (ofVs_rel vs xs hxs)
end
inductive ER (ρ:Rho) : List Ent→List MapEntry→Prop
 | nil:ER ρ [] []
 | cons (e:Ent) (m:MapEntry) (es:List Ent) (ms:List MapEntry) (hk:VR ρ e.key m.key) (hv:VR ρ e.val m.val) (hb:m.born=e.born) (t:ER ρ es ms) : ER ρ (e :: es) (m :: ms)
theorem ER.mono {ρ ρ':Rho} (e:Ext ρ ρ') : ∀ {es:List Ent} {ms:List MapEntry},ER ρ es ms→ER ρ' es ms
 | _,_,.nil=>.nil
 | _,_,.cons x m es ms hk hv hb t=>.cons x m es ms (hk.mono e) (hv.mono e) hb (t.mono e)
def OR (P:Program) (ρ:Rho) (r:RB) : AObj→Obj→Prop
 | .cells c e t,.cells C E fr=>E=e∧t=r.tight∧C.size=r.size∧r.co+c.length≤C.size∧VRs ρ c ((C.toList.drop r.co).take c.length) ∧
   (∀ i,i < c.length→¬ (fr.1≤r.co+i∧r.co+i < fr.2))∧(t=false→(∀ i,i < C.size→¬ (fr.1≤i∧i < fr.2))∧P.cellsOf e=r.esz)
 | .map es k,.map ES K=>K=k∧ER ρ es ES.toList
 | .iter s p,.stringIter S q=>r.co=0∧q=p∧s=S.data.toList.map UInt8.toNat
 | _,_=>False
theorem OR.mono {P:Program} {ρ ρ':Rho} (e:Ext ρ ρ') {r:RB} {o:AObj} {O:Obj} (h:OR P ρ r o O) : OR P ρ' r o O:=by
 cases o <;> cases O <;> try exact h.elim
 ·obtain ⟨a,b,c,d,f,g,i⟩:=h; exact ⟨a,b,c,d,f.mono e,g,i⟩
 ·obtain ⟨a,b⟩:=h; exact ⟨a,b.mono e⟩
 ·exact h
structure Inv (P:Program) (ρ:Rho) (H:AHeap) (w:World) : Prop where
 obj:∀ b o r,H.get b=some o→ρ b=some r→∃ C,w.heap[r.cb]?=some C∧OR P ρ r o C
 inj:∀ b c o p r s,H.get b=some o→H.get c=some p→ρ b=some r→ρ c=some s→r.cb=s.cb→b=c
 fresh:∀ b,H.next≤b→ρ b=none
 lt:∀ b r,ρ b=some r→r.cb < w.heap.size
structure Step (P:Program) (lim:Nat) (ρ:Rho) (H:AHeap) (w:World) (ρ':Rho) (H':AHeap) (w':World) : Prop where
 ext:Ext ρ ρ'
 old:∀ b,b < H.next→ρ' b=ρ b
 next:H.next≤H'.next
 inv:Inv P ρ' H' w'
 keep:∀ b,b < lim→H'.get b=H.get b
 live:∀ b o,b < H.next→H'.get b=some o→∃ o',H.get b=some o'
 size:w.heap.size≤w'.heap.size
 os:w'.os=w.os
 tape:w'.tape=w.tape
 output:w'.output=w.output
 frame:∀ k,k < w.heap.size→(∀ b o r,lim≤b→H.get b=some o→ρ b=some r→r.cb≠k)→w'.heap[k]?=w.heap[k]?
 img:∀ b o r,H.next≤b→H'.get b=some o→ρ' b=some r→r.cb < w.heap.size→∃ c p s,lim≤c∧H.get c=some p∧ρ c=some s∧s.cb=r.cb
section steps
variable {P:Program} {lim:Nat} {ρ ρ' ρ'':Rho} {H H' H'':AHeap} {w w' w'':World}
theorem Step.refl (h:Inv P ρ H w) : Step P lim ρ H w ρ H w where
 ext:=Ext.refl ρ
 old _ _:=rfl
 next:=Nat.le_refl _
 inv:=h
 keep _ _:=rfl
 live _ o _ k:=⟨o,k⟩
 size:=Nat.le_refl _
 os:=rfl
 tape:=rfl
 output:=rfl
 frame _ _ _:=rfl
 img b o r hb _ hr _:=by rw [h.fresh b hb] at hr; cases hr
theorem Step.trans (a:Step P lim ρ H w ρ' H' w') (b:Step P lim ρ' H' w' ρ'' H'' w'') : Step P lim ρ H w ρ'' H'' w'' where
 ext:=a.ext.trans b.ext
 old c hc:=(b.old c (Nat.lt_of_lt_of_le hc a.next)).trans (a.old c hc)
 next:=Nat.le_trans a.next b.next
 inv:=b.inv
 keep c hc:=(b.keep c hc).trans (a.keep c hc)
 live c o hc h:=by
  obtain ⟨o',h'⟩:=b.live c o (Nat.lt_of_lt_of_le hc a.next) h
  exact a.live c o' hc h'
 size:=Nat.le_trans a.size b.size
 os:=b.os.trans a.os
 tape:=b.tape.trans a.tape
 output:=b.output.trans a.output
 frame k hk h:=by
  rw [b.frame k (Nat.lt_of_lt_of_le hk a.size),a.frame k hk h]
  intro c o r hc ho hr e
  by_cases hlt:c < H.next
  ·obtain ⟨o',h'⟩:=a.live c o hlt ho
   exact h c o' r hc h' ((a.old c hlt) ▸ hr) e
  ·by_cases hs:r.cb < w.heap.size
   ·obtain ⟨c',p,s,hc',hp,hs',e'⟩:=a.img c o r (by omega) ho hr hs
    exact h c' p s hc' hp hs' (e'.trans e)
   ·omega
 img c o r hc ho hr hs:=by
  by_cases hlt:c < H'.next
  ·obtain ⟨o',h'⟩:=b.live c o hlt ho
   exact a.img c o' r hc h' ((b.old c hlt) ▸ hr) hs
  ·obtain ⟨c',p,s,hc',hp,hs',e'⟩:=b.img c o r (by omega) ho hr (Nat.lt_of_lt_of_le hs a.size)
   by_cases hlt':c' < H.next
   ·obtain ⟨o',h'⟩:=a.live c' p hlt' hp
    exact ⟨c',o',s,hc',h',(a.old c' hlt') ▸ hs',e'⟩
   ·obtain ⟨d,q,u,hd,hq,hu,e2⟩:=a.img c' p s (by omega) hp hs' (by omega)
    exact ⟨d,q,u,hd,hq,hu,e2.trans e'⟩
theorem Step.below (h:Step P lim ρ H w ρ' H' w') (hl:H.next≤lim) (i:Inv P ρ H w) : RowKit.Below w.heap.size w w' :=
 ⟨h.os,h.tape,h.output,h.size,fun k hk=>h.frame k hk fun b o r hb _ hr=>by rw [i.fresh b (by omega)] at hr; cases hr⟩
def Rho.put (ρ:Rho) (b:Nat) (r:RB) : Rho:=fun c=>if c=b then some r else ρ c
omit [Dec] [Env] in
theorem Rho.put_ext {b:Nat} {r:RB} (h:ρ b=none) : Ext ρ (ρ.put b r):=fun c s hs=>by
 unfold Rho.put
 split
 ·subst_vars; rw [h] at hs; cases hs
 ·exact hs
theorem Step.new (h:Inv P ρ H w) (o:AObj) (C:Obj) (r:RB) (hr:r.cb=w.heap.size) (ho:OR P (ρ.put H.next r) r o C) (hlim:lim≤H.next)
  (hz:w'.heap.size=w.heap.size+1) (hn:w'.heap[w.heap.size]?=some C) (hk:∀ k,k < w.heap.size→w'.heap[k]?=w.heap[k]?) (h1:w'.os=w.os) (h2:w'.tape=w.tape) (h3:w'.output=w.output) :
  Step P lim ρ H w (ρ.put H.next r) (H.alloc o) w' where
 ext:=Rho.put_ext (h.fresh _ (Nat.le_refl _))
 old b hb:=by simp [Rho.put]; omega
 next:=by simp
 inv:={
  obj:=fun b p s hp hs=>by
   rw [AHeap.get_alloc] at hp
   by_cases e:b=H.next
   ·subst e
    simp at hp; subst hp
    simp [Rho.put] at hs; subst hs
    exact ⟨C,by rw [hr]; exact hn,ho⟩
   ·rw [if_neg e] at hp
    simp only [Rho.put,if_neg e] at hs
    obtain ⟨D,hD,hO⟩:=h.obj b p s hp hs
    exact ⟨D,by rw [hk _ (h.lt b s hs)]; exact hD,hO.mono (Rho.put_ext (h.fresh _ (Nat.le_refl _)))⟩
  inj:=fun b c p q s t hp hq hs ht e=>by
   rw [AHeap.get_alloc] at hp hq
   simp only [Rho.put] at hs ht
   by_cases eb:b=H.next <;> by_cases ec:c=H.next
   ·rw [eb,ec]
   ·rw [if_pos eb] at hs; rw [if_neg ec] at ht
    injection hs with hs; subst hs
    have:=h.lt c t ht; omega
   ·rw [if_neg eb] at hs; rw [if_pos ec] at ht
    injection ht with ht; subst ht
    have:=h.lt b s hs; omega
   ·rw [if_neg eb] at hs hp; rw [if_neg ec] at ht hq
    exact h.inj b c p q s t hp hq hs ht e
  fresh:=fun b hb=>by
   simp at hb
   simp only [Rho.put]
   rw [if_neg (by omega)]
   exact h.fresh b (by omega)
  lt:=fun b s hs=>by
   simp only [Rho.put] at hs
   rw [hz]
   split at hs
   ·injection hs with hs; subst hs; omega
   ·have:=h.lt b s hs; omega }
 keep b hb:=by rw [AHeap.get_alloc,if_neg (by omega)]
 live b p hb hp:=by rw [AHeap.get_alloc,if_neg (by omega)] at hp; exact ⟨p,hp⟩
 size:=by omega
 os:=h1
 tape:=h2
 output:=h3
 frame k hlt _:=hk k hlt
 img b p s hb hp hs hlt:=by
  rw [AHeap.get_alloc] at hp
  by_cases e:b=H.next
  ·simp [Rho.put,e] at hs; subst hs; omega
  ·simp only [Rho.put,if_neg e] at hs
   rw [h.fresh b (by omega)] at hs; cases hs
theorem Step.alloc (h:Inv P ρ H w) (o:AObj) (C:Obj) (r:RB) (hr:r.cb=w.heap.size) (ho:OR P (ρ.put H.next r) r o C) (hlim:lim≤H.next) :
  Step P lim ρ H w (ρ.put H.next r) (H.alloc o) (w.alloc C) :=
 Step.new h o C r hr ho hlim (by simp) (heap_alloc_new w C) (fun _ hk=>RowKit.Below.heap_alloc _ _ _ hk) rfl rfl rfl
theorem Step.drew (h:Inv P ρ H w) : Step P lim ρ H w ρ H w.drew :=
 { Step.refl (lim:=lim) h with
  inv:=⟨h.obj,h.inj,h.fresh,h.lt⟩
  frame:=fun _ _ _=>rfl }
theorem Step.put (h:Inv P ρ H w) (b:Nat) (o o':AObj) (r:RB) (ho:H.get b=some o) (hr:ρ b=some r) (hb:lim≤b) (C:Obj) (hC:OR P ρ r o' C)
  (hh:w'.heap=w.heap.setIfInBounds r.cb C) (h1:w'.os=w.os) (h2:w'.tape=w.tape) (h3:w'.output=w.output) :
  Step P lim ρ H w ρ (H.put b (some o')) w' where
 ext:=Ext.refl ρ
 old _ _:=rfl
 next:=Nat.le_refl _
 inv:={
  obj:=fun c p s hp hs=>by
   rw [AHeap.get_put] at hp
   by_cases e:c=b
   ·subst e
    rw [if_pos rfl] at hp
    injection hp with hp; subst hp
    rw [hr] at hs; injection hs with hs; subst hs
    exact ⟨C,by rw [hh]; simp [h.lt c r hr],hC⟩
   ·rw [if_neg e] at hp
    obtain ⟨D,hD,hO⟩:=h.obj c p s hp hs
    refine ⟨D,?_,hO⟩
    rw [hh,Array.getElem?_setIfInBounds_ne]
    ·exact hD
    ·intro e'
     exact e (h.inj b c o p r s ho hp hr hs e').symm
  inj:=fun c d p q s t hp hq hs ht e=>by
   have live:∀ {c p},(H.put b (some o')).get c=some p→∃ p',H.get c=some p':=fun {c p} hp=>by
    rw [AHeap.get_put] at hp
    by_cases e:c=b
    ·subst e; exact ⟨o,ho⟩
    ·rw [if_neg e] at hp; exact ⟨p,hp⟩
   obtain ⟨p',hp'⟩:=live hp
   obtain ⟨q',hq'⟩:=live hq
   exact h.inj c d p' q' s t hp' hq' hs ht e
  fresh:=h.fresh
  lt:=fun c s hs=>by rw [hh]; simpa using h.lt c s hs }
 keep c hc:=by rw [AHeap.get_put,if_neg (by omega)]
 live c p _ hp:=by
  rw [AHeap.get_put] at hp
  by_cases e:c=b
  ·subst e; exact ⟨o,ho⟩
  ·rw [if_neg e] at hp; exact ⟨p,hp⟩
 size:=by rw [hh]; simp
 os:=h1
 tape:=h2
 output:=h3
 frame k _ f:=by
  rw [hh,Array.getElem?_setIfInBounds_ne]
  exact f b o r hb ho hr
 img c p s hc _ hs _:=by rw [h.fresh c hc] at hs; cases hs
theorem Step.drop (h:Inv P ρ H w) (b:Nat) (hb:lim≤b) : Step P lim ρ H w ρ (H.put b none) w where
 ext:=Ext.refl ρ
 old _ _:=rfl
 next:=Nat.le_refl _
 inv:={
  obj:=fun c o r hc hr=>by
   rw [AHeap.get_put] at hc
   split at hc
   ·cases hc
   ·exact h.obj c o r hc hr
  inj:=fun c d p q s t hp hq hs ht e=>by
   rw [AHeap.get_put] at hp hq
   split at hp
   ·cases hp
   ·split at hq
    ·cases hq
    ·exact h.inj c d p q s t hp hq hs ht e
  fresh:=h.fresh
  lt:=h.lt }
 keep c hc:=by rw [AHeap.get_put,if_neg (by omega)]
 live c p _ hp:=by
  rw [AHeap.get_put] at hp
  split at hp
  ·cases hp
  ·exact ⟨p,hp⟩
 size:=Nat.le_refl _
 os:=rfl
 tape:=rfl
 output:=rfl
 frame _ _ _:=rfl
 img c p s hc _ hs _:=by rw [h.fresh c hc] at hs; cases hs
theorem Step.take (h:Inv P ρ H w) (b:Nat) (o':AObj) (r r':RB) (hr:ρ b=some r) (hlive:∃ o,H.get b=some o) (hb:lim≤b) (hcb:r'.cb=r.cb) (C:Obj) (hC:OR P (ρ.put H.next r') r' o' C)
  (hh:w'.heap=w.heap.setIfInBounds r.cb C) (h1:w'.os=w.os) (h2:w'.tape=w.tape) (h3:w'.output=w.output) (hlim:lim≤H.next) :
  Step P lim ρ H w (ρ.put H.next r') ((H.put b none).alloc o') w' where
 ext:=Rho.put_ext (h.fresh _ (Nat.le_refl _))
 old c hc:=by simp [Rho.put]; omega
 next:=by simp
 inv:={
  obj:=fun c p s hp hs=>by
   rw [AHeap.get_take] at hp
   by_cases e:c=H.next
   ·subst e
    simp at hp; subst hp
    simp [Rho.put] at hs; subst hs
    exact ⟨C,by rw [hh,hcb]; simp [h.lt b r hr],hC⟩
   ·rw [if_neg e] at hp
    simp only [Rho.put,if_neg e] at hs
    split at hp
    ·cases hp
    ·rename_i hne
     obtain ⟨D,hD,hO⟩:=h.obj c p s hp hs
     refine ⟨D,?_,hO.mono (Rho.put_ext (h.fresh _ (Nat.le_refl _)))⟩
     rw [hh,Array.getElem?_setIfInBounds_ne]
     ·exact hD
     ·intro e'
      obtain ⟨o,ho⟩:=hlive
      exact hne (h.inj b c o p r s ho hp hr hs e').symm
  inj:=fun c d p q s t hp hq hs ht e=>by
   rw [AHeap.get_take] at hp hq
   simp only [Rho.put] at hs ht
   obtain ⟨o,ho⟩:=hlive
   by_cases ec:c=H.next <;> by_cases ed:d=H.next
   ·rw [ec,ed]
   ·rw [if_pos ec] at hs; rw [if_neg ed] at ht hq
    injection hs with hs; subst hs
    split at hq
    ·cases hq
    ·rename_i hne
     exact absurd (h.inj b d o q r t ho hq hr ht (hcb.symm.trans e)).symm hne
   ·rw [if_neg ec] at hs hp; rw [if_pos ed] at ht
    injection ht with ht; subst ht
    split at hp
    ·cases hp
    ·rename_i hne
     exact absurd (h.inj b c o p r s ho hp hr hs (hcb.symm.trans e.symm)).symm hne
   ·rw [if_neg ec] at hs hp; rw [if_neg ed] at ht hq
    split at hp
    ·cases hp
    ·split at hq
     ·cases hq
     ·exact h.inj c d p q s t hp hq hs ht e
  fresh:=fun c hc=>by
   simp at hc
   simp only [Rho.put]
   rw [if_neg (by omega)]
   exact h.fresh c (by omega)
  lt:=fun c s hs=>by
   simp only [Rho.put] at hs
   rw [hh]; simp only [Array.size_setIfInBounds]
   split at hs
   ·injection hs with hs; subst hs; rw [hcb]; exact h.lt b r hr
   ·exact h.lt c s hs }
 keep c hc:=by
  rw [AHeap.get_take,if_neg (by omega),if_neg (by omega)]
 live c p hc hp:=by
  rw [AHeap.get_take,if_neg (by omega)] at hp
  split at hp
  ·cases hp
  ·exact ⟨p,hp⟩
 size:=by rw [hh]; simp
 os:=h1
 tape:=h2
 output:=h3
 frame k _ f:=by
  rw [hh,Array.getElem?_setIfInBounds_ne]
  obtain ⟨o,ho⟩:=hlive
  exact f b o r hb ho hr
 img c p s hc hp hs hlt:=by
  obtain ⟨o,ho⟩:=hlive
  by_cases e:c=H.next
  ·simp [Rho.put,e] at hs; subst hs
   exact ⟨b,o,r,hb,ho,hr,hcb.symm⟩
  ·simp only [Rho.put,if_neg e] at hs
   rw [h.fresh c (by omega)] at hs; cases hs
end steps
def FR (ρ:Rho) (fr:AFr) (tmps:Array Value) : Prop :=
 tmps.size=fr.n∧∀ t,VR ρ (AFr.at fr t) (tmps.getD t undef)
theorem FR.mono {ρ ρ':Rho} {fr:AFr} {tmps:Array Value} (e:Ext ρ ρ') (h:FR ρ fr tmps) : FR ρ' fr tmps:=⟨h.1,fun t=>(h.2 t).mono e⟩
theorem vr_undef (ρ:Rho) : VR ρ aundef undef:=.tup [] [] .nil
theorem FR.put {ρ:Rho} {fr fr':AFr} {a:Act} {d:Option Nat} {x:AV} {v:Value} (h:FR ρ fr a.tmps) (hp:fr.put d x=some fr') (hv:VR ρ x v) :
  FR ρ fr' (a.put d v).tmps∧(a.put d v).defers=a.defers:=by
 cases d with
 | none=>simp [AFr.put] at hp; subst hp; exact ⟨h,rfl⟩
 | some d =>
  simp only [AFr.put] at hp
  cases hd:Nat.ble (Nat.succ d) fr.n with
  | false=>rw [hd] at hp; cases hp
  | true =>
   rw [hd] at hp
   injection hp with hp
   subst hp
   have hlt:d < fr.n:=Nat.le_of_ble_eq_true hd
   refine ⟨⟨by simp [Act.put,h.1],fun t=>?_⟩,rfl⟩
   unfold AFr.at
   simp only [T.get_set]
   by_cases e:t=d
   ·subst e
    simp only [if_true,Act.put]
    rw [Array.getD_eq_getD_getElem?,Array.getElem?_setIfInBounds_self_of_lt (by rw [h.1]; exact hlt)]
    exact hv
   ·rw [if_neg e]
    simp only [Act.put]
    rw [Array.getD_eq_getD_getElem?,Array.getElem?_setIfInBounds_ne (Ne.symm e),← Array.getD_eq_getD_getElem?]
    exact h.2 t
def GOK (ρ:Rho) (gl:Nat) : Prop:=∀ g,g < gl→∃ r,ρ g=some r∧r.cb=g∧r.co=0
omit [Dec] [Env] in
theorem GOK.mono {ρ ρ':Rho} {gl:Nat} (e:Ext ρ ρ') (h:GOK ρ gl) : GOK ρ' gl:=fun g hg=>let ⟨r,a,b⟩:=h g hg; ⟨r,e _ _ a,b⟩
theorem aev_rel {ρ:Rho} {fr:AFr} {a:Act} {gl:Nat} (h:FR ρ fr a.tmps) (hg:GOK ρ gl) {o:Operand} {x:AV}
  (hx:aev gl fr o=some x) : VR ρ x (a.eval o):=by
 cases o with
 | tmp t=>simp [aev] at hx; subst hx; exact h.2 t
 | const v=>exact ofV_rel v x hx
 | global g =>
  simp only [aev] at hx
  split at hx
  ·rename_i hb
   injection hx with hx; subst hx
   obtain ⟨r,hr,h1,h2⟩:=hg g (Nat.le_of_ble_eq_true hb)
   have:=VR.ptr (ρ:=ρ) g 0 r hr
   rw [h1,h2] at this
   exact this
  ·cases hx
 | func f=>simp [aev] at hx; subst hx; exact .fn _ [] [] [] [] .nil .nil
theorem aevs_rel {ρ:Rho} {fr:AFr} {a:Act} {gl:Nat} (h:FR ρ fr a.tmps) (hg:GOK ρ gl) : ∀ {os:List Operand} {xs:List AV},
  aevs gl fr os=some xs→VRs ρ xs (os.map a.eval)
 | [],xs,hx=>by simp [aevs] at hx; subst hx; exact .nil
 | o :: os,xs,hx=>by
  simp only [aevs,Option.bind_eq_some_iff,Option.map_eq_some_iff] at hx
  obtain ⟨v,hv,ys,hys,rfl⟩:=hx
  exact .cons v _ ys _ (aev_rel h hg hv) (aevs_rel h hg hys)
end Go.Proofs.YtoehlmiadiiimaaGreatDoor.Ex

