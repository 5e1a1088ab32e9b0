/-
  An executor over the model's code, on values and a heap of its own: the definitions. (Its soundness: ExSound.)
-/
import Derived.Tactics
import Derived.Orders
import Derived.KernelRfl
namespace Go.Proofs.YtoehlmiadiiimaaGreatDoor.Ex
open Go

/-- A tree by numbers: 0 at the root; odd numbers to the left, even ones to the right. -/
inductive T (α : Type) where
  | leaf
  | node (l : T α) (v : Option α) (r : T α)

noncomputable def T.get {α : Type} (t : T α) : Nat → Option α :=
  T.rec (motive := fun _ => Nat → Option α) (fun _ => none)
    (fun _ v _ gl gr n => Bool.rec (Bool.rec (gr (Nat.pred (Nat.div n (nat_lit 2)))) (gl (Nat.div n (nat_lit 2))) (Nat.beq (Nat.mod n (nat_lit 2)) (nat_lit 1))) v (Nat.beq n (nat_lit 0))) t

noncomputable def T.put {α : Type} (x : Option α) (f : Nat) : T α → Nat → T α :=
  Nat.rec (motive := fun _ => T α → Nat → T α) (fun t _ => t) (fun _ ih t n =>
    T.rec (motive := fun _ => T α)
      (Bool.rec (Bool.rec (.node .leaf none (ih .leaf (Nat.pred (Nat.div n (nat_lit 2))))) (.node (ih .leaf (Nat.div n (nat_lit 2))) none .leaf) (Nat.beq (Nat.mod n (nat_lit 2)) (nat_lit 1)))
        (.node .leaf x .leaf) (Nat.beq n (nat_lit 0)))
      (fun l v r _ _ => Bool.rec (Bool.rec (.node l v (ih r (Nat.pred (Nat.div n (nat_lit 2))))) (.node (ih l (Nat.div n (nat_lit 2))) v r) (Nat.beq (Nat.mod n (nat_lit 2)) (nat_lit 1)))
        (.node l x r) (Nat.beq n (nat_lit 0))) t) f

noncomputable def T.set {α : Type} (t : T α) (n : Nat) (x : Option α) : T α := T.put x (Nat.succ n) t n

/-- Numbers that are not known: what they are, as a text. -/
inductive SE where
  | var (i : Nat)
  | lit (n : Int)
  | bin (op : BinOp) (k : IntKind) (a b : SE)
  | un (op : UnOp) (k : IntKind) (a : SE)
  | wrap (k : IntKind) (a : SE)
  | fn (i : Nat) (a : SE)
  | pair (a b : SE)

def SE.beq : SE → SE → Bool
  | .var i, .var j => Nat.beq i j
  | .lit m, .lit n => decide (m = n)
  | .bin o k a b, .bin o' k' a' b' => decide (o = o') && (decide (k = k') && (SE.beq a a' && SE.beq b b'))
  | .un o k a, .un o' k' a' => decide (o = o') && (decide (k = k') && SE.beq a a')
  | .wrap k a, .wrap k' a' => decide (k = k') && SE.beq a a'
  | .fn i a, .fn j b => Nat.beq i j && SE.beq a b
  | .pair a b, .pair a' b' => SE.beq a a' && SE.beq b b'
  | _, _ => false

/-- What is known of them on a way: which are the same, which is below which, which are numbers. -/
class Dec where
  eqs : SE → SE → Option Bool
  lts : SE → SE → Option Bool
  vals : SE → Option Int

def look (a b : SE) : List (SE × SE × Bool) → Option Bool
  | [] => none
  | x :: xs => match SE.beq x.1 a && SE.beq x.2.1 b with
    | true => some x.2.2
    | false => look a b xs
def lookVal (a : SE) : List (SE × Int) → Option Int
  | [] => none
  | x :: xs => match SE.beq x.1 a with
    | true => some x.2
    | false => lookVal a xs

abbrev Dec.none : Dec := ⟨fun _ _ => .none, fun _ _ => .none, fun _ => .none⟩

/-- Values: as the model's, but that lists stand for arrays, and a text is its bytes' numbers. -/
inductive AV where
  | bool (b : Bool)
  | int (k : IntKind) (n : Int)
  | sint (k : IntKind) (e : SE)
  | str (s : List Nat)
  | ptr (b o : Nat)
  | nilptr
  | sl (b o len cap : Nat)
  | nilsl
  | map (r : Nat)
  | nilmap
  | fn (fn : Fn) (first captured : List AV)
  | nilfn
  | iface (t : TypeId) (v : AV)
  | nilif
  | agg (cs : List AV)
  | tup (vs : List AV)

def AV.cells : AV → List AV
  | .agg cs => cs
  | v => [v]
def AV.one : AV → Bool
  | .agg _ | .tup _ => false
  | _ => true
def aundef : AV := .tup []

variable [Dec]

def mkInt (k : IntKind) (e : SE) : AV :=
  match Dec.vals e with
  | some n => .int k n
  | none => .sint k e
def ival : AV → Option (IntKind × SE)
  | .int k n => some (k, .lit n)
  | .sint k e => some (k, e)
  | _ => none
def isS : AV → Bool
  | .sint .. => true
  | _ => false

def sbin (op : BinOp) (k : IntKind) (a : SE) (k' : IntKind) (b : SE) : Option AV :=
  match op with
  | .shl => match b with
    | .lit n => if n < 0 then none else some (mkInt k (.bin .shl k a (.lit n)))
    | b => match Dec.lts b (.lit 0) with
      | some false => some (mkInt k (.bin .shl k a b))
      | _ => none
  | .shr => match b with
    | .lit n => if n < 0 then none else some (mkInt k (.bin .shr k a (.lit n)))
    | b => match Dec.lts b (.lit 0) with
      | some false => some (mkInt k (.bin .shr k a b))
      | _ => none
  | op => if k ≠ k' then none else match op with
    | .add => some (mkInt k (.bin .add k a b))
    | .sub => some (mkInt k (.bin .sub k a b))
    | .mul => some (mkInt k (.bin .mul k a b))
    | .quo => match b with
      | .lit n => if n = 0 then none else some (mkInt k (.bin .quo k a (.lit n)))
      | b => match Dec.eqs b (.lit 0) with
        | some false => some (mkInt k (.bin .quo k a b))
        | _ => none
    | .rem => match b with
      | .lit n => if n = 0 then none else some (mkInt k (.bin .rem k a (.lit n)))
      | b => match Dec.eqs b (.lit 0) with
        | some false => some (mkInt k (.bin .rem k a b))
        | _ => none
    | .and => some (mkInt k (.bin .and k a b))
    | .or => some (mkInt k (.bin .or k a b))
    | .xor => some (mkInt k (.bin .xor k a b))
    | .andNot => some (mkInt k (.bin .andNot k a b))
    | .eql => (Dec.eqs a b).map .bool
    | .neq => (Dec.eqs a b).map fun r => .bool !r
    | .lss => (Dec.lts a b).map .bool
    | .geq => (Dec.lts a b).map fun r => .bool !r
    | .gtr => (Dec.lts b a).map .bool
    | .leq => (Dec.lts b a).map fun r => .bool !r
    | _ => none

mutual
def ofV : Value → Option AV
  | .bool b => some (.bool b)
  | .int k n => some (.int k n)
  | .string s => some (.str (s.data.toList.map UInt8.toNat))
  | .pointer none => some .nilptr
  | .slice none 0 0 => some .nilsl
  | .map none => some .nilmap
  | .nilFunc => some .nilfn
  | .func (.func f) ⟨[]⟩ ⟨[]⟩ => some (.fn (.func f) [] [])
  | .nilIface => some .nilif
  | .iface t v => (ofV v).map (.iface t)
  | .agg ⟨cs⟩ => (ofVs cs).map .agg
  | .tuple ⟨cs⟩ => (ofVs cs).map .tup
  | _ => none
def ofVs : List Value → Option (List AV)
  | [] => some []
  | v :: vs => (ofV v).bind fun a => (ofVs vs).map (a :: ·)
end

structure Ent where
  key : AV
  val : AV
  born : Nat

inductive AObj where
  | cells (c : List AV) (elem : TypeId) (tight : Bool)
  | map (es : List Ent) (clock : Nat)
  | iter (s : List Nat) (pos : Nat)

structure AHeap where
  next : Nat
  t : T AObj

noncomputable def AHeap.get (H : AHeap) (b : Nat) : Option AObj := T.get H.t b
noncomputable def AHeap.put (H : AHeap) (b : Nat) (o : Option AObj) : AHeap := ⟨H.next, T.set H.t b o⟩
noncomputable def AHeap.alloc (H : AHeap) (o : AObj) : AHeap := ⟨Nat.succ H.next, T.set H.t H.next (some o)⟩

structure AFr where
  n : Nat
  t : T AV

noncomputable def AFr.at (fr : AFr) (t : Nat) : AV := match T.get fr.t t with | some v => v | none => aundef
noncomputable def AFr.put (fr : AFr) (d : Option Nat) (v : AV) : Option AFr :=
  match d with
  | none => some fr
  | some d => match Nat.ble (Nat.succ d) fr.n with
    | true => some ⟨fr.n, T.set fr.t d (some v)⟩
    | false => none

/-- 'gl': so many package-level variables are known. -/
noncomputable def aev (gl : Nat) (fr : AFr) : Operand → Option AV
  | .tmp t => some (AFr.at fr t)
  | .const v => ofV v
  | .global g => match Nat.ble (Nat.succ g) gl with
    | true => some (.ptr g 0)
    | false => none
  | .func f => some (.fn (.func f) [] [])

noncomputable def aevs (gl : Nat) (fr : AFr) : List Operand → Option (List AV)
  | [] => some []
  | o :: os => (aev gl fr o).bind fun v => (aevs gl fr os).map (v :: ·)

inductive Res where
  | val (v : AV) (H : AHeap)
  | skip (H : AHeap)
  | enter (f : FuncId) (args : List AV) (H : AHeap)

section
variable (P : Program)

def und (t : TypeId) : Option TypeDesc := P.underlying t
def sz (t : TypeId) : Option Nat := (P.info? t).map (·.size)
def zero (t : TypeId) : Option AV := ((P.info? t).bind (·.zero)).bind ofV
def agg? (t : TypeId) : Option Bool :=
  match und P t with
  | some (.struct _) | some (.array ..) => some true
  | some _ => some false
  | none => none

def apart (t : TypeId) (cs : List AV) (off : Nat) : Option AV :=
  match agg? P t with
  | some true => (sz P t).map fun n => .agg ((cs.drop off).take n)
  | some false => cs[off]?
  | none => none

/-- What of a kind stands in a block at a place. -/
noncomputable def aload (H : AHeap) (t : TypeId) (b o : Nat) : Option AV :=
  match H.get b with
  | some (.cells c _ _) => match agg? P t with
    | some true => (sz P t).bind fun n => if o + n ≤ c.length then some (.agg ((c.drop o).take n)) else none
    | some false => c[o]?
    | none => none
  | _ => none

def splice (c : List AV) (o : Nat) (vs : List AV) : List AV := c.take o ++ vs ++ c.drop (o + vs.length)

noncomputable def awrite (H : AHeap) (lim : Nat) (b o : Nat) (vs : List AV) : Option AHeap :=
  if lim ≤ b then
    match H.get b with
    | some (.cells c e t) => if o + vs.length ≤ c.length ∧ vs.all AV.one = true then some (H.put b (some (.cells (splice c o vs) e t))) else none
    | _ => none
  else none

noncomputable def astore (H : AHeap) (lim : Nat) (t : TypeId) (b o : Nat) (v : AV) : Option AHeap :=
  if some v.cells.length = sz P t then awrite H lim b o v.cells else none

def afill (place : Nat → Option (Nat × Nat)) (cells : List AV) : List (Nat × AV) → Option (List AV)
  | [] => some cells
  | (i, v) :: rest =>
    match place i with
    | none => none
    | some (off, size) => if v.cells.length = size ∧ off + size ≤ cells.length then afill place (splice cells off v.cells) rest else none

def aparts (evs : List Nat) (vs : List AV) : List (Nat × AV) := evs.zip vs

def aplaces (fs : Array Field) (i : Nat) : Option (Nat × Nat) := (fs[i]?).bind fun f => (sz P f.type).map fun n => (f.offset, n)

/-- so many copies of a zero's cells -/
def azeros (z : List AV) : Nat → List AV
  | 0 => []
  | n + 1 => z ++ azeros z n

/-- Bounds of a slice: low, high, max: the number, if it is from 0 to y. -/
def abound (v : AV) (y : Nat) : Option Nat :=
  match v with
  | .int _ i => if 0 ≤ i ∧ i ≤ (y : Int) then some i.toNat else none
  | _ => none
def abounds (len cap : Nat) (low high max : Option AV) : Option (Nat × Nat × Nat) :=
  (match max with | some v => abound v cap | none => some cap).bind fun m =>
  (match high, max with
    | some v, _ => abound v m
    | none, none => some len
    | none, some _ => none).bind fun h =>
  (match low with | some v => abound v h | none => some 0).bind fun l => some (l, h, m)

noncomputable def tightAt (H : AHeap) (b : Nat) : Option Bool :=
  match H.get b with
  | some (.cells _ _ t) => some t
  | _ => none

noncomputable def aslice (H : AHeap) (t : TypeId) (x : AV) (low high max : Option AV) : Option AV :=
  match und P t, x with
  | some .string, .str s =>
    match max with
    | some _ => none
    | none => (abounds s.length s.length low high none).map fun (l, h, _) => .str ((s.drop l).take (h - l))
  | some (.slice elem), .sl b o len cap =>
    match H.get b with
    | some (.cells _ e tight) => if tight = true ∨ e = elem then (sz P elem).bind fun size => (abounds len cap low high max).map fun (l, h, m) => .sl b (o + l * size) (h - l) (m - l) else none
    | _ => none
  | some (.slice e), .nilsl => if (sz P e).isSome = true then (abounds 0 0 low high max).map fun _ => .nilsl else none
  | some (.array n elem), .ptr b o =>
    (sz P elem).bind fun size => (tightAt H b).bind fun tt => if tt then (abounds n n low high max).map fun (l, h, m) => .sl b (o + l * size) (h - l) (m - l) else none
  | _, _ => none

/-- Does a text stand ahead of another one? -/
def alss : List Nat → List Nat → Bool
  | _, [] => false
  | [], _ :: _ => true
  | a :: x, b :: y => decide (a < b) || (a == b && alss x y)

def abin (op : BinOp) (x y : AV) : Option AV :=
  match x, y with
  | .int k a, .int k' b =>
    match op with
    | .shl => if b < 0 then none else some (.int k (k.wrap (a * 2 ^ (min b.toNat k.bits))))
    | .shr => if b < 0 then none else some (.int k (a.fdiv (2 ^ (min b.toNat k.bits))))
    | op => if k ≠ k' then none else match op with
      | .add => some (.int k (k.wrap (a + b)))
      | .sub => some (.int k (k.wrap (a - b)))
      | .mul => some (.int k (k.wrap (a * b)))
      | .quo => if b = 0 then none else some (.int k (k.wrap (a.tdiv b)))
      | .rem => if b = 0 then none else some (.int k (a.tmod b))
      | .and => some (.int k (k.wrap (BitVec.ofInt k.bits a &&& BitVec.ofInt k.bits b).toNat))
      | .or => some (.int k (k.wrap (BitVec.ofInt k.bits a ||| BitVec.ofInt k.bits b).toNat))
      | .xor => some (.int k (k.wrap (BitVec.ofInt k.bits a ^^^ BitVec.ofInt k.bits b).toNat))
      | .andNot => some (.int k (k.wrap (BitVec.ofInt k.bits a &&& ~~~BitVec.ofInt k.bits b).toNat))
      | .eql => some (.bool (a == b))
      | .neq => some (.bool (a != b))
      | .lss => some (.bool (decide (a < b)))
      | .leq => some (.bool (decide (a ≤ b)))
      | .gtr => some (.bool (decide (b < a)))
      | .geq => some (.bool (decide (b ≤ a)))
      | _ => none
  | .str a, .str b =>
    match op with
    | .eql => some (.bool (a == b))
    | .neq => some (.bool !(a == b))
    | .add => if a.length + b.length ≤ 4294967296 then some (.str (a ++ b)) else none
    | .lss => some (.bool (alss a b))
    | .leq => some (.bool (alss a b || a == b))
    | .gtr => some (.bool !(alss a b || a == b))
    | .geq => some (.bool !alss a b)
    | _ => none
  | _, _ => none

end

/-- The same of structs and arrays, part by part, as the model goes. -/
def aeqFields (P : Program) (eq : TypeId → AV → AV → Option Bool) (xs ys : List AV) : List Field → Option Bool
  | [] => some true
  | f :: fs => if f.name ≠ "_" then (apart P f.type xs f.offset).bind fun x => (apart P f.type ys f.offset).bind fun y => (eq f.type x y).bind fun b =>
      match b with
      | true => aeqFields P eq xs ys fs
      | false => some false
    else aeqFields P eq xs ys fs

def aeqElems (P : Program) (eq : AV → AV → Option Bool) (e n : Nat) (xs ys : List AV) : List Nat → Option Bool
  | [] => some true
  | i :: is => (apart P e xs (i * n)).bind fun x => (apart P e ys (i * n)).bind fun y => (eq x y).bind fun b =>
      match b with
      | true => aeqElems P eq e n xs ys is
      | false => some false

def aeqD (P : Program) : Nat → TypeId → AV → AV → Option Bool
  | 0, _, _, _ => none
  | d + 1, t, x, y => match und P t, x, y with
    | some .bool, .bool a, .bool b => some (a == b)
    | some (.int _), .int k a, .int k' b => if k = k' then some (a == b) else none
    | some (.int _), x, y => (ival x).bind fun a => (ival y).bind fun b => if a.1 = b.1 then Dec.eqs a.2 b.2 else none
    | some .string, .str a, .str b => some (a == b)
    | some (.struct fs), .agg xs, .agg ys => if P.stoodInHeld t then none else aeqFields P (aeqD P d) xs ys fs.toList
    | some (.array len e), .agg xs, .agg ys => (sz P e).bind fun n => aeqElems P (aeqD P d e) e n xs ys (List.range' 0 len)
    | _, _, _ => none

def aeqT (P : Program) (t : TypeId) (x y : AV) : Option Bool :=
  match und P t, x, y with
  | some .bool, .bool a, .bool b => some (a == b)
  | some (.pointer _), .nilptr, .nilptr => some true
  | some (.pointer _), .nilptr, .ptr _ _ => some false
  | some (.pointer _), .ptr _ _, .nilptr => some false
  | some (.slice _), .nilsl, .nilsl => some true
  | some (.slice _), .nilsl, .sl .. => some false
  | some (.slice _), .sl .., .nilsl => some false
  | some (.map _ _), .nilmap, .nilmap => some true
  | some (.map _ _), .nilmap, .map _ => some false
  | some (.map _ _), .map _, .nilmap => some false
  | some (.func ..), .nilfn, .nilfn => some true
  | some (.func ..), .nilfn, .fn .. => some false
  | some (.func ..), .fn .., .nilfn => some false
  | some (.interface _), .nilif, .iface .. => some false
  | some (.interface _), .iface .., .nilif => some false
  | some (.interface _), .iface tx vx, .iface ty vy =>
    if tx ≠ ty then some false else match P.info? tx with
      | some i => if i.comparable then aeqD P 10 tx vx vy else none
      | none => none
  | some (.struct _), .agg xs, .agg ys => if P.eqGuardType P.depth t then none else aeqD P 10 t (.agg xs) (.agg ys)
  | some (.array ..), .agg xs, .agg ys => if P.eqGuardType P.depth t then none else aeqD P 10 t (.agg xs) (.agg ys)
  | _, _, _ => none

def abinT (P : Program) (op : BinOp) (t : TypeId) (x y : AV) : Option AV :=
  match x, y with
  | .int k a, .int k' b => abin op (.int k a) (.int k' b)
  | .str a, .str b => abin op (.str a) (.str b)
  | x, y =>
    match op with
    | .eql => (aeqT P t x y).map .bool
    | .neq => (aeqT P t x y).map fun b => .bool !b
    | _ => none

def aun (op : UnOp) (x : AV) : Option AV :=
  match op, x with
  | .neg, .int k n => some (.int k (k.wrap (0 - n)))
  | .xor, .int k n => some (.int k (k.wrap (BitVec.ofInt k.bits (if k.signed then -1 else k.max) ^^^ BitVec.ofInt k.bits n).toNat))
  | .not, .bool b => some (.bool !b)
  | _, _ => none

/-- The same, numbers that are not known among them. -/
def abinS (P : Program) (op : BinOp) (t : TypeId) (x y : AV) : Option AV :=
  match isS x || isS y with
  | false => abinT P op t x y
  | true => (ival x).bind fun a => (ival y).bind fun b => sbin op a.1 a.2 b.1 b.2
def isC : Operand → Bool
  | .const _ => true
  | _ => false
/-- Two values that are nil, one of them the text's own nil. -/
def nilNil (P : Program) (op : BinOp) (t : TypeId) (p q : Operand) (x y : AV) : Option Bool :=
  match und P t, x, y with
  | some (.interface _), .nilif, .nilif => match isC p || isC q with
    | true => match op with
      | .eql => some true
      | .neq => some false
      | _ => none
    | false => none
  | _, _, _ => none
def abinN (P : Program) (op : BinOp) (t : TypeId) (p q : Operand) (x y : AV) : Option AV :=
  match nilNil P op t p q x y with
  | some b => some (.bool b)
  | none => abinS P op t x y
def aunS (op : UnOp) (x : AV) : Option AV :=
  match op, x with
  | .neg, .sint k e => some (mkInt k (.un .neg k e))
  | .xor, .sint k e => some (mkInt k (.un .xor k e))
  | op, x => aun op x

def keyEq (x y : AV) : Option Bool :=
  match x, y with
  | .int k a, .int k' b => if k = k' then some (a == b) else none
  | .str a, .str b => some (a == b)
  | .bool a, .bool b => some (a == b)
  | _, _ => none

/-- Where a key's entry is. -/
def afind (k : AV) : List Ent → Nat → Option (Option (Nat × AV))
  | [], _ => some none
  | e :: es, i => match keyEq k e.key with
    | some true => some (some (i, e.val))
    | some false => afind k es (i + 1)
    | none => none

def keyType (P : Program) (t : TypeId) (k : AV) : Bool :=
  match und P t, k with
  | some .bool, .bool _ => true
  | some (.int _), .int _ _ => true
  | some .string, .str _ => true
  | _, _ => false

noncomputable def amapOf (H : AHeap) : AV → Option (List Ent)
  | .nilmap => some []
  | .map r => match H.get r with
    | some (.map es _) => some es
    | _ => none
  | _ => none

noncomputable def alookup (P : Program) (H : AHeap) (t : TypeId) (m k : AV) (ok : Bool) : Option AV :=
  match und P t with
  | some (.map kt et) => if keyType P kt k = true then (amapOf H m).bind fun es => (afind k es 0).bind fun r =>
      match r with
      | some (_, v) => some (if ok then .tup [v, .bool true] else v)
      | none => (zero P et).map fun z => if ok then .tup [z, .bool false] else z
    else none
  | _ => none

noncomputable def amapPut (P : Program) (lim : Nat) (H : AHeap) (t : TypeId) (m k v : AV) : Option AHeap :=
  match und P t, m with
  | some (.map kt _), .map r => if keyType P kt k = true ∧ lim ≤ r then match H.get r with
      | some (.map es c) => (afind k es 0).bind fun x => match x with
        | some (i, _) => some (H.put r (some (.map (es.modify i fun e => { e with key := k, val := v }) c)))
        | none => some (H.put r (some (.map (es ++ [⟨k, v, c⟩]) (c + 1))))
      | _ => none
    else none
  | _, _ => none

/-- A text's bytes as values. -/
def abytes (s : List Nat) : List AV := s.map fun b => .int .u8 (Int.ofNat b)
def aofBytes : List AV → Option (List Nat)
  | [] => some []
  | .int .u8 n :: vs => (aofBytes vs).map (n.toNat % 256 :: ·)
  | _ => none

noncomputable def aconv (P : Program) (H : AHeap) (src dst : TypeId) (x : AV) : Option (AV × AHeap) :=
  match und P src, und P dst, x with
  | some _, some (.int k), .int _ n => some (.int k (k.wrap n), H)
  | some .string, some .string, .str s => some (.str s, H)
  | some .string, some (.slice e), .str s => match und P e with
    | some (.int .u8) => if s.length ≤ 4294967296 ∧ sz P e = some 1 then some (.sl H.next 0 s.length s.length, H.alloc (.cells (abytes s) e false)) else none
    | _ => none
  | some (.slice e), some .string, .nilsl => match und P e with
    | some (.int .u8) => some (.str [], H)
    | _ => none
  | some (.slice e), some .string, .sl b o n _ => match und P e, H.get b with
    | some (.int .u8), some (.cells c _ _) => if o + n ≤ c.length then (aofBytes ((c.drop o).take n)).map fun l => (.str l, H) else none
    | _, _ => none
  | _, _, _ => none

noncomputable def aconvS (P : Program) (H : AHeap) (src dst : TypeId) (x : AV) : Option (AV × AHeap) :=
  match x with
  | .sint _ e => match und P src, und P dst with
    | some _, some (.int k) => some (mkInt k (.wrap k e), H)
    | _, _ => none
  | x => aconv P H src dst x

/-- What is appended: a slice's cells, a text's bytes. -/
noncomputable def asrc (H : AHeap) (size : Nat) : AV → Option (Nat × List AV)
  | .nilsl => some (0, [])
  | .sl b o n _ => match H.get b with
    | some (.cells c _ _) => if o + n * size ≤ c.length then some (n, (c.drop o).take (n * size)) else none
    | _ => none
  | .str s => some (s.length, abytes s)
  | _ => none

/-- What is appended; or so many zeros (an append of what a make gives). -/
noncomputable def asrcZ (H : AHeap) (zs : Bool) (z : List AV) (size : Nat) (x : AV) : Option (Nat × List AV) :=
  match zs with
  | false => asrc H size x
  | true => match x with
    | .int .i64 n => if 0 ≤ n ∧ n ≤ 65536 ∧ 0 < z.length then some (n.toNat, azeros z n.toNat) else none
    | _ => none

noncomputable def aappend (P : Program) (lim : Nat) (H : AHeap) (t : TypeId) (s x : AV) (zs : Bool) : Option (AV × AHeap) :=
  match und P t with
  | some (.slice elem) => (P.info? elem).bind fun info => ((info.zero).bind ofV).bind fun z => (asrcZ H zs z.cells info.size x).bind fun (n, new) =>
    if info.bytes ≤ 65536 ∧ new.length = n * info.size ∧ z.cells.length = info.size ∧ new.all AV.one = true then match s with
      | .nilsl => if n = 0 then some (.nilsl, H) else if n ≤ 1048576 then some (.sl H.next 0 n n, H.alloc (.cells new elem false)) else none
      | .sl b o len cap =>
        if n = 0 then some (.sl b o len cap, H)
        else if len + n ≤ cap then (awrite H lim b (o + len * info.size) new).map fun H => (.sl b o (len + n) cap, H)
        else if len + n ≤ 1048576 then (asrc H info.size (.sl b o len cap)).bind fun (_, old) => match H.get b with
          | some (.cells _ e tight) => if e = elem then
              if tight then some (.sl H.next 0 (len + n) (len + n), H.alloc (.cells (old ++ new) elem false))
              else if lim ≤ b then some (.sl H.next 0 (len + n) (len + n), (H.put b none).alloc (.cells (old ++ new) elem false)) else none
            else none
          | _ => none
        else none
      | _ => none
    else none
  | _ => none

noncomputable def alen (P : Program) (H : AHeap) (t : TypeId) (x : AV) : Option AV :=
  match und P t, x with
  | some .string, .str s => some (.int .i64 s.length)
  | some (.array n _), _ => some (.int .i64 n)
  | some (.slice _), .sl _ _ n _ => some (.int .i64 n)
  | some (.slice _), .nilsl => some (.int .i64 0)
  | some (.map _ _), .nilmap => some (.int .i64 0)
  | some (.map _ _), .map r => match H.get r with
    | some (.map es _) => some (.int .i64 es.length)
    | _ => none
  | _, _ => none

noncomputable def acopy (P : Program) (lim : Nat) (H : AHeap) (t : TypeId) (d s : AV) : Option (AV × AHeap) :=
  match und P t, d with
  | some (.slice elem), .sl b o dl _ => (sz P elem).bind fun size =>
      if dl = 0 then (match s with
        | .sl .. | .nilsl | .str _ => some (.int .i64 0, H)
        | _ => none)
      else (match s with | .sl b' o' n' c' => asrc H size (.sl b' o' (min n' dl) c') | .str l => asrc H size (.str (l.take dl)) | .nilsl => some (0, []) | _ => none).bind fun (n, new) =>
        if new.all AV.one = true then (awrite H lim b o new).map fun H => (.int .i64 n, H) else none
  | some (.slice e), .nilsl => if (sz P e).isSome = true then (match s with
      | .sl .. | .nilsl | .str _ => some (.int .i64 0, H)
      | _ => none)
    else none
  | _, _ => none

noncomputable def abuiltin (P : Program) (lim : Nat) (H : AHeap) (b : Builtin) (ts : List TypeId) (args : List AV) : Option (AV × AHeap) :=
  match b, ts, args with
  | .append, t :: t' :: _, [s, x] => match und P t' with
    | some (.int _) => aappend P lim H t s x true
    | some _ => aappend P lim H t s x false
    | none => none
  | .len, t :: _, [x] => (alen P H t x).map fun v => (v, H)
  | .copy, t :: _, [d, s] => acopy P lim H t d s
  | .min, _, [.int k a, .int k' b] => if k = k' then some (.int k (if b < a then b else a), H) else none
  | .max, _, [.int k a, .int k' b] => if k = k' then some (.int k (if b > a then b else a), H) else none
  | _, _, _ => none

/-- A call of a function that has a body. -/
def acallee (P : Program) (f : FuncId) : Bool :=
  match P.funcs[f]? with
  | some fn => fn.body.isSome && fn.name != "runtime.NumGoroutine"
  | none => false

noncomputable def aop (P : Program) (gl lim : Nat) (fr : AFr) (H : AHeap) (o : Oper) : Option Res :=
  match o.op with
  | .move x | .assign x => (aev gl fr x).map fun v => .val v H
  | .pick c a b => (aev gl fr c).bind fun c => match c with
    | .bool true => (aev gl fr a).map fun v => .val v H
    | .bool false => (aev gl fr b).map fun v => .val v H
    | _ => none
  | .alloc elem => (zero P elem).map fun z => .val (.ptr H.next 0) (H.alloc (.cells z.cells elem true))
  | .box elem x => (aev gl fr x).map fun v => .val (.ptr H.next 0) (H.alloc (.cells v.cells elem true))
  | .build t parts => (aevs gl fr (parts.toList.map (·.2))).bind fun vs => (zero P t).bind fun z =>
    match und P t with
    | some (.struct fs) => if fs.all (fun f => (sz P f.type).isSome) = true then (afill (aplaces P fs) z.cells (aparts (parts.toList.map (·.1)) vs)).map fun cs => .val (.agg cs) H else none
    | some (.array _ e) => (sz P e).bind fun n => (afill (fun i => some (i * n, n)) z.cells (aparts (parts.toList.map (·.1)) vs)).map fun cs => .val (.agg cs) H
    | _ => none
  | .buildSlice t len parts => (aevs gl fr (parts.toList.map (·.2))).bind fun vs =>
    match und P t with
    | some (.slice e) => (sz P e).bind fun n => (zero P e).bind fun z => if z.cells.length = n ∧ len * n ≤ 16777216 then
        (afill (fun i => some (i * n, n)) (azeros z.cells len) (aparts (parts.toList.map (·.1)) vs)).map fun cs => .val (.sl H.next 0 len len) (H.alloc (.cells cs e true))
      else none
    | _ => none
  | .load t a => (aev gl fr a).bind fun a => match a with
    | .ptr b o => (aload P H t b o).map fun v => .val v H
    | _ => none
  | .store t a x => (aev gl fr a).bind fun a => (aev gl fr x).bind fun v => match a with
    | .ptr b o => (astore P H lim t b o v).map fun H => .skip H
    | _ => none
  | .nilCheck x => (aev gl fr x).bind fun v => match v with
    | .ptr b o => some (.val (.ptr b o) H)
    | .fn (.func f) xs ys => some (.val (.fn (.func f) xs ys) H)
    | _ => none
  | .binOp op t x y _ => (aev gl fr x).bind fun a => (aev gl fr y).bind fun b => (abinN P op t x y a b).map fun v => .val v H
  | .unOp op _ x => (aev gl fr x).bind fun a => (aunS op a).map fun v => .val v H
  | .convert s d x => (aev gl fr x).bind fun a => (aconvS P H s d a).map fun (v, H) => .val v H
  | .makeInterface t x => (aev gl fr x).bind fun a => match und P t with
    | some (.interface _) => none
    | some _ => some (.val (.iface t a) H)
    | none => none
  | .makeFunc (.func f) first captured => (aevs gl fr first.toList).bind fun xs => (aevs gl fr captured.toList).map fun ys => .val (.fn (.func f) xs ys) H
  | .makeMap _ none => some (.val (.map H.next) (H.alloc (.map [] 0)))
  | .makeSlice t l c => (aev gl fr l).bind fun l => (aev gl fr c).bind fun c => match und P t, l, c with
    | some (.slice e), .int _ l, .int _ c => (P.info? e).bind fun info => (zero P e).bind fun z =>
        if 0 ≤ l ∧ l ≤ c ∧ c ≤ 16777216 ∧ info.bytes ≤ 65536 ∧ z.cells.length = info.size then
          some (.val (.sl H.next 0 l.toNat c.toNat) (H.alloc (.cells (azeros z.cells c.toNat) e true)))
        else none
    | _, _, _ => none
  | .slice t x lo hi mx => (aev gl fr x).bind fun x =>
    (match lo with | none => some none | some y => (aev gl fr y).map some).bind fun lo =>
    (match hi with | none => some none | some y => (aev gl fr y).map some).bind fun hi =>
    (match mx with | none => some none | some y => (aev gl fr y).map some).bind fun mx => (aslice P H t x lo hi mx).map fun v => .val v H
  | .fieldAddr t x f => (aev gl fr x).bind fun a => match und P t, a with
    | some (.struct fs), .ptr b o => (fs[f]?).bind fun f => (sz P f.type).bind fun n => if n = 0 then none else some (.val (.ptr b (o + f.offset)) H)
    | _, _ => none
  | .field t x f => (aev gl fr x).bind fun a => match und P t, a with
    | some (.struct fs), .agg cs => (fs[f]?).bind fun f => (apart P f.type cs f.offset).map fun v => .val v H
    | _, _ => none
  | .indexAddr t x ix => (aev gl fr x).bind fun a => (aev gl fr ix).bind fun i => match und P t, a, i with
    | some (.array len e), .ptr b o, .int _ i => (sz P e).bind fun n => if 0 ≤ i ∧ i < (len : Int) then some (.val (.ptr b (o + i.toNat * n)) H) else none
    | some (.slice e), .sl b o len _, .int _ i => (sz P e).bind fun n => if 0 ≤ i ∧ i < (len : Int) then some (.val (.ptr b (o + i.toNat * n)) H) else none
    | _, _, _ => none
  | .index t x ix => (aev gl fr x).bind fun a => (aev gl fr ix).bind fun i => match und P t, a, i with
    | some (.array len e), .agg cs, .int _ i => (sz P e).bind fun n => if 0 ≤ i ∧ i < (len : Int) then (apart P e cs (i.toNat * n)).map fun v => .val v H else none
    | some .string, .str s, .int _ i => if 0 ≤ i then (s[i.toNat]?).map fun b => .val (.int .u8 (Int.ofNat b)) H else none
    | _, _, _ => none
  | .lookup t m k ok => (aev gl fr m).bind fun m => (aev gl fr k).bind fun k => (alookup P H t m k ok).map fun v => .val v H
  | .mapUpdate t m k x | .insert t m k x => (aev gl fr m).bind fun m => (aev gl fr k).bind fun k => (aev gl fr x).bind fun x => (amapPut P lim H t m k x).map fun H => .skip H
  | .range t x => (aev gl fr x).bind fun a => match und P t, a with
    | some .string, .str s => some (.val (.ptr H.next 0) (H.alloc (.iter s 0)))
    | _, _ => none
  | .extract x i => (aev gl fr x).bind fun a => match a with
    | .tup vs => (vs[i]?).map fun v => .val v H
    | _ => none
  | .call c => (aevs gl fr c.args.toList).bind fun args => match c.callee with
    | .builtin b => (abuiltin P lim H b c.argTypes.toList args).map fun (v, H) => .val v H
    | .value f => (aev gl fr f).bind fun f => match f with
      | .fn (.func f) first captured => if acallee P f then some (.enter f (first ++ args ++ captured) H) else none
      | _ => none
    | _ => none
  | _ => none

inductive AExit where
  | normal
  | exit (id : Nat)
  | ret

noncomputable def ayielded (ops : Array Oper) (fr : AFr) (j : Nat) : Option Bool :=
  match (ops[j]?).bind (·.dst) with
  | some t => match AFr.at fr t with
    | .bool b => some b
    | _ => none
  | none => none

noncomputable def aframe (vs : List AV) : Nat → T AV → T AV :=
  List.rec (motive := fun _ => Nat → T AV → T AV) (fun _ t => t) (fun v _ ih i t => ih (Nat.succ i) (T.set t i (some v))) vs

noncomputable def aresults (P : Program) (fr : AFr) (H : AHeap) : List ResultVar → Option (List AV)
  | [] => some []
  | .tmp t :: rs => (aresults P fr H rs).map (AFr.at fr t :: ·)
  | .cell a t :: rs => match AFr.at fr a with
    | .ptr b o => (aload P H t b o).bind fun v => (aresults P fr H rs).map (v :: ·)
    | _ => none

def aresult : List AV → AV
  | [v] => v
  | vs => .tup vs

abbrev ACall := Nat → FuncId → List AV → AHeap → Option (AV × AHeap)

/-- One operation, with the call that it may make. -/
noncomputable def astep (P : Program) (gl : Nat) (call : ACall) (ops : Array Oper) (lim : Nat) (o : Oper) (fr : AFr) (H : AHeap) : Option (AFr × AHeap) :=
  match Region.wanted o (ayielded ops fr) with
  | true => match aop P gl lim fr H o with
    | some (.val v H) => match AFr.put fr o.dst v with
      | some fr => some (fr, H)
      | none => none
    | some (.skip H) => match AFr.put fr o.dst aundef with
      | some fr => some (fr, H)
      | none => none
    | some (.enter f args H) => match call lim f args H with
      | some (v, H) => match AFr.put fr o.dst v with
        | some fr => some (fr, H)
        | none => none
      | none => none
    | none => none
  | false => match AFr.put fr o.dst aundef with
    | some fr => some (fr, H)
    | none => none

noncomputable def aops (P : Program) (gl : Nat) (call : ACall) (ops : Array Oper) (lim : Nat) (l : List Oper) : AFr → AHeap → Option (AFr × AHeap) :=
  List.rec (motive := fun _ => AFr → AHeap → Option (AFr × AHeap)) (fun fr H => some (fr, H)) (fun o _ ih fr H =>
    match astep P gl call ops lim o fr H with
    | some (fr, H) => ih fr H
    | none => none) l

/-- Operations that look at no memory. -/
def pureOp (o : Oper) : Bool :=
  match o.op with
  | .move _ | .assign _ | .pick .. | .binOp .. | .unOp .. | .makeInterface .. | .makeFunc .. | .fieldAddr .. | .field .. | .indexAddr .. | .index .. | .extract .. | .nilCheck _ | .build .. => true
  | _ => false

/-- Operations that turn nothing. -/
def lookOp (o : Oper) : Bool := pureOp o || match o.op with
  | .load .. | .slice .. => true
  | _ => false

/-- What an operation looks at: the temporaries among its operands, and its guard's. -/
def looks (ops : Array Oper) (o : Oper) : List Tmp :=
  (o.op.operands.toList.filterMap fun | .tmp t => some t | _ => none) ++
  (match o.guard with
   | some (g, _) => ((ops[g]?).bind (·.dst)).toList
   | none => [])

def isBefore (b : Array Nat) (i j : Nat) : Bool := (b.getD j 0).testBit i

/-- In a region that draws: operation j stands, in every order, ahead of or behind each other one that looks at memory. -/
def fixedOp (ops : Array Oper) (b : Array Nat) (j : Nat) (o : Oper) : Bool :=
  !pureOp o && (ops.toList.zipIdx.all fun (x, i) => i == j || pureOp x || (if i < j then isBefore b i j else isBefore b j i))

/-- Each temporary is written once, and whoever looks at it stands, in every order, where the text has him. -/
def drawOK (ops : Array Oper) (b : Array Nat) : Bool :=
  ops.toList.zipIdx.all fun (y, j) => (y.after.all fun e => !Region.binds .any e || e.on < j) && ops.toList.zipIdx.all fun (x, i) => j ≤ i ||
    ((match x.dst, y.dst with | some d, some e => d != e | _, _ => true) &&
     (match x.dst with | some d => !(looks ops y).contains d || isBefore b i j | none => true) &&
     (match y.dst with | some e => !(looks ops x).contains e || isBefore b i j | none => true))

def noSel (ops : Array Oper) : Bool := ops.all fun o => match o.op with | .select .. | .go _ | .defer _ => false | _ => true

noncomputable def aopsD (P : Program) (gl : Nat) (call : ACall) (ops : Array Oper) (b : Array Nat) (lim : Nat) (l : List Oper) : Nat → AFr → AHeap → Option (AFr × AHeap) :=
  List.rec (motive := fun _ => Nat → AFr → AHeap → Option (AFr × AHeap)) (fun _ fr H => some (fr, H)) (fun o _ ih j fr H =>
    match astep P gl call ops (match fixedOp ops b j o with | true => lim | false => H.next) o fr H with
    | some (fr, H) => ih (Nat.succ j) fr H
    | none => none) l

/-- Operations of a region that draws that may look at what the region does not turn: a load; a part of a text. -/
def calmOp (P : Program) (o : Oper) : Bool :=
  match o.op with
  | .load _ (.tmp _) => true
  | .slice t _ _ _ _ => match und P t with
    | some .string => true
    | _ => false
  | _ => false
def prC (P : Program) (o : Oper) : Bool := pureOp o || calmOp P o
def writer (o : Oper) : Bool :=
  match o.op with
  | .store .. => true
  | .call c => match c.callee with
    | .builtin .append => true
    | _ => false
  | _ => false
def fixedC (P : Program) (ops : Array Oper) (b : Array Nat) (j : Nat) (o : Oper) : Bool :=
  writer o && (ops.toList.zipIdx.all fun (x, i) => i == j || prC P x || (if i < j then isBefore b i j else isBefore b j i))
/-- Fixed among those that are not calm; or fixed against all, loads too (a call behind all others, say). -/
def fixedF (P : Program) (ops : Array Oper) (b : Array Nat) (j : Nat) (o : Oper) : Bool := fixedC P ops b j o || (!prC P o && fixedOp ops b j o)
def calmReg (P : Program) (ops : Array Oper) : Bool :=
  ops.toList.zipIdx.any fun (o, j) => writer o && (fixedC P ops (Region.before ops) j o && !fixedOp ops (Region.before ops) j o)
/-- An address of a field counts where a load, or a further address, is led by it. -/
def calmL (l : List Oper) : List Oper := l.filter fun o => match o.op with
  | .load .. => true
  | .fieldAddr .. => match o.dst with
    | some d => l.any fun p => match p.op with
      | .load _ (.tmp a) => Nat.beq a d
      | .fieldAddr _ (.tmp a) _ => Nat.beq a d
      | _ => false
    | none => false
  | _ => false
/-- The blocks at which such loads may look: those to which addresses lead that are there already. -/
noncomputable def calmBs (fr : AFr) (n : Nat) : List Oper → List Nat
  | [] => []
  | o :: os => match (match o.op with
      | .load _ (.tmp a) => AFr.at fr a
      | .fieldAddr _ (.tmp a) _ => AFr.at fr a
      | _ => .nilptr) with
    | .ptr b _ => match Nat.blt b n with
      | true => b :: calmBs fr n os
      | false => calmBs fr n os
    | _ => calmBs fr n os
def notIn (b : Nat) : List Nat → Bool
  | [] => true
  | x :: xs => match Nat.beq b x with
    | true => false
    | false => notIn b xs
/-- Does a load look at one of them? -/
noncomputable def calmIn (fr : AFr) (bs : List Nat) (o : Oper) : Bool :=
  match o.op with
  | .load _ (.tmp a) => match AFr.at fr a with
    | .ptr b _ => !notIn b bs
    | _ => true
  | _ => true
/-- Does a writer leave these blocks alone? -/
noncomputable def spare (gl : Nat) (fr : AFr) (bs : List Nat) (o : Oper) : Bool :=
  match o.op with
  | .store _ a _ => match aev gl fr a with
    | some (.ptr b _) => notIn b bs
    | _ => false
  | .call c => match c.callee, c.args.toList with
    | .builtin .append, s :: _ => match aev gl fr s with
      | some (.sl b _ _ _) => notIn b bs
      | some .nilsl => true
      | _ => false
    | _, _ => true
  | _ => true
mutual
/-- No memory in it. -/
def AV.flat : AV → Bool
  | .bool _ | .int .. | .sint .. | .str _ | .nilptr | .nilsl | .nilmap | .nilfn | .nilif => true
  | .iface _ v => v.flat
  | .agg l | .tup l => AV.flats l
  | _ => false
def AV.flats : List AV → Bool
  | [] => true
  | a :: l => match a.flat with
    | true => AV.flats l
    | false => false
end
noncomputable def calmDst (P : Program) (fr : AFr) (o : Oper) : Bool :=
  match calmOp P o, o.dst with
  | true, some d => (AFr.at fr d).flat
  | _, _ => true
noncomputable def aopsC (P : Program) (gl : Nat) (call : ACall) (ops : Array Oper) (b : Array Nat) (bs : List Nat) (lim : Nat) (l : List Oper) : Nat → AFr → AHeap → Option (AFr × AHeap) :=
  List.rec (motive := fun _ => Nat → AFr → AHeap → Option (AFr × AHeap)) (fun _ fr H => some (fr, H)) (fun o _ ih j fr H =>
    match spare gl fr bs o && calmIn fr bs o with
    | true => match astep P gl call ops (match fixedF P ops b j o with | true => lim | false => H.next) o fr H with
      | some (fr, H) => match calmDst P fr o with
        | true => ih (Nat.succ j) fr H
        | false => none
      | none => none
    | false => none) l

noncomputable def aregion (P : Program) (gl : Nat) (call : ACall) (ops : Array Oper) (draw : Bool) (lim : Nat) (fr : AFr) (H : AHeap) : Option (AFr × AHeap) :=
  match draw with
  | false => aops P gl call ops lim ops.toList fr H
  | true => match drawOK ops (Region.before ops) && noSel ops with
    | true => match calmReg P ops with
      | false => aopsD P gl call ops (Region.before ops) lim ops.toList 0 fr H
      | true => aopsC P gl call ops (Region.before ops) (calmBs fr H.next (calmL ops.toList)) lim ops.toList 0 fr H
    | false => none

/-- A call of a function: as 'orc' says; else through its body. -/
noncomputable def acall (P : Program) (orc : ACall) (ex : Nat → Code → AFr → AHeap → Option (AExit × AFr × AHeap)) (lim : Nat) (f : FuncId) (args : List AV) (H : AHeap) : Option (AV × AHeap) :=
  match orc lim f args H with
  | some r => some r
  | none => match P.funcs[f]? with
    | none => none
    | some fn => match fn.body with
      | none => none
      | some c => match ex lim c ⟨Nat.max fn.ntmps args.length, aframe args 0 .leaf⟩ H with
        | some (.exit _, _, _) => none
        | some (_, fr, H) => match aresults P fr H fn.results.toList with
          | some vs => some (aresult vs, H)
          | none => none
        | none => none

noncomputable def exec (P : Program) (gl : Nat) (orc : ACall) (n : Nat) : Nat → Code → AFr → AHeap → Option (AExit × AFr × AHeap) :=
  Nat.rec (motive := fun _ => Nat → Code → AFr → AHeap → Option (AExit × AFr × AHeap)) (fun _ _ _ _ => none) (fun _ ih lim c fr H =>
    match c with
    | .skip => some (.normal, fr, H)
    | .label _ => some (.normal, fr, H)
    | .region _ ops draw => match aregion P gl (acall P orc ih) ops draw lim fr H with
      | some (fr, H) => some (.normal, fr, H)
      | none => none
    | .seq a b => match ih lim a fr H with
      | some (.normal, fr, H) => ih lim b fr H
      | r => r
    | .cond c x y => match aev gl fr c with
      | some (.bool true) => ih lim x fr H
      | some (.bool false) => ih lim y fr H
      | _ => none
    | .block id c => match ih lim c fr H with
      | some (.exit id', fr, H) => match Nat.beq id' id with
        | true => some (.normal, fr, H)
        | false => some (.exit id', fr, H)
      | r => r
    | .loop c => match ih lim c fr H with
      | some (.normal, fr, H) => ih lim (.loop c) fr H
      | r => r
    | .exit id => some (.exit id, fr, H)
    | .scope c => ih lim c fr H
    | .ret => some (.ret, fr, H)
    | _ => none) n

noncomputable def run (P : Program) (gl : Nat) (orc : ACall) (n : Nat) (f : FuncId) (args : List AV) (H : AHeap) : Option (AV × AHeap) := acall P orc (exec P gl orc n) H.next f args H

def noOrc : ACall := fun _ _ _ _ => none

end Go.Proofs.YtoehlmiadiiimaaGreatDoor.Ex
