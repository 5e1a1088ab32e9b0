/-
  An executor over the model's code, for the kernel: operations made ready ahead.
-/
import Derived.Test.YtklenhohljeacaaDoorExK
namespace Go.Proofs.YtklenhohljeacaaDoor.Ex
open Go

/-- An operand, made ready. -/
inductive Sr where
  | tmp (n : Nat)
  | val (v : AV)
  | bad
def srOf (gl : Nat) : Operand → Sr
  | .tmp t => .tmp t
  | .const v => match ofV v with
    | some a => .val a
    | none => .bad
  | .global g => match Nat.ble (Nat.succ g) gl with
    | true => .val (.ptr g 0)
    | false => .bad
  | .func f => .val (.fn (.func f) [] [])
noncomputable def atK (fr : AFr) (t : Nat) : AV := Option.rec (motive := fun _ => AV) aundef (fun v => v) (T.get fr.t t)
theorem atK_eq (fr : AFr) (t : Nat) : atK fr t = AFr.at fr t := by unfold atK AFr.at; cases T.get fr.t t <;> rfl
noncomputable def srGet (s : Sr) (fr : AFr) : Option AV := Sr.rec (motive := fun _ => Option AV) (fun n => some (atK fr n)) (fun v => some v) none s
theorem srGet_eq (gl : Nat) (o : Operand) (fr : AFr) : srGet (srOf gl o) fr = aev gl fr o := by
  cases o with
  | tmp t => exact congrArg some (atK_eq fr t)
  | const v => unfold srOf aev; simp only; cases ofV v <;> rfl
  | global g => unfold srOf aev; simp only; cases Nat.ble (Nat.succ g) gl <;> rfl
  | func f => rfl
noncomputable def srGets (fr : AFr) (l : List Sr) : Option (List AV) := List.rec (motive := fun _ => Option (List AV)) (some []) (fun s _ ih => obind (srGet s fr) fun v => obind ih fun vs => some (v :: vs)) l
theorem srGets_eq (gl : Nat) (fr : AFr) : ∀ (l : List Operand), srGets fr (l.map (srOf gl)) = aevs gl fr l
  | [] => rfl
  | o :: l => by
    have ih := srGets_eq gl fr l
    show obind (srGet (srOf gl o) fr) (fun v => obind (srGets fr (l.map (srOf gl))) fun vs => some (v :: vs)) = _
    rw [ih, srGet_eq, obind_eq, show aevs gl fr (o :: l) = (aev gl fr o).bind fun v => (aevs gl fr l).map (v :: ·) from rfl]
    congr 1
    funext v
    rw [obind_eq]
    cases aevs gl fr l <;> rfl

variable [Dec]

def onInt {β : Type} (x : AV) (f : IntKind → Int → β) (g : β) : β := AV.casesOn (motive_1 := fun _ => β) x (fun _ => g) f (fun _ _ => g) (fun _ => g) (fun _ _ => g) g (fun _ _ _ _ => g) g (fun _ => g) g (fun _ _ _ => g) g (fun _ _ => g) g (fun _ => g) (fun _ => g)

noncomputable def ck (c : Bool) (z : Option AV) : Option AV := Bool.rec (motive := fun _ => Option AV) none z c
omit [Dec] in
theorem ck_eq (k k' : IntKind) (z : Option AV) : ck (kbeq k k') z = if k ≠ k' then none else z := by
  rw [kbeq_eq]
  by_cases h : k = k'
  · subst h; simp [ck]
  · simp [h, ck]
noncomputable def nk (c : Bool) (z : Option AV) : Option AV := Bool.rec (motive := fun _ => Option AV) z none c
noncomputable def notK (c : Bool) : Bool := Bool.rec (motive := fun _ => Bool) true false c
omit [Dec] in
theorem notK_eq (c : Bool) : notK c = !c := by cases c <;> rfl
noncomputable def ibinK (op : BinOp) (k : IntKind) (a : Int) (k' : IntKind) (b : Int) : Option AV :=
  BinOp.rec (motive := fun _ => Option AV)
    (ck (kbeq k k') (some (.int k (wrapK k (iadd a b)))))
    (ck (kbeq k k') (some (.int k (wrapK k (isub a b)))))
    (ck (kbeq k k') (some (.int k (wrapK k (imul a b)))))
    (ck (kbeq k k') (nk (ieqb b (.ofNat (nat_lit 0))) (some (.int k (iquo k a b)))))
    (ck (kbeq k k') (nk (ieqb b (.ofNat (nat_lit 0))) (some (.int k (irem a b)))))
    (ck (kbeq k k') (some (.int k (iand k a b))))
    (ck (kbeq k k') (some (.int k (ior k a b))))
    (ck (kbeq k k') (some (.int k (ixor k a b))))
    (nk (iltb b (.ofNat (nat_lit 0))) (some (.int k (ishl k a b))))
    (nk (iltb b (.ofNat (nat_lit 0))) (some (.int k (ishr k a b))))
    (abin .andNot (.int k a) (.int k' b))
    (ck (kbeq k k') (some (.bool (ieqb a b))))
    (ck (kbeq k k') (some (.bool (notK (ieqb a b)))))
    (ck (kbeq k k') (some (.bool (iltb a b))))
    (ck (kbeq k k') (some (.bool (notK (iltb b a)))))
    (ck (kbeq k k') (some (.bool (iltb b a))))
    (ck (kbeq k k') (some (.bool (notK (iltb a b)))))
    op
omit [Dec] in
theorem nk_lt (b : Int) (z : Option AV) : nk (iltb b (.ofNat 0)) z = if b < 0 then none else z := by
  rw [iltb_eq]
  by_cases h : b < 0
  · rw [if_pos h]; have e : decide (b < Int.ofNat 0) = true := decide_eq_true h; rw [e]; rfl
  · rw [if_neg h]; have e : decide (b < Int.ofNat 0) = false := decide_eq_false h; rw [e]; rfl
omit [Dec] in
theorem nk_eq (b : Int) (z : Option AV) : nk (ieqb b (.ofNat 0)) z = if b = 0 then none else z := by
  rw [ieqb_eq]
  by_cases h : b = 0
  · subst h; rfl
  · rw [if_neg h]; have e : (b == Int.ofNat 0) = false := by simpa using h
    rw [e]; rfl
omit [Dec] in
theorem not_le_lt (a b : Int) : (!decide (b < a)) = decide (a ≤ b) := by
  by_cases h : b < a
  · simp [h]
  · simp [h]; omega
omit [Dec] in
theorem not_le_lt' (a b : Int) : (!decide (a < b)) = decide (b ≤ a) := not_le_lt b a
omit [Dec] in
theorem ne_not (a b : Int) : (!(a == b)) = (a != b) := rfl
omit [Dec] in
theorem ibinK_eq (op : BinOp) (k : IntKind) (a : Int) (k' : IntKind) (b : Int) : ibinK op k a k' b = abin op (.int k a) (.int k' b) := by
  cases op
  case add => show ck (kbeq k k') (some (.int k (wrapK k (iadd a b)))) = _; rw [ck_eq, wrapK_eq, iadd_eq]; rfl
  case sub => show ck (kbeq k k') (some (.int k (wrapK k (isub a b)))) = _; rw [ck_eq, wrapK_eq, isub_eq]; rfl
  case mul => show ck (kbeq k k') (some (.int k (wrapK k (imul a b)))) = _; rw [ck_eq, wrapK_eq, imul_eq]; rfl
  case quo => show ck (kbeq k k') (nk (ieqb b (.ofNat 0)) (some (.int k (iquo k a b)))) = _; rw [ck_eq, nk_eq, iquo_eq]; rfl
  case rem => show ck (kbeq k k') (nk (ieqb b (.ofNat 0)) (some (.int k (irem a b)))) = _; rw [ck_eq, nk_eq, irem_eq]; rfl
  case and => show ck (kbeq k k') (some (.int k (iand k a b))) = _; rw [ck_eq, iand_eq]; rfl
  case or => show ck (kbeq k k') (some (.int k (ior k a b))) = _; rw [ck_eq, ior_eq]; rfl
  case xor => show ck (kbeq k k') (some (.int k (ixor k a b))) = _; rw [ck_eq, ixor_eq]; rfl
  case shl => show nk (iltb b (.ofNat 0)) (some (.int k (ishl k a b))) = _; rw [nk_lt, ishl_eq]; rfl
  case shr => show nk (iltb b (.ofNat 0)) (some (.int k (ishr k a b))) = _; rw [nk_lt, ishr_eq]; rfl
  case andNot => rfl
  case eql => show ck (kbeq k k') (some (.bool (ieqb a b))) = _; rw [ck_eq, ieqb_eq]; rfl
  case neq => show ck (kbeq k k') (some (.bool (notK (ieqb a b)))) = _; rw [ck_eq, notK_eq, ieqb_eq]; rfl
  case lss => show ck (kbeq k k') (some (.bool (iltb a b))) = _; rw [ck_eq, iltb_eq]; rfl
  case leq => show ck (kbeq k k') (some (.bool (notK (iltb b a)))) = _; rw [ck_eq, notK_eq, iltb_eq, not_le_lt]; rfl
  case gtr => show ck (kbeq k k') (some (.bool (iltb b a))) = _; rw [ck_eq, iltb_eq]; rfl
  case geq => show ck (kbeq k k') (some (.bool (notK (iltb a b)))) = _; rw [ck_eq, notK_eq, iltb_eq, not_le_lt']; rfl

def binK (x y : AV) (z : Option AV) (w : IntKind → Int → IntKind → Int → Option AV) : Option AV := onInt x (fun k a => onInt y (fun k' b => w k a k' b) z) z
theorem binK_eq (P : Program) (op : BinOp) (t : TypeId) (x y : AV) : binK x y (abinS P op t x y) (ibinK op) = abinS P op t x y := by
  cases x <;> try rfl
  cases y <;> try rfl
  exact ibinK_eq _ _ _ _ _

/-- Operations, made ready. -/
inductive Ix where
  | mv (d : Option Nat) (x : Sr)
  | bin (d : Option Nat) (op : BinOp) (t : TypeId) (x y : Sr)
  | cvt (d : Option Nat) (s t : TypeId) (k : IntKind) (x : Sr)
  | ld (d : Option Nat) (x : Sr)
  | ldN (d : Option Nat) (n : Nat) (x : Sr)
  | st (d : Option Nat) (n : Nat) (a x : Sr)
  | fa (d : Option Nat) (off : Nat) (x : Sr)
  | fl (d : Option Nat) (off : Nat) (x : Sr)
  | flN (d : Option Nat) (off n : Nat) (x : Sr)
  | iaA (d : Option Nat) (len n : Nat) (x i : Sr)
  | iaS (d : Option Nat) (n : Nat) (x i : Sr)
  | ext (d : Option Nat) (i : Nat) (x : Sr)
  | call (d : Option Nat) (f : FuncId) (xs : List Sr)
  | bld (d : Option Nat) (ss : List Nat) (xs : List Sr)
  | bls (d : Option Nat) (ss : List Nat) (len : Nat) (e : TypeId) (xs : List Sr)
  | slow (o : Oper)

def cover (place : Nat → Option (Nat × Nat)) : List Nat → Nat → Option (List Nat × Nat)
  | [], off => some ([], off)
  | i :: is, off => match place i with
    | some (o, s) => if o = off then (cover place is (off + s)).map fun (ss, e) => (s :: ss, e) else none
    | none => none

def compOp (P : Program) (gl : Nat) (o : Oper) : Ix :=
  match o.guard with
  | some _ => .slow o
  | none => match o.op with
    | .move x | .assign x => .mv o.dst (srOf gl x)
    | .binOp op t x y _ => .bin o.dst op t (srOf gl x) (srOf gl y)
    | .convert s d x => match und P s, und P d with
      | some _, some (.int k) => .cvt o.dst s d k (srOf gl x)
      | _, _ => .slow o
    | .load t a => match agg? P t with
      | some false => .ld o.dst (srOf gl a)
      | some true => match sz P t with
        | some n => .ldN o.dst n (srOf gl a)
        | none => .slow o
      | none => .slow o
    | .store t a x => match sz P t with
      | some n => .st o.dst n (srOf gl a) (srOf gl x)
      | none => .slow o
    | .fieldAddr t x f => match und P t with
      | some (.struct fs) => match fs[f]? with
        | some f => match sz P f.type with
          | some n => if n = 0 then .slow o else .fa o.dst f.offset (srOf gl x)
          | none => .slow o
        | none => .slow o
      | _ => .slow o
    | .field t x f => match und P t with
      | some (.struct fs) => match fs[f]? with
        | some f => match agg? P f.type with
          | some false => .fl o.dst f.offset (srOf gl x)
          | some true => match sz P f.type with
            | some n => .flN o.dst f.offset n (srOf gl x)
            | none => .slow o
          | none => .slow o
        | none => .slow o
      | _ => .slow o
    | .indexAddr t x i => match und P t with
      | some (.array len e) => match sz P e with
        | some n => .iaA o.dst len n (srOf gl x) (srOf gl i)
        | none => .slow o
      | some (.slice e) => match sz P e with
        | some n => .iaS o.dst n (srOf gl x) (srOf gl i)
        | none => .slow o
      | _ => .slow o
    | .extract x i => .ext o.dst i (srOf gl x)
    | .call c => match c.callee with
      | .value (.func f) => if acallee P f then .call o.dst f (c.args.toList.map (srOf gl)) else .slow o
      | _ => .slow o
    | .build t parts => match zero P t, und P t with
      | some z, some (.struct fs) => if fs.all (fun f => (sz P f.type).isSome) = true then match cover (aplaces P fs) (parts.toList.map (·.1)) 0 with
          | some (ss, e) => if e = z.cells.length then .bld o.dst ss ((parts.toList.map (·.2)).map (srOf gl)) else .slow o
          | none => .slow o
        else .slow o
      | some z, some (.array _ e) => match sz P e with
        | some n => match cover (fun i => some (i * n, n)) (parts.toList.map (·.1)) 0 with
          | some (ss, e) => if e = z.cells.length then .bld o.dst ss ((parts.toList.map (·.2)).map (srOf gl)) else .slow o
          | none => .slow o
        | none => .slow o
      | _, _ => .slow o
    | .buildSlice t len parts => match und P t with
      | some (.slice e) => match sz P e, zero P e with
        | some n, some z => if z.cells.length = n ∧ len * n ≤ 16777216 then match cover (fun i => some (i * n, n)) (parts.toList.map (·.1)) 0 with
            | some (ss, m) => if m = len * n then .bls o.dst ss len e ((parts.toList.map (·.2)).map (srOf gl)) else .slow o
            | none => .slow o
          else .slow o
        | _, _ => .slow o
      | _ => .slow o
    | _ => .slow o

noncomputable def putK (fr : AFr) (d : Option Nat) (v : AV) (H : AHeap) : Option (AFr × AHeap) :=
  Option.rec (motive := fun _ => Option (AFr × AHeap)) (some (fr, H)) (fun d => Bool.rec (motive := fun _ => Option (AFr × AHeap)) none (some (⟨fr.n, T.set fr.t d (some v)⟩, H)) (Nat.ble (Nat.succ d) fr.n)) d
omit [Dec] in
theorem putK_eq (fr : AFr) (d : Option Nat) (v : AV) (H : AHeap) : putK fr d v H = match AFr.put fr d v with | some fr => some (fr, H) | none => none := by
  cases d with
  | none => rfl
  | some d => unfold AFr.put; simp only; show Bool.rec (motive := fun _ => Option (AFr × AHeap)) _ _ _ = _; cases Nat.ble (Nat.succ d) fr.n <;> rfl

def onPtr {β : Type} (x : AV) (f : Nat → Nat → β) (g : β) : β := match x with | .ptr b o => f b o | _ => g
def onAgg {β : Type} (x : AV) (f : List AV → β) (g : β) : β := match x with | .agg l => f l | _ => g
noncomputable def nthK (l : List AV) (n : Nat) : Option AV := List.rec (motive := fun _ => Nat → Option AV) (fun _ => none) (fun a _ ih n => Bool.rec (motive := fun _ => Option AV) (ih (Nat.pred n)) (some a) (Nat.beq n (nat_lit 0))) l n
omit [Dec] in
theorem nthK_eq : ∀ (l : List AV) (n : Nat), nthK l n = l[n]?
  | [], n => rfl
  | a :: l, n => by
    show Bool.rec (motive := fun _ => Option AV) (nthK l (Nat.pred n)) (some a) (Nat.beq n 0) = _
    rw [nthK_eq l]
    cases n <;> rfl
noncomputable def appK (l m : List AV) : List AV := List.rec (motive := fun _ => List AV) m (fun a _ ih => a :: ih) l
omit [Dec] in
theorem appK_eq : ∀ (l m : List AV), appK l m = l ++ m
  | [], _ => rfl
  | a :: l, m => congrArg (a :: ·) (appK_eq l m)
noncomputable def lenK (l : List AV) : Nat := List.rec (motive := fun _ => Nat) (nat_lit 0) (fun _ _ ih => Nat.succ ih) l
omit [Dec] in
theorem lenK_eq : ∀ (l : List AV), lenK l = l.length
  | [] => rfl
  | _ :: l => congrArg Nat.succ (lenK_eq l)
noncomputable def catK (ss : List Nat) (vs : List AV) : Option (List AV) :=
  List.rec (motive := fun _ => List Nat → Option (List AV)) (fun _ => some []) (fun v _ ih ss => List.rec (motive := fun _ => Option (List AV)) none (fun s ss _ => Bool.rec (motive := fun _ => Option (List AV)) none (obind (ih ss) fun r => some (appK v.cells r)) (Nat.beq (lenK v.cells) s)) ss) vs ss

noncomputable def xLd (fr : AFr) (H : AHeap) (d : Option Nat) (b o : Nat) : Option (AFr × AHeap) :=
  obind (H.get b) fun x => match x with
    | .cells c _ _ => obind (nthK c o) fun v => putK fr d v H
    | _ => none
noncomputable def xLdN (fr : AFr) (H : AHeap) (d : Option Nat) (n b o : Nat) : Option (AFr × AHeap) :=
  obind (H.get b) fun x => match x with
    | .cells c _ _ => if o + n ≤ c.length then putK fr d (.agg ((c.drop o).take n)) H else none
    | _ => none
noncomputable def xSt (lim : Nat) (fr : AFr) (H : AHeap) (d : Option Nat) (n : Nat) (v : AV) (b o : Nat) : Option (AFr × AHeap) :=
  Bool.rec (motive := fun _ => Option (AFr × AHeap)) none (obind (awrite H lim b o v.cells) fun H => putK fr d aundef H) (Nat.beq (lenK v.cells) n)
noncomputable def xIaS (fr : AFr) (H : AHeap) (d : Option Nat) (n b o len : Nat) (i : Int) : Option (AFr × AHeap) :=
  Int.rec (motive := fun _ => Option (AFr × AHeap)) (fun i => Bool.rec (motive := fun _ => Option (AFr × AHeap)) none (putK fr d (.ptr b (Nat.add o (Nat.mul i n))) H) (Nat.ble (Nat.succ i) len)) (fun _ => none) i

noncomputable def cstep (P : Program) (gl : Nat) (call : ACall) (ops : Array Oper) (lim : Nat) (i : Ix) (fr : AFr) (H : AHeap) : Option (AFr × AHeap) :=
  Ix.rec (motive := fun _ => Option (AFr × AHeap))
    (fun d x => obind (srGet x fr) fun v => putK fr d v H)
    (fun d op t x y => obind (srGet x fr) fun a => obind (srGet y fr) fun b => obind (binK a b (abinS P op t a b) (ibinK op)) fun v => putK fr d v H)
    (fun d s t k x => obind (srGet x fr) fun a => onInt a (fun _ n => putK fr d (.int k (wrapK k n)) H) (obind (aconvS P H s t a) fun r => putK fr d r.1 r.2))
    (fun d x => obind (srGet x fr) fun a => onPtr a (xLd fr H d) none)
    (fun d n x => obind (srGet x fr) fun a => onPtr a (xLdN fr H d n) none)
    (fun d n a x => obind (srGet a fr) fun a => obind (srGet x fr) fun v => onPtr a (xSt lim fr H d n v) none)
    (fun d off x => obind (srGet x fr) fun a => onPtr a (fun b o => putK fr d (.ptr b (Nat.add o off)) H) none)
    (fun d off x => obind (srGet x fr) fun a => onAgg a (fun cs => obind (nthK cs off) fun v => putK fr d v H) none)
    (fun d off n x => obind (srGet x fr) fun a => onAgg a (fun cs => putK fr d (.agg ((cs.drop off).take n)) H) none)
    (fun d len n x i => obind (srGet x fr) fun a => obind (srGet i fr) fun i => onPtr a (fun b o => onInt i (fun _ i => xIaS fr H d n b o len i) none) none)
    (fun d n x i => obind (srGet x fr) fun a => obind (srGet i fr) fun i => match a with
      | .sl b o len _ => onInt i (fun _ i => xIaS fr H d n b o len i) none
      | _ => none)
    (fun d i x => obind (srGet x fr) fun a => match a with
      | .tup vs => obind (nthK vs i) fun v => putK fr d v H
      | _ => none)
    (fun d f xs => obind (srGets fr xs) fun args => obind (call lim f args H) fun r => putK fr d r.1 r.2)
    (fun d ss xs => obind (srGets fr xs) fun vs => obind (catK ss vs) fun cs => putK fr d (.agg cs) H)
    (fun d ss len e xs => obind (srGets fr xs) fun vs => obind (catK ss vs) fun cs => putK fr d (.sl H.next 0 len len) (H.alloc (.cells cs e true)))
    (fun o => astep P gl call ops lim o fr H)
    i

omit [Dec] in
theorem onPtr_eq {β : Type} (x : AV) (f : Nat → Nat → β) (g : β) : onPtr x f g = match x with | .ptr b o => f b o | _ => g := rfl
omit [Dec] in
theorem lenK_beq (v : AV) (n : Nat) : Nat.beq (lenK v.cells) n = decide (v.cells.length = n) := by rw [lenK_eq, nat_beq]

/-- What is done with an operation's outcome. -/
noncomputable def fin (call : ACall) (lim : Nat) (fr : AFr) (d : Option Nat) (r : Option Res) : Option (AFr × AHeap) :=
  match r with
  | some (.val v H) => putK fr d v H
  | some (.skip H) => putK fr d aundef H
  | some (.enter f args H) => match call lim f args H with
    | some (v, H) => putK fr d v H
    | none => none
  | none => none

section
variable {P : Program} {gl : Nat} {call : ACall} {ops : Array Oper} {lim : Nat} {o : Oper} {fr : AFr} {H : AHeap}
theorem astep_wanted (h : o.guard = none) : astep P gl call ops lim o fr H = fin call lim fr o.dst (aop P gl lim fr H o) := by
  unfold astep
  rw [show Region.wanted o (ayielded ops fr) = true from by unfold Region.wanted; rw [h]]
  simp only
  cases aop P gl lim fr H o with
  | none => rfl
  | some r => cases r with
    | val v H' => exact (putK_eq _ _ _ _).symm
    | skip H' => exact (putK_eq _ _ _ _).symm
    | enter f args H' =>
      show (match call lim f args H' with | some (v, H) => _ | none => none) = fin call lim fr o.dst (some (.enter f args H'))
      unfold fin
      simp only
      cases call lim f args H' with
      | none => rfl
      | some r => exact (putK_eq _ _ _ _).symm

omit [Dec] in
theorem xIaS_eq (d : Option Nat) (n b o' len : Nat) (i : Int) : xIaS fr H d n b o' len i = if 0 ≤ i ∧ i < (len : Int) then putK fr d (.ptr b (o' + i.toNat * n)) H else none := by
  cases i with
  | ofNat i =>
    show Bool.rec (motive := fun _ => Option (AFr × AHeap)) none _ (Nat.ble (Nat.succ i) len) = _
    rw [nat_ble]
    by_cases h : Nat.succ i ≤ len
    · rw [decide_eq_true h, if_pos ⟨by simp, by simp; omega⟩]; rfl
    · rw [decide_eq_false h, if_neg (by simp; omega)]
  | negSucc i =>
    rw [if_neg (by intro h; have := h.1; rw [Int.negSucc_eq] at this; omega)]
    rfl

omit [Dec] in
theorem afill_cover {place : Nat → Option (Nat × Nat)} : ∀ (is : List Nat) (off : Nat) (ss : List Nat) (e : Nat) (vs pre suf : List AV), cover place is off = some (ss, e) → vs.length = is.length → pre.length = off → off + suf.length = e →
    afill place (pre ++ suf) (is.zip vs) = (catK ss vs).map (pre ++ ·)
  | [], off, ss, e, vs, pre, suf, hc, hv, hp, hs => by
    simp only [cover, Option.some.injEq, Prod.mk.injEq] at hc
    obtain ⟨rfl, rfl⟩ := hc
    have : suf = [] := List.length_eq_zero_iff.1 (by omega)
    subst this
    have : vs = [] := List.length_eq_zero_iff.1 (by simpa using hv)
    subst this
    simp [afill, catK]
  | i :: is, off, ss, e, [], pre, suf, hc, hv, hp, hs => by simp at hv
  | i :: is, off, ss, e, v :: vs, pre, suf, hc, hv, hp, hs => by
    unfold cover at hc
    split at hc
    · rename_i o s hi
      split at hc
      · rename_i ho
        rw [Option.map_eq_some_iff] at hc
        obtain ⟨⟨ss', e'⟩, hc, he⟩ := hc
        simp only [Prod.mk.injEq] at he
        obtain ⟨rfl, rfl⟩ := he
        subst ho
        subst hp
        rw [List.zip_cons_cons, afill, hi]
        simp only
        show _ = (Bool.rec (motive := fun _ => Option (List AV)) none (obind (catK ss' vs) fun r => some (appK v.cells r)) (Nat.beq (lenK v.cells) s)).map (pre ++ ·)
        rw [lenK_beq]
        by_cases hl : v.cells.length = s
        · have hge : ∀ (is : List Nat) (off : Nat) (ss : List Nat) (e : Nat), cover place is off = some (ss, e) → off ≤ e := by
            intro is
            induction is with
            | nil => intro off ss e h; simp [cover] at h; omega
            | cons i is ih =>
              intro off ss e h
              unfold cover at h
              split at h
              · split at h
                · rw [Option.map_eq_some_iff] at h
                  obtain ⟨⟨a, b⟩, h, hh⟩ := h
                  simp only [Prod.mk.injEq] at hh
                  have := ih _ _ _ h
                  omega
                · cases h
              · cases h
          have hle := hge _ _ _ _ hc
          rw [if_pos ⟨hl, by simp; omega⟩, decide_eq_true hl]
          have hsp : splice (pre ++ suf) pre.length v.cells = (pre ++ v.cells) ++ suf.drop s := by
            unfold splice
            rw [List.take_left', List.drop_append, List.drop_eq_nil_of_le (by omega)]
            · simp [← hl]
            · rfl
          rw [hsp, afill_cover is (pre.length + s) ss' e' vs (pre ++ v.cells) (suf.drop s) hc (by simpa using hv) (by simp; omega) (by simp; omega)]
          simp only
          rw [obind_eq]
          cases catK ss' vs with
          | none => rfl
          | some r => simp [appK_eq]
        · rw [if_neg (fun h => hl h.1), decide_eq_false hl]
          rfl
      · cases hc
    · cases hc
omit [Dec] in
theorem afill_zero {place : Nat → Option (Nat × Nat)} {is : List Nat} {ss : List Nat} {vs z : List AV} (hc : cover place is 0 = some (ss, z.length)) (hv : vs.length = is.length) : afill place z (is.zip vs) = catK ss vs := by
  have h := afill_cover is 0 ss z.length vs [] z hc hv rfl (by omega)
  rw [List.nil_append] at h
  rw [h]
  cases catK ss vs <;> simp

omit [Dec] in
theorem aevs_length : ∀ {l : List Operand} {vs : List AV}, aevs gl fr l = some vs → vs.length = l.length
  | [], vs, h => by simp [aevs] at h; subst h; rfl
  | o :: l, vs, h => by
    unfold aevs at h
    rw [Option.bind_eq_some_iff] at h
    obtain ⟨v, -, h⟩ := h
    rw [Option.map_eq_some_iff] at h
    obtain ⟨us, h, rfl⟩ := h
    simp [aevs_length h]

omit [Dec] in
theorem azeros_length (z : List AV) : ∀ n, (azeros z n).length = n * z.length
  | 0 => by simp [azeros]
  | n + 1 => by simp [azeros, azeros_length z n, Nat.succ_mul]; omega
end
end Go.Proofs.YtklenhohljeacaaDoor.Ex
