/-
  An executor over the model's code: how its values and its heap stand for the model's.
-/
import Derived.Test.YtoehlmiadiiimaaGreatDoorExDef
import Derived.Laws.Cells
import Derived.Laws.IdiomCopy
import Derived.Below
namespace Go.Proofs.YtoehlmiadiiimaaGreatDoor.Ex
open Go

section tree
variable {α : Type}
theorem T.get_leaf (n : Nat) : T.get (.leaf : T α) n = none := rfl
theorem T.get_node (l : T α) (v : Option α) (r : T α) (n : Nat) :
    T.get (.node l v r) n = if n = 0 then v else if n % 2 = 1 then T.get l (n / 2) else T.get r (n / 2 - 1) := by
  show Bool.rec (motive := fun _ => Option α) (Bool.rec (motive := fun _ => Option α) (T.get r (Nat.pred (n / 2))) (T.get l (n / 2)) (Nat.beq (n % 2) 1)) v (Nat.beq n 0) = _
  by_cases h0 : n = 0
  · subst h0; rfl
  · have e0 : Nat.beq n 0 = false := by cases h : Nat.beq n 0 with | false => rfl | true => exact absurd (Nat.eq_of_beq_eq_true h) h0
    rw [e0, if_neg h0]
    by_cases h1 : n % 2 = 1
    · rw [h1, if_pos rfl]; rfl
    · have e1 : Nat.beq (n % 2) 1 = false := by cases h : Nat.beq (n % 2) 1 with | false => rfl | true => exact absurd (Nat.eq_of_beq_eq_true h) h1
      rw [e1, if_neg h1]; rfl

theorem T.put_leaf (x : Option α) (f n : Nat) : T.put x (f + 1) .leaf n =
    if n = 0 then .node .leaf x .leaf else if n % 2 = 1 then .node (T.put x f .leaf (n / 2)) none .leaf else .node .leaf none (T.put x f .leaf (n / 2 - 1)) := by
  show Bool.rec (motive := fun _ => T α) (Bool.rec (motive := fun _ => T α) (T.node .leaf none (T.put x f .leaf (Nat.pred (n / 2)))) (T.node (T.put x f .leaf (n / 2)) none .leaf) (Nat.beq (n % 2) 1)) (T.node .leaf x .leaf) (Nat.beq n 0) = _
  by_cases h0 : n = 0
  · subst h0; rfl
  · have e0 : Nat.beq n 0 = false := by cases h : Nat.beq n 0 with | false => rfl | true => exact absurd (Nat.eq_of_beq_eq_true h) h0
    rw [e0, if_neg h0]
    by_cases h1 : n % 2 = 1
    · rw [h1, if_pos rfl]; rfl
    · have e1 : Nat.beq (n % 2) 1 = false := by cases h : Nat.beq (n % 2) 1 with | false => rfl | true => exact absurd (Nat.eq_of_beq_eq_true h) h1
      rw [e1, if_neg h1]; rfl
theorem T.put_node (x : Option α) (f n : Nat) (l : T α) (v : Option α) (r : T α) : T.put x (f + 1) (.node l v r) n =
    if n = 0 then .node l x r else if n % 2 = 1 then .node (T.put x f l (n / 2)) v r else .node l v (T.put x f r (n / 2 - 1)) := by
  show Bool.rec (motive := fun _ => T α) (Bool.rec (motive := fun _ => T α) (T.node l v (T.put x f r (Nat.pred (n / 2)))) (T.node (T.put x f l (n / 2)) v r) (Nat.beq (n % 2) 1)) (T.node l x r) (Nat.beq n 0) = _
  by_cases h0 : n = 0
  · subst h0; rfl
  · have e0 : Nat.beq n 0 = false := by cases h : Nat.beq n 0 with | false => rfl | true => exact absurd (Nat.eq_of_beq_eq_true h) h0
    rw [e0, if_neg h0]
    by_cases h1 : n % 2 = 1
    · rw [h1, if_pos rfl]; rfl
    · have e1 : Nat.beq (n % 2) 1 = false := by cases h : Nat.beq (n % 2) 1 with | false => rfl | true => exact absurd (Nat.eq_of_beq_eq_true h) h1
      rw [e1, if_neg h1]; rfl

theorem T.get_put (x : Option α) : ∀ (f : Nat) (t : T α) (n m : Nat), n < f → T.get (T.put x f t n) m = if m = n then x else T.get t m := by
  intro f
  induction f with
  | zero => intro t n m h; omega
  | succ f ih =>
    intro t n m h
    cases t with
    | leaf =>
      rw [T.put_leaf, T.get_leaf]
      by_cases h0 : n = 0
      · subst h0; rw [if_pos rfl, T.get_node]; split
        · rfl
        · simp [T.get_leaf]
      · rw [if_neg h0]
        by_cases h1 : n % 2 = 1
        · rw [if_pos h1, T.get_node]
          by_cases m0 : m = 0
          · subst m0; rw [if_pos rfl, if_neg (by omega)]
          · rw [if_neg m0]
            by_cases m1 : m % 2 = 1
            · rw [if_pos m1, ih _ _ _ (by omega), T.get_leaf]
              by_cases e : m = n
              · rw [if_pos e, if_pos (by omega)]
              · rw [if_neg e, if_neg (by omega)]
            · rw [if_neg m1, T.get_leaf, if_neg (by omega)]
        · rw [if_neg h1, T.get_node]
          by_cases m0 : m = 0
          · subst m0; rw [if_pos rfl, if_neg (by omega)]
          · rw [if_neg m0]
            by_cases m1 : m % 2 = 1
            · rw [if_pos m1, T.get_leaf, if_neg (by omega)]
            · rw [if_neg m1, ih _ _ _ (by omega), T.get_leaf]
              by_cases e : m = n
              · rw [if_pos e, if_pos (by omega)]
              · rw [if_neg e, if_neg (by omega)]
    | node l v r =>
      rw [T.put_node, T.get_node]
      by_cases h0 : n = 0
      · subst h0; rw [if_pos rfl, T.get_node]; split <;> simp_all
      · rw [if_neg h0]
        by_cases h1 : n % 2 = 1
        · rw [if_pos h1, T.get_node]
          by_cases m0 : m = 0
          · subst m0; rw [if_pos rfl, if_neg (by omega), if_pos rfl]
          · rw [if_neg m0, if_neg m0]
            by_cases m1 : m % 2 = 1
            · rw [if_pos m1, if_pos m1, ih _ _ _ (by omega)]
              by_cases e : m = n
              · rw [if_pos e, if_pos (by omega)]
              · rw [if_neg e, if_neg (by omega)]
            · rw [if_neg m1, if_neg m1, if_neg (by omega)]
        · rw [if_neg h1, T.get_node]
          by_cases m0 : m = 0
          · subst m0; rw [if_pos rfl, if_neg (by omega), if_pos rfl]
          · rw [if_neg m0, if_neg m0]
            by_cases m1 : m % 2 = 1
            · rw [if_pos m1, if_pos m1, if_neg (by omega)]
            · rw [if_neg m1, if_neg m1, ih _ _ _ (by omega)]
              by_cases e : m = n
              · rw [if_pos e, if_pos (by omega)]
              · rw [if_neg e, if_neg (by omega)]

theorem T.get_set (t : T α) (n m : Nat) (x : Option α) : T.get (T.set t n x) m = if m = n then x else T.get t m := T.get_put x (n + 1) t n m (by omega)
end tree

theorem AHeap.get_put (H : AHeap) (b c : Nat) (o : Option AObj) : (H.put b o).get c = if c = b then o else H.get c := T.get_set _ _ _ _
theorem AHeap.get_alloc (H : AHeap) (o : AObj) (c : Nat) : (H.alloc o).get c = if c = H.next then some o else H.get c := T.get_set _ _ _ _
@[simp] theorem AHeap.next_put (H : AHeap) (b : Nat) (o : Option AObj) : (H.put b o).next = H.next := rfl
@[simp] theorem AHeap.next_alloc (H : AHeap) (o : AObj) : (H.alloc o).next = H.next + 1 := rfl

theorem AHeap.get_take (H : AHeap) (b : Nat) (o : AObj) (c : Nat) : ((H.put b none).alloc o).get c = if c = H.next then some o else if c = b then none else H.get c := by
  have h1 := AHeap.get_alloc (H.put b none) o c
  by_cases e : c = H.next
  · rw [if_pos e, h1]; exact if_pos e
  · rw [if_neg e, h1]; exact (if_neg e).trans (AHeap.get_put _ _ _ _)

def ibin (op : BinOp) (k : IntKind) (x y : Int) : Int := match abin op (.int k x) (.int k y) with | some (.int _ n) => n | _ => 0
def iun (op : UnOp) (k : IntKind) (x : Int) : Int := match aun op (.int k x) with | some (.int _ n) => n | _ => 0
def SE.evs (η : Nat → Int) (φ : Nat → List Int → Int) : SE → List Int
  | .var i => [η i]
  | .lit n => [n]
  | .bin op k a b => [ibin op k ((a.evs η φ).headD 0) ((b.evs η φ).headD 0)]
  | .un op k a => [iun op k ((a.evs η φ).headD 0)]
  | .wrap k a => [k.wrap ((a.evs η φ).headD 0)]
  | .fn i a => [φ i (a.evs η φ)]
  | .pair a b => a.evs η φ ++ b.evs η φ
def SE.ev (η : Nat → Int) (φ : Nat → List Int → Int) (e : SE) : Int := (e.evs η φ).headD 0

variable [Dec]
/-- What the numbers that are not known are; they are as the way has it. -/
class Env where
  η : Nat → Int
  φ : Nat → List Int → Int
  eqs : ∀ a b r, Dec.eqs a b = some r → (a.ev η φ == b.ev η φ) = r
  lts : ∀ a b r, Dec.lts a b = some r → decide (a.ev η φ < b.ev η φ) = r
  vals : ∀ a n, Dec.vals a = some n → a.ev η φ = n
variable [Env]
def sev (e : SE) : Int := e.ev Env.η Env.φ

/-- Where a block of the executor's heap lies: in which block of the world, from which cell on; whether all its cells are known; how many cells the world's block has, and how many one of its elements. -/
structure RB where
  cb : Nat
  co : Nat
  tight : Bool
  size : Nat
  esz : Nat

abbrev Rho := Nat → Option RB

mutual
inductive VR (ρ : Rho) : AV → Value → Prop
  | bool (b : Bool) : VR ρ (.bool b) (.bool b)
  | int (k : IntKind) (n : Int) : VR ρ (.int k n) (.int k n)
  | sint (k : IntKind) (e : SE) : VR ρ (.sint k e) (.int k (sev e))
  | str (s : ByteArray) (l : List Nat) (h : l = s.data.toList.map UInt8.toNat) : VR ρ (.str l) (.string s)
  | nilptr : VR ρ .nilptr (.pointer none)
  | ptr (b o : Nat) (r : RB) (h : ρ b = some r) : VR ρ (.ptr b o) (.pointer (some ⟨r.cb, r.co + o, none⟩))
  | nilsl : VR ρ .nilsl (.slice none 0 0)
  | sl (b o len cap ccap : Nat) (r : RB) (h : ρ b = some r) (hl : len ≤ cap) (hc : cap ≤ ccap) (ht : r.tight = true → cap = ccap)
      (hs : r.tight = false → r.co + o + ccap * r.esz ≤ r.size) : VR ρ (.sl b o len cap) (.slice (some ⟨r.cb, r.co + o, none⟩) len ccap)
  | sl0 (b o : Nat) (a : Addr) : VR ρ (.sl b o 0 0) (.slice (some a) 0 0)
  | map (b : Nat) (r : RB) (h : ρ b = some r) : VR ρ (.map b) (.map (some r.cb))
  | nilmap : VR ρ .nilmap (.map none)
  | fn (f : Fn) (xs ys : List AV) (us vs : List Value) (h : VRs ρ xs us) (h' : VRs ρ ys vs) : VR ρ (.fn f xs ys) (.func f us.toArray vs.toArray)
  | nilfn : VR ρ .nilfn .nilFunc
  | iface (t : TypeId) (a : AV) (v : Value) (h : VR ρ a v) : VR ρ (.iface t a) (.iface t v)
  | nilif : VR ρ .nilif .nilIface
  | agg (cs : List AV) (vs : List Value) (h : VRs ρ cs vs) : VR ρ (.agg cs) (.agg vs.toArray)
  | tup (cs : List AV) (vs : List Value) (h : VRs ρ cs vs) : VR ρ (.tup cs) (.tuple vs.toArray)
inductive VRs (ρ : Rho) : List AV → List Value → Prop
  | nil : VRs ρ [] []
  | cons (a : AV) (v : Value) (as : List AV) (vs : List Value) (h : VR ρ a v) (t : VRs ρ as vs) : VRs ρ (a :: as) (v :: vs)
end

theorem VR.int_inv {ρ : Rho} {k : IntKind} {n : Int} {v : Value} (h : VR ρ (.int k n) v) : v = .int k n := by cases h; rfl

omit [Dec] [Env] in
theorem SE.beq_eq : ∀ (a b : SE), SE.beq a b = true → a = b
  | .var i, b, h => by cases b <;> simp [SE.beq] at h; subst h; rfl
  | .lit i, b, h => by cases b <;> simp [SE.beq] at h; subst h; rfl
  | .bin o k x y, b, h => by
    cases b <;> simp [SE.beq] at h
    obtain ⟨rfl, rfl, h1, h2⟩ := h
    rw [SE.beq_eq _ _ h1, SE.beq_eq _ _ h2]
  | .un o k x, b, h => by
    cases b <;> simp [SE.beq] at h
    obtain ⟨rfl, rfl, h1⟩ := h
    rw [SE.beq_eq _ _ h1]
  | .wrap k x, b, h => by
    cases b <;> simp [SE.beq] at h
    obtain ⟨rfl, h1⟩ := h
    rw [SE.beq_eq _ _ h1]
  | .fn k x, b, h => by
    cases b <;> simp [SE.beq] at h
    obtain ⟨rfl, h1⟩ := h
    rw [SE.beq_eq _ _ h1]
  | .pair x y, b, h => by
    cases b <;> simp [SE.beq] at h
    rw [SE.beq_eq _ _ h.1, SE.beq_eq _ _ h.2]

omit [Dec] [Env] in
theorem look_mem {a b : SE} {r : Bool} : ∀ {l : List (SE × SE × Bool)}, look a b l = some r → (a, b, r) ∈ l
  | [], h => by cases h
  | x :: xs, h => by
    unfold look at h
    split at h
    · rename_i hb
      obtain ⟨h1, h2⟩ := Bool.and_eq_true_iff.1 hb
      have e1 := SE.beq_eq _ _ h1
      have e2 := SE.beq_eq _ _ h2
      injection h with h
      subst e1; subst e2; subst h
      exact List.mem_cons_self
    · exact List.mem_cons_of_mem _ (look_mem h)
omit [Dec] [Env] in
theorem lookVal_mem {a : SE} {n : Int} : ∀ {l : List (SE × Int)}, lookVal a l = some n → (a, n) ∈ l
  | [], h => by cases h
  | x :: xs, h => by
    unfold lookVal at h
    split at h
    · rename_i hb
      have e1 := SE.beq_eq _ _ hb
      injection h with h
      subst e1; subst h
      exact List.mem_cons_self
    · exact List.mem_cons_of_mem _ (lookVal_mem h)

theorem look_eq {a b : SE} {r : Bool} (h : Dec.eqs a b = some r) : (sev a == sev b) = r := Env.eqs _ _ _ h
theorem look_lt {a b : SE} {r : Bool} (h : Dec.lts a b = some r) : decide (sev a < sev b) = r := Env.lts _ _ _ h

/-- Nothing is known, nothing is asked. -/
abbrev Env.none : @Env Dec.none := @Env.mk Dec.none (fun _ => 0) (fun _ _ => 0) (fun _ _ _ h => by cases h) (fun _ _ _ h => by cases h) (fun _ _ h => by cases h)

theorem ival_rel {ρ : Rho} {x : AV} {p : IntKind × SE} {v : Value} (h : ival x = some p) (hx : VR ρ x v) : v = .int p.1 (sev p.2) := by
  cases hx <;> simp [ival] at h <;> subst h <;> rfl

theorem mkInt_rel (ρ : Rho) (k : IntKind) (e : SE) : VR ρ (mkInt k e) (.int k (sev e)) := by
  unfold mkInt
  split
  · rename_i n hn
    have e1 : sev e = n := Env.vals _ _ hn
    rw [e1]
    exact .int _ _
  · exact .sint _ _

def Ext (ρ ρ' : Rho) : Prop := ∀ b r, ρ b = some r → ρ' b = some r
omit [Dec] [Env] in
theorem Ext.refl (ρ : Rho) : Ext ρ ρ := fun _ _ h => h
omit [Dec] [Env] in
theorem Ext.trans {a b c : Rho} (h : Ext a b) (k : Ext b c) : Ext a c := fun _ _ x => k _ _ (h _ _ x)

mutual
theorem VR.mono {ρ ρ' : Rho} (e : Ext ρ ρ') : ∀ {a : AV} {v : Value}, VR ρ a v → VR ρ' a v
  | _, _, .bool b => .bool b
  | _, _, .int k n => .int k n
  | _, _, .sint k e => .sint k e
  | _, _, .str s l h => .str s l h
  | _, _, .nilptr => .nilptr
  | _, _, .ptr b o r h => .ptr b o r (e _ _ h)
  | _, _, .nilsl => .nilsl
  | _, _, .sl b o l c cc r h hl hc ht hs => .sl b o l c cc r (e _ _ h) hl hc ht hs
  | _, _, .sl0 b o a => .sl0 b o a
  | _, _, .map b r h => .map b r (e _ _ h)
  | _, _, .nilmap => .nilmap
  | _, _, .fn f xs ys us vs h h' => .fn f xs ys us vs (VRs.mono e h) (VRs.mono e h')
  | _, _, .nilfn => .nilfn
  | _, _, .iface t a v h => .iface t a v (VR.mono e h)
  | _, _, .nilif => .nilif
  | _, _, .agg cs vs h => .agg cs vs (VRs.mono e h)
  | _, _, .tup cs vs h => .tup cs vs (VRs.mono e h)
theorem VRs.mono {ρ ρ' : Rho} (e : Ext ρ ρ') : ∀ {as : List AV} {vs : List Value}, VRs ρ as vs → VRs ρ' as vs
  | _, _, .nil => .nil
  | _, _, .cons a v as vs h t => .cons a v as vs (VR.mono e h) (VRs.mono e t)
end

section lists
variable {ρ : Rho}
theorem VRs.length : ∀ {as : List AV} {vs : List Value}, VRs ρ as vs → as.length = vs.length
  | _, _, .nil => rfl
  | _, _, .cons _ _ _ _ _ t => by simp [t.length]
theorem VRs.get : ∀ {as : List AV} {vs : List Value}, VRs ρ as vs → ∀ (i : Nat) (a : AV), as[i]? = some a → ∃ v, vs[i]? = some v ∧ VR ρ a v
  | _, _, .nil => fun i a h => by simp at h
  | _, _, .cons a v as vs h t => fun i x hx => by
    cases i with
    | zero => simp at hx; subst hx; exact ⟨v, by simp, h⟩
    | succ i => simp at hx; obtain ⟨u, hu, hr⟩ := t.get i x hx; exact ⟨u, by simpa using hu, hr⟩
theorem VRs.append : ∀ {as : List AV} {vs : List Value}, VRs ρ as vs → ∀ {bs : List AV} {ws : List Value}, VRs ρ bs ws → VRs ρ (as ++ bs) (vs ++ ws)
  | _, _, .nil => fun k => k
  | _, _, .cons a v as vs h t => fun k => .cons a v _ _ h (t.append k)
theorem VRs.drop : ∀ {as : List AV} {vs : List Value}, VRs ρ as vs → ∀ n, VRs ρ (as.drop n) (vs.drop n)
  | _, _, .nil => fun n => by simpa using VRs.nil
  | _, _, .cons a v as vs h t => fun n => by
    cases n with
    | zero => exact .cons a v _ _ h t
    | succ n => simpa using t.drop n
theorem VRs.take : ∀ {as : List AV} {vs : List Value}, VRs ρ as vs → ∀ n, VRs ρ (as.take n) (vs.take n)
  | _, _, .nil => fun n => by simpa using VRs.nil
  | _, _, .cons a v as vs h t => fun n => by
    cases n with
    | zero => exact .nil
    | succ n => simpa using VRs.cons a v _ _ h (t.take n)
theorem VRs.map_bytes (s : List UInt8) : VRs ρ (abytes (s.map UInt8.toNat)) (s.map fun b => Value.int .u8 b.toNat) := by
  induction s with
  | nil => exact .nil
  | cons b s ih => exact .cons _ _ _ _ (.int _ _) ih
theorem VRs.splice {c vs : List AV} {C Vs : List Value} (o : Nat) (h : VRs ρ c C) (k : VRs ρ vs Vs) : VRs ρ (splice c o vs) (C.take o ++ Vs ++ C.drop (o + Vs.length)) := by
  unfold Ex.splice
  rw [k.length]
  exact ((h.take o).append k).append (h.drop _)
theorem VRs.azeros {z : List AV} {Z : List Value} (h : VRs ρ z Z) : ∀ n, VRs ρ (azeros z n) ((List.replicate n Z).flatten)
  | 0 => .nil
  | n + 1 => by
    rw [List.replicate_succ, List.flatten_cons]
    exact h.append (VRs.azeros h n)
end lists

theorem VR.cells {ρ : Rho} {a : AV} {v : Value} (h : VR ρ a v) : VRs ρ a.cells v.cells.toList := by
  cases h with
  | agg cs vs h => simpa [AV.cells, Value.cells] using h
  | _ => exact .cons _ _ _ _ (by constructor <;> assumption) .nil

theorem VR.one {ρ : Rho} {a : AV} {v : Value} (h : VR ρ a v) : v.oneCell' = a.one := by
  cases h <;> rfl

theorem VRs.ones {ρ : Rho} : ∀ {as : List AV} {vs : List Value}, VRs ρ as vs → as.all AV.one = true → ∀ v ∈ vs, v.oneCell' = true
  | _, _, .nil => fun _ v h => by simp at h
  | _, _, .cons a v as vs h t => fun k u hu => by
    simp at k
    rcases List.mem_cons.1 hu with rfl | hu
    · rw [h.one]; exact k.1
    · exact t.ones (by simpa using k.2) u hu

mutual
theorem ofV_rel {ρ : Rho} : ∀ (v : Value) (a : AV), ofV v = some a → VR ρ a v
  | .bool b, a, h => by simp [ofV] at h; subst h; exact .bool b
  | .int k n, a, h => by simp [ofV] at h; subst h; exact .int k n
  | .string s, a, h => by simp [ofV] at h; subst h; exact .str s _ (by simp)
  | .pointer none, a, h => by simp [ofV] at h; subst h; exact .nilptr
  | .pointer (some _), a, h => by simp [ofV] at h
  | .slice none 0 0, a, h => by simp [ofV] at h; subst h; exact .nilsl
  | .slice none 0 (_ + 1), a, h => by simp [ofV] at h
  | .slice none (_ + 1) _, a, h => by simp [ofV] at h
  | .slice (some _) _ _, a, h => by simp [ofV] at h
  | .map none, a, h => by simp [ofV] at h; subst h; exact .nilmap
  | .map (some _), a, h => by simp [ofV] at h
  | .nilFunc, a, h => by simp [ofV] at h; subst h; exact .nilfn
  | .func (.func f) ⟨[]⟩ ⟨[]⟩, a, h => by simp [ofV] at h; subst h; exact .fn _ [] [] [] [] .nil .nil
  | .func (.func f) ⟨[]⟩ ⟨_ :: _⟩, a, h => by simp [ofV] at h
  | .func (.func f) ⟨_ :: _⟩ _, a, h => by simp [ofV] at h
  | .func (.method _) _ _, a, h => by simp [ofV] at h
  | .func (.methodOf ..) _ _, a, h => by simp [ofV] at h
  | .func (.via ..) _ _, a, h => by simp [ofV] at h
  | .func (.yield _) _ _, a, h => by simp [ofV] at h
  | .nilIface, a, h => by simp [ofV] at h; subst h; exact .nilif
  | .iface t v, a, h => by
    simp only [ofV, Option.map_eq_some_iff] at h
    obtain ⟨x, hx, rfl⟩ := h
    exact .iface t x v (ofV_rel v x hx)
  | .agg ⟨cs⟩, a, h => by
    simp only [ofV, Option.map_eq_some_iff] at h
    obtain ⟨x, hx, rfl⟩ := h
    exact .agg x cs (ofVs_rel cs x hx)
  | .tuple ⟨cs⟩, a, h => by
    simp only [ofV, Option.map_eq_some_iff] at h
    obtain ⟨x, hx, rfl⟩ := h
    exact .tup x cs (ofVs_rel cs x hx)
  | .float .., a, h => by simp [ofV] at h
  | .complex .., a, h => by simp [ofV] at h
  | .chan _, a, h => by simp [ofV] at h
theorem ofVs_rel {ρ : Rho} : ∀ (vs : List Value) (as : List AV), ofVs vs = some as → VRs ρ as vs
  | [], as, h => by simp [ofVs] at h; subst h; exact .nil
  | v :: vs, as, h => by
    simp only [ofVs, Option.bind_eq_some_iff, Option.map_eq_some_iff] at h
    obtain ⟨x, hx, xs, hxs, rfl⟩ := h
    exact .cons x v xs vs (ofV_rel v x hx) (ofVs_rel vs xs hxs)
end

/-- A map's entries. -/
inductive ER (ρ : Rho) : List Ent → List MapEntry → Prop
  | nil : ER ρ [] []
  | cons (e : Ent) (m : MapEntry) (es : List Ent) (ms : List MapEntry) (hk : VR ρ e.key m.key) (hv : VR ρ e.val m.val) (hb : m.born = e.born) (t : ER ρ es ms) : ER ρ (e :: es) (m :: ms)

theorem ER.mono {ρ ρ' : Rho} (e : Ext ρ ρ') : ∀ {es : List Ent} {ms : List MapEntry}, ER ρ es ms → ER ρ' es ms
  | _, _, .nil => .nil
  | _, _, .cons x m es ms hk hv hb t => .cons x m es ms (hk.mono e) (hv.mono e) hb (t.mono e)

def OR (P : Program) (ρ : Rho) (r : RB) : AObj → Obj → Prop
  | .cells c e t, .cells C E fr => E = e ∧ t = r.tight ∧ C.size = r.size ∧ r.co + c.length ≤ C.size ∧ VRs ρ c ((C.toList.drop r.co).take c.length) ∧
      (∀ i, i < c.length → ¬ (fr.1 ≤ r.co + i ∧ r.co + i < fr.2)) ∧ (t = false → (∀ i, i < C.size → ¬ (fr.1 ≤ i ∧ i < fr.2)) ∧ P.cellsOf e = r.esz)
  | .map es k, .map ES K => K = k ∧ ER ρ es ES.toList
  | .iter s p, .stringIter S q => r.co = 0 ∧ q = p ∧ s = S.data.toList.map UInt8.toNat
  | _, _ => False

theorem OR.mono {P : Program} {ρ ρ' : Rho} (e : Ext ρ ρ') {r : RB} {o : AObj} {O : Obj} (h : OR P ρ r o O) : OR P ρ' r o O := by
  cases o <;> cases O <;> try exact h.elim
  · obtain ⟨a, b, c, d, f, g, i⟩ := h; exact ⟨a, b, c, d, f.mono e, g, i⟩
  · obtain ⟨a, b⟩ := h; exact ⟨a, b.mono e⟩
  · exact h

structure Inv (P : Program) (ρ : Rho) (H : AHeap) (w : World) : Prop where
  obj : ∀ b o r, H.get b = some o → ρ b = some r → ∃ C, w.heap[r.cb]? = some C ∧ OR P ρ r o C
  inj : ∀ b c o p r s, H.get b = some o → H.get c = some p → ρ b = some r → ρ c = some s → r.cb = s.cb → b = c
  fresh : ∀ b, H.next ≤ b → ρ b = none
  lt : ∀ b r, ρ b = some r → r.cb < w.heap.size

/-- From one heap and world to another: what was there below 'lim' is as it was. -/
structure Step (P : Program) (lim : Nat) (ρ : Rho) (H : AHeap) (w : World) (ρ' : Rho) (H' : AHeap) (w' : World) : Prop where
  ext : Ext ρ ρ'
  old : ∀ b, b < H.next → ρ' b = ρ b
  next : H.next ≤ H'.next
  inv : Inv P ρ' H' w'
  keep : ∀ b, b < lim → H'.get b = H.get b
  live : ∀ b o, b < H.next → H'.get b = some o → ∃ o', H.get b = some o'
  size : w.heap.size ≤ w'.heap.size
  os : w'.os = w.os
  tape : w'.tape = w.tape
  output : w'.output = w.output
  frame : ∀ k, k < w.heap.size → (∀ b o r, lim ≤ b → H.get b = some o → ρ b = some r → r.cb ≠ k) → w'.heap[k]? = w.heap[k]?
  img : ∀ b o r, H.next ≤ b → H'.get b = some o → ρ' b = some r → r.cb < w.heap.size → ∃ c p s, lim ≤ c ∧ H.get c = some p ∧ ρ c = some s ∧ s.cb = r.cb

section steps
variable {P : Program} {lim : Nat} {ρ ρ' ρ'' : Rho} {H H' H'' : AHeap} {w w' w'' : World}
theorem Step.refl (h : Inv P ρ H w) : Step P lim ρ H w ρ H w where
  ext := Ext.refl ρ
  old _ _ := rfl
  next := Nat.le_refl _
  inv := h
  keep _ _ := rfl
  live _ o _ k := ⟨o, k⟩
  size := Nat.le_refl _
  os := rfl
  tape := rfl
  output := rfl
  frame _ _ _ := rfl
  img b o r hb _ hr _ := by rw [h.fresh b hb] at hr; cases hr

theorem Step.trans (a : Step P lim ρ H w ρ' H' w') (b : Step P lim ρ' H' w' ρ'' H'' w'') : Step P lim ρ H w ρ'' H'' w'' where
  ext := a.ext.trans b.ext
  old c hc := (b.old c (Nat.lt_of_lt_of_le hc a.next)).trans (a.old c hc)
  next := Nat.le_trans a.next b.next
  inv := b.inv
  keep c hc := (b.keep c hc).trans (a.keep c hc)
  live c o hc h := by
    obtain ⟨o', h'⟩ := b.live c o (Nat.lt_of_lt_of_le hc a.next) h
    exact a.live c o' hc h'
  size := Nat.le_trans a.size b.size
  os := b.os.trans a.os
  tape := b.tape.trans a.tape
  output := b.output.trans a.output
  frame k hk h := by
    rw [b.frame k (Nat.lt_of_lt_of_le hk a.size), a.frame k hk h]
    intro c o r hc ho hr e
    by_cases hlt : c < H.next
    · obtain ⟨o', h'⟩ := a.live c o hlt ho
      exact h c o' r hc h' ((a.old c hlt) ▸ hr) e
    · by_cases hs : r.cb < w.heap.size
      · obtain ⟨c', p, s, hc', hp, hs', e'⟩ := a.img c o r (by omega) ho hr hs
        exact h c' p s hc' hp hs' (e'.trans e)
      · omega
  img c o r hc ho hr hs := by
    by_cases hlt : c < H'.next
    · obtain ⟨o', h'⟩ := b.live c o hlt ho
      exact a.img c o' r hc h' ((b.old c hlt) ▸ hr) hs
    · obtain ⟨c', p, s, hc', hp, hs', e'⟩ := b.img c o r (by omega) ho hr (Nat.lt_of_lt_of_le hs a.size)
      by_cases hlt' : c' < H.next
      · obtain ⟨o', h'⟩ := a.live c' p hlt' hp
        exact ⟨c', o', s, hc', h', (a.old c' hlt') ▸ hs', e'⟩
      · obtain ⟨d, q, u, hd, hq, hu, e2⟩ := a.img c' p s (by omega) hp hs' (by omega)
        exact ⟨d, q, u, hd, hq, hu, e2.trans e'⟩

/-- Nothing that was there has turned, if nothing from 'lim' on was. -/
theorem Step.below (h : Step P lim ρ H w ρ' H' w') (hl : H.next ≤ lim) (i : Inv P ρ H w) : RowKit.Below w.heap.size w w' :=
  ⟨h.os, h.tape, h.output, h.size, fun k hk => h.frame k hk fun b o r hb _ hr => by rw [i.fresh b (by omega)] at hr; cases hr⟩

def Rho.put (ρ : Rho) (b : Nat) (r : RB) : Rho := fun c => if c = b then some r else ρ c
omit [Dec] [Env] in
theorem Rho.put_ext {b : Nat} {r : RB} (h : ρ b = none) : Ext ρ (ρ.put b r) := fun c s hs => by
  unfold Rho.put
  split
  · subst_vars; rw [h] at hs; cases hs
  · exact hs

/-- A new block. -/
theorem Step.new (h : Inv P ρ H w) (o : AObj) (C : Obj) (r : RB) (hr : r.cb = w.heap.size) (ho : OR P (ρ.put H.next r) r o C) (hlim : lim ≤ H.next)
    (hz : w'.heap.size = w.heap.size + 1) (hn : w'.heap[w.heap.size]? = some C) (hk : ∀ k, k < w.heap.size → w'.heap[k]? = w.heap[k]?) (h1 : w'.os = w.os) (h2 : w'.tape = w.tape) (h3 : w'.output = w.output) :
    Step P lim ρ H w (ρ.put H.next r) (H.alloc o) w' where
  ext := Rho.put_ext (h.fresh _ (Nat.le_refl _))
  old b hb := by simp [Rho.put]; omega
  next := by simp
  inv := {
    obj := fun b p s hp hs => by
      rw [AHeap.get_alloc] at hp
      by_cases e : b = H.next
      · subst e
        simp at hp; subst hp
        simp [Rho.put] at hs; subst hs
        exact ⟨C, by rw [hr]; exact hn, ho⟩
      · rw [if_neg e] at hp
        simp only [Rho.put, if_neg e] at hs
        obtain ⟨D, hD, hO⟩ := h.obj b p s hp hs
        exact ⟨D, by rw [hk _ (h.lt b s hs)]; exact hD, hO.mono (Rho.put_ext (h.fresh _ (Nat.le_refl _)))⟩
    inj := fun b c p q s t hp hq hs ht e => by
      rw [AHeap.get_alloc] at hp hq
      simp only [Rho.put] at hs ht
      by_cases eb : b = H.next <;> by_cases ec : c = H.next
      · rw [eb, ec]
      · rw [if_pos eb] at hs; rw [if_neg ec] at ht
        injection hs with hs; subst hs
        have := h.lt c t ht; omega
      · rw [if_neg eb] at hs; rw [if_pos ec] at ht
        injection ht with ht; subst ht
        have := h.lt b s hs; omega
      · rw [if_neg eb] at hs hp; rw [if_neg ec] at ht hq
        exact h.inj b c p q s t hp hq hs ht e
    fresh := fun b hb => by
      simp at hb
      simp only [Rho.put]
      rw [if_neg (by omega)]
      exact h.fresh b (by omega)
    lt := fun b s hs => by
      simp only [Rho.put] at hs
      rw [hz]
      split at hs
      · injection hs with hs; subst hs; omega
      · have := h.lt b s hs; omega }
  keep b hb := by rw [AHeap.get_alloc, if_neg (by omega)]
  live b p hb hp := by rw [AHeap.get_alloc, if_neg (by omega)] at hp; exact ⟨p, hp⟩
  size := by omega
  os := h1
  tape := h2
  output := h3
  frame k hlt _ := hk k hlt
  img b p s hb hp hs hlt := by
    rw [AHeap.get_alloc] at hp
    by_cases e : b = H.next
    · simp [Rho.put, e] at hs; subst hs; omega
    · simp only [Rho.put, if_neg e] at hs
      rw [h.fresh b (by omega)] at hs; cases hs

theorem Step.alloc (h : Inv P ρ H w) (o : AObj) (C : Obj) (r : RB) (hr : r.cb = w.heap.size) (ho : OR P (ρ.put H.next r) r o C) (hlim : lim ≤ H.next) :
    Step P lim ρ H w (ρ.put H.next r) (H.alloc o) (w.alloc C) :=
  Step.new h o C r hr ho hlim (by simp) (heap_alloc_new w C) (fun _ hk => RowKit.Below.heap_alloc _ _ _ hk) rfl rfl rfl

/-- A draw. -/
theorem Step.drew (h : Inv P ρ H w) : Step P lim ρ H w ρ H w.drew :=
  { Step.refl (lim := lim) h with
    inv := ⟨h.obj, h.inj, h.fresh, h.lt⟩
    frame := fun _ _ _ => rfl }

/-- What stands in a block is changed. -/
theorem Step.put (h : Inv P ρ H w) (b : Nat) (o o' : AObj) (r : RB) (ho : H.get b = some o) (hr : ρ b = some r) (hb : lim ≤ b) (C : Obj) (hC : OR P ρ r o' C)
    (hh : w'.heap = w.heap.setIfInBounds r.cb C) (h1 : w'.os = w.os) (h2 : w'.tape = w.tape) (h3 : w'.output = w.output) :
    Step P lim ρ H w ρ (H.put b (some o')) w' where
  ext := Ext.refl ρ
  old _ _ := rfl
  next := Nat.le_refl _
  inv := {
    obj := fun c p s hp hs => by
      rw [AHeap.get_put] at hp
      by_cases e : c = b
      · subst e
        rw [if_pos rfl] at hp
        injection hp with hp; subst hp
        rw [hr] at hs; injection hs with hs; subst hs
        exact ⟨C, by rw [hh]; simp [h.lt c r hr], hC⟩
      · rw [if_neg e] at hp
        obtain ⟨D, hD, hO⟩ := h.obj c p s hp hs
        refine ⟨D, ?_, hO⟩
        rw [hh, Array.getElem?_setIfInBounds_ne]
        · exact hD
        · intro e'
          exact e (h.inj b c o p r s ho hp hr hs e').symm
    inj := fun c d p q s t hp hq hs ht e => by
      have live : ∀ {c p}, (H.put b (some o')).get c = some p → ∃ p', H.get c = some p' := fun {c p} hp => by
        rw [AHeap.get_put] at hp
        by_cases e : c = b
        · subst e; exact ⟨o, ho⟩
        · rw [if_neg e] at hp; exact ⟨p, hp⟩
      obtain ⟨p', hp'⟩ := live hp
      obtain ⟨q', hq'⟩ := live hq
      exact h.inj c d p' q' s t hp' hq' hs ht e
    fresh := h.fresh
    lt := fun c s hs => by rw [hh]; simpa using h.lt c s hs }
  keep c hc := by rw [AHeap.get_put, if_neg (by omega)]
  live c p _ hp := by
    rw [AHeap.get_put] at hp
    by_cases e : c = b
    · subst e; exact ⟨o, ho⟩
    · rw [if_neg e] at hp; exact ⟨p, hp⟩
  size := by rw [hh]; simp
  os := h1
  tape := h2
  output := h3
  frame k _ f := by
    rw [hh, Array.getElem?_setIfInBounds_ne]
    exact f b o r hb ho hr
  img c p s hc _ hs _ := by rw [h.fresh c hc] at hs; cases hs
/-- A block is dropped from the executor's heap; the world stays. -/
theorem Step.drop (h : Inv P ρ H w) (b : Nat) (hb : lim ≤ b) : Step P lim ρ H w ρ (H.put b none) w where
  ext := Ext.refl ρ
  old _ _ := rfl
  next := Nat.le_refl _
  inv := {
    obj := fun c o r hc hr => by
      rw [AHeap.get_put] at hc
      split at hc
      · cases hc
      · exact h.obj c o r hc hr
    inj := fun c d p q s t hp hq hs ht e => by
      rw [AHeap.get_put] at hp hq
      split at hp
      · cases hp
      · split at hq
        · cases hq
        · exact h.inj c d p q s t hp hq hs ht e
    fresh := h.fresh
    lt := h.lt }
  keep c hc := by rw [AHeap.get_put, if_neg (by omega)]
  live c p _ hp := by
    rw [AHeap.get_put] at hp
    split at hp
    · cases hp
    · exact ⟨p, hp⟩
  size := Nat.le_refl _
  os := rfl
  tape := rfl
  output := rfl
  frame _ _ _ := rfl
  img c p s hc _ hs _ := by rw [h.fresh c hc] at hs; cases hs

/-- A new block of the executor's in the place of an old one, which is dropped: its cells have been written on. -/
theorem Step.take (h : Inv P ρ H w) (b : Nat) (o' : AObj) (r r' : RB) (hr : ρ b = some r) (hlive : ∃ o, H.get b = some o) (hb : lim ≤ b) (hcb : r'.cb = r.cb) (C : Obj) (hC : OR P (ρ.put H.next r') r' o' C)
    (hh : w'.heap = w.heap.setIfInBounds r.cb C) (h1 : w'.os = w.os) (h2 : w'.tape = w.tape) (h3 : w'.output = w.output) (hlim : lim ≤ H.next) :
    Step P lim ρ H w (ρ.put H.next r') ((H.put b none).alloc o') w' where
  ext := Rho.put_ext (h.fresh _ (Nat.le_refl _))
  old c hc := by simp [Rho.put]; omega
  next := by simp
  inv := {
    obj := fun c p s hp hs => by
      rw [AHeap.get_take] at hp
      by_cases e : c = H.next
      · subst e
        simp at hp; subst hp
        simp [Rho.put] at hs; subst hs
        exact ⟨C, by rw [hh, hcb]; simp [h.lt b r hr], hC⟩
      · rw [if_neg e] at hp
        simp only [Rho.put, if_neg e] at hs
        split at hp
        · cases hp
        · rename_i hne
          obtain ⟨D, hD, hO⟩ := h.obj c p s hp hs
          refine ⟨D, ?_, hO.mono (Rho.put_ext (h.fresh _ (Nat.le_refl _)))⟩
          rw [hh, Array.getElem?_setIfInBounds_ne]
          · exact hD
          · intro e'
            obtain ⟨o, ho⟩ := hlive
            exact hne (h.inj b c o p r s ho hp hr hs e').symm
    inj := fun c d p q s t hp hq hs ht e => by
      rw [AHeap.get_take] at hp hq
      simp only [Rho.put] at hs ht
      obtain ⟨o, ho⟩ := hlive
      by_cases ec : c = H.next <;> by_cases ed : d = H.next
      · rw [ec, ed]
      · rw [if_pos ec] at hs; rw [if_neg ed] at ht hq
        injection hs with hs; subst hs
        split at hq
        · cases hq
        · rename_i hne
          exact absurd (h.inj b d o q r t ho hq hr ht (hcb.symm.trans e)).symm hne
      · rw [if_neg ec] at hs hp; rw [if_pos ed] at ht
        injection ht with ht; subst ht
        split at hp
        · cases hp
        · rename_i hne
          exact absurd (h.inj b c o p r s ho hp hr hs (hcb.symm.trans e.symm)).symm hne
      · rw [if_neg ec] at hs hp; rw [if_neg ed] at ht hq
        split at hp
        · cases hp
        · split at hq
          · cases hq
          · exact h.inj c d p q s t hp hq hs ht e
    fresh := fun c hc => by
      simp at hc
      simp only [Rho.put]
      rw [if_neg (by omega)]
      exact h.fresh c (by omega)
    lt := fun c s hs => by
      simp only [Rho.put] at hs
      rw [hh]; simp only [Array.size_setIfInBounds]
      split at hs
      · injection hs with hs; subst hs; rw [hcb]; exact h.lt b r hr
      · exact h.lt c s hs }
  keep c hc := by
    rw [AHeap.get_take, if_neg (by omega), if_neg (by omega)]
  live c p hc hp := by
    rw [AHeap.get_take, if_neg (by omega)] at hp
    split at hp
    · cases hp
    · exact ⟨p, hp⟩
  size := by rw [hh]; simp
  os := h1
  tape := h2
  output := h3
  frame k _ f := by
    rw [hh, Array.getElem?_setIfInBounds_ne]
    obtain ⟨o, ho⟩ := hlive
    exact f b o r hb ho hr
  img c p s hc hp hs hlt := by
    obtain ⟨o, ho⟩ := hlive
    by_cases e : c = H.next
    · simp [Rho.put, e] at hs; subst hs
      exact ⟨b, o, r, hb, ho, hr, hcb.symm⟩
    · simp only [Rho.put, if_neg e] at hs
      rw [h.fresh c (by omega)] at hs; cases hs
end steps

/-- A frame of the executor's stands for the model's temporaries. -/
def FR (ρ : Rho) (fr : AFr) (tmps : Array Value) : Prop :=
  tmps.size = fr.n ∧ ∀ t, VR ρ (AFr.at fr t) (tmps.getD t undef)

theorem FR.mono {ρ ρ' : Rho} {fr : AFr} {tmps : Array Value} (e : Ext ρ ρ') (h : FR ρ fr tmps) : FR ρ' fr tmps := ⟨h.1, fun t => (h.2 t).mono e⟩

theorem vr_undef (ρ : Rho) : VR ρ aundef undef := .tup [] [] .nil

theorem FR.put {ρ : Rho} {fr fr' : AFr} {a : Act} {d : Option Nat} {x : AV} {v : Value} (h : FR ρ fr a.tmps) (hp : fr.put d x = some fr') (hv : VR ρ x v) :
    FR ρ fr' (a.put d v).tmps ∧ (a.put d v).defers = a.defers := by
  cases d with
  | none => simp [AFr.put] at hp; subst hp; exact ⟨h, rfl⟩
  | some d =>
    simp only [AFr.put] at hp
    cases hd : Nat.ble (Nat.succ d) fr.n with
    | false => rw [hd] at hp; cases hp
    | true =>
      rw [hd] at hp
      injection hp with hp
      subst hp
      have hlt : d < fr.n := Nat.le_of_ble_eq_true hd
      refine ⟨⟨by simp [Act.put, h.1], fun t => ?_⟩, rfl⟩
      unfold AFr.at
      simp only [T.get_set]
      by_cases e : t = d
      · subst e
        simp only [if_true, Act.put]
        rw [Array.getD_eq_getD_getElem?, Array.getElem?_setIfInBounds_self_of_lt (by rw [h.1]; exact hlt)]
        exact hv
      · rw [if_neg e]
        simp only [Act.put]
        rw [Array.getD_eq_getD_getElem?, Array.getElem?_setIfInBounds_ne (Ne.symm e), ← Array.getD_eq_getD_getElem?]
        exact h.2 t

def GOK (ρ : Rho) (gl : Nat) : Prop := ∀ g, g < gl → ∃ r, ρ g = some r ∧ r.cb = g ∧ r.co = 0
omit [Dec] [Env] in
theorem GOK.mono {ρ ρ' : Rho} {gl : Nat} (e : Ext ρ ρ') (h : GOK ρ gl) : GOK ρ' gl := fun g hg => let ⟨r, a, b⟩ := h g hg; ⟨r, e _ _ a, b⟩

theorem aev_rel {ρ : Rho} {fr : AFr} {a : Act} {gl : Nat} (h : FR ρ fr a.tmps) (hg : GOK ρ gl) {o : Operand} {x : AV}
    (hx : aev gl fr o = some x) : VR ρ x (a.eval o) := by
  cases o with
  | tmp t => simp [aev] at hx; subst hx; exact h.2 t
  | const v => exact ofV_rel v x hx
  | global g =>
    simp only [aev] at hx
    split at hx
    · rename_i hb
      injection hx with hx; subst hx
      obtain ⟨r, hr, h1, h2⟩ := hg g (Nat.le_of_ble_eq_true hb)
      have := VR.ptr (ρ := ρ) g 0 r hr
      rw [h1, h2] at this
      exact this
    · cases hx
  | func f => simp [aev] at hx; subst hx; exact .fn _ [] [] [] [] .nil .nil

theorem aevs_rel {ρ : Rho} {fr : AFr} {a : Act} {gl : Nat} (h : FR ρ fr a.tmps) (hg : GOK ρ gl) : ∀ {os : List Operand} {xs : List AV},
    aevs gl fr os = some xs → VRs ρ xs (os.map a.eval)
  | [], xs, hx => by simp [aevs] at hx; subst hx; exact .nil
  | o :: os, xs, hx => by
    simp only [aevs, Option.bind_eq_some_iff, Option.map_eq_some_iff] at hx
    obtain ⟨v, hv, ys, hys, rfl⟩ := hx
    exact .cons v _ ys _ (aev_rel h hg hv) (aevs_rel h hg hys)
end Go.Proofs.YtoehlmiadiiimaaGreatDoor.Ex
