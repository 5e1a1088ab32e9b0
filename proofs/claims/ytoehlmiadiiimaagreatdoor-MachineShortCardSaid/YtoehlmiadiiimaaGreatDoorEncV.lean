/-
  Half words: texts of one half word, told by the kernel with few steps.
-/
import Derived.Test.YtoehlmiadiiimaaGreatDoorEncQ
import Derived.Test.YtoehlmiadiiimaaGreatDoorEncRaw
namespace Go.Proofs.YtoehlmiadiiimaaGreatDoor.Ex
open Go

noncomputable def binV (op : BinOp) (k : IntKind) (a b : Int) : Int := Option.rec (motive := fun _ => Int) 0 (fun v => onInt v (fun _ n => n) 0) (ibinF op k a k b)
theorem binV_eq (op : BinOp) (k : IntKind) (a b : Int) : binV op k a b = ibin op k a b := by
  unfold binV ibin
  rw [ibinF_eq, ibinK_eq]
  cases abin op (.int k a) (.int k b) with
  | none => rfl
  | some v => cases v <;> rfl
noncomputable def SE.evK (h : Int) (e : SE) : Int :=
  SE.rec (motive := fun _ => Int) (fun _ => h) (fun n => n) (fun op k _ _ a b => binV op k a b) (fun op k _ a => iun op k a) (fun k _ a => wrapK k a) (fun _ _ _ => 0) (fun _ _ _ _ => 0) e
/-- no functions, and the half word alone -/
def SE.pureH : SE → Bool
  | .var i => Nat.beq i 0
  | .lit _ => true
  | .bin _ _ a b => a.pureH && b.pureH
  | .un _ _ a => a.pureH
  | .wrap _ a => a.pureH
  | .fn _ _ => false
  | .pair _ _ => false
theorem evK_eq (h : Int) (φ : Nat → List Int → Int) : ∀ {e : SE}, e.pureH = true → e.evK h = e.ev (ηh h) φ
  | .var i, hp => by
    have := Nat.eq_of_beq_eq_true hp
    subst this
    rfl
  | .lit n, _ => rfl
  | .bin op k a b, hp => by
    simp only [SE.pureH, Bool.and_eq_true] at hp
    show binV op k (a.evK h) (b.evK h) = ibin op k (a.ev (ηh h) φ) (b.ev (ηh h) φ)
    rw [evK_eq h φ hp.1, evK_eq h φ hp.2, binV_eq]
  | .un op k a, hp => by
    simp only [SE.pureH] at hp
    show iun op k (a.evK h) = iun op k (a.ev (ηh h) φ)
    rw [evK_eq h φ hp]
  | .wrap k a, hp => by
    simp only [SE.pureH] at hp
    show wrapK k (a.evK h) = k.wrap (a.ev (ηh h) φ)
    rw [evK_eq h φ hp, wrapK_eq]
  | .fn i a, hp => by cases hp
  | .pair a b, hp => by cases hp
def fieldP : AV → Bool
  | .int _ _ => true
  | .sint _ e => e.pureH
  | _ => false
def insnP : AV → Bool
  | .agg [o, d, s, t, m] => fieldP o && (fieldP d && (fieldP s && (fieldP t && fieldP m)))
  | _ => false
def Tr.pureT : Tr → Bool
  | .leaf v => insnP v
  | .eq a b t f => a.pureH && b.pureH && (t.pureT && f.pureT)
  | .lt a b t f => a.pureH && b.pureH && (t.pureT && f.pureT)
  | .bad => true
noncomputable def fieldK (h : Int) (v : AV) : Int := match v with
  | .int _ n => n
  | .sint _ e => e.evK h
  | _ => 0
theorem fieldK_eq (h : Int) (φ : Nat → List Int → Int) {v : AV} (hp : fieldP v = true) : fieldK h v = fieldV (ηh h) φ v := by
  cases v <;> first
    | rfl
    | exact evK_eq h φ hp
noncomputable def sameK (h : Int) (op d s t m : Int) (v : AV) : Bool := match v with
  | .agg [o, d', s', t', m'] => andB (ieqb (fieldK h o) op) (andB (ieqb (fieldK h d') d) (andB (ieqb (fieldK h s') s) (andB (ieqb (fieldK h t') t) (ieqb (fieldK h m') m))))
  | _ => false
noncomputable def Tr.isK (h : Int) (op d s t m : Int) (x : Tr) : Bool :=
  Tr.rec (motive := fun _ => Bool) (fun v => sameK h op d s t m v) (fun a b _ _ t f => Bool.rec (motive := fun _ => Bool) f t (ieqb (a.evK h) (b.evK h))) (fun a b _ _ t f => Bool.rec (motive := fun _ => Bool) f t (iltb (a.evK h) (b.evK h))) false x
theorem isK_spec (h : Int) (φ : Nat → List Int → Int) {op d s t m : Int} : ∀ {x : Tr}, x.pureT = true → x.isK h op d s t m = true → insnOf (ηh h) φ (x.at (ηh h) φ) = ⟨op, d, s, t, m⟩
  | .leaf v, hp, hk => by
    replace hk : sameK h op d s t m v = true := hk
    replace hp : insnP v = true := hp
    unfold insnP at hp
    split at hp
    · rename_i o d' s' t' m'
      simp only [Bool.and_eq_true] at hp
      obtain ⟨p1, p2, p3, p4, p5⟩ := hp
      replace hk : andB (ieqb (fieldK h o) op) (andB (ieqb (fieldK h d') d) (andB (ieqb (fieldK h s') s) (andB (ieqb (fieldK h t') t) (ieqb (fieldK h m') m)))) = true := hk
      simp only [andB_eq, ieqb_eq, Bool.and_eq_true, beq_iff_eq, fieldK_eq h φ p1, fieldK_eq h φ p2, fieldK_eq h φ p3, fieldK_eq h φ p4, fieldK_eq h φ p5] at hk
      obtain ⟨e1, e2, e3, e4, e5⟩ := hk
      show InsnR.mk (fieldV (ηh h) φ o) (fieldV (ηh h) φ d') (fieldV (ηh h) φ s') (fieldV (ηh h) φ t') (fieldV (ηh h) φ m') = _
      rw [e1, e2, e3, e4, e5]
    · cases hp
  | .eq a b x y, hp, hk => by
    simp only [Tr.pureT, Bool.and_eq_true] at hp
    obtain ⟨⟨p1, p2⟩, p3, p4⟩ := hp
    replace hk : Bool.rec (motive := fun _ => Bool) (y.isK h op d s t m) (x.isK h op d s t m) (ieqb (a.evK h) (b.evK h)) = true := hk
    rw [evK_eq h φ p1, evK_eq h φ p2, ieqb_eq] at hk
    rw [Tr.at]
    cases hc : (a.ev (ηh h) φ == b.ev (ηh h) φ) with
    | true => rw [hc] at hk; exact isK_spec h φ p3 hk
    | false => rw [hc] at hk; exact isK_spec h φ p4 hk
  | .lt a b x y, hp, hk => by
    simp only [Tr.pureT, Bool.and_eq_true] at hp
    obtain ⟨⟨p1, p2⟩, p3, p4⟩ := hp
    replace hk : Bool.rec (motive := fun _ => Bool) (y.isK h op d s t m) (x.isK h op d s t m) (iltb (a.evK h) (b.evK h)) = true := hk
    rw [evK_eq h φ p1, evK_eq h φ p2, iltb_eq] at hk
    rw [Tr.at]
    cases hc : decide (a.ev (ηh h) φ < b.ev (ηh h) φ) with
    | true => rw [hc] at hk; exact isK_spec h φ p3 hk
    | false => rw [hc] at hk; exact isK_spec h φ p4 hk
  | .bad, _, hk => by cases hk
theorem rawTr_pure (n : Nat) (hn : n < 39) : (rawTr n).pureT = true := by
  have h : ((List.range 39).all fun n => (rawTr n).pureT) = true := by kernel_rfl
  exact List.all_eq_true.1 h n (List.mem_range.2 hn)
/-- what functions are does not matter there -/
theorem ev_pure (h : Int) (φ φ' : Nat → List Int → Int) {e : SE} (hp : e.pureH = true) : e.ev (ηh h) φ = e.ev (ηh h) φ' := (evK_eq h φ hp).symm.trans (evK_eq h φ' hp)
theorem field_pure (h : Int) (φ φ' : Nat → List Int → Int) {v : AV} (hp : fieldP v = true) : fieldV (ηh h) φ v = fieldV (ηh h) φ' v := (fieldK_eq h φ hp).symm.trans (fieldK_eq h φ' hp)
theorem at_pure (h : Int) (φ φ' : Nat → List Int → Int) : ∀ {x : Tr}, x.pureT = true → x.at (ηh h) φ = x.at (ηh h) φ' ∧ insnOf (ηh h) φ (x.at (ηh h) φ) = insnOf (ηh h) φ' (x.at (ηh h) φ') ∧ ∀ v, x.at (ηh h) φ = some v → insnP v = true
  | .leaf v, hp => by
    replace hp : insnP v = true := hp
    refine ⟨rfl, ?_, fun u hu => by injection hu with hu; subst hu; exact hp⟩
    unfold insnP at hp
    split at hp
    · rename_i o d s t m
      simp only [Bool.and_eq_true] at hp
      obtain ⟨p1, p2, p3, p4, p5⟩ := hp
      show InsnR.mk _ _ _ _ _ = InsnR.mk _ _ _ _ _
      rw [field_pure h φ φ' p1, field_pure h φ φ' p2, field_pure h φ φ' p3, field_pure h φ φ' p4, field_pure h φ φ' p5]
    · cases hp
  | .eq a b x y, hp => by
    simp only [Tr.pureT, Bool.and_eq_true] at hp
    obtain ⟨⟨p1, p2⟩, p3, p4⟩ := hp
    rw [Tr.at, Tr.at, ev_pure h φ φ' p1, ev_pure h φ φ' p2]
    cases (a.ev (ηh h) φ' == b.ev (ηh h) φ') with
    | true => exact at_pure h φ φ' p3
    | false => exact at_pure h φ φ' p4
  | .lt a b x y, hp => by
    simp only [Tr.pureT, Bool.and_eq_true] at hp
    obtain ⟨⟨p1, p2⟩, p3, p4⟩ := hp
    rw [Tr.at, Tr.at, ev_pure h φ φ' p1, ev_pure h φ φ' p2]
    cases decide (a.ev (ηh h) φ' < b.ev (ηh h) φ') with
    | true => exact at_pure h φ φ' p3
    | false => exact at_pure h φ φ' p4
  | .bad, _ => ⟨rfl, rfl, fun v hv => by cases hv⟩
end Go.Proofs.YtoehlmiadiiimaaGreatDoor.Ex
