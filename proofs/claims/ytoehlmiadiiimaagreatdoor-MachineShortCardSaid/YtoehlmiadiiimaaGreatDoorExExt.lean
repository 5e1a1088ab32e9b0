/-
  An executor over the model's code: oracles for two functions of Go's library that have no text of their own below them.
-/
import Derived.Test.YtoehlmiadiiimaaGreatDoorExLaid
import Derived.Lib.Bytealg
namespace Go.Proofs.YtoehlmiadiiimaaGreatDoor.Ex
open Go

def CountC (P : Program) (f : FuncId) : Prop := ∀ (s : ByteArray) (c : UInt8) (w : World), Calls P f #[.string s, .string ⟨#[c]⟩] w fun e w' => e = .returned (.int .i64 (Lib.countByte s.data.toList c)) ∧ w' = w
def IndexC (P : Program) (f : FuncId) : Prop := ∀ (s : ByteArray) (c : UInt8) (w : World), Calls P f #[.string s, .int .u8 c.toNat] w fun e w' => e = .returned (.int .i64 (Lib.indexByte s.data.toList c)) ∧ w' = w
noncomputable def cntN (c : Nat) (s : List Nat) : Nat := List.rec (motive := fun _ => Nat) 0 (fun b _ ih => Bool.rec (motive := fun _ => Nat) ih (Nat.succ ih) (Nat.beq b c)) s
noncomputable def idxN (c : Nat) (s : List Nat) : Nat → Int := List.rec (motive := fun _ => Nat → Int) (fun _ => .negSucc 0) (fun b _ ih k => Bool.rec (motive := fun _ => Int) (ih (Nat.succ k)) (.ofNat k) (Nat.beq b c)) s
theorem beq_u8 (b c : UInt8) : Nat.beq b.toNat c.toNat = (b == c) := by
  cases h : (b == c) with
  | true => rw [beq_iff_eq] at h; subst h; simp
  | false =>
    rw [beq_eq_false_iff_ne] at h
    cases h2 : Nat.beq b.toNat c.toNat with
    | false => rfl
    | true => exact absurd (UInt8.toNat_inj.1 (Nat.eq_of_beq_eq_true h2)) h
theorem cntN_eq (c : UInt8) : ∀ l : List UInt8, cntN c.toNat (l.map UInt8.toNat) = Lib.countByte l c
  | [] => rfl
  | b :: l => by
    show Bool.rec (motive := fun _ => Nat) (cntN c.toNat (l.map UInt8.toNat)) (Nat.succ (cntN c.toNat (l.map UInt8.toNat))) (Nat.beq b.toNat c.toNat) = _
    rw [beq_u8, cntN_eq c l]
    unfold Lib.countByte
    rw [List.count_cons]
    cases h : (b == c) <;> simp
theorem idxN_eq (c : UInt8) : ∀ (l : List UInt8) (k : Nat), idxN c.toNat (l.map UInt8.toNat) k = if Lib.indexByte l c = -1 then -1 else Lib.indexByte l c + k
  | [], k => rfl
  | b :: l, k => by
    show Bool.rec (motive := fun _ => Int) (idxN c.toNat (l.map UInt8.toNat) (k + 1)) (.ofNat k) (Nat.beq b.toNat c.toNat) = _
    have hu : Lib.indexByte (b :: l) c = if b == c then 0 else if Lib.indexByte l c == -1 then -1 else Lib.indexByte l c + 1 := rfl
    rw [beq_u8, idxN_eq c l (k + 1), hu]
    have hge := Lib.indexByte_ge l c
    generalize Lib.indexByte l c = x at *
    cases h : (b == c) with
    | true =>
      simp only [if_true]
      rw [if_neg (by omega)]
      simp
    | false =>
      simp only [Bool.false_eq_true, if_false, beq_iff_eq]
      by_cases h1 : x = -1
      · simp [h1]
      · rw [if_neg h1, if_neg h1, if_neg (by omega)]
        omega
noncomputable def orcCnt (f : FuncId) : ACall := fun _ f' args H => match Nat.beq f' f, args with
  | true, [.str s, .str [c]] => some (.int .i64 (.ofNat (cntN c s)), H)
  | _, _ => none
noncomputable def orcIdx (f : FuncId) : ACall := fun _ f' args H => match Nat.beq f' f, args with
  | true, [.str s, .int .u8 c] => match decide (0 ≤ c) && decide (c < 256) with
    | true => some (.int .i64 (idxN c.toNat s 0), H)
    | false => none
  | _, _ => none
section
variable [Dec] [Env] {P : Program} {gl : Nat}
theorem orcCnt_ok {f : FuncId} (hc : CountC P f) : CallOK P gl (orcCnt f) := by
  intro lim f' args H v H' h ρ w args' hI hv hg _
  unfold orcCnt at h
  split at h
  · rename_i s c hf
    have := Nat.eq_of_beq_eq_true hf
    subst this
    simp only [Option.some.injEq, Prod.mk.injEq] at h
    obtain ⟨rfl, rfl⟩ := h
    cases hv with
    | cons _ v1 _ _ h1 hv =>
      cases hv with
      | cons _ v2 _ _ h2 hv =>
        cases hv
        cases h1 with
        | str s1 _ e1 =>
          cases h2 with
          | str s2 _ e2 =>
            obtain ⟨⟨l2⟩⟩ := s2
            match l2, e2 with
            | [u], e2 =>
              simp only [List.map_cons, List.map_nil, List.cons.injEq, and_true] at e2
              subst e1; subst e2
              rw [cntN_eq]
              exact orc_case hI ((hc s1 u w).mono fun _ _ ⟨he, hw⟩ => ⟨he, by subst hw; exact RowKit.Below.refl _ _⟩) (.int _ _)
  · cases h
theorem orcIdx_ok {f : FuncId} (hc : IndexC P f) : CallOK P gl (orcIdx f) := by
  intro lim f' args H v H' h ρ w args' hI hv hg _
  unfold orcIdx at h
  split at h
  · rename_i s c hf
    have := Nat.eq_of_beq_eq_true hf
    subst this
    split at h
    · rename_i hr
      simp only [Bool.and_eq_true, decide_eq_true_eq] at hr
      simp only [Option.some.injEq, Prod.mk.injEq] at h
      obtain ⟨rfl, rfl⟩ := h
      cases hv with
      | cons _ v1 _ _ h1 hv =>
        cases hv with
        | cons _ v2 _ _ h2 hv =>
          cases hv
          cases h1 with
          | str s1 _ e1 =>
            cases h2
            subst e1
            have eu : ((UInt8.ofNat c.toNat).toNat : Int) = c := by simp; omega
            have eu' : (UInt8.ofNat c.toNat).toNat = c.toNat := by simp; omega
            have k := hc s1 (UInt8.ofNat c.toNat) w
            rw [eu] at k
            have e : idxN c.toNat (s1.data.toList.map UInt8.toNat) 0 = Lib.indexByte s1.data.toList (UInt8.ofNat c.toNat) := by
              have := idxN_eq (UInt8.ofNat c.toNat) s1.data.toList 0
              rw [eu'] at this
              rw [this]
              by_cases h1 : Lib.indexByte s1.data.toList (UInt8.ofNat c.toNat) = -1
              · rw [if_pos h1, h1]
              · rw [if_neg h1]; simp
            rw [e]
            exact orc_case hI (k.mono fun _ _ ⟨he, hw⟩ => ⟨he, by subst hw; exact RowKit.Below.refl _ _⟩) (.int _ _)
    · cases h
  · cases h
end
theorem orcExt_OK {P : Program} {gl : Nat} {f g : FuncId} (h1 : CountC P f) (h2 : IndexC P g) : ∀ φ, OrcOK P gl φ (orG (fun _ => orcCnt f) (fun _ => orcIdx g)) :=
  orG_OK (fun _ F _ h => @orcCnt_ok F.dec h.env P gl f h1) (fun _ F _ h => @orcIdx_ok F.dec h.env P gl g h2)
end Go.Proofs.YtoehlmiadiiimaaGreatDoor.Ex
