/-
  Short forms of instructions: the program's Half and Short.
-/
import Derived.Test.YtoehlmiadiiimaaGreatDoorEncH
namespace Go.Proofs.YtoehlmiadiiimaaGreatDoor.Ex
open Go

section defs
variable [Dec]
def orcHalf (args : List AV) (H : AHeap) : Option (AV × AHeap) :=
  match args with
  | [i] => (insn? i).bind fun e => onE (.fn 113 e) 1 (fun r => .tup [mkInt .u16 (.fn 13 e), .bool r]) H
  | _ => none
def orcEnc (args : List AV) (H : AHeap) : Option (AV × AHeap) :=
  match args with
  | [i] => (insn? i).bind fun e => some (.tup [mkInt .u16 (.fn 200 e), mkInt .i64 (.fn 201 e)], H)
  | _ => none
end defs
def EncC (P : Program) (f : FuncId) : Prop := ∀ op d s t m, u8R op → Ret P f [insnV op d s t m] (.tuple #[.int .u16 (encV op d s t m), .int .i64 (encE op d s t m)])
section
variable [Dec] [Env]
theorem orcHalf_ok {P : Program} {gl : Nat} {f : FuncId} (hφ : Env.φ = φ0) (hc : HalfI P f) : CallOK P gl (only f orcHalf) := by
  refine callOK_only fun args H v H' h => ?_
  unfold orcHalf at h
  split at h
  · rename_i i
    rw [Option.bind_eq_some_iff] at h
    obtain ⟨e, he, h⟩ := h
    obtain ⟨r, hr, rfl, rfl⟩ := onE_some h
    refine ⟨rfl, fun ρ w args' hI hv => ?_⟩
    cases hv with
    | cons _ vo _ _ h1 hv =>
      cases hv
      obtain ⟨o, d, s, t, m, hr8, rfl, q⟩ := insn?_rel he h1
      rw [sev_fn, q, hφ] at hr
      have hr : halfB o d s t m = r := by rw [← hr]; exact (b01_eq _).symm
      subst hr
      refine ⟨_, .tup _ [_, _] (.cons _ _ _ _ (mkInt_rel ρ .u16 (.fn 13 e)) (.cons _ _ _ _ (.bool _) .nil)), ?_⟩
      rw [sev_fn, q, hφ]
      exact hc o d s t m hr8 w
  · cases h
theorem orcEnc_ok {P : Program} {gl : Nat} {f : FuncId} (hφ : Env.φ = φ0) (hc : EncC P f) : CallOK P gl (only f orcEnc) := by
  refine callOK_only fun args H v H' h => ?_
  unfold orcEnc at h
  split at h
  · rename_i i
    rw [Option.bind_eq_some_iff] at h
    obtain ⟨e, he, h⟩ := h
    simp only [Option.some.injEq, Prod.mk.injEq] at h
    obtain ⟨rfl, rfl⟩ := h
    refine ⟨rfl, fun ρ w args' hI hv => ?_⟩
    cases hv with
    | cons _ vo _ _ h1 hv =>
      cases hv
      obtain ⟨o, d, s, t, m, hr8, rfl, q⟩ := insn?_rel he h1
      refine ⟨_, .tup _ [_, _] (.cons _ _ _ _ (mkInt_rel ρ .u16 (.fn 200 e)) (.cons _ _ _ _ (mkInt_rel ρ .i64 (.fn 201 e)) .nil)), ?_⟩
      rw [sev_fn, sev_fn, q, hφ]
      exact hc o d s t m hr8 w
  · cases h
end
def eI : SE := .pair (.var 4) (.pair (.var 0) (.pair (.var 1) (.pair (.var 2) (.var 3))))
def FU : Fa := ⟨[], opFacts, []⟩
theorem FU_on {op : Int} (ho : u8R op) (d s t m : Int) : FU.On (ηl [d, s, t, m, op]) φ0 := ⟨fun _ hx => (by cases hx), opFacts_on ho d s t m, fun _ hx => (by cases hx)⟩
def encTr : Tr := .eq (.fn 12 eI) (.lit 1) (.eq (.fn 113 eI) (.lit 1) (.leaf (.tup [.sint .u16 (.fn 13 eI), .int .i64 0])) (.leaf (.tup [.int .u16 0, .int .i64 6]))) (.leaf (.tup [.int .u16 0, .int .i64 20]))
def orcK (check half : FuncId) (F : Fa) : ACall := orElse (only check (@orcCheck F.dec)) (only half (@orcHalf F.dec))
theorem orcK_OK {P : Program} {check half : FuncId} (h1 : CheckC P check) (h2 : HalfI P half) : OrcOK P 0 φ0 (orcK check half) :=
  fun F _ h => @callOK_or F.dec h.env P 0 _ _ (@orcCheck_ok F.dec h.env P 0 check rfl h1) (@orcHalf_ok F.dec h.env P 0 half rfl h2)
theorem e12 (d s t m op : Int) : (SE.fn 12 eI).ev (ηl [d, s, t, m, op]) φ0 = b01 (mayI op d s t m) := rfl
theorem e113 (d s t m op : Int) : (SE.fn 113 eI).ev (ηl [d, s, t, m, op]) φ0 = b01 (halfB op d s t m) := rfl
section
variable {P : Program}
theorem encC_of (hm : P.follows .mixedOrders = true) {f check half : FuncId} (c1 : CheckC P check) (c2 : HalfI P half) (h : encTr.ok (runT P (orcK check half) 10000 0 f [symI]) FU = true) : EncC P f := by
  intro op d s t m ho
  have key : ∃ v, encTr.at (ηl [d, s, t, m, op]) φ0 = some v ∧ v.plain = true ∧ v.toVal (ηl [d, s, t, m, op]) φ0 = .tuple #[.int .u16 (encV op d s t m), .int .i64 (encE op d s t m)] := by
    unfold encTr encV encE
    rw [at_eq, e12, ev_lit]
    cases hmay : mayI op d s t m with
    | false => rw [if_neg (by simp [b01])]; exact ⟨_, rfl, rfl, rfl⟩
    | true =>
      rw [if_pos (by simp [b01]), at_eq, e113, ev_lit]
      cases hb : halfB op d s t m with
      | false =>
        rw [if_neg (by simp [b01])]
        refine ⟨_, rfl, rfl, ?_⟩
        have : halfV op d s t m = 0 := by
          unfold halfB at hb; unfold halfV
          cases hs : sel op d s t m rowsL 0 with
          | none => rfl
          | some x => rw [hs] at hb; cases hb
        rw [this]
        rfl
      | true => rw [if_pos (by simp [b01])]; exact ⟨_, rfl, rfl, rfl⟩
  obtain ⟨v, h1, h2, h3⟩ := key
  exact ret_of (η := ηl [d, s, t, m, op]) hm (orcK_OK c1 c2) h (FU_on ho d s t m) h1 h2 rfl rfl h3
end
end Go.Proofs.YtoehlmiadiiimaaGreatDoor.Ex
