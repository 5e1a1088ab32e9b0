/-
  Half words: contracts and oracles of what reads them, out of a heap that is as laid.
-/
import Derived.Test.YtoehlmiadiiimaaGreatDoorEncV
import Derived.Test.YtoehlmiadiiimaaGreatDoorEncZ
namespace Go.Proofs.YtoehlmiadiiimaaGreatDoor.Ex
open Go

section defs
variable [Dec]
def u16? (v : AV) : Option SE :=
  match (match v with
    | .int .u16 n => some (SE.lit n)
    | .sint .u16 e => some e
    | _ => none) with
  | some e => if (isT (Dec.lts e (.lit 65536)) && isF (Dec.lts e (.lit 0)) && e.one) = true then some e else none
  | none => none
def orcRaw (args : List AV) (H : AHeap) : Option (AV × AHeap) :=
  match args with
  | [x] => (u16? x).bind fun e => some (.agg [mkInt .u8 (.fn 190 e), mkInt .i64 (.fn 191 e), mkInt .i64 (.fn 192 e), mkInt .i64 (.fn 193 e), mkInt .i64 (.fn 194 e)], H)
  | _ => none
end defs
/-- out of a heap that is so -/
noncomputable def onlyL (chk : AHeap → Bool) (f : FuncId) (g : List AV → AHeap → Option (AV × AHeap)) : ACall := fun _ f' args H => match Nat.beq f' f && chk H with
  | true => g args H
  | false => none
def RetL (L : World → Prop) (P : Program) (f : FuncId) (args : List Value) (v : Value) : Prop := ∀ w, L w → Calls P f args.toArray w fun e w' => e = .returned v ∧ RowKit.Below w.heap.size w w'
abbrev insnVR (i : InsnR) : Value := .agg #[.int .u8 i.op, .int .i64 i.d, .int .i64 i.s, .int .i64 i.t, .int .i64 i.m]
def RawC (L : World → Prop) (P : Program) (f : FuncId) : Prop := ∀ h : Nat, h < 65536 → RetL L P f [.int .u16 (h : Int)] (insnVR (rawR h))
def InsnC (L : World → Prop) (P : Program) (f : FuncId) : Prop := ∀ h : Nat, h < 65536 → RetL L P f [.int .u16 (h : Int)] (.tuple #[insnVR (readR h), .int .i64 (readE h)])

section
variable [Dec] [Env]
theorem callOK_onlyL {P : Program} {gl : Nat} {L : World → Prop} {chk : AHeap → Bool} {f : FuncId} {g : List AV → AHeap → Option (AV × AHeap)} (hL : ∀ ρ H w, chk H = true → Inv P ρ H w → GOK ρ gl → L w)
    (h : ∀ args H v H', g args H = some (v, H') → H' = H ∧ ∀ ρ w (args' : List Value), Inv P ρ H w → VRs ρ args args' → L w → ∃ u, VR ρ v u ∧ Calls P f args'.toArray w fun e w' => e = .returned u ∧ RowKit.Below w.heap.size w w') : CallOK P gl (onlyL chk f g) := by
  intro lim f' args H v H' hc ρ w args' hI hv hg _
  unfold onlyL at hc
  split at hc
  · rename_i hb
    obtain ⟨hf, hchk⟩ := Bool.and_eq_true_iff.1 hb
    have := Nat.eq_of_beq_eq_true hf
    subst this
    obtain ⟨rfl, k⟩ := h args H v H' hc
    obtain ⟨u, hu, hcall⟩ := k ρ w args' hI hv (hL ρ _ w hchk hI hg)
    exact orc_case hI hcall hu
  · cases hc
theorem u16?_rel {x : AV} {e : SE} {ρ : Rho} {v : Value} (h : u16? x = some e) (hv : VR ρ x v) : ∃ n : Nat, n < 65536 ∧ sev e = (n : Int) ∧ v = .int .u16 (n : Int) ∧ e.evs Env.η Env.φ = [(n : Int)] := by
  unfold u16? at h
  split at h
  · rename_i e' he
    split at h
    · rename_i hc
      injection h with h; subst h
      obtain ⟨h1, h3⟩ := Bool.and_eq_true_iff.1 hc
      obtain ⟨h1, h2⟩ := Bool.and_eq_true_iff.1 h1
      have k1 : Dec.lts e' (.lit 65536) = some true := by revert h1; cases Dec.lts e' (.lit 65536) with | none => simp [isT] | some b => cases b <;> simp [isT]
      have k2 : Dec.lts e' (.lit 0) = some false := by revert h2; cases Dec.lts e' (.lit 0) with | none => simp [isF] | some b => cases b <;> simp [isF]
      have l1 : sev e' < 65536 := of_decide_eq_true (look_lt k1)
      have l2 : ¬ sev e' < 0 := of_decide_eq_false (look_lt k2)
      obtain ⟨n, hn⟩ : ∃ n : Nat, sev e' = (n : Int) := ⟨(sev e').toNat, by omega⟩
      refine ⟨n, by omega, hn, ?_, by rw [evs_one h3]; exact congrArg (fun x => [x]) hn⟩
      rw [← hn]
      split at he
      · injection he with he; subst he; cases hv; rfl
      · injection he with he; subst he; cases hv; rfl
      · cases he
    · cases h
  · cases h
theorem orcRaw_ok {P : Program} {gl : Nat} {L : World → Prop} {chk : AHeap → Bool} (hL : ∀ ρ H w, chk H = true → Inv P ρ H w → GOK ρ gl → L w) {f : FuncId} (hφ : Env.φ = φ0) (hc : RawC L P f) : CallOK P gl (onlyL chk f orcRaw) := by
  refine callOK_onlyL hL fun args H v H' h => ?_
  unfold orcRaw at h
  split at h
  · rename_i x
    rw [Option.bind_eq_some_iff] at h
    obtain ⟨e, he, h⟩ := h
    simp only [Option.some.injEq, Prod.mk.injEq] at h
    obtain ⟨rfl, rfl⟩ := h
    refine ⟨rfl, fun ρ w args' hI hv hw => ?_⟩
    cases hv with
    | cons _ vo _ _ h1 hv =>
      cases hv
      obtain ⟨n, hn, hs, rfl, q⟩ := u16?_rel he h1
      refine ⟨_, .agg _ [_, _, _, _, _] (.cons _ _ _ _ (mkInt_rel ρ .u8 (.fn 190 e)) (.cons _ _ _ _ (mkInt_rel ρ .i64 (.fn 191 e)) (.cons _ _ _ _ (mkInt_rel ρ .i64 (.fn 192 e)) (.cons _ _ _ _ (mkInt_rel ρ .i64 (.fn 193 e)) (.cons _ _ _ _ (mkInt_rel ρ .i64 (.fn 194 e)) .nil))))), ?_⟩
      rw [sev_fn, sev_fn, sev_fn, sev_fn, sev_fn, q, hφ]
      exact hc n hn w hw
  · cases h
end

/- what cdec.Insn answers, by its tests -/
def e19 : SE := .pair (.fn 190 (.var 0)) (.pair (.fn 191 (.var 0)) (.pair (.fn 192 (.var 0)) (.pair (.fn 193 (.var 0)) (.fn 194 (.var 0)))))
def gotV : AV := .tup [.agg [.sint .u8 (.fn 190 (.var 0)), .sint .i64 (.fn 191 (.var 0)), .sint .i64 (.fn 192 (.var 0)), .sint .i64 (.fn 193 (.var 0)), .sint .i64 (.fn 194 (.var 0))], .int .i64 0]
def notV : AV := .tup [.agg [.int .u8 0, .int .i64 0, .int .i64 0, .int .i64 0, .int .i64 0], .int .i64 60]
def insnTr : Tr := .eq (.fn 201 e19) (.lit 0)
  (.eq (.fn 200 e19) (.var 0) (.leaf gotV)
    (.eq (.fn 190 (.var 0)) (.lit 22) (.eq (.fn 191 (.var 0)) (.lit 2) (.eq (.fn 192 (.var 0)) (.lit 2) (.eq (.bin .rem .i64 (.fn 194 (.var 0)) (.lit 16)) (.lit 0)
      (.eq (.fn 194 (.var 0)) (.lit 0) (.leaf notV) (.eq (.bin .shr .u16 (.var 0) (.lit 13)) (.lit 3) (.leaf gotV) (.leaf notV))) (.leaf notV)) (.leaf notV)) (.leaf notV)) (.leaf notV)))
  (.leaf notV)
def FI : Fa := ⟨[], [(.var 0, .lit 65536, true), (.var 0, .lit 0, false), (.fn 190 (.var 0), .lit 256, true), (.fn 190 (.var 0), .lit 0, false)], []⟩
end Go.Proofs.YtoehlmiadiiimaaGreatDoor.Ex
