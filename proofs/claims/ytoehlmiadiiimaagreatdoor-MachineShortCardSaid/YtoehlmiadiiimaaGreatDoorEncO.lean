/-
  Short forms of instructions: oracles for the small functions; the checks.
-/
import Derived.Test.YtoehlmiadiiimaaGreatDoorEncC
namespace Go.Proofs.YtoehlmiadiiimaaGreatDoor.Ex
open Go

def SE.one : SE → Bool
  | .pair .. => false
  | _ => true
theorem evs_one {η : Nat → Int} {φ : Nat → List Int → Int} {e : SE} (h : e.one = true) : e.evs η φ = [e.ev η φ] := by
  cases e <;> first
    | rfl
    | cases h

section defs
variable [Dec]
def i64? : AV → Option SE
  | .int .i64 n => some (.lit n)
  | .sint .i64 e => if e.one = true then some e else none
  | _ => none
def isT : Option Bool → Bool
  | some true => true
  | _ => false
def isF : Option Bool → Bool
  | some false => true
  | _ => false
def u8? (v : AV) : Option SE :=
  match (match v with
    | .int .u8 n => some (SE.lit n)
    | .sint .u8 e => some e
    | _ => none) with
  | some e => if (isT (Dec.lts e (.lit 256)) && isF (Dec.lts e (.lit 0)) && e.one) = true then some e else none
  | none => none
/-- An instruction's five numbers. -/
def insn? : AV → Option SE
  | .agg [o, d, s, t, m] => (u8? o).bind fun o => (i64? d).bind fun d => (i64? s).bind fun s => (i64? t).bind fun t => (i64? m).map fun m => .pair o (.pair d (.pair s (.pair t m)))
  | _ => none
def onE (a : SE) (n : Int) (f : Bool → AV) (H : AHeap) : Option (AV × AHeap) := (Dec.eqs a (.lit n)).map fun r => (f r, H)
def orcForm (args : List AV) (H : AHeap) : Option (AV × AHeap) :=
  match args with
  | [o] => (u8? o).bind fun e => onE (.fn 118 e) 1 (fun r => .tup [mkInt .u8 (.fn 18 e), .int .i64 (match r with | true => 0 | false => 2)]) H
  | _ => none
def orcCheck (args : List AV) (H : AHeap) : Option (AV × AHeap) :=
  match args with
  | [i] => (insn? i).bind fun e => onE (.fn 12 e) 1 (fun r => .int .i64 (match r with | true => 0 | false => 20)) H
  | _ => none
end defs
/-- for the function f -/
def only (f : FuncId) (g : List AV → AHeap → Option (AV × AHeap)) : ACall := fun _ f' args H => match Nat.beq f' f with
  | true => g args H
  | false => none
def orElse (a b : ACall) : ACall := fun lim f args H => match a lim f args H with
  | some r => some r
  | none => b lim f args H

section
variable [Dec] [Env]
theorem callOK_only {P : Program} {gl : Nat} {f : FuncId} {g : List AV → AHeap → Option (AV × AHeap)}
    (h : ∀ args H v H', g args H = some (v, H') → H' = H ∧ ∀ ρ w (args' : List Value), Inv P ρ H w → VRs ρ args args' → ∃ u, VR ρ v u ∧ Calls P f args'.toArray w fun e w' => e = .returned u ∧ RowKit.Below w.heap.size w w') : CallOK P gl (only f g) := by
  intro lim f' args H v H' hc ρ w args' hI hv _ _
  unfold only at hc
  split at hc
  · rename_i hf
    have := Nat.eq_of_beq_eq_true hf
    subst this
    obtain ⟨rfl, k⟩ := h args H v H' hc
    obtain ⟨u, hu, hcall⟩ := k ρ w args' hI hv
    exact orc_case hI hcall hu
  · cases hc
theorem callOK_or {P : Program} {gl : Nat} {a b : ACall} (ha : CallOK P gl a) (hb : CallOK P gl b) : CallOK P gl (orElse a b) := by
  intro lim f args H v H' hc
  unfold orElse at hc
  split at hc
  · rename_i r hr
    injection hc with hc; subst hc
    exact ha lim f args H v H' hr
  · exact hb lim f args H v H' hc

theorem i64?_rel {x : AV} {e : SE} {ρ : Rho} {v : Value} (h : i64? x = some e) (hv : VR ρ x v) : v = .int .i64 (sev e) ∧ e.evs Env.η Env.φ = [sev e] := by
  unfold i64? at h
  split at h
  · injection h with h; subst h; cases hv; exact ⟨rfl, rfl⟩
  · split at h
    · rename_i h1; injection h with h; subst h; cases hv; exact ⟨rfl, evs_one h1⟩
    · cases h
  · cases h
theorem u8?_rel {x : AV} {e : SE} {ρ : Rho} {v : Value} (h : u8? x = some e) (hv : VR ρ x v) : v = .int .u8 (sev e) ∧ u8R (sev e) ∧ e.evs Env.η Env.φ = [sev e] := by
  unfold u8? at h
  split at h
  · rename_i e' he
    split at h
    · rename_i hc
      injection h with h; subst h
      obtain ⟨h1, h3⟩ := Bool.and_eq_true_iff.1 hc
      obtain ⟨h1, h2⟩ := Bool.and_eq_true_iff.1 h1
      have k1 : Dec.lts e' (.lit 256) = some true := by revert h1; cases Dec.lts e' (.lit 256) with | none => simp [isT] | some b => cases b <;> simp [isT]
      have k2 : Dec.lts e' (.lit 0) = some false := by revert h2; cases Dec.lts e' (.lit 0) with | none => simp [isF] | some b => cases b <;> simp [isF]
      have l1 := look_lt k1
      have l2 := look_lt k2
      have l1 : sev e' < 256 := of_decide_eq_true l1
      have l2 : ¬ sev e' < 0 := of_decide_eq_false l2
      refine ⟨?_, by constructor <;> omega, evs_one h3⟩
      split at he
      · injection he with he; subst he; cases hv; rfl
      · injection he with he; subst he; cases hv; rfl
      · cases he
    · cases h
  · cases h
theorem insn?_rel {x : AV} {e : SE} {ρ : Rho} {v : Value} (h : insn? x = some e) (hv : VR ρ x v) :
    ∃ o d s t m : Int, u8R o ∧ v = insnV o d s t m ∧ e.evs Env.η Env.φ = [o, d, s, t, m] := by
  unfold insn? at h
  split at h
  · rename_i o d s t m
    simp only [Option.bind_eq_some_iff, Option.map_eq_some_iff] at h
    obtain ⟨eo, ho, ed, hd, es, hs, et, ht, em, hm, rfl⟩ := h
    cases hv with
    | agg cs vs hv =>
      cases hv with
      | cons _ vo _ _ h1 hv => cases hv with
        | cons _ vd _ _ h2 hv => cases hv with
          | cons _ vs _ _ h3 hv => cases hv with
            | cons _ vt _ _ h4 hv => cases hv with
              | cons _ vm _ _ h5 hv =>
                cases hv
                obtain ⟨rfl, hr, q1⟩ := u8?_rel ho h1
                obtain ⟨rfl, q2⟩ := i64?_rel hd h2
                obtain ⟨rfl, q3⟩ := i64?_rel hs h3
                obtain ⟨rfl, q4⟩ := i64?_rel ht h4
                obtain ⟨rfl, q5⟩ := i64?_rel hm h5
                refine ⟨_, _, _, _, _, hr, rfl, ?_⟩
                rw [evs_pair, evs_pair, evs_pair, evs_pair, q1, q2, q3, q4, q5]
                rfl
  · cases h
theorem onE_some {a : SE} {n : Int} {f : Bool → AV} {H H' : AHeap} {v : AV} (h : onE a n f H = some (v, H')) : ∃ r, (sev a == n) = r ∧ v = f r ∧ H' = H := by
  unfold onE at h
  rw [Option.map_eq_some_iff] at h
  obtain ⟨r, hr, h⟩ := h
  simp only [Prod.mk.injEq] at h
  exact ⟨r, look_eq hr, h.1.symm, h.2.symm⟩
theorem sev_fn (i : Nat) (e : SE) : sev (.fn i e) = Env.φ i (e.evs Env.η Env.φ) := rfl

theorem orcForm_ok {P : Program} {gl : Nat} {f : FuncId} (hφ : Env.φ = φ0) (hc : FormC P f) : CallOK P gl (only f orcForm) := by
  refine callOK_only fun args H v H' h => ?_
  unfold orcForm at h
  split at h
  · rename_i o
    rw [Option.bind_eq_some_iff] at h
    obtain ⟨e, he, h⟩ := h
    obtain ⟨r, hr, rfl, rfl⟩ := onE_some h
    refine ⟨rfl, fun ρ w args' hI hv => ?_⟩
    cases hv with
    | cons _ vo _ _ h1 hv =>
      cases hv
      obtain ⟨rfl, hr8, q⟩ := u8?_rel he h1
      rw [sev_fn, q, hφ] at hr
      have hr : knownI (sev e) = r := by rw [← hr]; exact (b01_eq _).symm
      subst hr
      refine ⟨_, .tup _ [_, _] (.cons _ _ _ _ (mkInt_rel ρ .u8 (.fn 18 e)) (.cons _ _ _ _ (.int _ _) .nil)), ?_⟩
      rw [sev_fn, q, hφ]
      exact hc (sev e) hr8 w
  · cases h
theorem orcCheck_ok {P : Program} {gl : Nat} {f : FuncId} (hφ : Env.φ = φ0) (hc : CheckC P f) : CallOK P gl (only f orcCheck) := by
  refine callOK_only fun args H v H' h => ?_
  unfold orcCheck at h
  split at h
  · rename_i i
    rw [Option.bind_eq_some_iff] at h
    obtain ⟨e, he, h⟩ := h
    obtain ⟨r, hr, rfl, rfl⟩ := onE_some h
    refine ⟨rfl, fun ρ w args' hI hv => ?_⟩
    cases hv with
    | cons _ vo _ _ h1 hv =>
      cases hv
      obtain ⟨o, d, s, t, m, hr8, rfl, q⟩ := insn?_rel he h1
      rw [sev_fn, q, hφ] at hr
      have hr : mayI o d s t m = r := by rw [← hr]; exact (b01_eq _).symm
      subst hr
      exact ⟨_, .int _ _, hc o d s t m hr8 w⟩
  · cases h
end

/-- An instruction of which nothing is known. -/
def symI : AV := .agg [.sint .u8 (.var 4), .sint .i64 (.var 0), .sint .i64 (.var 1), .sint .i64 (.var 2), .sint .i64 (.var 3)]
def opFacts : List (SE × SE × Bool) := [(.var 4, .lit 256, true), (.var 4, .lit 0, false)]
/-- its form is known; it has none -/
def FA (c : Nat) : Fa := ⟨[(.fn 118 (.var 4), .lit 1, true)], opFacts, [(.fn 18 (.var 4), c)]⟩
def FN : Fa := ⟨[(.fn 118 (.var 4), .lit 1, false)], opFacts, [(.fn 18 (.var 4), 0)]⟩
theorem opFacts_on {op : Int} (ho : u8R op) (d s t m : Int) : ∀ x ∈ opFacts, decide (x.1.ev (ηl [d, s, t, m, op]) φ0 < x.2.1.ev (ηl [d, s, t, m, op]) φ0) = x.2.2 := by
  obtain ⟨h1, h2⟩ := ho
  intro x hx
  simp only [opFacts, List.mem_cons, List.not_mem_nil, or_false] at hx
  rcases hx with rfl | rfl
  · exact decide_eq_true h2
  · exact decide_eq_false (show ¬ op < 0 by omega)
theorem forms_mem (n : Nat) (hn : n < 94) : formsL.getD n 0 ∈ forms2 := by
  have h : ((List.range 94).all fun n => forms2.contains (formsL.getD n 0)) = true := by kernel_rfl
  have := List.all_eq_true.1 h n (List.mem_range.2 hn)
  simpa using this
theorem FA_on {op : Int} (ho : u8R op) (hk : knownI op = true) (d s t m : Int) : (FA (formI op)).On (ηl [d, s, t, m, op]) φ0 where
  es := by
    intro x hx
    simp only [FA, List.mem_cons, List.not_mem_nil, or_false] at hx
    subst hx
    show (b01 (knownI op) == 1) = true
    rw [hk]; rfl
  ls := opFacts_on ho d s t m
  vs := by
    intro x hx
    simp only [FA, List.mem_cons, List.not_mem_nil, or_false] at hx
    subst hx
    rfl
theorem FN_on {op : Int} (ho : u8R op) (hk : knownI op = false) (d s t m : Int) : FN.On (ηl [d, s, t, m, op]) φ0 where
  es := by
    intro x hx
    simp only [FN, List.mem_cons, List.not_mem_nil, or_false] at hx
    subst hx
    show (b01 (knownI op) == 1) = false
    rw [hk]; rfl
  ls := opFacts_on ho d s t m
  vs := by
    intro x hx
    simp only [FN, List.mem_cons, List.not_mem_nil, or_false] at hx
    subst hx
    show ((formI op : Nat) : Int) = 0
    unfold formI
    rw [hk]; rfl
theorem formI_mem {op : Int} (hk : knownI op = true) : formI op ∈ forms2 := by
  have h := hk
  simp only [knownI, Bool.and_eq_true, decide_eq_true_eq] at h
  unfold formI
  rw [hk]
  exact forms_mem _ (by omega)

section
variable {P : Program}
def orcF (form : FuncId) (F : Fa) : ACall := only form (@orcForm F.dec)
theorem orcF_OK {form : FuncId} (hc : FormC P form) : OrcOK P 0 φ0 (orcF form) := fun F _ h => @orcForm_ok F.dec h.env P 0 form rfl hc
theorem checkC_of (hm : P.follows .mixedOrders = true) {f form : FuncId} (hc : FormC P form) (h1 : (forms2.all fun c => (checkTr c).ok (runT P (orcF form) 10000 0 f [symI]) (FA c)) = true) (h2 : checkNo.ok (runT P (orcF form) 10000 0 f [symI]) FN = true) : CheckC P f := by
  intro op d s t m ho
  unfold mayI
  cases hk : knownI op with
  | true =>
    have hf := formI_mem hk
    refine ret_of (η := ηl [d, s, t, m, op]) hm (orcF_OK hc) (List.all_eq_true.1 h1 _ hf) (FA_on ho hk d s t m) (checkTr_at _ hf _ _) rfl rfl rfl ?_
    rw [Bool.true_and]
    rfl
  | false =>
    exact ret_of (η := ηl [d, s, t, m, op]) hm (orcF_OK hc) h2 (FN_on ho hk d s t m) rfl rfl rfl rfl rfl
end
end Go.Proofs.YtoehlmiadiiimaaGreatDoor.Ex
