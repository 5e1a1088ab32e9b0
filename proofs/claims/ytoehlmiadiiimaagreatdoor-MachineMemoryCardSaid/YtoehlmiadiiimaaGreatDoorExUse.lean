/-
  An executor over the model's code: how it is used.
-/
import Derived.Test.YtoehlmiadiiimaaGreatDoorExDraw3
namespace Go.Proofs.YtoehlmiadiiimaaGreatDoor.Ex
open Go
variable [Dec] [Env]

theorem inv_none (P : Program) (N : Nat) (w : World) : Inv P (fun _ => none) ⟨N, .leaf⟩ w where
  obj b o r hb := by simp [AHeap.get, T.get_leaf] at hb
  inj b c o p r s hb := by simp [AHeap.get, T.get_leaf] at hb
  fresh _ _ := rfl
  lt b r hr := by cases hr

/-- A call whose arguments hold no memory, from no memory at all. -/
theorem calls_of {P : Program} {call : ACall} (hc : CallOK P 0 call) {N : Nat} {f : FuncId} {args : List AV} {args' : List Value} {v : AV} {H' : AHeap} (h : call N f args ⟨N, .leaf⟩ = some (v, H')) (hr : VRs (fun _ => none) args args') (w : World) :
    Calls P f args'.toArray w fun e w' => ∃ ρ' v', e = .returned v' ∧ VR ρ' v v' ∧ RowKit.Below w.heap.size w w' :=
  (hc N f args ⟨N, .leaf⟩ v H' h (fun _ => none) w args' (inv_none P N w) hr (fun g hg => by omega) (Nat.le_refl _)).mono fun _ _ ⟨ρ', v', he, hv, hs⟩ => ⟨ρ', v', he, hv, hs.below (Nat.le_refl _) (inv_none P N w)⟩

/-- A closed call that answers true. -/
theorem calls_true {P : Program} (hm : P.follows .mixedOrders = true) {orc : ACall} (horc : CallOK P 0 orc) {n N : Nat} {f : FuncId} (h : isTrue (acall P orc (exec P 0 orc n) N f [] ⟨N, .leaf⟩) = true) (w : World) :
    Calls P f #[] w fun e w' => e = .returned (.bool true) ∧ RowKit.Below w.heap.size w w' := by
  cases hq : acall P orc (exec P 0 orc n) N f [] ⟨N, .leaf⟩ with
  | none => rw [hq] at h; cases h
  | some r =>
    obtain ⟨v, H'⟩ := r
    rw [hq] at h
    refine (calls_of (call_sound hm horc n) hq .nil w).mono ?_
    rintro e w' ⟨ρ', v', he, hv, hb⟩
    cases v with
    | bool b =>
      cases b with
      | true => cases hv; exact ⟨he, hb⟩
      | false => cases h
    | _ => cases h
end Go.Proofs.YtoehlmiadiiimaaGreatDoor.Ex
