/-
  Half words: the document's small functions, in the door program's own numbers.
-/
import Derived.Test.YtklenhohljeacaaDoorEncD3
import Derived.Test.YtklenhohljeacaaDoorEncU9
import Derived.Test.YtklenhohljeacaaDoorEncU4
import Derived.Test.YtklenhohljeacaaDoorEncS
namespace Go.Proofs.YtklenhohljeacaaDoor
open Go.Proofs.YtklenhohljeacaaDoor.Ex

def tab55 : List (List AV × AV) := (List.range 94).map fun (i : Nat) => ([li (Int.ofNat (i + 1))], .tup [names.getD i .nilif, .str [formsL.getD i 0]])
def tab40 : List (List AV × AV) := rowsL.map fun r => ([.str r.name], .tup [.int .u8 (r.op : Nat), li 0])
/-- Is a table of closed calls right, and plain? -/
noncomputable def tabOk (P : Program) (orc : Fa → ACall) (f : FuncId) (tab : List (List AV × AV)) : Bool := tab.all fun x => (AV.plains x.1 && x.2.plain) && (Tr.leaf x.2).ok (Go.Proofs.YtklenhohljeacaaDoor.Ex.runT P orc 10000 0 f x.1) ⟨[], [], []⟩
theorem tab_of {P : Program} (hm : P.follows .mixedOrders = true) {orc : Fa → ACall} (horc : ∀ φ, OrcOK P 0 φ orc) {f : FuncId} {tab : List (List AV × AV)} (h : tabOk P orc f tab = true) :
    (∀ x ∈ tab, AV.plains x.1 = true ∧ x.2.plain = true) ∧ ∀ x ∈ tab, ∀ η φ, Ret P f (AV.toVals η φ x.1) (x.2.toVal η φ) := by
  have key : ∀ x ∈ tab, (AV.plains x.1 = true ∧ x.2.plain = true) ∧ (Tr.leaf x.2).ok (Go.Proofs.YtklenhohljeacaaDoor.Ex.runT P orc 10000 0 f x.1) ⟨[], [], []⟩ = true := by
    intro x hx
    have := List.all_eq_true.1 h x hx
    simpa only [Bool.and_eq_true] using this
  exact ⟨fun x hx => (key x hx).1, fun x hx η φ => ret_of hm (horc φ) (key x hx).2 (Fa.On.nil η φ) rfl (key x hx).1.2 (key x hx).1.1 rfl rfl⟩
theorem told55 : tabOk Tryd.prog (fun _ => noOrc) 55 tab55 = true := by kernel_rfl
theorem orc55 (φ : Nat → List Int → Int) : OrcOK Tryd.prog 0 φ (fun _ => orcTab 55 tab55) := fun F _ h =>
  have k := tab_of mixed (fun φ => noOrc_OK Tryd.prog 0 φ) told55
  @orcTab_ok F.dec h.env Tryd.prog 0 55 tab55 k.1 (fun x hx => k.2 x hx _ _)
theorem told40 : tabOk Tryd.prog (fun _ => orcTab 55 tab55) 40 tab40 = true := by kernel_rfl
theorem right : RightC Tryd.prog 44 := rightC_of mixed (by kernel_rfl)
theorem fits : FitsC Tryd.prog 45 := fitsC_of mixed (by kernel_rfl)
theorem mask : MaskC Tryd.prog 39 := maskC_of mixed (by kernel_rfl)
theorem gath : GathC Tryd.prog 41 := gathC_of mixed (by kernel_rfl)
theorem both : BothC Tryd.prog 38 := fun a b ha hb w => both_any a b ha hb w
end Go.Proofs.YtklenhohljeacaaDoor
