/-
  Half words: the chapter's rows in the document's own reading: contracts out of a heap of one block.
-/
import Derived.Test.YtklenhohljeacaaDoorEncU2
import Derived.Test.YtklenhohljeacaaDoorEncW2
import Derived.Test.YtklenhohljeacaaDoorEncI2
namespace Go.Proofs.YtklenhohljeacaaDoor.Ex
open Go

/-- a row's places, as cells -/
def cellsA (ps : List Nat) : List AV := ps.map fun (n : Nat) => .int .i64 (n : Int)
noncomputable def heap1 (c : List AV) (e : TypeId) (t : Bool) : AHeap := (⟨0, .leaf⟩ : AHeap).alloc (.cells c e t)
/-- A slice that holds a row's places. -/
def PlC (P : Program) (ps : List Nat) (pl : Value) (w : World) : Prop := ∃ (ρ : Rho) (e : TypeId) (t : Bool), (∀ b, 1 ≤ b → ρ b = none) ∧ (∀ b r, ρ b = some r → r.cb < w.heap.size) ∧
  (∀ (D : Dec) (E : @Env D) r, ρ 0 = some r → ∃ C, w.heap[r.cb]? = some C ∧ @OR D E P ρ r (.cells (cellsA ps) e t) C) ∧ ∀ (D : Dec) (E : @Env D), @VR D E ρ (.sl 0 0 ps.length ps.length) pl
noncomputable def runO (P : Program) (orc : Fa → ACall) (n : Nat) (f : FuncId) (args : List AV) (c : List AV) (e : TypeId) (t : Bool) (F : Fa) : Option AV :=
  (acallT P (orc F) (@execT F.dec P 0 (orc F) n) 1 f args (heap1 c e t) fun v H => some (v, H)).map (·.1)
theorem heap1_get (c : List AV) (e : TypeId) (t : Bool) (b : Nat) (o : AObj) (h : (heap1 c e t).get b = some o) : b = 0 ∧ o = .cells c e t := by
  unfold heap1 at h
  rw [AHeap.get_alloc] at h
  split at h
  · rename_i hb
    injection h with h
    exact ⟨hb, h.symm⟩
  · rw [show AHeap.get (⟨0, .leaf⟩ : AHeap) b = none from T.get_leaf b] at h
    cases h
theorem calls_one {P : Program} (hm : P.follows .mixedOrders = true) {orc : Fa → ACall} {φ : Nat → List Int → Int} (horc : OrcOK P 0 φ orc) {n : Nat} {f : FuncId} {args : List AV} {ps : List Nat} {F : Fa} {tr : Tr}
    (told : (fun e t => tr.ok (runO P orc n f args (cellsA ps) e t) F) = fun _ _ => true) {η : Nat → Int} (hF : F.On η φ) {v : AV} (hv : tr.at η φ = some v) (hp : v.plain = true) {args' : List Value} {u : Value} (h2 : v.toVal η φ = u) {w : World} {pl : Value}
    (hpl : PlC P ps pl w) (hr : ∀ (D : Dec) (E : @Env D) (ρ : Rho), E.η = η → E.φ = φ → @VR D E ρ (.sl 0 0 ps.length ps.length) pl → @VRs D E ρ args args') :
    Calls P f args'.toArray w fun e w' => e = .returned u ∧ RowKit.Below w.heap.size w w' := by
  subst h2
  obtain ⟨ρ, e, t, k1, k2, k3, k4⟩ := hpl
  obtain ⟨F', hF', hR⟩ := Tr.ok_at (congrFun (congrFun told e) t) hF hv
  letI : Dec := F'.dec
  letI : Env := hF'.env
  have hi : Inv P ρ (heap1 (cellsA ps) e t) w := by
    refine ⟨fun b o r hb hr => ?_, fun b c o p r s hb hc _ _ _ => ?_, fun b hb => k1 b hb, k2⟩
    · obtain ⟨rfl, rfl⟩ := heap1_get _ _ _ b o hb
      exact k3 _ _ r hr
    · obtain ⟨rfl, -⟩ := heap1_get _ _ _ b o hb
      obtain ⟨rfl, -⟩ := heap1_get _ _ _ c p hc
      rfl
  unfold runO at hR
  rw [callT_eq, Option.map_eq_some_iff] at hR
  obtain ⟨⟨x, H'⟩, hq, hx⟩ := hR
  simp only at hx
  subst hx
  refine (call_sound hm (horc F' η hF') n 1 f args (heap1 (cellsA ps) e t) x H' hq ρ w _ hi (hr _ _ ρ rfl rfl (k4 _ _)) (fun g hg => by omega) (Nat.le_refl _)).mono ?_
  rintro e w' ⟨ρ', v', he, hv', hs⟩
  rw [VR.toVal _ hp hv'] at he
  exact ⟨he, hs.below (Nat.le_refl _) hi⟩
end Go.Proofs.YtklenhohljeacaaDoor.Ex
