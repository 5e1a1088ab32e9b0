/-
  The law CdecSize of package quoinlaw06 answers true, for any half word: the tied card.
-/
import Derived.Test.YtklenhohljeacaaDoorEncE1
import Derived.Test.YtklenhohljeacaaDoorEncE2
import Derived.Test.YtklenhohljeacaaDoorEncE3
import Derived.Test.YtklenhohljeacaaDoorEncE4
import Derived.Test.YtklenhohljeacaaDoorCards
import Derived.Test.YtklenhohljeacaaDoorTie
import Derived.WalkKit
import Derived.ProofKit
import Derived.OpenShut
import Derived.LaidMore
import Derived.SevenTiedAt
import Derived.Stop.Joined
namespace Go.Proofs.YtklenhohljeacaaDoor.cdecSize
open Go.ChangeShapes Go.WideShapes Go.ChangeAt Go.RowKit
open Go.Proofs.YtklenhohljeacaaDoor.Ex (sizeTr FS)

theorem own : ownKnob Tryd.prog.godebug = none := by kernel_rfl
theorem laidOut : laidOutB Tryd.prog = true := by kernel_rfl
theorem told (n : Nat) (hn : n < 39) : (fun t0 t1 => (Go.Proofs.YtklenhohljeacaaDoor.Ex.sizeTr n).ok (runL orcZ 10000 6 [.sint .u16 (.var 0)] t0 t1) (Go.Proofs.YtklenhohljeacaaDoor.Ex.FS n)) = fun _ _ => true := by
  funext t0 t1
  by_cases h1 : n < 12
  · exact List.all_eq_true.1 (congrFun (congrFun size1 t0) t1) n (List.mem_range'_1.2 (by omega))
  · by_cases h2 : n < 21
    · exact List.all_eq_true.1 (congrFun (congrFun size2 t0) t1) n (List.mem_range'_1.2 (by omega))
    · by_cases h3 : n < 32
      · exact List.all_eq_true.1 (congrFun (congrFun size4 t0) t1) n (List.mem_append_right _ (List.mem_range'_1.2 (by omega)))
      · by_cases h4 : n < 36
        · exact List.all_eq_true.1 (congrFun (congrFun size3 t0) t1) n (List.mem_range'_1.2 (by omega))
        · exact List.all_eq_true.1 (congrFun (congrFun size4 t0) t1) n (List.mem_append_left _ (List.mem_range'_1.2 (by omega)))
theorem walk (h : Nat) (hh : h < 65536) {W : World} (hL : laidMetH Tryd.prog laid W) : Calls Tryd.prog 6 #[.int .u16 (h : Int)] W fun e W' => e = .returned (.bool true) ∧ Below W.heap.size W W' := by
  obtain ⟨n, hn, hon⟩ := Go.Proofs.YtklenhohljeacaaDoor.Ex.FS_on h hh
  exact calls_tree (as_ := [.int .u16 (h : Int)]) orcZ_OK (told n hn) hon (Go.Proofs.YtklenhohljeacaaDoor.Ex.sizeTr_at n hn _ _) rfl rfl rfl rfl hL

/-- The door's own heap meets the condition. -/
theorem door_met (os : Os) (args : Array Value) : laidMetH Tryd.prog laid ((World.doorLaid Tryd.prog 400 os).forCall (fun _ _ => 0) ⟨#[], args, []⟩).memory :=
  laidMetH_of_parts3 (fuel := 8) (laidMet_of_run' 8 (by kernel_rfl) (by kernel_rfl)) (by kernel_rfl) (by kernel_rfl)

set_option maxRecDepth 100000 in
theorem lifted (os : Os) (started : os.Started) (H : Type) (enc : TypeId × Value → H) :
    ReturnsInHanded {} Tryd.checked os 6 .any (fun w args => (Rows.cdecSizeSpec.pre enc Tryd.prog Tryd.f6 [] false w args ∧ laidMetH Tryd.prog laid w) ∧ sizedMet enc Tryd.prog Tryd.f6 (OpenSpec.ofChange Rows.cdecSizeSpec) false w args)
      (Rows.cdecSizeSpec.post enc Tryd.prog Tryd.f6 false true false false) := by
  refine returnsInHanded_of_change_and (C := Tryd.checked) (X := fun w _ => laidMetH Tryd.prog laid w) (fun _ _ _ hh h => h.of_heap hh) own started (by kernel_rfl) Tryd.func6
    (ChangeSpec.witness_shaped (enc := enc) (C := Tryd.checked) (os := os) (X := fun w _ => laidMetH Tryd.prog laid w) false (World.doorLaid Tryd.prog 400 os) #[.int .u16 0] 8 rfl (World.shaped_of_RefB (by kernel_rfl) (by kernel_rfl)) (by kernel_rfl) (by kernel_rfl) (by kernel_rfl) (door_met os _)) ?_
  intro W base args ds gs before hval0 hW _ _ hL _
  have hval : ∀ (j : Nat) t v, Tryd.f6.params[j]? = some t → args[j]? = some v → Value.okWide Tryd.prog W .any base t v := hval0
  have hW' := hW
  obtain ⟨p, q, hA0, hV, rfl, hfz, hnd⟩ := hW
  have hA : DataW.TrodAll enc Tryd.prog W 0 (fun _ => true) true Tryd.f6.params.toList args.toList ds p := hA0
  rw [Tryd.params6] at hA hval
  obtain ⟨v0, d0, rfl, rfl, h0⟩ := trodAll_one hA
  obtain ⟨rfl, rfl⟩ := trodVars_none hV
  obtain ⟨z, rfl, rfl, rfl, wz⟩ := open_int Tryd.underlying22 (hval 0 22 v0 rfl rfl) h0
  have hz : 0 ≤ z ∧ z ≤ 65535 := by
    simp only [Lit.wf, Bool.and_eq_true, decide_eq_true_eq] at wz
    have a1 : IntKind.u16.min = 0 := rfl
    have a2 : IntKind.u16.max = 65535 := rfl
    rw [a1, a2] at wz
    exact wz
  obtain ⟨n, rfl⟩ : ∃ n : Nat, z = (n : Int) := ⟨z.toNat, by omega⟩
  clear hA0 hval0
  simp only [List.append_nil] at hW'
  refine (walk n (by omega) hL).mono fun e W' ⟨he, hg⟩ => ?_
  subst he
  refine ⟨_, rfl, _, _, _, [], [], [], hW', trodAll_cons_mk (shut_bool Tryd.underlying4 _) trodAll_mk0, trodAll_cons_mk (shut_int Tryd.underlying22 wz) trodAll_mk0, ?_, hg.frame _, fun h => by cases h⟩
  rfl

theorem over : Rows.CdecSizeSaid :=
  OpenClaim.holds_of_wide 6 Tryd.f6 rfl rfl rfl rfl rfl rfl rfl ⟨rfl, rfl, rfl, rfl, rfl⟩ rfl rfl rfl rfl rfl (by kernel_rfl) Tryd.func6 (by kernel_rfl)
    (of_decide_eq_true (by kernel_rfl)) (by unfold Func.isWrapper; first | (rw [if_pos (by decide +kernel)]; kernel_rfl) | (rw [if_neg (by decide +kernel)]; exact ⟨rfl, rfl⟩))
    (fun os started H enc _ => lifted os started H enc)

theorem proved : Rows.CdecSizeCardSaid :=
  Claim7.holds_tied_plain_at .later [] [.widerDeep, .data] true (true, "f41219e7abb2d123d5dea42e1d47f6cf64808de5f50441e04ed0b522c1daf695") false
    over (fun _ h => by cases h) (by kernel_rfl) (fun _ h => by cases h) cdecSize_row_tie rfl ⟨rfl, rfl⟩ (by kernel_rfl) rfl
    (fun f fn hf hfn => by
      obtain rfl : f = 6 := Option.some.inj ((show Tryd.prog.funcNamed "quoin/quoinlaw06.CdecSize" = some 6 by kernel_rfl).symm.trans hf) |>.symm
      obtain rfl : fn = Tryd.f6 := (Option.some.inj (Tryd.func6.symm.trans hfn)).symm
      exact ⟨by kernel_rfl, fun j t ht => by
        rw [Tryd.params6] at ht
        have hm : t ∈ [22] := by simpa using Array.mem_of_getElem? ht
        have hall : ([22].all fun u => !Tryd.prog.wantsStandIn u) = true := by kernel_rfl
        exact (show Tryd.prog.wantsStandIn t = false by simpa using List.all_eq_true.1 hall t hm)⟩)
    (by kernel_rfl)
#print axioms proved
end Go.Proofs.YtklenhohljeacaaDoor.cdecSize
