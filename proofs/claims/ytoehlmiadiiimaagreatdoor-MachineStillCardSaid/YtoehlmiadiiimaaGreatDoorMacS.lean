/-
  The law MachineStill of package quoinlaw30 answers true: the tied card.
-/
import Derived.Test.YtoehlmiadiiimaaGreatDoorMemR8
import Derived.Test.YtoehlmiadiiimaaGreatDoorMacL
import Derived.Test.YtoehlmiadiiimaaGreatDoorMacK
import Derived.Test.YtoehlmiadiiimaaGreatDoorMacF10
import Derived.Test.YtoehlmiadiiimaaGreatDoorCards
import Derived.Test.YtoehlmiadiiimaaGreatDoorTie
import Derived.WalkKit
import Derived.ProofKit
import Derived.OpenShut
import Derived.LaidMore
import Derived.Lay
import Derived.SevenTiedAt
import Derived.Stop.Joined
namespace Go.Proofs.YtoehlmiadiiimaaGreatDoor.machineStill
open Go.ChangeShapes Go.WideShapes Go.ChangeAt Go.RowKit Go.Proofs.YtoehlmiadiiimaaGreatDoor.Ex

theorem laidOut : laidOutB Tryz.prog = true := q1
theorem own : ownKnob Tryz.prog.godebug = none := by kernel_rfl
abbrev laid : List (String × DataW Unit) := Rows.machineStillRow.laid
theorem laids : Laids laid where
  no := by kernel_rfl
  m0 := by simp [laid, Rows.machineStillRow]
  m1 := by simp [laid, Rows.machineStillRow]
  m2 := by simp [laid, Rows.machineStillRow]
  m4 := by simp [laid, Rows.machineStillRow]
  m7 := by simp [laid, Rows.machineStillRow]
  m12 := by simp [laid, Rows.machineStillRow]

set_option maxRecDepth 100000 in
theorem lifted (os : Os) (started : os.Started) (H : Type) (enc : TypeId × Value → H) :
    ReturnsInHanded {} Tryz.checked os 10 .any (fun w args => (Rows.machineStillSpec.pre enc Tryz.prog Tryz.f10 [] false w args ∧ laidMetH Tryz.prog laid w) ∧ sizedMet enc Tryz.prog Tryz.f10 (OpenSpec.ofChange Rows.machineStillSpec) false w args)
      (Rows.machineStillSpec.post enc Tryz.prog Tryz.f10 false true false false) := by
  refine returnsInHanded_of_change_and (C := Tryz.checked) (X := fun w _ => laidMetH Tryz.prog laid w) (fun _ _ _ hh h => h.of_heap hh) own started (by kernel_rfl) Tryz.func10
    (ChangeSpec.witness_shaped (enc := enc) (C := Tryz.checked) (os := os) (X := fun w _ => laidMetH Tryz.prog laid w) false (World.laidAll Tryz.prog os laid) #[.agg z27, .int .u8 0] 8 (World.laidAll_os _ _ _)
      (World.shaped_of_ZipB (by kernel_rfl) (by kernel_rfl)) (by kernel_rfl) (by kernel_rfl) (by kernel_rfl)
      (by rw [MakeChecks.laidMetH_plain _ _ _ (by kernel_rfl)]; exact laidMet_laidAll _ (by kernel_rfl) (by kernel_rfl))) ?_
  intro W base args ds gs before hval0 hW _ _ hL _
  have hval : ∀ (j : Nat) t v, Tryz.f10.params[j]? = some t → args[j]? = some v → Value.okWide Tryz.prog W .any base t v := hval0
  have hW' := hW
  obtain ⟨p, q, hA0, hV, rfl, hfz, hnd⟩ := hW
  have hA : DataW.TrodAll enc Tryz.prog W 0 (fun _ => true) true Tryz.f10.params.toList args.toList ds p := hA0
  rw [Tryz.params10] at hA hval
  obtain ⟨v0, v1, d0, d1, p0, p1, rfl, rfl, rfl, h0, h1⟩ := trodAll_two hA
  obtain ⟨rfl, rfl⟩ := trodVars_none hV
  obtain ⟨r, hr, hs⟩ := mach_of_trod (hval 0 27 v0 rfl rfl) h0
  obtain ⟨z1, rfl, rfl, rfl, w1⟩ := open_int Tryz.underlying5 (hval 1 5 v1 rfl rfl) h1
  have hz1 := bounds_u8 w1
  obtain ⟨a, rfl⟩ : ∃ n : Nat, z1 = (n : Int) := ⟨z1.toNat, by omega⟩
  clear hA0 hval0
  simp only [List.append_nil] at hW'
  have hLG := of_laids laids hL
  refine (still_c v0 r a W hr hs.pc.1 hs.regs hLG (laids_size laids hL) (by omega)).mono fun e W' ⟨he, hg⟩ => ?_
  subst he
  refine ⟨_, rfl, _, _, _, [], _, [], hW', trodAll_cons_mk (shut_bool Tryz.underlying4 _) trodAll_mk0,
    trodAll_cons_mk (Below.trod laidOut (by kernel_rfl) (by decide +kernel) h0 hg (fun x hx => by obtain ⟨f, hf⟩ := h0; exact DataW.trod_lt f _ _ _ hf x hx)) (trodAll_cons_mk (Below.trod laidOut (by kernel_rfl) (by decide +kernel) h1 hg (by simp)) trodAll_mk0), ?_, hg.frame _, fun h => by cases h⟩
  rfl

theorem over : Rows.MachineStillSaid :=
  OpenClaim.holds_of_wide 10 Tryz.f10 rfl rfl rfl rfl rfl rfl rfl ⟨rfl, rfl, rfl, rfl, rfl⟩ rfl rfl rfl rfl rfl named Tryz.func10 closed
    instance_ wrapper (fun os started H enc _ => lifted os started H enc)

theorem proved : Rows.MachineStillCardSaid :=
  Claim7.holds_tied_plain_at .later [] [.data, .data, .data, .data, .widerDeep, .data, .data, .sentinel, .sentinel, .widerDeep, .widerDeep, .pinned] true (true, "355b8c12b33af629de6d426eda7db476e97008cc877fedcc678a68a9153aa425") true
    over (fun _ h => by cases h) byText (fun _ h => by cases h) machineStill_row_tie rfl ⟨rfl, rfl⟩ mainIs rfl
    (fun f fn hf hfn => by
      obtain rfl : f = 10 := Option.some.inj (named.symm.trans hf) |>.symm
      obtain rfl : fn = Tryz.f10 := (Option.some.inj (Tryz.func10.symm.trans hfn)).symm
      exact ⟨looks, fun j t ht => by
        rw [Tryz.params10] at ht
        have hm : t ∈ [27, 5] := by simpa using Array.mem_of_getElem? ht
        have hall : ([27, 5].all fun u => !Tryz.prog.wantsStandIn u) = true := by kernel_rfl
        exact (show Tryz.prog.wantsStandIn t = false by simpa using List.all_eq_true.1 hall t hm)⟩)
    goesBy
#print axioms proved
end Go.Proofs.YtoehlmiadiiimaaGreatDoor.machineStill
