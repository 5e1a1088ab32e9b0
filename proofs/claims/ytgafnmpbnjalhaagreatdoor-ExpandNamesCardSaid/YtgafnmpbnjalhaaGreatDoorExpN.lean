/-
  The law ExpandNames of package quoinlaw19 answers true: the tied card.
-/
import Derived.Test.YtgafnmpbnjalhaaGreatDoorExpN1
import Derived.Test.YtgafnmpbnjalhaaGreatDoorExpL
import Derived.Test.YtgafnmpbnjalhaaGreatDoorExpF
import Derived.Test.YtgafnmpbnjalhaaGreatDoorCards
import Derived.Test.YtgafnmpbnjalhaaGreatDoorTie
import Derived.WalkKit
import Derived.ProofKit
import Derived.OpenShut
import Derived.LaidMore
import Derived.Lay
import Derived.SevenTiedAt
import Derived.Stop.Joined
namespace Go.Proofs.YtgafnmpbnjalhaaGreatDoor.expandNames
open Go.ChangeShapes Go.WideShapes Go.ChangeAt Go.RowKit Go.Proofs.YtgafnmpbnjalhaaGreatDoor.Ex

theorem own : ownKnob Tryz.prog.godebug = none := by kernel_rfl
abbrev laid : List (String × DataW Unit) := Rows.expandNamesRow.laid
theorem laids : Laids laid where
  no := by kernel_rfl
  m1 := by simp [laid, Rows.expandNamesRow]
  m2 := by simp [laid, Rows.expandNamesRow]
  m3 := by simp [laid, Rows.expandNamesRow]
  m4 := by simp [laid, Rows.expandNamesRow]
  m13 := by simp [laid, Rows.expandNamesRow]

set_option maxRecDepth 100000 in
theorem lifted (os : Os) (started : os.Started) (H : Type) (enc : TypeId × Value → H) :
    ReturnsInHanded {} Tryz.checked os 4 .any (fun w args => (Rows.expandNamesSpec.pre enc Tryz.prog Tryz.f4 [] false w args ∧ laidMetH Tryz.prog laid w) ∧ sizedMet enc Tryz.prog Tryz.f4 (OpenSpec.ofChange Rows.expandNamesSpec) false w args)
      (Rows.expandNamesSpec.post enc Tryz.prog Tryz.f4 false true false false) := by
  refine returnsInHanded_of_change_and (C := Tryz.checked) (X := fun w _ => laidMetH Tryz.prog laid w) (fun _ _ _ hh h => h.of_heap hh) own started (by kernel_rfl) Tryz.func4
    (ChangeSpec.witness_shaped (enc := enc) (C := Tryz.checked) (os := os) (X := fun w _ => laidMetH Tryz.prog laid w) false (World.laidAll Tryz.prog os laid) #[] 4 (World.laidAll_os _ _ _)
      (World.shaped_of_ZipB (by kernel_rfl) (by kernel_rfl)) (by kernel_rfl) (by kernel_rfl) (by kernel_rfl)
      (by rw [MakeChecks.laidMetH_plain _ _ _ (by kernel_rfl)]; exact laidMet_laidAll _ (by kernel_rfl) (by kernel_rfl))) ?_
  intro W base args ds gs before hval0 hW _ _ hL _
  have hW' := hW
  obtain ⟨p, q, hA0, hV, rfl, hfz, hnd⟩ := hW
  have hA : DataW.TrodAll enc Tryz.prog W 0 (fun _ => true) true Tryz.f4.params.toList args.toList ds p := hA0
  rw [Tryz.params4] at hA
  obtain ⟨rfl, rfl, rfl⟩ := trodAll_none hA
  obtain ⟨rfl, rfl⟩ := trodVars_none hV
  clear hA0 hval0
  simp only [List.append_nil] at hW'
  refine (ret4 W (of_laids laids hL)).mono fun e W' ⟨he, hg⟩ => ?_
  subst he
  refine ⟨_, rfl, _, _, _, [], [], [], hW', trodAll_cons_mk (shut_bool Tryz.underlying4 _) trodAll_mk0, ?_, ?_, hg.frame _, fun h => by cases h⟩
  · rfl
  · rfl

theorem over : Rows.ExpandNamesSaid :=
  OpenClaim.holds_of_wide 4 Tryz.f4 rfl rfl rfl rfl rfl rfl rfl ⟨rfl, rfl, rfl, rfl, rfl⟩ rfl rfl rfl rfl rfl named Tryz.func4 closed
    instance_ wrapper (fun os started H enc _ => lifted os started H enc)

theorem proved : Rows.ExpandNamesCardSaid :=
  Claim7.holds_tied_plain_at .later [] [.data, .data, .data, .data, .widerDeep, .data, .sentinel, .sentinel, .widerDeep, .widerDeep, .pinned] true (true, "2885226db672d70b4f26c666a6394872804ff6fc1eae1133710d319f09b38a20") true
    over (fun _ h => by cases h) byText (fun _ h => by cases h) expandNames_row_tie rfl ⟨rfl, rfl⟩ mainIs rfl
    (fun f fn hf hfn => by
      obtain rfl : f = 4 := Option.some.inj (named.symm.trans hf) |>.symm
      obtain rfl : fn = Tryz.f4 := (Option.some.inj (Tryz.func4.symm.trans hfn)).symm
      exact ⟨looks, fun j t ht => by
        rw [Tryz.params4] at ht
        simp at ht⟩)
    goesBy
#print axioms proved
end Go.Proofs.YtgafnmpbnjalhaaGreatDoor.expandNames
