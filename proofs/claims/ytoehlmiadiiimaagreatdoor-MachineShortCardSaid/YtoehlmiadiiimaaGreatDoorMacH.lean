/-
  The law MachineShort of package quoinlaw30 answers true: the tied card.
-/
import Derived.Test.YtoehlmiadiiimaaGreatDoorMemV11
import Derived.Test.YtoehlmiadiiimaaGreatDoorMemR8
import Derived.Test.YtoehlmiadiiimaaGreatDoorMacK
import Derived.Test.YtoehlmiadiiimaaGreatDoorMacF9
import Derived.Test.YtoehlmiadiiimaaGreatDoorCards
import Derived.Test.YtoehlmiadiiimaaGreatDoorTie
import Derived.WalkKit
import Derived.ProofKit
import Derived.OpenShut
import Derived.LaidMore
import Derived.Lay
import Derived.SevenTiedAt
import Derived.Stop.Joined
namespace Go.Proofs.YtoehlmiadiiimaaGreatDoor.machineShort
open Go.ChangeShapes Go.WideShapes Go.ChangeAt Go.RowKit Go.Proofs.YtoehlmiadiiimaaGreatDoor.Ex

theorem cells3z : Tryz.prog.cellsOf 3 = 1 := by kernel_rfl
theorem cells57z : Tryz.prog.cellsOf 57 = 5 := by kernel_rfl
set_option maxRecDepth 100000 in
/-- An instruction that is read: its five numbers. -/
theorem open_insnZ {H : Type} {enc : TypeId × Value → H} {w : World} {base b0 : Nat} {spare : Nat → Bool} {held : Bool} {r : Reach} {v : Value} {y : DataW H} {ps : List MemPlace} (hv : Value.okWide Tryz.prog w r b0 57 v)
    (h : DataW.Trod enc Tryz.prog w base spare held 57 v y ps) : ∃ op d s t m : Int, u8R op ∧ v = insnV op d s t m := by
  obtain ⟨⟨l⟩, rfl, hsz⟩ := okWide_struct Tryz.underlying57 hv
  obtain ⟨fuel, hf⟩ := h
  obtain ⟨xs, n, -, -, -, hlen, hg⟩ := DataW.trod_struct Tryz.underlying57 hf
  have hl : l.length = 5 := hsz.trans cells57z
  match l, hl, xs, hlen with
  | [c0, c1, c2, c3, c4], _, [y0, y1, y2, y3, y4], _ =>
    have g0 : DataW.trod enc Tryz.prog w base spare held n 5 (List.take (Tryz.prog.cellsOf 5) [c0, c1, c2, c3, c4]) = some y0 := hg 0 _ rfl
    have g1 : DataW.trod enc Tryz.prog w base spare held n 3 (List.take (Tryz.prog.cellsOf 3) [c1, c2, c3, c4]) = some y1 := hg 1 _ rfl
    have g2 : DataW.trod enc Tryz.prog w base spare held n 3 (List.take (Tryz.prog.cellsOf 3) [c2, c3, c4]) = some y2 := hg 2 _ rfl
    have g3 : DataW.trod enc Tryz.prog w base spare held n 3 (List.take (Tryz.prog.cellsOf 3) [c3, c4]) = some y3 := hg 3 _ rfl
    have g4 : DataW.trod enc Tryz.prog w base spare held n 3 (List.take (Tryz.prog.cellsOf 3) [c4]) = some y4 := hg 4 _ rfl
    rw [cells5] at g0
    rw [cells3z] at g1 g2 g3 g4
    obtain ⟨n0, e0, -, w0⟩ := DataW.trod_int Tryz.underlying5 g0
    obtain ⟨n1, e1, -, -⟩ := DataW.trod_int Tryz.underlying3 g1
    obtain ⟨n2, e2, -, -⟩ := DataW.trod_int Tryz.underlying3 g2
    obtain ⟨n3, e3, -, -⟩ := DataW.trod_int Tryz.underlying3 g3
    obtain ⟨n4, e4, -, -⟩ := DataW.trod_int Tryz.underlying3 g4
    replace e0 : [c0] = [Value.int .u8 n0] := e0
    replace e1 : [c1] = [Value.int .i64 n1] := e1
    replace e2 : [c2] = [Value.int .i64 n2] := e2
    replace e3 : [c3] = [Value.int .i64 n3] := e3
    replace e4 : [c4] = [Value.int .i64 n4] := e4
    injection e0 with e0; injection e1 with e1; injection e2 with e2; injection e3 with e3; injection e4 with e4
    subst e0; subst e1; subst e2; subst e3; subst e4
    have hb := bounds_u8 w0
    exact ⟨n0, n1, n2, n3, n4, ⟨by omega, by omega⟩, rfl⟩
set_option maxRecDepth 100000 in
/-- Registers that are read. -/
theorem open_regsZ {H : Type} {enc : TypeId × Value → H} {w : World} {base b0 : Nat} {spare : Nat → Bool} {held : Bool} {r : Reach} {v : Value} {y : DataW H} {ps : List MemPlace} (hv : Value.okWide Tryz.prog w r b0 23 v)
    (h : DataW.Trod enc Tryz.prog w base spare held 23 v y ps) : ∃ l : List Int, v = .agg (l.map (Value.int .u64)).toArray ∧ l.length = 32 ∧ Regs64 l := by
  simp only [Value.okWide, Tryz.underlying23] at hv
  obtain ⟨⟨l⟩, rfl, hsz, -⟩ := hv
  obtain ⟨fuel, hf⟩ := h
  obtain ⟨zs, n, -, -, -, hzl, hel⟩ := DataW.trod_array Tryz.underlying23 hf
  have hl : l.length = 32 := hsz.trans cells23
  rw [cells22] at hel
  have hz : ∀ i, i < 32 → ∃ z, l[i]? = some (.int .u64 z) ∧ (Lit.int .u64 z).wf = true := by
    intro i hi
    have h0 := hel i hi
    rw [Nat.mul_one, List.getElem?_eq_getElem (by omega : i < zs.length)] at h0
    obtain ⟨z, e1, -, w1⟩ := DataW.trod_int Tryz.underlying22 h0
    refine ⟨z, ?_, w1⟩
    have := congrArg (fun l => l[0]?) e1
    simpa [Value.cells] using this
  obtain ⟨Z, hZ⟩ := Go.Deep.choose_lt (p := fun i z => l[i]? = some (.int .u64 z) ∧ (Lit.int .u64 z).wf = true) hz
  refine ⟨(List.range 32).map Z, ?_, by simp, fun x hx => ?_⟩
  · congr 2
    apply List.ext_getElem?
    intro i
    rcases Nat.lt_or_ge i 32 with hi | hi
    · rw [(hZ i hi).1]; simp [hi]
    · rw [List.getElem?_eq_none (by omega), List.getElem?_eq_none (by simp; omega)]
  · obtain ⟨i, hi, rfl⟩ := List.mem_map.1 hx
    have := bounds_u64 (hZ i (List.mem_range.1 hi)).2
    unfold B64; omega
theorem laidOut : laidOutB Tryz.prog = true := q1
theorem own : ownKnob Tryz.prog.godebug = none := by kernel_rfl
abbrev laid : List (String × DataW Unit) := Rows.machineShortRow.laid
theorem laids : Laids laid where
  no := by kernel_rfl
  m0 := by simp [laid, Rows.machineShortRow]
  m1 := by simp [laid, Rows.machineShortRow]
  m2 := by simp [laid, Rows.machineShortRow]
  m4 := by simp [laid, Rows.machineShortRow]
  m7 := by simp [laid, Rows.machineShortRow]
  m12 := by simp [laid, Rows.machineShortRow]

set_option maxRecDepth 100000 in
theorem lifted (os : Os) (started : os.Started) (H : Type) (enc : TypeId × Value → H) :
    ReturnsInHanded {} Tryz.checked os 9 .any (fun w args => (Rows.machineShortSpec.pre enc Tryz.prog Tryz.f9 [] false w args ∧ laidMetH Tryz.prog laid w) ∧ sizedMet enc Tryz.prog Tryz.f9 (OpenSpec.ofChange Rows.machineShortSpec) false w args)
      (Rows.machineShortSpec.post enc Tryz.prog Tryz.f9 false true false false) := by
  refine returnsInHanded_of_change_and (C := Tryz.checked) (X := fun w _ => laidMetH Tryz.prog laid w) (fun _ _ _ hh h => h.of_heap hh) own started (by kernel_rfl) Tryz.func9
    (ChangeSpec.witness_shaped (enc := enc) (C := Tryz.checked) (os := os) (X := fun w _ => laidMetH Tryz.prog laid w) false (World.laidAll Tryz.prog os laid) #[insnV 0 0 0 0 0, .agg (List.replicate 32 (Value.int .u64 0)).toArray, .int .u32 0] 8 (World.laidAll_os _ _ _)
      (World.shaped_of_ZipB (by kernel_rfl) (by kernel_rfl)) (by kernel_rfl) (by kernel_rfl) (by kernel_rfl)
      (by rw [MakeChecks.laidMetH_plain _ _ _ (by kernel_rfl)]; exact laidMet_laidAll _ (by kernel_rfl) (by kernel_rfl))) ?_
  intro W base args ds gs before hval0 hW _ _ hL _
  have hval : ∀ (j : Nat) t v, Tryz.f9.params[j]? = some t → args[j]? = some v → Value.okWide Tryz.prog W .any base t v := hval0
  have hW' := hW
  obtain ⟨p, q, hA0, hV, rfl, hfz, hnd⟩ := hW
  have hA : DataW.TrodAll enc Tryz.prog W 0 (fun _ => true) true Tryz.f9.params.toList args.toList ds p := hA0
  rw [Tryz.params9] at hA hval
  obtain ⟨v0, v1, v2, d0, d1, d2, p0, p1, p2, rfl, rfl, rfl, h0, h1, h2⟩ := trodAll_three hA
  obtain ⟨rfl, rfl⟩ := trodVars_none hV
  obtain ⟨op, d, s, t, m, ho, rfl⟩ := open_insnZ (hval 0 57 v0 rfl rfl) h0
  obtain ⟨l, rfl, hl, hl64⟩ := open_regsZ (hval 1 23 v1 rfl rfl) h1
  obtain ⟨z2, rfl, rfl, rfl, w2⟩ := open_int Tryz.underlying58 (hval 2 58 v2 rfl rfl) h2
  have hz2 := bounds_u32 w2
  obtain ⟨pc, rfl⟩ : ∃ n : Nat, z2 = (n : Int) := ⟨z2.toNat, by omega⟩
  clear hA0 hval0
  simp only [List.append_nil] at hW'
  have hLG := of_laids laids hL
  refine (short_all op d s t m ho l hl hl64 pc (by omega) W hLG (laids_size laids hL)).mono fun e W' ⟨he, hg⟩ => ?_
  subst he
  refine ⟨_, rfl, _, _, _, [], _, [], hW', trodAll_cons_mk (shut_bool Tryz.underlying4 _) trodAll_mk0,
    trodAll_cons_mk (Below.trod laidOut (by kernel_rfl) (by decide +kernel) h0 hg (fun x hx => by obtain ⟨f, hf⟩ := h0; exact DataW.trod_lt f _ _ _ hf x hx)) (trodAll_cons_mk (Below.trod laidOut (by kernel_rfl) (by decide +kernel) h1 hg (fun x hx => by obtain ⟨f, hf⟩ := h1; exact DataW.trod_lt f _ _ _ hf x hx)) (trodAll_cons_mk (Below.trod laidOut (by kernel_rfl) (by decide +kernel) h2 hg (by simp)) trodAll_mk0)), ?_, hg.frame _, fun h => by cases h⟩
  rfl

theorem over : Rows.MachineShortSaid :=
  OpenClaim.holds_of_wide 9 Tryz.f9 rfl rfl rfl rfl rfl rfl rfl ⟨rfl, rfl, rfl, rfl, rfl⟩ rfl rfl rfl rfl rfl named Tryz.func9 closed
    instance_ wrapper (fun os started H enc _ => lifted os started H enc)

theorem proved : Rows.MachineShortCardSaid :=
  Claim7.holds_tied_plain_at .later [] [.data, .data, .data, .data, .widerDeep, .data, .data, .sentinel, .sentinel, .widerDeep, .widerDeep, .pinned] true (true, "355b8c12b33af629de6d426eda7db476e97008cc877fedcc678a68a9153aa425") true
    over (fun _ h => by cases h) byText (fun _ h => by cases h) machineShort_row_tie rfl ⟨rfl, rfl⟩ mainIs rfl
    (fun f fn hf hfn => by
      obtain rfl : f = 9 := Option.some.inj (named.symm.trans hf) |>.symm
      obtain rfl : fn = Tryz.f9 := (Option.some.inj (Tryz.func9.symm.trans hfn)).symm
      exact ⟨looks, fun j t ht => by
        rw [Tryz.params9] at ht
        have hm : t ∈ [57, 23, 58] := by simpa using Array.mem_of_getElem? ht
        have hall : ([57, 23, 58].all fun u => !Tryz.prog.wantsStandIn u) = true := by kernel_rfl
        exact (show Tryz.prog.wantsStandIn t = false by simpa using List.all_eq_true.1 hall t hm)⟩)
    goesBy
#print axioms proved
end Go.Proofs.YtoehlmiadiiimaaGreatDoor.machineShort
