/-
  An instruction among what is handed in, in the door program.
-/
import Derived.Test.YtklenhohljeacaaDoorEncD7
import Derived.Test.YtklenhohljeacaaDoorCards
import Derived.Test.YtklenhohljeacaaDoorTie
import Derived.WalkKit
import Derived.ProofKit
import Derived.OpenShut
import Derived.LaidMore
import Derived.SevenTiedAt
import Derived.Stop.Joined
import Derived.Lib.SmallJoins
namespace Go.Proofs.YtklenhohljeacaaDoor
open Go.ChangeShapes Go.WideShapes Go.ChangeAt Go.RowKit
open Go.Proofs.YtklenhohljeacaaDoor.Ex (insnV u8R)

theorem own : ownKnob Tryd.prog.godebug = none := by kernel_rfl
theorem laidOut : laidOutB Tryd.prog = true := by kernel_rfl
theorem cells5' : Tryd.prog.cellsOf 5 = 1 := by kernel_rfl
theorem cells3' : Tryd.prog.cellsOf 3 = 1 := by kernel_rfl
theorem cells27' : Tryd.prog.cellsOf 27 = 5 := by kernel_rfl
set_option maxRecDepth 100000 in
/-- An instruction that is read: its five numbers. -/
theorem open_insn {H : Type} {enc : TypeId × Value → H} {w : World} {base b0 : Nat} {spare : Nat → Bool} {held : Bool} {r : Reach} {v : Value} {y : DataW H} {ps : List MemPlace} (hv : Value.okWide Tryd.prog w r b0 27 v)
    (h : DataW.Trod enc Tryd.prog w base spare held 27 v y ps) : ∃ op d s t m : Int, u8R op ∧ v = insnV op d s t m ∧ ps = [] := by
  obtain ⟨⟨l⟩, rfl, hsz⟩ := okWide_struct Tryd.underlying27 hv
  obtain ⟨fuel, hf⟩ := h
  obtain ⟨xs, n, -, hx, -, hlen, hg⟩ := DataW.trod_struct Tryd.underlying27 hf
  have hl : l.length = 5 := hsz.trans cells27'
  match l, hl, xs, hlen with
  | [c0, c1, c2, c3, c4], _, [y0, y1, y2, y3, y4], _ =>
    have g0 : DataW.trod enc Tryd.prog w base spare held n 5 (List.take (Tryd.prog.cellsOf 5) [c0, c1, c2, c3, c4]) = some y0 := hg 0 _ rfl
    have g1 : DataW.trod enc Tryd.prog w base spare held n 3 (List.take (Tryd.prog.cellsOf 3) [c1, c2, c3, c4]) = some y1 := hg 1 _ rfl
    have g2 : DataW.trod enc Tryd.prog w base spare held n 3 (List.take (Tryd.prog.cellsOf 3) [c2, c3, c4]) = some y2 := hg 2 _ rfl
    have g3 : DataW.trod enc Tryd.prog w base spare held n 3 (List.take (Tryd.prog.cellsOf 3) [c3, c4]) = some y3 := hg 3 _ rfl
    have g4 : DataW.trod enc Tryd.prog w base spare held n 3 (List.take (Tryd.prog.cellsOf 3) [c4]) = some y4 := hg 4 _ rfl
    rw [cells5'] at g0
    rw [cells3'] at g1 g2 g3 g4
    obtain ⟨n0, e0, q0, w0⟩ := DataW.trod_int Tryd.underlying5 g0
    obtain ⟨n1, e1, q1, -⟩ := DataW.trod_int Tryd.underlying3 g1
    obtain ⟨n2, e2, q2, -⟩ := DataW.trod_int Tryd.underlying3 g2
    obtain ⟨n3, e3, q3, -⟩ := DataW.trod_int Tryd.underlying3 g3
    obtain ⟨n4, e4, q4, -⟩ := DataW.trod_int Tryd.underlying3 g4
    replace e0 : [c0] = [Value.int .u8 n0] := e0
    replace e1 : [c1] = [Value.int .i64 n1] := e1
    replace e2 : [c2] = [Value.int .i64 n2] := e2
    replace e3 : [c3] = [Value.int .i64 n3] := e3
    replace e4 : [c4] = [Value.int .i64 n4] := e4
    injection e0 with e0; injection e1 with e1; injection e2 with e2; injection e3 with e3; injection e4 with e4
    subst e0; subst e1; subst e2; subst e3; subst e4
    refine ⟨n0, n1, n2, n3, n4, ?_, rfl, ?_⟩
    · simp only [Lit.wf, Bool.and_eq_true, decide_eq_true_eq] at w0
      have a1 : IntKind.u8.min = 0 := rfl
      have a2 : IntKind.u8.max = 255 := rfl
      rw [a1, a2] at w0
      constructor <;> omega
    · simp only [Prod.mk.injEq] at hx
      rw [hx.2]
      subst q0; subst q1; subst q2; subst q3; subst q4
      rfl


/-- The door's own heap meets the condition. -/
theorem door_met (os : Os) (args : Array Value) : laidMetH Tryd.prog laid ((World.doorLaid Tryd.prog 400 os).forCall (fun _ _ => 0) ⟨#[], args, []⟩).memory :=
  laidMetH_of_parts3 (fuel := 8) (laidMet_of_run' 8 (by kernel_rfl) (by kernel_rfl)) (by kernel_rfl) (by kernel_rfl)
end Go.Proofs.YtklenhohljeacaaDoor
