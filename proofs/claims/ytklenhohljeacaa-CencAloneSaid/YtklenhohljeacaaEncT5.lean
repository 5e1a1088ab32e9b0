/-
  The law CencAlone of package quoinlaw05 answers true, for any two instructions. No condition.
-/
import Derived.Test.YtklenhohljeacaaEncT4
import Derived.Test.YtklenhohljeacaaEncA
import Derived.WalkKit
import Derived.ProofKit
import Derived.OpenShut
import Derived.Lib.SmallJoins
namespace Go.Proofs.Ytklenhohljeacaa.cencAlone
open Go.ChangeShapes Go.WideShapes Go.ChangeAt Go.RowKit
open Go.Proofs.Ytklenhohljeacaa.Ex (insnV u8R)

theorem own : ownKnob Try.prog.godebug = none := by kernel_rfl
theorem laidOut : laidOutB Try.prog = true := by kernel_rfl
theorem told : Go.Proofs.Ytklenhohljeacaa.Ex.aloneTr.ok (Ex.runT Try.prog (Ex.orcA 6 7 12) 10000 0 5 [Ex.symI, Ex.symK]) Ex.FL = true := by kernel_rfl
theorem walk {op op' : Int} (ho : u8R op) (ho' : u8R op') (d s t m d' s' t' m' : Int) : Ex.Ret Try.prog 5 [insnV op d s t m, insnV op' d' s' t' m'] (.bool true) :=
  Ex.alone_of mixed enc short check told ho ho' d s t m d' s' t' m'

theorem cells5 : Try.prog.cellsOf 5 = 1 := by kernel_rfl
theorem cells3 : Try.prog.cellsOf 3 = 1 := by kernel_rfl
theorem cells27 : Try.prog.cellsOf 27 = 5 := by kernel_rfl
/-- An instruction that is read: its five numbers. -/
theorem open_insn {H : Type} {enc : TypeId × Value → H} {w : World} {base b0 : Nat} {spare : Nat → Bool} {held : Bool} {r : Reach} {v : Value} {y : DataW H} {ps : List MemPlace} (hv : Value.okWide Try.prog w r b0 27 v)
    (h : DataW.Trod enc Try.prog w base spare held 27 v y ps) : ∃ op d s t m : Int, u8R op ∧ v = insnV op d s t m ∧ ps = [] := by
  obtain ⟨⟨l⟩, rfl, hsz⟩ := okWide_struct Try.underlying27 hv
  obtain ⟨fuel, hf⟩ := h
  obtain ⟨xs, n, -, hx, -, hlen, hg⟩ := DataW.trod_struct Try.underlying27 hf
  have hl : l.length = 5 := hsz.trans cells27
  match l, hl, xs, hlen with
  | [c0, c1, c2, c3, c4], _, [y0, y1, y2, y3, y4], _ =>
    have g0 : DataW.trod enc Try.prog w base spare held n 5 (List.take (Try.prog.cellsOf 5) [c0, c1, c2, c3, c4]) = some y0 := hg 0 _ rfl
    have g1 : DataW.trod enc Try.prog w base spare held n 3 (List.take (Try.prog.cellsOf 3) [c1, c2, c3, c4]) = some y1 := hg 1 _ rfl
    have g2 : DataW.trod enc Try.prog w base spare held n 3 (List.take (Try.prog.cellsOf 3) [c2, c3, c4]) = some y2 := hg 2 _ rfl
    have g3 : DataW.trod enc Try.prog w base spare held n 3 (List.take (Try.prog.cellsOf 3) [c3, c4]) = some y3 := hg 3 _ rfl
    have g4 : DataW.trod enc Try.prog w base spare held n 3 (List.take (Try.prog.cellsOf 3) [c4]) = some y4 := hg 4 _ rfl
    rw [cells5] at g0
    rw [cells3] at g1 g2 g3 g4
    obtain ⟨n0, e0, q0, w0⟩ := DataW.trod_int Try.underlying5 g0
    obtain ⟨n1, e1, q1, -⟩ := DataW.trod_int Try.underlying3 g1
    obtain ⟨n2, e2, q2, -⟩ := DataW.trod_int Try.underlying3 g2
    obtain ⟨n3, e3, q3, -⟩ := DataW.trod_int Try.underlying3 g3
    obtain ⟨n4, e4, q4, -⟩ := DataW.trod_int Try.underlying3 g4
    replace e0 : [c0] = [Value.int .u8 n0] := e0
    replace e1 : [c1] = [Value.int .i64 n1] := e1
    replace e2 : [c2] = [Value.int .i64 n2] := e2
    replace e3 : [c3] = [Value.int .i64 n3] := e3
    replace e4 : [c4] = [Value.int .i64 n4] := e4
    injection e0 with e0; injection e1 with e1; injection e2 with e2; injection e3 with e3; injection e4 with e4
    subst e0; subst e1; subst e2; subst e3; subst e4
    refine ⟨n0, n1, n2, n3, n4, ?_, rfl, ?_⟩
    · simp only [Lit.wf, Bool.and_eq_true, decide_eq_true_eq] at w0
      have a1 : IntKind.u8.min = 0 := rfl
      have a2 : IntKind.u8.max = 255 := rfl
      rw [a1, a2] at w0
      constructor <;> omega
    · simp only [Prod.mk.injEq] at hx
      rw [hx.2]
      subst q0; subst q1; subst q2; subst q3; subst q4
      rfl

set_option maxRecDepth 100000 in
theorem lifted (os : Os) (started : os.Started) (H : Type) (enc : TypeId × Value → H) :
    ReturnsInHanded {} Try.checked os 5 .any (Rows.cencAloneSpec.pre6 enc Try.prog Try.f5 Rows.cencAloneRow.domain false) (Rows.cencAloneSpec.post enc Try.prog Try.f5 false true false false) := by
  refine returnsInHanded_of_change (C := Try.checked) own started (by kernel_rfl) Try.func5
    (ChangeSpec.witness6 (enc := enc) (C := Try.checked) false ⟨#[], #[insnV 0 0 0 0 0, insnV 0 0 0 0 0], []⟩ 8 (by kernel_rfl) (by kernel_rfl) (by kernel_rfl) (by kernel_rfl)) ?_
  intro W base args ds gs before hval0 hW hcnd _
  have hval : ∀ (j : Nat) t v, Try.f5.params[j]? = some t → args[j]? = some v → Value.okWide Try.prog W .any base t v := hval0
  have hW' := hW
  obtain ⟨p, q, hA0, hV, rfl, hfz, hnd⟩ := hW
  have hA : DataW.TrodAll enc Try.prog W 0 (fun _ => true) true Try.f5.params.toList args.toList ds p := hA0
  rw [Try.params5] at hA hval
  obtain ⟨v0, v1, d0, d1, p0, p1, rfl, rfl, rfl, h0, h1⟩ := trodAll_two hA
  obtain ⟨rfl, rfl⟩ := trodVars_none hV
  obtain ⟨op, d, s, t, m, ho, rfl, rfl⟩ := open_insn (hval 0 27 v0 rfl rfl) h0
  obtain ⟨op', d', s', t', m', ho', rfl, rfl⟩ := open_insn (hval 1 27 v1 rfl rfl) h1
  clear hA0 hval0
  simp only [List.append_nil] at hW'
  refine (walk ho ho' d s t m d' s' t' m' W).mono fun e W' ⟨he, hg⟩ => ?_
  subst he
  refine ⟨_, rfl, _, _, _, [], [], [], hW', trodAll_cons_mk (shut_bool Try.underlying4 _) trodAll_mk0,
    trodAll_cons_mk (Below.trod laidOut (by kernel_rfl) (by decide +kernel) h0 hg (by simp)) (trodAll_cons_mk (Below.trod laidOut (by kernel_rfl) (by decide +kernel) h1 hg (by simp)) trodAll_mk0), ?_, hg.frame _, fun h => by cases h⟩
  rfl

theorem over : Rows.cencAloneRow.holds Try.pinned (OpenSpec.ofChange Rows.cencAloneSpec) :=
  OpenClaim.holds_of_wide 5 Try.f5 rfl rfl rfl rfl rfl rfl rfl ⟨rfl, rfl, rfl, rfl, rfl⟩ rfl rfl rfl rfl rfl (by kernel_rfl) Try.func5 (by kernel_rfl)
    (of_decide_eq_true (by kernel_rfl)) (by unfold Func.isWrapper; first | (rw [if_pos (by decide +kernel)]; kernel_rfl) | (rw [if_neg (by decide +kernel)]; exact ⟨rfl, rfl⟩))
    (fun os started H enc _ => lifted os started H enc)

theorem proved : Rows.CencAloneSaid := over
#print axioms proved
end Go.Proofs.Ytklenhohljeacaa.cencAlone
