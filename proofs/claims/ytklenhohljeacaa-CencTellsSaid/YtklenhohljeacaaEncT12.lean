/-
  The law CencTells of package quoinlaw05 answers true, for any instruction. No condition.
-/
import Derived.Test.YtklenhohljeacaaEncT4
import Derived.Test.YtklenhohljeacaaEncT10
import Derived.Test.YtklenhohljeacaaEncT11
import Derived.Test.YtklenhohljeacaaEncS
import Derived.WalkKit
import Derived.ProofKit
import Derived.OpenShut
import Derived.Lib.SmallJoins
namespace Go.Proofs.Ytklenhohljeacaa.cencTells
open Go.ChangeShapes Go.WideShapes Go.ChangeAt Go.RowKit
open Go.Proofs.Ytklenhohljeacaa.Ex (insnV u8R)

theorem own : ownKnob Try.prog.godebug = none := by kernel_rfl
theorem laidOut : laidOutB Try.prog = true := by kernel_rfl
theorem rows_all (k : Nat) (hk : k < 33) : Go.Proofs.Ytklenhohljeacaa.Ex.rowOkW Try.prog 10 14 15 k := by
  intro r hr
  have h : rowOk k = true := by
    by_cases h1 : k < 11
    · exact List.all_eq_true.1 rows_a k (List.mem_range'_1.2 (by omega))
    · by_cases h2 : k < 22
      · exact List.all_eq_true.1 rows_b k (List.mem_range'_1.2 (by omega))
      · exact List.all_eq_true.1 rows_c k (List.mem_range'_1.2 (by omega))
  unfold rowOk at h
  rw [hr] at h
  exact h
theorem half5 : Go.Proofs.Ytklenhohljeacaa.Ex.EncC Try.prog 10 := Go.Proofs.Ytklenhohljeacaa.Ex.half5_of mixed may find Go.Proofs.Ytklenhohljeacaa.Ex.sums_all Go.Proofs.Ytklenhohljeacaa.Ex.stands_all Go.Proofs.Ytklenhohljeacaa.Ex.nums_all rows_all (by kernel_rfl) (by kernel_rfl)
theorem short5 : Go.Proofs.Ytklenhohljeacaa.Ex.ShortC Try.prog 11 := Go.Proofs.Ytklenhohljeacaa.Ex.short5_of mixed may find (by kernel_rfl)
theorem told : Go.Proofs.Ytklenhohljeacaa.Ex.tellsTr.ok (Go.Proofs.Ytklenhohljeacaa.Ex.runT Try.prog (Go.Proofs.Ytklenhohljeacaa.Ex.orcL 6 10 7 11) 10000 0 4 [Go.Proofs.Ytklenhohljeacaa.Ex.symI]) Go.Proofs.Ytklenhohljeacaa.Ex.FU = true := by kernel_rfl
theorem walk {op : Int} (ho : u8R op) (d s t m : Int) : Go.Proofs.Ytklenhohljeacaa.Ex.Ret Try.prog 4 [insnV op d s t m] (.bool true) :=
  Go.Proofs.Ytklenhohljeacaa.Ex.tells_of mixed enc half5 short short5 told ho d s t m

theorem cells5 : Try.prog.cellsOf 5 = 1 := by kernel_rfl
theorem cells3 : Try.prog.cellsOf 3 = 1 := by kernel_rfl
theorem cells27 : Try.prog.cellsOf 27 = 5 := by kernel_rfl
/-- An instruction that is read: its five numbers. -/
theorem open_insn {H : Type} {enc : TypeId × Value → H} {w : World} {base b0 : Nat} {spare : Nat → Bool} {held : Bool} {r : Reach} {v : Value} {y : DataW H} {ps : List MemPlace} (hv : Value.okWide Try.prog w r b0 27 v)
    (h : DataW.Trod enc Try.prog w base spare held 27 v y ps) : ∃ op d s t m : Int, u8R op ∧ v = insnV op d s t m ∧ ps = [] := by
  obtain ⟨⟨l⟩, rfl, hsz⟩ := okWide_struct Try.underlying27 hv
  obtain ⟨fuel, hf⟩ := h
  obtain ⟨xs, n, -, hx, -, hlen, hg⟩ := DataW.trod_struct Try.underlying27 hf
  have hl : l.length = 5 := hsz.trans cells27
  match l, hl, xs, hlen with
  | [c0, c1, c2, c3, c4], _, [y0, y1, y2, y3, y4], _ =>
    have g0 : DataW.trod enc Try.prog w base spare held n 5 (List.take (Try.prog.cellsOf 5) [c0, c1, c2, c3, c4]) = some y0 := hg 0 _ rfl
    have g1 : DataW.trod enc Try.prog w base spare held n 3 (List.take (Try.prog.cellsOf 3) [c1, c2, c3, c4]) = some y1 := hg 1 _ rfl
    have g2 : DataW.trod enc Try.prog w base spare held n 3 (List.take (Try.prog.cellsOf 3) [c2, c3, c4]) = some y2 := hg 2 _ rfl
    have g3 : DataW.trod enc Try.prog w base spare held n 3 (List.take (Try.prog.cellsOf 3) [c3, c4]) = some y3 := hg 3 _ rfl
    have g4 : DataW.trod enc Try.prog w base spare held n 3 (List.take (Try.prog.cellsOf 3) [c4]) = some y4 := hg 4 _ rfl
    rw [cells5] at g0
    rw [cells3] at g1 g2 g3 g4
    obtain ⟨n0, e0, q0, w0⟩ := DataW.trod_int Try.underlying5 g0
    obtain ⟨n1, e1, q1, -⟩ := DataW.trod_int Try.underlying3 g1
    obtain ⟨n2, e2, q2, -⟩ := DataW.trod_int Try.underlying3 g2
    obtain ⟨n3, e3, q3, -⟩ := DataW.trod_int Try.underlying3 g3
    obtain ⟨n4, e4, q4, -⟩ := DataW.trod_int Try.underlying3 g4
    replace e0 : [c0] = [Value.int .u8 n0] := e0
    replace e1 : [c1] = [Value.int .i64 n1] := e1
    replace e2 : [c2] = [Value.int .i64 n2] := e2
    replace e3 : [c3] = [Value.int .i64 n3] := e3
    replace e4 : [c4] = [Value.int .i64 n4] := e4
    injection e0 with e0; injection e1 with e1; injection e2 with e2; injection e3 with e3; injection e4 with e4
    subst e0; subst e1; subst e2; subst e3; subst e4
    refine ⟨n0, n1, n2, n3, n4, ?_, rfl, ?_⟩
    · simp only [Lit.wf, Bool.and_eq_true, decide_eq_true_eq] at w0
      have a1 : IntKind.u8.min = 0 := rfl
      have a2 : IntKind.u8.max = 255 := rfl
      rw [a1, a2] at w0
      constructor <;> omega
    · simp only [Prod.mk.injEq] at hx
      rw [hx.2]
      subst q0; subst q1; subst q2; subst q3; subst q4
      rfl

set_option maxRecDepth 100000 in
theorem lifted (os : Os) (started : os.Started) (H : Type) (enc : TypeId × Value → H) :
    ReturnsInHanded {} Try.checked os 4 .any (Rows.cencTellsSpec.pre6 enc Try.prog Try.f4 Rows.cencTellsRow.domain false) (Rows.cencTellsSpec.post enc Try.prog Try.f4 false true false false) := by
  refine returnsInHanded_of_change (C := Try.checked) own started (by kernel_rfl) Try.func4
    (ChangeSpec.witness6 (enc := enc) (C := Try.checked) false ⟨#[], #[insnV 0 0 0 0 0], []⟩ 8 (by kernel_rfl) (by kernel_rfl) (by kernel_rfl) (by kernel_rfl)) ?_
  intro W base args ds gs before hval0 hW hcnd _
  have hval : ∀ (j : Nat) t v, Try.f4.params[j]? = some t → args[j]? = some v → Value.okWide Try.prog W .any base t v := hval0
  have hW' := hW
  obtain ⟨p, q, hA0, hV, rfl, hfz, hnd⟩ := hW
  have hA : DataW.TrodAll enc Try.prog W 0 (fun _ => true) true Try.f4.params.toList args.toList ds p := hA0
  rw [Try.params4] at hA hval
  obtain ⟨v0, d0, rfl, rfl, h0⟩ := trodAll_one hA
  obtain ⟨rfl, rfl⟩ := trodVars_none hV
  obtain ⟨op, d, s, t, m, ho, rfl, rfl⟩ := open_insn (hval 0 27 v0 rfl rfl) h0
  clear hA0 hval0
  simp only [List.append_nil] at hW'
  refine (walk ho d s t m W).mono fun e W' ⟨he, hg⟩ => ?_
  subst he
  refine ⟨_, rfl, _, _, _, [], [], [], hW', trodAll_cons_mk (shut_bool Try.underlying4 _) trodAll_mk0,
    trodAll_cons_mk (Below.trod laidOut (by kernel_rfl) (by decide +kernel) h0 hg (by simp)) trodAll_mk0, ?_, hg.frame _, fun h => by cases h⟩
  rfl

theorem over : Rows.cencTellsRow.holds Try.pinned (OpenSpec.ofChange Rows.cencTellsSpec) :=
  OpenClaim.holds_of_wide 4 Try.f4 rfl rfl rfl rfl rfl rfl rfl ⟨rfl, rfl, rfl, rfl, rfl⟩ rfl rfl rfl rfl rfl (by kernel_rfl) Try.func4 (by kernel_rfl)
    (of_decide_eq_true (by kernel_rfl)) (by unfold Func.isWrapper; first | (rw [if_pos (by decide +kernel)]; kernel_rfl) | (rw [if_neg (by decide +kernel)]; exact ⟨rfl, rfl⟩))
    (fun os started H enc _ => lifted os started H enc)

theorem proved : Rows.CencTellsSaid := over
#print axioms proved
end Go.Proofs.Ytklenhohljeacaa.cencTells
