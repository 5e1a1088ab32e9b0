/-
  The law CdecTells of package quoinlaw06 answers true, for any half word: the tied card.
-/
import Derived.Test.YtklenhohljeacaaDoorEncV3
import Derived.Test.YtklenhohljeacaaDoorEncD8
namespace Go.Proofs.YtklenhohljeacaaDoor.cdecTells
open Go.ChangeShapes Go.WideShapes Go.ChangeAt Go.RowKit
open Go.Proofs.YtklenhohljeacaaDoor.Ex

def FT (b : Bool) : Fa := ⟨[(.wrap .i64 (.fn 405 (.var 0)), .fn 405 (.var 0), true), (.bin .and .u16 (.var 0) (.lit 3), .lit 3, b), (.bin .rem .u16 (.var 0) (.lit 4), .lit 3, b)], Go.Proofs.YtklenhohljeacaaDoor.Ex.rng (.var 0) 65536, []⟩
noncomputable def orcT (F : Fa) : ACall := orElse (onlyL chk 13 (@orcInsn F.dec)) (onlyL chk 14 (@orcInsn F.dec))
theorem orcT_OK : OrcOK Tryd.prog 2 φ0 orcT := fun F _ h => @callOK_or F.dec h.env Tryd.prog 2 _ _ (@orcInsn_ok F.dec h.env Tryd.prog 2 Laid2 chk (@laid2_inv F.dec h.env) 13 rfl insn) (@orcInsn_ok F.dec h.env Tryd.prog 2 Laid2 chk (@laid2_inv F.dec h.env) 14 rfl doc)
theorem told (b : Bool) : (fun t0 t1 => (Tr.leaf (.bool true)).ok (runL orcT 10000 4 [.sint .u16 (.var 0)] t0 t1) (FT b)) = fun _ _ => true := by
  cases b with
  | true => kernel_rfl
  | false => kernel_rfl
theorem FT_on (h : Nat) (hh : h < 65536) : (FT (decide (h % 4 = 3))).On (ηl [(h : Int)]) φ0 where
  es x hx := by
    simp only [FT, List.mem_cons, List.not_mem_nil, or_false] at hx
    rcases hx with rfl | rfl | rfl
    · have e : φ0 405 [(h : Int)] = readE h := rfl
      show (IntKind.i64.wrap (φ0 405 [(h : Int)]) == φ0 405 [(h : Int)]) = true
      rw [e]
      unfold readE
      cases readB h <;> rfl
    · exact and3 h hh
    · have e : ibin .rem .u16 (h : Int) 4 = ((h % 4 : Nat) : Int) := by
        unfold ibin abin
        simp only
        rw [if_neg (by simp), if_neg (by decide)]
        rfl
      show (ibin .rem .u16 (h : Int) 4 == 3) = _
      rw [e]
      by_cases h3 : h % 4 = 3
      · rw [h3]; rfl
      · rw [decide_eq_false h3]
        have : ¬ (((h % 4 : Nat) : Int) = 3) := by omega
        simpa using this
  ls x hx := by
    simp only [FT, Go.Proofs.YtklenhohljeacaaDoor.Ex.rng, List.mem_cons, List.not_mem_nil, or_false] at hx
    rcases hx with rfl | rfl
    · exact decide_eq_true (show (h : Int) < 65536 by omega)
    · exact decide_eq_false (show ¬ (h : Int) < 0 by omega)
  vs x hx := by cases hx
theorem walk (h : Nat) (hh : h < 65536) : RetL Laid2 Tryd.prog 4 [.int .u16 (h : Int)] (.bool true) :=
  ret_laid (η := ηl [(h : Int)]) orcT_OK (told (decide (h % 4 = 3))) (FT_on h hh) rfl rfl rfl rfl rfl
set_option maxRecDepth 100000 in
theorem lifted (os : Os) (started : os.Started) (H : Type) (enc : TypeId × Value → H) :
    ReturnsInHanded {} Tryd.checked os 4 .any (fun w args => (Rows.cdecTellsSpec.pre enc Tryd.prog Tryd.f4 [] false w args ∧ laidMetH Tryd.prog laid w) ∧ sizedMet enc Tryd.prog Tryd.f4 (OpenSpec.ofChange Rows.cdecTellsSpec) false w args)
      (Rows.cdecTellsSpec.post enc Tryd.prog Tryd.f4 false true false false) := by
  refine returnsInHanded_of_change_and (C := Tryd.checked) (X := fun w _ => laidMetH Tryd.prog laid w) (fun _ _ _ hh h => h.of_heap hh) own started (by kernel_rfl) Tryd.func4
    (ChangeSpec.witness_shaped (enc := enc) (C := Tryd.checked) (os := os) (X := fun w _ => laidMetH Tryd.prog laid w) false (World.doorLaid Tryd.prog 400 os) #[.int .u16 0] 8 rfl (World.shaped_of_RefB (by kernel_rfl) (by kernel_rfl)) (by kernel_rfl) (by kernel_rfl) (by kernel_rfl) (door_met os _)) ?_
  intro W base args ds gs before hval0 hW _ _ hL _
  have hval : ∀ (j : Nat) t v, Tryd.f4.params[j]? = some t → args[j]? = some v → Value.okWide Tryd.prog W .any base t v := hval0
  have hW' := hW
  obtain ⟨p, q, hA0, hV, rfl, hfz, hnd⟩ := hW
  have hA : DataW.TrodAll enc Tryd.prog W 0 (fun _ => true) true Tryd.f4.params.toList args.toList ds p := hA0
  rw [Tryd.params4] at hA hval
  obtain ⟨v0, d0, rfl, rfl, h0⟩ := trodAll_one hA
  obtain ⟨rfl, rfl⟩ := trodVars_none hV
  obtain ⟨z, rfl, rfl, rfl, wz⟩ := open_int Tryd.underlying22 (hval 0 22 v0 rfl rfl) h0
  have hz : 0 ≤ z ∧ z ≤ 65535 := by
    simp only [Lit.wf, Bool.and_eq_true, decide_eq_true_eq] at wz
    have a1 : IntKind.u16.min = 0 := rfl
    have a2 : IntKind.u16.max = 65535 := rfl
    rw [a1, a2] at wz
    exact wz
  obtain ⟨n, rfl⟩ : ∃ n : Nat, z = (n : Int) := ⟨z.toNat, by omega⟩
  clear hA0 hval0
  simp only [List.append_nil] at hW'
  refine (walk n (by omega) W (laid2_of hL)).mono fun e W' ⟨he, hg⟩ => ?_
  subst he
  refine ⟨_, rfl, _, _, _, [], [], [], hW', trodAll_cons_mk (shut_bool Tryd.underlying4 _) trodAll_mk0, trodAll_cons_mk (shut_int Tryd.underlying22 wz) trodAll_mk0, ?_, hg.frame _, fun h => by cases h⟩
  rfl

theorem over : Rows.CdecTellsSaid :=
  OpenClaim.holds_of_wide 4 Tryd.f4 rfl rfl rfl rfl rfl rfl rfl ⟨rfl, rfl, rfl, rfl, rfl⟩ rfl rfl rfl rfl rfl (by kernel_rfl) Tryd.func4 (by kernel_rfl)
    (of_decide_eq_true (by kernel_rfl)) (by unfold Func.isWrapper; first | (rw [if_pos (by decide +kernel)]; kernel_rfl) | (rw [if_neg (by decide +kernel)]; exact ⟨rfl, rfl⟩))
    (fun os started H enc _ => lifted os started H enc)

theorem proved : Rows.CdecTellsCardSaid :=
  Claim7.holds_tied_plain_at .later [] [.widerDeep, .data] true (true, "f41219e7abb2d123d5dea42e1d47f6cf64808de5f50441e04ed0b522c1daf695") false
    over (fun _ h => by cases h) (by kernel_rfl) (fun _ h => by cases h) cdecTells_row_tie rfl ⟨rfl, rfl⟩ (by kernel_rfl) rfl
    (fun f fn hf hfn => by
      obtain rfl : f = 4 := Option.some.inj ((show Tryd.prog.funcNamed "quoin/quoinlaw06.CdecTells" = some 4 by kernel_rfl).symm.trans hf) |>.symm
      obtain rfl : fn = Tryd.f4 := (Option.some.inj (Tryd.func4.symm.trans hfn)).symm
      exact ⟨by kernel_rfl, fun j t ht => by
        rw [Tryd.params4] at ht
        have hm : t ∈ [22] := by simpa using Array.mem_of_getElem? ht
        have hall : ([22].all fun u => !Tryd.prog.wantsStandIn u) = true := by kernel_rfl
        exact (show Tryd.prog.wantsStandIn t = false by simpa using List.all_eq_true.1 hall t hm)⟩)
    (by kernel_rfl)
#print axioms proved
end Go.Proofs.YtklenhohljeacaaDoor.cdecTells
