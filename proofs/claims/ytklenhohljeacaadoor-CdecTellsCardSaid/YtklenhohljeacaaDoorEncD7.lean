/-
  The walks of the laws CdecShort and CdecBack.
-/
import Derived.Test.YtklenhohljeacaaDoorEncD6
import Derived.Test.YtklenhohljeacaaDoorEncJ2
namespace Go.Proofs.YtklenhohljeacaaDoor
open Go.Proofs.YtklenhohljeacaaDoor.Ex

noncomputable def orcM (F : Fa) : ACall := orElse (only 8 (@orcEnc F.dec)) (orElse (only 17 (@orcShort F.dec)) (orElse (onlyL chk 13 (@orcInsn F.dec)) (orElse orcAlive (only 16 (@orcCheck F.dec)))))
theorem orcM_OK : OrcOK Tryd.prog 2 φ0 orcM := fun F _ h => @callOK_or F.dec h.env Tryd.prog 2 _ _ (@orcEnc_ok F.dec h.env Tryd.prog 2 8 rfl enc) (@callOK_or F.dec h.env Tryd.prog 2 _ _ (@orcShort_ok F.dec h.env Tryd.prog 2 17 rfl short)
  (@callOK_or F.dec h.env Tryd.prog 2 _ _ (@orcInsn_ok F.dec h.env Tryd.prog 2 Laid2 chk (@laid2_inv F.dec h.env) 13 rfl insn) (@callOK_or F.dec h.env Tryd.prog 2 _ _ (@orcAlive_ok F.dec h.env) (@orcCheck_ok F.dec h.env Tryd.prog 2 16 rfl check))))
theorem told7a : (fun t0 t1 => (Tr.leaf (.bool true)).ok (runL orcM 10000 7 [symI] t0 t1) FShort) = fun _ _ => true := by kernel_rfl
theorem told7b : (fun t0 t1 => longTr.ok (runL orcM 10000 7 [symI] t0 t1) FLong) = fun _ _ => true := by kernel_rfl
noncomputable def args5 : List AV := [symI, .sint .u16 (.var 5)]
theorem told5a : (fun t0 t1 => (Tr.leaf (.bool true)).ok (runL orcM 10000 5 args5 t0 t1) (Fih esShort hsNot)) = fun _ _ => true := by kernel_rfl
theorem told5b : (fun t0 t1 => sameTr.ok (runL orcM 10000 5 args5 t0 t1) (Fih esShort hsSame)) = fun _ _ => true := by kernel_rfl
theorem told5c : (fun t0 t1 => twoTr.ok (runL orcM 10000 5 args5 t0 t1) (Fih esShort hsTwo)) = fun _ _ => true := by kernel_rfl
theorem told5d : (fun t0 t1 => (Tr.leaf (.bool true)).ok (runL orcM 10000 5 args5 t0 t1) (Fih esLong hsNot)) = fun _ _ => true := by kernel_rfl
theorem told5e : (fun t0 t1 => sameTr.ok (runL orcM 10000 5 args5 t0 t1) (Fih esLong hsSame)) = fun _ _ => true := by kernel_rfl
theorem told5f : (fun t0 t1 => twoTr.ok (runL orcM 10000 5 args5 t0 t1) (Fih esLong hsTwo)) = fun _ _ => true := by kernel_rfl
theorem walk7 {op : Int} (ho : u8R op) (d s t m : Int) : RetL Laid2 Tryd.prog 7 [insnV op d s t m] (.bool true) := by
  cases hs : shortB op d s t m with
  | true => exact ret_laid (η := η6 op d s t m 0) orcM_OK told7a (FShort_on ho hs) rfl rfl rfl rfl rfl
  | false => exact ret_laid (η := η6 op d s t m 0) orcM_OK told7b (FLong_on ho hs) (Tr.at_true rfl _ _) rfl rfl rfl rfl
theorem walk5 {op : Int} (ho : u8R op) (d s t m : Int) (h : Nat) (hh : h < 65536) : RetL Laid2 Tryd.prog 5 [insnV op d s t m, .int .u16 (h : Int)] (.bool true) := by
  cases hs : shortB op d s t m with
  | true =>
    cases hr : readB h with
    | false => exact ret_laid (η := η6 op d s t m h) orcM_OK told5a (Fih_on ho hh (short_es hs) (not_hs hr)) rfl rfl rfl rfl rfl
    | true =>
      by_cases he : encV (readR h).op (readR h).d (readR h).s (readR h).t (readR h).m = (h : Int)
      · exact ret_laid (η := η6 op d s t m h) orcM_OK told5b (Fih_on ho hh (short_es hs) (same_hs hh hr he)) (Tr.at_true rfl _ _) rfl rfl rfl rfl
      · obtain ⟨h1, h2⟩ := two_hs (op := op) (d := d) (s := s) (t := t) (m := m) hh hr he
        exact ret_laid (η := η6 op d s t m h) orcM_OK told5c (Fih_on ho hh (short_es hs) h1) h2 rfl rfl rfl rfl
  | false =>
    cases hr : readB h with
    | false => exact ret_laid (η := η6 op d s t m h) orcM_OK told5d (Fih_on ho hh (long_es hs) (not_hs hr)) rfl rfl rfl rfl rfl
    | true =>
      by_cases he : encV (readR h).op (readR h).d (readR h).s (readR h).t (readR h).m = (h : Int)
      · exact ret_laid (η := η6 op d s t m h) orcM_OK told5e (Fih_on ho hh (long_es hs) (same_hs hh hr he)) (Tr.at_true rfl _ _) rfl rfl rfl rfl
      · obtain ⟨h1, h2⟩ := two_hs (op := op) (d := d) (s := s) (t := t) (m := m) hh hr he
        exact ret_laid (η := η6 op d s t m h) orcM_OK told5f (Fih_on ho hh (long_es hs) h1) h2 rfl rfl rfl rfl
end Go.Proofs.YtklenhohljeacaaDoor
