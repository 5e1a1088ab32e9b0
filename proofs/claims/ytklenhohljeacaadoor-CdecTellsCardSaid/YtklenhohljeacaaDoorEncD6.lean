/-
  Half words, in the door program's own numbers: what reads them.
-/
import Derived.Test.YtklenhohljeacaaDoorEncL4
namespace Go.Proofs.YtklenhohljeacaaDoor
open Go.Proofs.YtklenhohljeacaaDoor.Ex
theorem raw_cls (n : Nat) (h : n < 39) : (fun t0 t1 => rawIn n t0 t1) = fun _ _ => true := by
  funext t0 t1
  have h1 := congrFun (congrFun raws1 t0) t1
  have h2 := congrFun (congrFun raws2 t0) t1
  have h3 := congrFun (congrFun raws3 t0) t1
  have h4 := congrFun (congrFun raws4 t0) t1
  by_cases l1 : n < 10
  · exact List.all_eq_true.1 h1 n (List.mem_range'_1.2 (by omega))
  · by_cases l2 : n < 19
    · exact List.all_eq_true.1 h2 n (List.mem_range'_1.2 (by omega))
    · by_cases l3 : n < 31
      · exact List.all_eq_true.1 h3 n (List.mem_range'_1.2 (by omega))
      · exact List.all_eq_true.1 h4 n (List.mem_range'_1.2 (by omega))
theorem raw : RawC Laid2 Tryd.prog 19 := by
  intro h hh
  obtain ⟨v, h1, h2, h3⟩ := raw_at h hh
  refine ret_laid (η := ηl [(h : Int)]) noOrc_OK2 (F := FS (clsN h)) (t := rawTr (clsN h)) (n := 10000) (args := [.sint .u16 (.var 0)]) ?_ (FS_onN h hh) h1 h2 rfl rfl h3
  exact raw_cls (clsN h) (clsN_lt h hh)
noncomputable def orcI (F : Fa) : ACall := orElse (only 8 (@orcEnc F.dec)) (onlyL chk 19 (@orcRaw F.dec))
theorem orcI_OK : OrcOK Tryd.prog 2 φ0 orcI := fun F _ h => @callOK_or F.dec h.env Tryd.prog 2 _ _ (@orcEnc_ok F.dec h.env Tryd.prog 2 8 rfl enc) (@orcRaw_ok F.dec h.env Tryd.prog 2 Laid2 chk (@laid2_inv F.dec h.env) 19 rfl raw)
theorem insnTold : (fun t0 t1 => insnTr.ok (runL orcI 10000 13 [.sint .u16 (.var 0)] t0 t1) FI) = fun _ _ => true := by kernel_rfl
theorem insn : InsnC Laid2 Tryd.prog 13 := by
  intro h hh
  obtain ⟨v, h1, h2, h3⟩ := insn_at h hh
  exact ret_laid (η := ηl [(h : Int)]) orcI_OK insnTold (FI_on h hh) h1 h2 rfl rfl h3
end Go.Proofs.YtklenhohljeacaaDoor
