import Derived.Test.YtoehlmiadiiimaaGreatDoorTMacT
import Derived.Test.YtoehlmiadiiimaaGreatDoorTEncI2
namespace Go.Proofs.YtoehlmiadiiimaaGreatDoor
open Go.Proofs.YtoehlmiadiiimaaGreatDoor.Ex
theorem form:FormC Tryz.prog 31:=formC_of mixed (by kernel_rfl) (no:=formNo) (by kernel_rfl) (by kernel_rfl)
theorem check:CheckC Tryz.prog 59:=checkC_of mixed form (by kernel_rfl) (by kernel_rfl)
theorem regs:RegsC Tryz.prog 96:=regsC_of mixed (by kernel_rfl)
theorem number:NumberC Tryz.prog 97:=numberC_of mixed (by kernel_rfl)
theorem half:HalfI Tryz.prog 60:=halfI_of mixed regs number (by kernel_rfl) (by kernel_rfl)
theorem enc:EncC Tryz.prog 42:=encC_of mixed check half (by kernel_rfl)
abbrev LG:World→Prop:=LaidG Tryz.prog vars 3
noncomputable def rawIn (n:Nat) (ts:Nat→TypeId) : Bool:=(rawTr n).ok (runG Tryz.prog vars 3 (fun _=>noOrc) 10000 102 [.sint .u16 (.var 0)] ts) (FS n)
theorem noOrc_OK13:OrcOK Tryz.prog 3 φ0 (fun _=>noOrc):=noOrc_OK Tryz.prog 3 φ0
end Go.Proofs.YtoehlmiadiiimaaGreatDoor
namespace Go.Proofs.YtoehlmiadiiimaaGreatDoor
open Go.Proofs.YtoehlmiadiiimaaGreatDoor.Ex
theorem raws1:(fun ts=>(List.range' 0 10).all fun n=>rawIn n ts)=fun _=>true:=by kernel_rfl
end Go.Proofs.YtoehlmiadiiimaaGreatDoor
namespace Go.Proofs.YtoehlmiadiiimaaGreatDoor
open Go.Proofs.YtoehlmiadiiimaaGreatDoor.Ex
theorem raws2:(fun ts=>(List.range' 10 9).all fun n=>rawIn n ts)=fun _=>true:=by kernel_rfl
end Go.Proofs.YtoehlmiadiiimaaGreatDoor
namespace Go.Proofs.YtoehlmiadiiimaaGreatDoor
open Go.Proofs.YtoehlmiadiiimaaGreatDoor.Ex
theorem raws3:(fun ts=>(List.range' 19 12).all fun n=>rawIn n ts)=fun _=>true:=by kernel_rfl
end Go.Proofs.YtoehlmiadiiimaaGreatDoor
namespace Go.Proofs.YtoehlmiadiiimaaGreatDoor
open Go.Proofs.YtoehlmiadiiimaaGreatDoor.Ex
theorem raws4:(fun ts=>(List.range' 31 8).all fun n=>rawIn n ts)=fun _=>true:=by kernel_rfl
end Go.Proofs.YtoehlmiadiiimaaGreatDoor
namespace Go.Proofs.YtoehlmiadiiimaaGreatDoor
open Go.Proofs.YtoehlmiadiiimaaGreatDoor.Ex
theorem raw_cls (n:Nat) (h:n < 39) : (fun ts=>rawIn n ts)=fun _=>true:=by
 funext ts
 have h1:=congrFun raws1 ts
 have h2:=congrFun raws2 ts
 have h3:=congrFun raws3 ts
 have h4:=congrFun raws4 ts
 by_cases l1:n < 10
 ·exact List.all_eq_true.1 h1 n (List.mem_range'_1.2 (by omega))
 ·by_cases l2:n < 19
  ·exact List.all_eq_true.1 h2 n (List.mem_range'_1.2 (by omega))
  ·by_cases l3:n < 31
   ·exact List.all_eq_true.1 h3 n (List.mem_range'_1.2 (by omega))
   ·exact List.all_eq_true.1 h4 n (List.mem_range'_1.2 (by omega))
theorem raw:RawC LG Tryz.prog 102:=by
 intro h hh
 obtain ⟨v,h1,h2,h3⟩:=raw_at h hh
 exact ret_laidG mixed (η:=ηl [(h:Int)]) noOrc_OK13 (F:=FS (clsN h)) (t:=rawTr (clsN h)) (n:=10000) (args:=[.sint .u16 (.var 0)]) (raw_cls (clsN h) (clsN_lt h hh)) (FS_onN h hh) h1 h2 rfl rfl h3
noncomputable def orcI (F:Fa) : ACall:=orElse (only 42 (@orcEnc F.dec)) (onlyL (chkG vars) 102 (@orcRaw F.dec))
theorem orcI_OK:OrcOK Tryz.prog 3 φ0 orcI:=fun F _ h=>@callOK_or F.dec h.env Tryz.prog 3 _ _ (@orcEnc_ok F.dec h.env Tryz.prog 3 42 rfl enc) (@orcRaw_ok F.dec h.env Tryz.prog 3 LG (chkG vars) (fun ρ H w hc hI hg=>@laidG_inv F.dec h.env Tryz.prog vars 3 varsOK ρ H w hc hI hg) 102 rfl raw)
theorem insnTold:(fun ts=>insnTr.ok (runG Tryz.prog vars 3 orcI 10000 65 [.sint .u16 (.var 0)] ts) FI)=fun _=>true:=by kernel_rfl
theorem insn:InsnC LG Tryz.prog 65:=by
 intro h hh
 obtain ⟨v,h1,h2,h3⟩:=insn_at h hh
 exact ret_laidG mixed (η:=ηl [(h:Int)]) orcI_OK insnTold (FI_on h hh) h1 h2 rfl rfl h3
end Go.Proofs.YtoehlmiadiiimaaGreatDoor
