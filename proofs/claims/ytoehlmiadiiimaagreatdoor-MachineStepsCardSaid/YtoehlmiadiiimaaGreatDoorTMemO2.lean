/-
  Words: the document's small functions of words, in the machine program's own numbers.
-/
import Derived.Test.YtoehlmiadiiimaaGreatDoorTMemO1
import Derived.Test.YtoehlmiadiiimaaGreatDoorTMemX1
namespace Go.Proofs.YtoehlmiadiiimaaGreatDoor
open Go.ChangeShapes Go.WideShapes Go.RowKit Go.Proofs.YtoehlmiadiiimaaGreatDoor.Ex
theorem form48:FormC Tryz.prog 48:=formC_of mixed (by kernel_rfl) (no:=form2No) (by kernel_rfl) (by kernel_rfl)
theorem may167:MayC Tryz.prog 167:=mayC_of mixed form48 (by kernel_rfl) (by kernel_rfl)
theorem formD (op:Nat) (h1:1≤op) (h2:op≤94) (w:World) : Calls Tryz.prog 48 #[.int .u8 op] w fun e w'=>e=.returned (.tuple #[.int .u8 (formB op),.int .i64 0])∧Below w.heap.size w w':=by
 have hk:knownI (op:Int)=true:=by unfold knownI; simp; omega
 have:=form48 op ⟨by omega,by omega⟩ w
 rw [formI_B op h1 h2,hk] at this
 exact this
def tab48:List (List AV×AV):=(List.range 94).map fun (i:Nat)=>([.int .u8 (Int.ofNat (i+1))],.tup [.int .u8 (Int.ofNat (formB (i+1))),.int .i64 0])
def tab47:List (List AV×AV):=(List.range 94).map fun (i:Nat)=>([.int .u8 (Int.ofNat (i+1))],.tup [var0.getD i .nilif,.int .i64 0])
def tab163:List (List AV×AV):=(List.range 63).map fun (i:Nat)=>([li (Int.ofNat i)],li (Int.ofNat (2 ^ i)))
def tab115:List (List AV×AV):=(List.range 94).map fun (i:Nat)=>([.int .u8 (Int.ofNat (i+1))],.int .u32 (Int.ofNat (baseB (i+1))))
def tab165:List (List AV×AV):=formsAll.map fun (f:Nat)=>([.int .u8 (Int.ofNat f)],.tup [.bool (regsF f).1,.bool (regsF f).2.1,.bool (regsF f).2.2])
theorem orc_of {f:FuncId} {tab:List (List AV×AV)} {orc:Fa→ACall} (horc:∀ φ,OrcOK Tryz.prog 0 φ orc) (h:tabOk Tryz.prog orc f tab=true) (φ:Nat→List Int→Int) : OrcOK Tryz.prog 0 φ (fun _=>orcTab f tab):=fun F _ hF =>
 have k:=tab_of mixed horc h
 @orcTab_ok F.dec hF.env Tryz.prog 0 f tab k.1 (fun x hx=>k.2 x hx _ _)
theorem told48:tabOk Tryz.prog (fun _=>orcTab 76 tab76) 48 tab48=true:=by kernel_rfl
theorem told47:tabOk Tryz.prog (fun _=>orcTab 76 tab76) 47 tab47=true:=by kernel_rfl
theorem told163:tabOk Tryz.prog (fun _=>noOrc) 163 tab163=true:=by kernel_rfl
theorem told115:tabOk Tryz.prog (fun _=>orcTab 47 tab47) 115 tab115=true:=by kernel_rfl
theorem told165:tabOk Tryz.prog (fun _=>orcTab 48 tab48) 165 tab165=true:=by kernel_rfl
theorem o48 (φ:Nat→List Int→Int) : OrcOK Tryz.prog 0 φ (fun _=>orcTab 48 tab48):=orc_of orc76 told48 φ
theorem o47 (φ:Nat→List Int→Int) : OrcOK Tryz.prog 0 φ (fun _=>orcTab 47 tab47):=orc_of orc76 told47 φ
theorem o163 (φ:Nat→List Int→Int) : OrcOK Tryz.prog 0 φ (fun _=>orcTab 163 tab163):=orc_of (fun φ=>noOrc_OK Tryz.prog 0 φ) told163 φ
theorem nameD (op:Nat) (h1:1≤op) (h2:op≤94) (w:World) : Calls Tryz.prog 47 #[.int .u8 op] w fun e w'=>e=.returned (.tuple #[.string (nameB op),.int .i64 0])∧Below w.heap.size w w':=by
 have k:=(tab_of mixed orc76 told47).2 _ (List.mem_map.2 ⟨op - 1,List.mem_range.2 (by omega),rfl⟩) (fun _=>0) (fun _ _=>0) w
 have e1:(AV.toVals (fun _=>0) (fun _ _=>0) [AV.int .u8 (Int.ofNat (op - 1+1))]).toArray=#[.int .u8 op]:=by
  show #[Value.int .u8 (Int.ofNat (op - 1+1))]=_
  rw [Nat.sub_add_cancel h1]; rfl
 have e2:(AV.tup [var0.getD (op - 1) .nilif,.int .i64 0]).toVal (fun _=>0) (fun _ _=>0)=.tuple #[.string (nameB op),.int .i64 0]:=by
  rw [← name_val op h1 h2]; rfl
 rw [e1,e2] at k
 exact k
theorem bitsD (op:Nat) (h1:1≤op) (h2:op≤94) (w:World) : Calls Tryz.prog 115 #[.int .u8 op] w fun e w'=>e=.returned (.int .u32 (baseB op))∧Below w.heap.size w w':=by
 have k:=(tab_of mixed o47 told115).2 _ (List.mem_map.2 ⟨op - 1,List.mem_range.2 (by omega),rfl⟩) (fun _=>0) (fun _ _=>0) w
 have e1:(AV.toVals (fun _=>0) (fun _ _=>0) [AV.int .u8 (Int.ofNat (op - 1+1))]).toArray=#[.int .u8 op]:=by
  show #[Value.int .u8 (Int.ofNat (op - 1+1))]=_
  rw [Nat.sub_add_cancel h1]; rfl
 have e2:(AV.int .u32 (Int.ofNat (baseB (op - 1+1)))).toVal (fun _=>0) (fun _ _=>0)=.int .u32 (baseB op):=by
  rw [Nat.sub_add_cancel h1]; rfl
 rw [e1,e2] at k
 exact k
theorem mayD (i:Ins) (ho:i.op < 256) (w:World) : Calls Tryz.prog 167 #[i.v] w fun e w'=>e=.returned (.bool (mayI i.op i.rd i.s1 i.s2 i.imm))∧Below w.heap.size w w' :=
 may167 i.op i.rd i.s1 i.s2 i.imm ⟨by omega,by omega⟩ w
end Go.Proofs.YtoehlmiadiiimaaGreatDoor
