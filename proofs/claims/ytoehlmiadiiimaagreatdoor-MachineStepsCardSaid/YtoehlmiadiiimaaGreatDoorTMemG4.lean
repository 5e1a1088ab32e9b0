import Derived.Test.YtoehlmiadiiimaaGreatDoorTMemF0
import Derived.Maps.Own
import Derived.Maps.OwnOps
import Derived.WideMake
import Derived.StringKeys
set_option maxRecDepth 100000
set_option maxHeartbeats 2000000
namespace Go.Proofs.YtoehlmiadiiimaaGreatDoor
open Go.ChangeShapes Go.WideShapes Go.RowKit
theorem do_lui (B g:Nat) (r:Rn) (mv tv:Value) (w:World) (hr:RunW B w g r mv tv) (i:Ins) (h1:i.s1 < 32) (h2:i.s2 < 32) (h3:i.rd < 32) (hs:r.stop=false)
  (nm:ByteArray) (hname:∀ W,Below B w W→Calls Tryz.prog 30 #[.int .u8 i.op] W fun e w'=>e=.returned (.tuple #[.string nm,.int .i64 0])∧Below W.heap.size W w')
  (hform:∀ W,Below B w W→Calls Tryz.prog 31 #[.int .u8 i.op] W fun e w'=>e=.returned (.tuple #[.int .u8 85,.int .i64 0])∧Below W.heap.size W w') (hn:(nm.toList == [97,117,105,112,99])=false) :
  Calls Tryz.prog 45 #[.pointer (some ⟨g,0,none⟩),i.v] w (DoPost B w g mv tv r.on (r.wr i.rd (nar32 (IntKind.u64.wrap (IntKind.u64.wrap i.imm*4096))))):=by
 have HN:=Lib.hid hname
 have HF:=Lib.hid hform
 have lg:=hr.blk.lt
 have HS:=Lib.hid hs
 clear hname hform hs
 go_enter Tryz.func45,Tryz.ntmps45
 go_wp2_with fail
 refine (HN.out _ ((RunB.start hr).alloc _).low).mono ?_
 rintro e w1 ⟨rfl,hb1⟩
 have R1:=((RunB.start hr).alloc (.cells #[.int .u8 i.op,.int .i64 i.rd,.int .i64 i.s1,.int .i64 i.s2,.int .i64 i.imm] 57)).below hb1
 obtain ⟨hc1,hf1⟩:=bcell hb1
 have hz:w.heap.size < w1.heap.size:=by have:=hb1.size; simp at this; omega
 go_wp2_with fail
 refine (HF.out _ R1.low).mono ?_
 rintro e w2 ⟨rfl,hb2⟩
 have R2:=R1.below hb2
 obtain ⟨hc2,hf2⟩:=bcell hb2
 have k1:=R2.run.cR i.s1 h1
 have k2:=R2.run.cR i.s2 h2
 have i10:(0:Int)≤(i.s1:Int):=Int.natCast_nonneg _
 have i11:(i.s1:Int) < 32:=by omega
 have i20:(0:Int)≤(i.s2:Int):=Int.natCast_nonneg _
 have i21:(i.s2:Int) < 32:=by omega
 have k0:=R2.run.c0
 have k37:=R2.run.c37
 have k38:w2.cell? ⟨g,38,none⟩=some (.bool false):=by rw [R2.run.c38]; exact congrArg (fun x=>some (Value.bool x)) HS.out
 have f38:=R2.run.fz 38
 have lg2:=R2.run.blk.lt
 have hz2:w.heap.size < w2.heap.size:=by have:=hb2.size; omega
 go_wp2
 go_quiet (fail)
 by_cases hrd:i.rd=0
 ·have hd:((i.rd:Int) == 0)=true:=by simpa using hrd
  go_wp2_with (go_at_call 67; refine (nar32_any _ _).mono ?_; rintro e w' ⟨rfl,rfl⟩)
  go_ret
  exact ⟨rfl,(R2.drewN _).fin0 HS.out hrd _⟩
 ·have hd:((i.rd:Int) == 0)=false:=by simpa using hrd
  have k3:=R2.run.cR i.rd h3
  have f3:=R2.run.fz (1+i.rd)
  have i30:(0:Int)≤(i.rd:Int):=Int.natCast_nonneg _
  have i31:(i.rd:Int) < 32:=by omega
  go_wp2_with (go_at_call 67; refine (nar32_any _ _).mono ?_; rintro e w' ⟨rfl,rfl⟩)
  go_region
  go_wp2
  go_ret
  exact ⟨rfl,(R2.drewN _).fin1 HS.out hrd h3 _⟩
theorem do_auipc (B g:Nat) (r:Rn) (mv tv:Value) (w:World) (hr:RunW B w g r mv tv) (i:Ins) (h1:i.s1 < 32) (h2:i.s2 < 32) (h3:i.rd < 32) (hs:r.stop=false)
  (nm:ByteArray) (hname:∀ W,Below B w W→Calls Tryz.prog 30 #[.int .u8 i.op] W fun e w'=>e=.returned (.tuple #[.string nm,.int .i64 0])∧Below W.heap.size W w')
  (hform:∀ W,Below B w W→Calls Tryz.prog 31 #[.int .u8 i.op] W fun e w'=>e=.returned (.tuple #[.int .u8 85,.int .i64 0])∧Below W.heap.size W w') (hn:(nm.toList == [97,117,105,112,99])=true) :
  Calls Tryz.prog 45 #[.pointer (some ⟨g,0,none⟩),i.v] w (DoPost B w g mv tv r.on (r.wr i.rd (IntKind.u64.wrap (nar32 (IntKind.u64.wrap (IntKind.u64.wrap i.imm*4096))+r.pc)))):=by
 have HN:=Lib.hid hname
 have HF:=Lib.hid hform
 have lg:=hr.blk.lt
 have HS:=Lib.hid hs
 clear hname hform hs
 go_enter Tryz.func45,Tryz.ntmps45
 go_wp2_with fail
 refine (HN.out _ ((RunB.start hr).alloc _).low).mono ?_
 rintro e w1 ⟨rfl,hb1⟩
 have R1:=((RunB.start hr).alloc (.cells #[.int .u8 i.op,.int .i64 i.rd,.int .i64 i.s1,.int .i64 i.s2,.int .i64 i.imm] 57)).below hb1
 obtain ⟨hc1,hf1⟩:=bcell hb1
 have hz:w.heap.size < w1.heap.size:=by have:=hb1.size; simp at this; omega
 go_wp2_with fail
 refine (HF.out _ R1.low).mono ?_
 rintro e w2 ⟨rfl,hb2⟩
 have R2:=R1.below hb2
 obtain ⟨hc2,hf2⟩:=bcell hb2
 have k1:=R2.run.cR i.s1 h1
 have k2:=R2.run.cR i.s2 h2
 have i10:(0:Int)≤(i.s1:Int):=Int.natCast_nonneg _
 have i11:(i.s1:Int) < 32:=by omega
 have i20:(0:Int)≤(i.s2:Int):=Int.natCast_nonneg _
 have i21:(i.s2:Int) < 32:=by omega
 have k0:=R2.run.c0
 have k37:=R2.run.c37
 have k38:w2.cell? ⟨g,38,none⟩=some (.bool false):=by rw [R2.run.c38]; exact congrArg (fun x=>some (Value.bool x)) HS.out
 have f38:=R2.run.fz 38
 have lg2:=R2.run.blk.lt
 have hz2:w.heap.size < w2.heap.size:=by have:=hb2.size; omega
 go_wp2
 go_quiet (fail)
 by_cases hrd:i.rd=0
 ·have hd:((i.rd:Int) == 0)=true:=by simpa using hrd
  go_wp2_with (go_at_call 67; refine (nar32_any _ _).mono ?_; rintro e w' ⟨rfl,rfl⟩)
  go_ret
  exact ⟨rfl,(R2.drewN _).fin0 HS.out hrd _⟩
 ·have hd:((i.rd:Int) == 0)=false:=by simpa using hrd
  have k3:=R2.run.cR i.rd h3
  have f3:=R2.run.fz (1+i.rd)
  have i30:(0:Int)≤(i.rd:Int):=Int.natCast_nonneg _
  have i31:(i.rd:Int) < 32:=by omega
  go_wp2_with (go_at_call 67; refine (nar32_any _ _).mono ?_; rintro e w' ⟨rfl,rfl⟩)
  go_region
  go_wp2
  go_ret
  exact ⟨rfl,(R2.drewN _).fin1 HS.out hrd h3 _⟩
theorem do_jalr (B g:Nat) (r:Rn) (mv tv:Value) (w:World) (hr:RunW B w g r mv tv) (i:Ins) (h1:i.s1 < 32) (h2:i.s2 < 32) (h3:i.rd < 32) (hs:r.stop=false)
  (nm:ByteArray) (hname:∀ W,Below B w W→Calls Tryz.prog 30 #[.int .u8 i.op] W fun e w'=>e=.returned (.tuple #[.string nm,.int .i64 0])∧Below W.heap.size W w')
  (hform:∀ W,Below B w W→Calls Tryz.prog 31 #[.int .u8 i.op] W fun e w'=>e=.returned (.tuple #[.int .u8 76,.int .i64 0])∧Below W.heap.size W w') (hn:(nm.toList == [106,97,108,114])=true) :
  Calls Tryz.prog 45 #[.pointer (some ⟨g,0,none⟩),i.v] w (DoPost B w g mv tv (bits .andNot .u64 (IntKind.u64.wrap (r.regs[i.s1]?.getD 0+IntKind.u64.wrap i.imm)) 1) (r.wr i.rd r.on)):=by
 have HN:=Lib.hid hname
 have HF:=Lib.hid hform
 have lg:=hr.blk.lt
 have HS:=Lib.hid hs
 clear hname hform hs
 go_enter Tryz.func45,Tryz.ntmps45
 go_wp2_with fail
 refine (HN.out _ ((RunB.start hr).alloc _).low).mono ?_
 rintro e w1 ⟨rfl,hb1⟩
 have R1:=((RunB.start hr).alloc (.cells #[.int .u8 i.op,.int .i64 i.rd,.int .i64 i.s1,.int .i64 i.s2,.int .i64 i.imm] 57)).below hb1
 obtain ⟨hc1,hf1⟩:=bcell hb1
 have hz:w.heap.size < w1.heap.size:=by have:=hb1.size; simp at this; omega
 go_wp2_with fail
 refine (HF.out _ R1.low).mono ?_
 rintro e w2 ⟨rfl,hb2⟩
 have R2:=R1.below hb2
 obtain ⟨hc2,hf2⟩:=bcell hb2
 have k1:=R2.run.cR i.s1 h1
 have k2:=R2.run.cR i.s2 h2
 have i10:(0:Int)≤(i.s1:Int):=Int.natCast_nonneg _
 have i11:(i.s1:Int) < 32:=by omega
 have i20:(0:Int)≤(i.s2:Int):=Int.natCast_nonneg _
 have i21:(i.s2:Int) < 32:=by omega
 have k0:=R2.run.c0
 have k37:=R2.run.c37
 have k38:w2.cell? ⟨g,38,none⟩=some (.bool false):=by rw [R2.run.c38]; exact congrArg (fun x=>some (Value.bool x)) HS.out
 have f38:=R2.run.fz 38
 have lg2:=R2.run.blk.lt
 have hz2:w.heap.size < w2.heap.size:=by have:=hb2.size; omega
 go_wp2
 go_quiet (fail)
 by_cases hrd:i.rd=0
 ·have hd:((i.rd:Int) == 0)=true:=by simpa using hrd
  go_wp2
  go_ret
  exact ⟨rfl,(R2.drewN _).fin0 HS.out hrd _⟩
 ·have hd:((i.rd:Int) == 0)=false:=by simpa using hrd
  have k3:=R2.run.cR i.rd h3
  have f3:=R2.run.fz (1+i.rd)
  have i30:(0:Int)≤(i.rd:Int):=Int.natCast_nonneg _
  have i31:(i.rd:Int) < 32:=by omega
  go_wp2
  go_region
  go_wp2
  go_ret
  exact ⟨rfl,(R2.drewN _).fin1 HS.out hrd h3 _⟩
theorem do_Bt (B g:Nat) (r:Rn) (mv tv:Value) (w:World) (hr:RunW B w g r mv tv) (i:Ins) (h1:i.s1 < 32) (h2:i.s2 < 32) (h3:i.rd < 32) (hs:r.stop=false)
  (nm:ByteArray) (hname:∀ W,Below B w W→Calls Tryz.prog 30 #[.int .u8 i.op] W fun e w'=>e=.returned (.tuple #[.string nm,.int .i64 0])∧Below W.heap.size W w')
  (hform:∀ W,Below B w W→Calls Tryz.prog 31 #[.int .u8 i.op] W fun e w'=>e=.returned (.tuple #[.int .u8 66,.int .i64 0])∧Below W.heap.size W w') (hbr:∀ W,Calls Tryz.prog 68 #[.string nm,.int .u64 (r.regs[i.s1]?.getD 0),.int .u64 (r.regs[i.s2]?.getD 0)] W fun e w'=>e=.returned (.bool true)∧W=w') :
  Calls Tryz.prog 45 #[.pointer (some ⟨g,0,none⟩),i.v] w (DoPost B w g mv tv (IntKind.u64.wrap (r.pc+IntKind.u64.wrap i.imm)) (r.wr i.rd 0)):=by
 have HN:=Lib.hid hname
 have HF:=Lib.hid hform
 have lg:=hr.blk.lt
 have HS:=Lib.hid hs
 clear hname hform hs
 have HBR:=Lib.hid hbr
 clear hbr
 go_enter Tryz.func45,Tryz.ntmps45
 go_wp2_with fail
 refine (HN.out _ ((RunB.start hr).alloc _).low).mono ?_
 rintro e w1 ⟨rfl,hb1⟩
 have R1:=((RunB.start hr).alloc (.cells #[.int .u8 i.op,.int .i64 i.rd,.int .i64 i.s1,.int .i64 i.s2,.int .i64 i.imm] 57)).below hb1
 obtain ⟨hc1,hf1⟩:=bcell hb1
 have hz:w.heap.size < w1.heap.size:=by have:=hb1.size; simp at this; omega
 go_wp2_with fail
 refine (HF.out _ R1.low).mono ?_
 rintro e w2 ⟨rfl,hb2⟩
 have R2:=R1.below hb2
 obtain ⟨hc2,hf2⟩:=bcell hb2
 have k1:=R2.run.cR i.s1 h1
 have k2:=R2.run.cR i.s2 h2
 have i10:(0:Int)≤(i.s1:Int):=Int.natCast_nonneg _
 have i11:(i.s1:Int) < 32:=by omega
 have i20:(0:Int)≤(i.s2:Int):=Int.natCast_nonneg _
 have i21:(i.s2:Int) < 32:=by omega
 have k0:=R2.run.c0
 have k37:=R2.run.c37
 have k38:w2.cell? ⟨g,38,none⟩=some (.bool false):=by rw [R2.run.c38]; exact congrArg (fun x=>some (Value.bool x)) HS.out
 have f38:=R2.run.fz 38
 have lg2:=R2.run.blk.lt
 have hz2:w.heap.size < w2.heap.size:=by have:=hb2.size; omega
 go_wp2
 go_quiet (fail)
 by_cases hrd:i.rd=0
 ·have hd:((i.rd:Int) == 0)=true:=by simpa using hrd
  go_wp2_with (go_at_call 68; refine (HBR.out _).mono ?_; rintro e w' ⟨rfl,rfl⟩)
  go_ret
  exact ⟨rfl,(R2.drewN _).fin0 HS.out hrd _⟩
 ·have hd:((i.rd:Int) == 0)=false:=by simpa using hrd
  have k3:=R2.run.cR i.rd h3
  have f3:=R2.run.fz (1+i.rd)
  have i30:(0:Int)≤(i.rd:Int):=Int.natCast_nonneg _
  have i31:(i.rd:Int) < 32:=by omega
  go_wp2_with (go_at_call 68; refine (HBR.out _).mono ?_; rintro e w' ⟨rfl,rfl⟩)
  go_region
  go_wp2
  go_ret
  exact ⟨rfl,(R2.drewN _).fin1 HS.out hrd h3 _⟩
theorem do_Bf (B g:Nat) (r:Rn) (mv tv:Value) (w:World) (hr:RunW B w g r mv tv) (i:Ins) (h1:i.s1 < 32) (h2:i.s2 < 32) (h3:i.rd < 32) (hs:r.stop=false)
  (nm:ByteArray) (hname:∀ W,Below B w W→Calls Tryz.prog 30 #[.int .u8 i.op] W fun e w'=>e=.returned (.tuple #[.string nm,.int .i64 0])∧Below W.heap.size W w')
  (hform:∀ W,Below B w W→Calls Tryz.prog 31 #[.int .u8 i.op] W fun e w'=>e=.returned (.tuple #[.int .u8 66,.int .i64 0])∧Below W.heap.size W w') (hbr:∀ W,Calls Tryz.prog 68 #[.string nm,.int .u64 (r.regs[i.s1]?.getD 0),.int .u64 (r.regs[i.s2]?.getD 0)] W fun e w'=>e=.returned (.bool false)∧W=w') :
  Calls Tryz.prog 45 #[.pointer (some ⟨g,0,none⟩),i.v] w (DoPost B w g mv tv r.on (r.wr i.rd 0)):=by
 have HN:=Lib.hid hname
 have HF:=Lib.hid hform
 have lg:=hr.blk.lt
 have HS:=Lib.hid hs
 clear hname hform hs
 have HBR:=Lib.hid hbr
 clear hbr
 go_enter Tryz.func45,Tryz.ntmps45
 go_wp2_with fail
 refine (HN.out _ ((RunB.start hr).alloc _).low).mono ?_
 rintro e w1 ⟨rfl,hb1⟩
 have R1:=((RunB.start hr).alloc (.cells #[.int .u8 i.op,.int .i64 i.rd,.int .i64 i.s1,.int .i64 i.s2,.int .i64 i.imm] 57)).below hb1
 obtain ⟨hc1,hf1⟩:=bcell hb1
 have hz:w.heap.size < w1.heap.size:=by have:=hb1.size; simp at this; omega
 go_wp2_with fail
 refine (HF.out _ R1.low).mono ?_
 rintro e w2 ⟨rfl,hb2⟩
 have R2:=R1.below hb2
 obtain ⟨hc2,hf2⟩:=bcell hb2
 have k1:=R2.run.cR i.s1 h1
 have k2:=R2.run.cR i.s2 h2
 have i10:(0:Int)≤(i.s1:Int):=Int.natCast_nonneg _
 have i11:(i.s1:Int) < 32:=by omega
 have i20:(0:Int)≤(i.s2:Int):=Int.natCast_nonneg _
 have i21:(i.s2:Int) < 32:=by omega
 have k0:=R2.run.c0
 have k37:=R2.run.c37
 have k38:w2.cell? ⟨g,38,none⟩=some (.bool false):=by rw [R2.run.c38]; exact congrArg (fun x=>some (Value.bool x)) HS.out
 have f38:=R2.run.fz 38
 have lg2:=R2.run.blk.lt
 have hz2:w.heap.size < w2.heap.size:=by have:=hb2.size; omega
 go_wp2
 go_quiet (fail)
 by_cases hrd:i.rd=0
 ·have hd:((i.rd:Int) == 0)=true:=by simpa using hrd
  go_wp2_with (go_at_call 68; refine (HBR.out _).mono ?_; rintro e w' ⟨rfl,rfl⟩)
  go_ret
  exact ⟨rfl,(R2.drewN _).fin0 HS.out hrd _⟩
 ·have hd:((i.rd:Int) == 0)=false:=by simpa using hrd
  have k3:=R2.run.cR i.rd h3
  have f3:=R2.run.fz (1+i.rd)
  have i30:(0:Int)≤(i.rd:Int):=Int.natCast_nonneg _
  have i31:(i.rd:Int) < 32:=by omega
  go_wp2_with (go_at_call 68; refine (HBR.out _).mono ?_; rintro e w' ⟨rfl,rfl⟩)
  go_region
  go_wp2
  go_ret
  exact ⟨rfl,(R2.drewN _).fin1 HS.out hrd h3 _⟩
end Go.Proofs.YtoehlmiadiiimaaGreatDoor
namespace Go.Proofs.YtoehlmiadiiimaaGreatDoor
open Go.ChangeShapes Go.WideShapes Go.RowKit
def StopPost (B:Nat) (w:World) (g:Nat) (mv tv:Value) (e:Ending) (w':World) : Prop :=
 ∃ to r',e=.returned (.int .u64 to)∧RunB B w w' g r' mv tv∧r'.stop=true
theorem do_L (B g:Nat) (r:Rn) (mv tv:Value) (w:World) (hr:RunW B w g r mv tv) (i:Ins) (h1:i.s1 < 32) (h2:i.s2 < 32) (h3:i.rd < 32) (hs:r.stop=false)
  (nm:ByteArray) (hname:∀ W,Below B w W→Calls Tryz.prog 30 #[.int .u8 i.op] W fun e w'=>e=.returned (.tuple #[.string nm,.int .i64 0])∧Below W.heap.size W w')
  (hform:∀ W,Below B w W→Calls Tryz.prog 31 #[.int .u8 i.op] W fun e w'=>e=.returned (.tuple #[.int .u8 76,.int .i64 0])∧Below W.heap.size W w') (hn:(nm.toList == [106,97,108,114])=false) (v:Int) (hl:∀ W,RunB B w W g r mv tv→Calls Tryz.prog 69 #[.pointer (some ⟨g,0,none⟩),.string nm,.int .u64 (IntKind.u64.wrap (r.regs[i.s1]?.getD 0+IntKind.u64.wrap i.imm))] W fun e w'=>e=.returned (.int .u64 v)∧W=w') :
  Calls Tryz.prog 45 #[.pointer (some ⟨g,0,none⟩),i.v] w (DoPost B w g mv tv r.on (r.wr i.rd v)):=by
 have HN:=Lib.hid hname
 have HF:=Lib.hid hform
 have lg:=hr.blk.lt
 have HS:=Lib.hid hs
 clear hname hform hs
 have HL:=Lib.hid hl
 clear hl
 go_enter Tryz.func45,Tryz.ntmps45
 go_wp2_with fail
 refine (HN.out _ ((RunB.start hr).alloc _).low).mono ?_
 rintro e w1 ⟨rfl,hb1⟩
 have R1:=((RunB.start hr).alloc (.cells #[.int .u8 i.op,.int .i64 i.rd,.int .i64 i.s1,.int .i64 i.s2,.int .i64 i.imm] 57)).below hb1
 obtain ⟨hc1,hf1⟩:=bcell hb1
 have hz:w.heap.size < w1.heap.size:=by have:=hb1.size; simp at this; omega
 go_wp2_with fail
 refine (HF.out _ R1.low).mono ?_
 rintro e w2 ⟨rfl,hb2⟩
 have R2:=R1.below hb2
 obtain ⟨hc2,hf2⟩:=bcell hb2
 have k1:=R2.run.cR i.s1 h1
 have k2:=R2.run.cR i.s2 h2
 have i10:(0:Int)≤(i.s1:Int):=Int.natCast_nonneg _
 have i11:(i.s1:Int) < 32:=by omega
 have i20:(0:Int)≤(i.s2:Int):=Int.natCast_nonneg _
 have i21:(i.s2:Int) < 32:=by omega
 have k0:=R2.run.c0
 have k37:=R2.run.c37
 have k38:w2.cell? ⟨g,38,none⟩=some (.bool false):=by rw [R2.run.c38]; exact congrArg (fun x=>some (Value.bool x)) HS.out
 have f38:=R2.run.fz 38
 have lg2:=R2.run.blk.lt
 have hz2:w.heap.size < w2.heap.size:=by have:=hb2.size; omega
 go_wp2
 go_quiet (fail)
 go_wp2_with fail
 refine (HL.out _ (R2.drewN _)).mono ?_
 rintro e w' ⟨rfl,rfl⟩
 by_cases hrd:i.rd=0
 ·have hd:((i.rd:Int) == 0)=true:=by simpa using hrd
  go_wp2
  go_ret
  exact ⟨rfl,(R2.drewN _).fin0 HS.out hrd _⟩
 ·have hd:((i.rd:Int) == 0)=false:=by simpa using hrd
  have k3:=R2.run.cR i.rd h3
  have f3:=R2.run.fz (1+i.rd)
  have i30:(0:Int)≤(i.rd:Int):=Int.natCast_nonneg _
  have i31:(i.rd:Int) < 32:=by omega
  go_wp2
  go_region
  go_wp2
  go_ret
  exact ⟨rfl,(R2.drewN _).fin1 HS.out hrd h3 _⟩
theorem do_Lx (B g:Nat) (r:Rn) (mv tv:Value) (w:World) (hr:RunW B w g r mv tv) (i:Ins) (h1:i.s1 < 32) (h2:i.s2 < 32) (h3:i.rd < 32) (hs:r.stop=false)
  (nm:ByteArray) (hname:∀ W,Below B w W→Calls Tryz.prog 30 #[.int .u8 i.op] W fun e w'=>e=.returned (.tuple #[.string nm,.int .i64 0])∧Below W.heap.size W w')
  (hform:∀ W,Below B w W→Calls Tryz.prog 31 #[.int .u8 i.op] W fun e w'=>e=.returned (.tuple #[.int .u8 76,.int .i64 0])∧Below W.heap.size W w') (hn:(nm.toList == [106,97,108,114])=false) (v:Int) (hl:∀ W,RunB B w W g r mv tv→Calls Tryz.prog 69 #[.pointer (some ⟨g,0,none⟩),.string nm,.int .u64 (IntKind.u64.wrap (r.regs[i.s1]?.getD 0+IntKind.u64.wrap i.imm))] W fun e w'=>e=.returned (.int .u64 v)∧W.setCell ⟨g,38,none⟩ (.bool true)=w') :
  Calls Tryz.prog 45 #[.pointer (some ⟨g,0,none⟩),i.v] w (StopPost B w g mv tv):=by
 have HN:=Lib.hid hname
 have HF:=Lib.hid hform
 have lg:=hr.blk.lt
 have HS:=Lib.hid hs
 clear hname hform hs
 have HL:=Lib.hid hl
 clear hl
 go_enter Tryz.func45,Tryz.ntmps45
 go_wp2_with fail
 refine (HN.out _ ((RunB.start hr).alloc _).low).mono ?_
 rintro e w1 ⟨rfl,hb1⟩
 have R1:=((RunB.start hr).alloc (.cells #[.int .u8 i.op,.int .i64 i.rd,.int .i64 i.s1,.int .i64 i.s2,.int .i64 i.imm] 57)).below hb1
 obtain ⟨hc1,hf1⟩:=bcell hb1
 have hz:w.heap.size < w1.heap.size:=by have:=hb1.size; simp at this; omega
 go_wp2_with fail
 refine (HF.out _ R1.low).mono ?_
 rintro e w2 ⟨rfl,hb2⟩
 have R2:=R1.below hb2
 obtain ⟨hc2,hf2⟩:=bcell hb2
 have k1:=R2.run.cR i.s1 h1
 have k2:=R2.run.cR i.s2 h2
 have i10:(0:Int)≤(i.s1:Int):=Int.natCast_nonneg _
 have i11:(i.s1:Int) < 32:=by omega
 have i20:(0:Int)≤(i.s2:Int):=Int.natCast_nonneg _
 have i21:(i.s2:Int) < 32:=by omega
 have k0:=R2.run.c0
 have k37:=R2.run.c37
 have k38:w2.cell? ⟨g,38,none⟩=some (.bool false):=by rw [R2.run.c38]; exact congrArg (fun x=>some (Value.bool x)) HS.out
 have f38:=R2.run.fz 38
 have lg2:=R2.run.blk.lt
 have hz2:w.heap.size < w2.heap.size:=by have:=hb2.size; omega
 go_wp2
 go_quiet (fail)
 go_wp2_with fail
 refine (HL.out _ (R2.drewN _)).mono ?_
 rintro e w' ⟨rfl,rfl⟩
 by_cases hrd:i.rd=0
 ·have hd:((i.rd:Int) == 0)=true:=by simpa using hrd
  go_wp2
  go_ret
  exact ⟨_,_,rfl,((R2.drewN _).stop_ true).stop_ true,rfl⟩
 ·have hd:((i.rd:Int) == 0)=false:=by simpa using hrd
  have k3:=R2.run.cR i.rd h3
  have f3:=R2.run.fz (1+i.rd)
  have i30:(0:Int)≤(i.rd:Int):=Int.natCast_nonneg _
  have i31:(i.rd:Int) < 32:=by omega
  go_wp2
  go_region
  go_wp2
  go_ret
  exact ⟨_,_,rfl,((((R2.drewN _).stop_ true).stop_ true).reg_ i.rd h3 _).drew,rfl⟩
theorem do_none (k:Int) (hk:k=78∨k=65∨k=67∨k=90∨k=108) (B g:Nat) (r:Rn) (mv tv:Value) (w:World) (hr:RunW B w g r mv tv) (i:Ins) (h1:i.s1 < 32) (h2:i.s2 < 32) (h3:i.rd < 32) (hs:r.stop=false)
  (nm:ByteArray) (hname:∀ W,Below B w W→Calls Tryz.prog 30 #[.int .u8 i.op] W fun e w'=>e=.returned (.tuple #[.string nm,.int .i64 0])∧Below W.heap.size W w')
  (hform:∀ W,Below B w W→Calls Tryz.prog 31 #[.int .u8 i.op] W fun e w'=>e=.returned (.tuple #[.int .u8 k,.int .i64 0])∧Below W.heap.size W w') (hn:(nm.toList == [101,99,97,108,108])=false) :
  Calls Tryz.prog 45 #[.pointer (some ⟨g,0,none⟩),i.v] w (StopPost B w g mv tv):=by
 rcases hk with rfl | rfl | rfl | rfl | rfl <;> (
 have HN:=Lib.hid hname
 have HF:=Lib.hid hform
 have lg:=hr.blk.lt
 have HS:=Lib.hid hs
 clear hname hform hs
 go_enter Tryz.func45,Tryz.ntmps45
 go_wp2_with fail
 refine (HN.out _ ((RunB.start hr).alloc _).low).mono ?_
 rintro e w1 ⟨rfl,hb1⟩
 have R1:=((RunB.start hr).alloc (.cells #[.int .u8 i.op,.int .i64 i.rd,.int .i64 i.s1,.int .i64 i.s2,.int .i64 i.imm] 57)).below hb1
 obtain ⟨hc1,hf1⟩:=bcell hb1
 have hz:w.heap.size < w1.heap.size:=by have:=hb1.size; simp at this; omega
 go_wp2_with fail
 refine (HF.out _ R1.low).mono ?_
 rintro e w2 ⟨rfl,hb2⟩
 have R2:=R1.below hb2
 obtain ⟨hc2,hf2⟩:=bcell hb2
 have k1:=R2.run.cR i.s1 h1
 have k2:=R2.run.cR i.s2 h2
 have i10:(0:Int)≤(i.s1:Int):=Int.natCast_nonneg _
 have i11:(i.s1:Int) < 32:=by omega
 have i20:(0:Int)≤(i.s2:Int):=Int.natCast_nonneg _
 have i21:(i.s2:Int) < 32:=by omega
 have k0:=R2.run.c0
 have k37:=R2.run.c37
 have k38:w2.cell? ⟨g,38,none⟩=some (.bool false):=by rw [R2.run.c38]; exact congrArg (fun x=>some (Value.bool x)) HS.out
 have f38:=R2.run.fz 38
 have lg2:=R2.run.blk.lt
 have hz2:w.heap.size < w2.heap.size:=by have:=hb2.size; omega
 go_wp2
 go_quiet (fail)
 by_cases hrd:i.rd=0
 ·have hd:((i.rd:Int) == 0)=true:=by simpa using hrd
  go_wp2
  go_ret
  exact ⟨_,_,rfl,(R2.drewN _).stop_ true,rfl⟩
 ·have hd:((i.rd:Int) == 0)=false:=by simpa using hrd
  have k3:=R2.run.cR i.rd h3
  have f3:=R2.run.fz (1+i.rd)
  have i30:(0:Int)≤(i.rd:Int):=Int.natCast_nonneg _
  have i31:(i.rd:Int) < 32:=by omega
  go_wp2
  go_region
  go_wp2
  go_ret
  exact ⟨_,_,rfl,(((R2.drewN _).stop_ true).reg_ i.rd h3 _).drew,rfl⟩)
end Go.Proofs.YtoehlmiadiiimaaGreatDoor
namespace Go.Proofs.YtoehlmiadiiimaaGreatDoor
open Go.ChangeShapes Go.WideShapes Go.RowKit
theorem do_I (B g:Nat) (r:Rn) (mv tv:Value) (w:World) (hr:RunW B w g r mv tv) (i:Ins) (h1:i.s1 < 32) (h2:i.s2 < 32) (h3:i.rd < 32) (hs:r.stop=false)
  (nm:ByteArray) (hname:∀ W,Below B w W→Calls Tryz.prog 30 #[.int .u8 i.op] W fun e w'=>e=.returned (.tuple #[.string nm,.int .i64 0])∧Below W.heap.size W w')
  (hform:∀ W,Below B w W→Calls Tryz.prog 31 #[.int .u8 i.op] W fun e w'=>e=.returned (.tuple #[.int .u8 73,.int .i64 0])∧Below W.heap.size W w') (v:Int) (htw:∀ W,Below B w W→Calls Tryz.prog 71 #[.string nm,.int .u64 (r.regs[i.s1]?.getD 0),.int .u64 (IntKind.u64.wrap i.imm)] W fun e w'=>e=.returned (.tuple #[.int .u64 v,.bool true])∧Below W.heap.size W w') :
  Calls Tryz.prog 45 #[.pointer (some ⟨g,0,none⟩),i.v] w (DoPost B w g mv tv r.on (r.wr i.rd v)):=by
 have HN:=Lib.hid hname
 have HF:=Lib.hid hform
 have lg:=hr.blk.lt
 have HS:=Lib.hid hs
 clear hname hform hs
 have HT:=Lib.hid htw
 clear htw
 go_enter Tryz.func45,Tryz.ntmps45
 go_wp2_with fail
 refine (HN.out _ ((RunB.start hr).alloc _).low).mono ?_
 rintro e w1 ⟨rfl,hb1⟩
 have R1:=((RunB.start hr).alloc (.cells #[.int .u8 i.op,.int .i64 i.rd,.int .i64 i.s1,.int .i64 i.s2,.int .i64 i.imm] 57)).below hb1
 obtain ⟨hc1,hf1⟩:=bcell hb1
 have hz:w.heap.size < w1.heap.size:=by have:=hb1.size; simp at this; omega
 go_wp2_with fail
 refine (HF.out _ R1.low).mono ?_
 rintro e w2 ⟨rfl,hb2⟩
 have R2:=R1.below hb2
 obtain ⟨hc2,hf2⟩:=bcell hb2
 have k1:=R2.run.cR i.s1 h1
 have k2:=R2.run.cR i.s2 h2
 have i10:(0:Int)≤(i.s1:Int):=Int.natCast_nonneg _
 have i11:(i.s1:Int) < 32:=by omega
 have i20:(0:Int)≤(i.s2:Int):=Int.natCast_nonneg _
 have i21:(i.s2:Int) < 32:=by omega
 have k0:=R2.run.c0
 have k37:=R2.run.c37
 have k38:w2.cell? ⟨g,38,none⟩=some (.bool false):=by rw [R2.run.c38]; exact congrArg (fun x=>some (Value.bool x)) HS.out
 have f38:=R2.run.fz 38
 have lg2:=R2.run.blk.lt
 have hz2:w.heap.size < w2.heap.size:=by have:=hb2.size; omega
 go_wp2
 go_quiet (fail)
 go_wp2_with fail
 refine (HT.out _ (R2.drewN _).low).mono ?_
 rintro e w3 ⟨rfl,hb3⟩
 have R3:=(R2.drewN _).below hb3
 have hb3':Below w2.heap.size w2 w3:=⟨hb3.os,hb3.tape,hb3.output,hb3.size,hb3.block⟩
 obtain ⟨hc3,hf3⟩:=bcell hb3'
 clear hb3
 have q38:w3.cell? ⟨g,38,none⟩=some (.bool false):=by rw [R3.run.c38]; exact congrArg (fun x=>some (Value.bool x)) HS.out
 have q38f:=R3.run.fz 38
 have lg3:=R3.run.blk.lt
 have hz3:w.heap.size < w3.heap.size:=by have:=hb3'.size; omega
 by_cases hrd:i.rd=0
 ·have hd:((i.rd:Int) == 0)=true:=by simpa using hrd
  go_wp2
  go_ret
  exact ⟨rfl,R3.fin0 HS.out hrd _⟩
 ·have hd:((i.rd:Int) == 0)=false:=by simpa using hrd
  have k3:=R2.run.cR i.rd h3
  have f3:=R2.run.fz (1+i.rd)
  have i30:(0:Int)≤(i.rd:Int):=Int.natCast_nonneg _
  have i31:(i.rd:Int) < 32:=by omega
  go_wp2
  go_region
  go_wp2
  go_ret
  exact ⟨rfl,R3.fin1 HS.out hrd h3 _⟩
theorem do_six (B g:Nat) (r:Rn) (mv tv:Value) (w:World) (hr:RunW B w g r mv tv) (i:Ins) (h1:i.s1 < 32) (h2:i.s2 < 32) (h3:i.rd < 32) (hs:r.stop=false)
  (nm:ByteArray) (hname:∀ W,Below B w W→Calls Tryz.prog 30 #[.int .u8 i.op] W fun e w'=>e=.returned (.tuple #[.string nm,.int .i64 0])∧Below W.heap.size W w')
  (hform:∀ W,Below B w W→Calls Tryz.prog 31 #[.int .u8 i.op] W fun e w'=>e=.returned (.tuple #[.int .u8 54,.int .i64 0])∧Below W.heap.size W w') (v:Int) (htw:∀ W,Below B w W→Calls Tryz.prog 71 #[.string nm,.int .u64 (r.regs[i.s1]?.getD 0),.int .u64 (IntKind.u64.wrap i.imm)] W fun e w'=>e=.returned (.tuple #[.int .u64 v,.bool true])∧Below W.heap.size W w') :
  Calls Tryz.prog 45 #[.pointer (some ⟨g,0,none⟩),i.v] w (DoPost B w g mv tv r.on (r.wr i.rd v)):=by
 have HN:=Lib.hid hname
 have HF:=Lib.hid hform
 have lg:=hr.blk.lt
 have HS:=Lib.hid hs
 clear hname hform hs
 have HT:=Lib.hid htw
 clear htw
 go_enter Tryz.func45,Tryz.ntmps45
 go_wp2_with fail
 refine (HN.out _ ((RunB.start hr).alloc _).low).mono ?_
 rintro e w1 ⟨rfl,hb1⟩
 have R1:=((RunB.start hr).alloc (.cells #[.int .u8 i.op,.int .i64 i.rd,.int .i64 i.s1,.int .i64 i.s2,.int .i64 i.imm] 57)).below hb1
 obtain ⟨hc1,hf1⟩:=bcell hb1
 have hz:w.heap.size < w1.heap.size:=by have:=hb1.size; simp at this; omega
 go_wp2_with fail
 refine (HF.out _ R1.low).mono ?_
 rintro e w2 ⟨rfl,hb2⟩
 have R2:=R1.below hb2
 obtain ⟨hc2,hf2⟩:=bcell hb2
 have k1:=R2.run.cR i.s1 h1
 have k2:=R2.run.cR i.s2 h2
 have i10:(0:Int)≤(i.s1:Int):=Int.natCast_nonneg _
 have i11:(i.s1:Int) < 32:=by omega
 have i20:(0:Int)≤(i.s2:Int):=Int.natCast_nonneg _
 have i21:(i.s2:Int) < 32:=by omega
 have k0:=R2.run.c0
 have k37:=R2.run.c37
 have k38:w2.cell? ⟨g,38,none⟩=some (.bool false):=by rw [R2.run.c38]; exact congrArg (fun x=>some (Value.bool x)) HS.out
 have f38:=R2.run.fz 38
 have lg2:=R2.run.blk.lt
 have hz2:w.heap.size < w2.heap.size:=by have:=hb2.size; omega
 go_wp2
 go_quiet (fail)
 go_wp2_with fail
 refine (HT.out _ (R2.drewN _).low).mono ?_
 rintro e w3 ⟨rfl,hb3⟩
 have R3:=(R2.drewN _).below hb3
 have hb3':Below w2.heap.size w2 w3:=⟨hb3.os,hb3.tape,hb3.output,hb3.size,hb3.block⟩
 obtain ⟨hc3,hf3⟩:=bcell hb3'
 clear hb3
 have q38:w3.cell? ⟨g,38,none⟩=some (.bool false):=by rw [R3.run.c38]; exact congrArg (fun x=>some (Value.bool x)) HS.out
 have q38f:=R3.run.fz 38
 have lg3:=R3.run.blk.lt
 have hz3:w.heap.size < w3.heap.size:=by have:=hb3'.size; omega
 by_cases hrd:i.rd=0
 ·have hd:((i.rd:Int) == 0)=true:=by simpa using hrd
  go_wp2
  go_ret
  exact ⟨rfl,R3.fin0 HS.out hrd _⟩
 ·have hd:((i.rd:Int) == 0)=false:=by simpa using hrd
  have k3:=R2.run.cR i.rd h3
  have f3:=R2.run.fz (1+i.rd)
  have i30:(0:Int)≤(i.rd:Int):=Int.natCast_nonneg _
  have i31:(i.rd:Int) < 32:=by omega
  go_wp2
  go_region
  go_wp2
  go_ret
  exact ⟨rfl,R3.fin1 HS.out hrd h3 _⟩
theorem do_five (B g:Nat) (r:Rn) (mv tv:Value) (w:World) (hr:RunW B w g r mv tv) (i:Ins) (h1:i.s1 < 32) (h2:i.s2 < 32) (h3:i.rd < 32) (hs:r.stop=false)
  (nm:ByteArray) (hname:∀ W,Below B w W→Calls Tryz.prog 30 #[.int .u8 i.op] W fun e w'=>e=.returned (.tuple #[.string nm,.int .i64 0])∧Below W.heap.size W w')
  (hform:∀ W,Below B w W→Calls Tryz.prog 31 #[.int .u8 i.op] W fun e w'=>e=.returned (.tuple #[.int .u8 53,.int .i64 0])∧Below W.heap.size W w') (v:Int) (htw:∀ W,Below B w W→Calls Tryz.prog 71 #[.string nm,.int .u64 (r.regs[i.s1]?.getD 0),.int .u64 (IntKind.u64.wrap i.imm)] W fun e w'=>e=.returned (.tuple #[.int .u64 v,.bool true])∧Below W.heap.size W w') :
  Calls Tryz.prog 45 #[.pointer (some ⟨g,0,none⟩),i.v] w (DoPost B w g mv tv r.on (r.wr i.rd v)):=by
 have HN:=Lib.hid hname
 have HF:=Lib.hid hform
 have lg:=hr.blk.lt
 have HS:=Lib.hid hs
 clear hname hform hs
 have HT:=Lib.hid htw
 clear htw
 go_enter Tryz.func45,Tryz.ntmps45
 go_wp2_with fail
 refine (HN.out _ ((RunB.start hr).alloc _).low).mono ?_
 rintro e w1 ⟨rfl,hb1⟩
 have R1:=((RunB.start hr).alloc (.cells #[.int .u8 i.op,.int .i64 i.rd,.int .i64 i.s1,.int .i64 i.s2,.int .i64 i.imm] 57)).below hb1
 obtain ⟨hc1,hf1⟩:=bcell hb1
 have hz:w.heap.size < w1.heap.size:=by have:=hb1.size; simp at this; omega
 go_wp2_with fail
 refine (HF.out _ R1.low).mono ?_
 rintro e w2 ⟨rfl,hb2⟩
 have R2:=R1.below hb2
 obtain ⟨hc2,hf2⟩:=bcell hb2
 have k1:=R2.run.cR i.s1 h1
 have k2:=R2.run.cR i.s2 h2
 have i10:(0:Int)≤(i.s1:Int):=Int.natCast_nonneg _
 have i11:(i.s1:Int) < 32:=by omega
 have i20:(0:Int)≤(i.s2:Int):=Int.natCast_nonneg _
 have i21:(i.s2:Int) < 32:=by omega
 have k0:=R2.run.c0
 have k37:=R2.run.c37
 have k38:w2.cell? ⟨g,38,none⟩=some (.bool false):=by rw [R2.run.c38]; exact congrArg (fun x=>some (Value.bool x)) HS.out
 have f38:=R2.run.fz 38
 have lg2:=R2.run.blk.lt
 have hz2:w.heap.size < w2.heap.size:=by have:=hb2.size; omega
 go_wp2
 go_quiet (fail)
 go_wp2_with fail
 refine (HT.out _ (R2.drewN _).low).mono ?_
 rintro e w3 ⟨rfl,hb3⟩
 have R3:=(R2.drewN _).below hb3
 have hb3':Below w2.heap.size w2 w3:=⟨hb3.os,hb3.tape,hb3.output,hb3.size,hb3.block⟩
 obtain ⟨hc3,hf3⟩:=bcell hb3'
 clear hb3
 have q38:w3.cell? ⟨g,38,none⟩=some (.bool false):=by rw [R3.run.c38]; exact congrArg (fun x=>some (Value.bool x)) HS.out
 have q38f:=R3.run.fz 38
 have lg3:=R3.run.blk.lt
 have hz3:w.heap.size < w3.heap.size:=by have:=hb3'.size; omega
 by_cases hrd:i.rd=0
 ·have hd:((i.rd:Int) == 0)=true:=by simpa using hrd
  go_wp2
  go_ret
  exact ⟨rfl,R3.fin0 HS.out hrd _⟩
 ·have hd:((i.rd:Int) == 0)=false:=by simpa using hrd
  have k3:=R2.run.cR i.rd h3
  have f3:=R2.run.fz (1+i.rd)
  have i30:(0:Int)≤(i.rd:Int):=Int.natCast_nonneg _
  have i31:(i.rd:Int) < 32:=by omega
  go_wp2
  go_region
  go_wp2
  go_ret
  exact ⟨rfl,R3.fin1 HS.out hrd h3 _⟩
theorem do_R (B g:Nat) (r:Rn) (mv tv:Value) (w:World) (hr:RunW B w g r mv tv) (i:Ins) (h1:i.s1 < 32) (h2:i.s2 < 32) (h3:i.rd < 32) (hs:r.stop=false)
  (nm:ByteArray) (hname:∀ W,Below B w W→Calls Tryz.prog 30 #[.int .u8 i.op] W fun e w'=>e=.returned (.tuple #[.string nm,.int .i64 0])∧Below W.heap.size W w')
  (hform:∀ W,Below B w W→Calls Tryz.prog 31 #[.int .u8 i.op] W fun e w'=>e=.returned (.tuple #[.int .u8 82,.int .i64 0])∧Below W.heap.size W w') (v:Int) (htw:∀ W,Below B w W→Calls Tryz.prog 71 #[.string nm,.int .u64 (r.regs[i.s1]?.getD 0),.int .u64 (r.regs[i.s2]?.getD 0)] W fun e w'=>e=.returned (.tuple #[.int .u64 v,.bool true])∧Below W.heap.size W w') :
  Calls Tryz.prog 45 #[.pointer (some ⟨g,0,none⟩),i.v] w (DoPost B w g mv tv r.on (r.wr i.rd v)):=by
 have HN:=Lib.hid hname
 have HF:=Lib.hid hform
 have lg:=hr.blk.lt
 have HS:=Lib.hid hs
 clear hname hform hs
 have HT:=Lib.hid htw
 clear htw
 go_enter Tryz.func45,Tryz.ntmps45
 go_wp2_with fail
 refine (HN.out _ ((RunB.start hr).alloc _).low).mono ?_
 rintro e w1 ⟨rfl,hb1⟩
 have R1:=((RunB.start hr).alloc (.cells #[.int .u8 i.op,.int .i64 i.rd,.int .i64 i.s1,.int .i64 i.s2,.int .i64 i.imm] 57)).below hb1
 obtain ⟨hc1,hf1⟩:=bcell hb1
 have hz:w.heap.size < w1.heap.size:=by have:=hb1.size; simp at this; omega
 go_wp2_with fail
 refine (HF.out _ R1.low).mono ?_
 rintro e w2 ⟨rfl,hb2⟩
 have R2:=R1.below hb2
 obtain ⟨hc2,hf2⟩:=bcell hb2
 have k1:=R2.run.cR i.s1 h1
 have k2:=R2.run.cR i.s2 h2
 have i10:(0:Int)≤(i.s1:Int):=Int.natCast_nonneg _
 have i11:(i.s1:Int) < 32:=by omega
 have i20:(0:Int)≤(i.s2:Int):=Int.natCast_nonneg _
 have i21:(i.s2:Int) < 32:=by omega
 have k0:=R2.run.c0
 have k37:=R2.run.c37
 have k38:w2.cell? ⟨g,38,none⟩=some (.bool false):=by rw [R2.run.c38]; exact congrArg (fun x=>some (Value.bool x)) HS.out
 have f38:=R2.run.fz 38
 have lg2:=R2.run.blk.lt
 have hz2:w.heap.size < w2.heap.size:=by have:=hb2.size; omega
 go_wp2
 go_quiet (fail)
 go_wp2_with fail
 refine (HT.out _ (R2.drewN _).low).mono ?_
 rintro e w3 ⟨rfl,hb3⟩
 have R3:=(R2.drewN _).below hb3
 have hb3':Below w2.heap.size w2 w3:=⟨hb3.os,hb3.tape,hb3.output,hb3.size,hb3.block⟩
 obtain ⟨hc3,hf3⟩:=bcell hb3'
 clear hb3
 have q38:w3.cell? ⟨g,38,none⟩=some (.bool false):=by rw [R3.run.c38]; exact congrArg (fun x=>some (Value.bool x)) HS.out
 have q38f:=R3.run.fz 38
 have lg3:=R3.run.blk.lt
 have hz3:w.heap.size < w3.heap.size:=by have:=hb3'.size; omega
 by_cases hrd:i.rd=0
 ·have hd:((i.rd:Int) == 0)=true:=by simpa using hrd
  go_wp2
  go_ret
  exact ⟨rfl,R3.fin0 HS.out hrd _⟩
 ·have hd:((i.rd:Int) == 0)=false:=by simpa using hrd
  have k3:=R2.run.cR i.rd h3
  have f3:=R2.run.fz (1+i.rd)
  have i30:(0:Int)≤(i.rd:Int):=Int.natCast_nonneg _
  have i31:(i.rd:Int) < 32:=by omega
  go_wp2
  go_region
  go_wp2
  go_ret
  exact ⟨rfl,R3.fin1 HS.out hrd h3 _⟩
theorem do_ecall_full (B g:Nat) (r:Rn) (mv tv:Value) (w:World) (hr:RunW B w g r mv tv) (i:Ins) (h1:i.s1 < 32) (h2:i.s2 < 32) (h3:i.rd < 32) (hs:r.stop=false)
  (nm:ByteArray) (hname:∀ W,Below B w W→Calls Tryz.prog 30 #[.int .u8 i.op] W fun e w'=>e=.returned (.tuple #[.string nm,.int .i64 0])∧Below W.heap.size W w')
  (hform:∀ W,Below B w W→Calls Tryz.prog 31 #[.int .u8 i.op] W fun e w'=>e=.returned (.tuple #[.int .u8 78,.int .i64 0])∧Below W.heap.size W w') (hn:(nm.toList == [101,99,97,108,108])=true) (T:Option Addr) (d:Nat) (htv:tv=.slice T r.told.length d) (hfull:1000≤r.told.length) (hlen:r.told.length≤1000000) :
  Calls Tryz.prog 45 #[.pointer (some ⟨g,0,none⟩),i.v] w (StopPost B w g mv tv):=by
 have HN:=Lib.hid hname
 have HF:=Lib.hid hform
 have lg:=hr.blk.lt
 have HS:=Lib.hid hs
 clear hname hform hs
 subst htv
 go_enter Tryz.func45,Tryz.ntmps45
 go_wp2_with fail
 refine (HN.out _ ((RunB.start hr).alloc _).low).mono ?_
 rintro e w1 ⟨rfl,hb1⟩
 have R1:=((RunB.start hr).alloc (.cells #[.int .u8 i.op,.int .i64 i.rd,.int .i64 i.s1,.int .i64 i.s2,.int .i64 i.imm] 57)).below hb1
 obtain ⟨hc1,hf1⟩:=bcell hb1
 have hz:w.heap.size < w1.heap.size:=by have:=hb1.size; simp at this; omega
 go_wp2_with fail
 refine (HF.out _ R1.low).mono ?_
 rintro e w2 ⟨rfl,hb2⟩
 have R2:=R1.below hb2
 obtain ⟨hc2,hf2⟩:=bcell hb2
 have k1:=R2.run.cR i.s1 h1
 have k2:=R2.run.cR i.s2 h2
 have i10:(0:Int)≤(i.s1:Int):=Int.natCast_nonneg _
 have i11:(i.s1:Int) < 32:=by omega
 have i20:(0:Int)≤(i.s2:Int):=Int.natCast_nonneg _
 have i21:(i.s2:Int) < 32:=by omega
 have k0:=R2.run.c0
 have k37:=R2.run.c37
 have k38:w2.cell? ⟨g,38,none⟩=some (.bool false):=by rw [R2.run.c38]; exact congrArg (fun x=>some (Value.bool x)) HS.out
 have f38:=R2.run.fz 38
 have lg2:=R2.run.blk.lt
 have hz2:w.heap.size < w2.heap.size:=by have:=hb2.size; omega
 go_wp2
 go_quiet (fail)
 have k35:=(R2.drewN nq).run.c35
 go_wp2_with fail
 refine (call_full g T r.told.length d false _ k35 (by go_simp) (by go_simp) hfull hlen).mono ?_
 rintro e w' ⟨rfl,rfl⟩
 by_cases hrd:i.rd=0
 ·have hd:((i.rd:Int) == 0)=true:=by simpa using hrd
  go_wp2
  go_ret
  exact ⟨_,_,rfl,((R2.drewN _).stop_ true).stop_ true,rfl⟩
 ·have hd:((i.rd:Int) == 0)=false:=by simpa using hrd
  have k3:=R2.run.cR i.rd h3
  have f3:=R2.run.fz (1+i.rd)
  have i30:(0:Int)≤(i.rd:Int):=Int.natCast_nonneg _
  have i31:(i.rd:Int) < 32:=by omega
  go_wp2
  go_region
  go_wp2
  go_ret
  exact ⟨_,_,rfl,((((R2.drewN _).stop_ true).stop_ true).reg_ i.rd h3 _).drew,rfl⟩
theorem do_ecall (B g:Nat) (r:Rn) (mv tv:Value) (w:World) (hr:RunW B w g r mv tv) (i:Ins) (h1:i.s1 < 32) (h2:i.s2 < 32) (h3:i.rd < 32) (hs:r.stop=false)
  (nm:ByteArray) (hname:∀ W,Below B w W→Calls Tryz.prog 30 #[.int .u8 i.op] W fun e w'=>e=.returned (.tuple #[.string nm,.int .i64 0])∧Below W.heap.size W w')
  (hform:∀ W,Below B w W→Calls Tryz.prog 31 #[.int .u8 i.op] W fun e w'=>e=.returned (.tuple #[.int .u8 78,.int .i64 0])∧Below W.heap.size W w') (hn:(nm.toList == [101,99,97,108,108])=true) (T:Option Addr) (d:Nat) (htv:tv=.slice T r.told.length d) (hfull:r.told.length < 1000) :
  Calls Tryz.prog 45 #[.pointer (some ⟨g,0,none⟩),i.v] w (fun e w'=>∃ tv',DoPost B w g mv tv' r.on ({ r with told:=r.told ++ [r.regs.getD 10 0],done:=r.regs.getD 17 0 == 93 }.wr i.rd 0) e w'):=by
 have HN:=Lib.hid hname
 have HF:=Lib.hid hform
 have lg:=hr.blk.lt
 have HS:=Lib.hid hs
 clear hname hform hs
 subst htv
 go_enter Tryz.func45,Tryz.ntmps45
 go_wp2_with fail
 refine (HN.out _ ((RunB.start hr).alloc _).low).mono ?_
 rintro e w1 ⟨rfl,hb1⟩
 have R1:=((RunB.start hr).alloc (.cells #[.int .u8 i.op,.int .i64 i.rd,.int .i64 i.s1,.int .i64 i.s2,.int .i64 i.imm] 57)).below hb1
 obtain ⟨hc1,hf1⟩:=bcell hb1
 have hz:w.heap.size < w1.heap.size:=by have:=hb1.size; simp at this; omega
 go_wp2_with fail
 refine (HF.out _ R1.low).mono ?_
 rintro e w2 ⟨rfl,hb2⟩
 have R2:=R1.below hb2
 obtain ⟨hc2,hf2⟩:=bcell hb2
 have k1:=R2.run.cR i.s1 h1
 have k2:=R2.run.cR i.s2 h2
 have i10:(0:Int)≤(i.s1:Int):=Int.natCast_nonneg _
 have i11:(i.s1:Int) < 32:=by omega
 have i20:(0:Int)≤(i.s2:Int):=Int.natCast_nonneg _
 have i21:(i.s2:Int) < 32:=by omega
 have k0:=R2.run.c0
 have k37:=R2.run.c37
 have k38:w2.cell? ⟨g,38,none⟩=some (.bool false):=by rw [R2.run.c38]; exact congrArg (fun x=>some (Value.bool x)) HS.out
 have f38:=R2.run.fz 38
 have lg2:=R2.run.blk.lt
 have hz2:w.heap.size < w2.heap.size:=by have:=hb2.size; omega
 go_wp2
 go_quiet (fail)
 have k35:=(R2.drewN nq).run.c35
 have k11:=(R2.drewN nq).run.cR 10 (by omega)
 have k18:=(R2.drewN nq).run.cR 17 (by omega)
 have k36:=(R2.drewN nq).run.c36
 have hsz:=(R2.drewN nq).size
 have hBB:=(R2.drewN nq).run.told
 have htne:=(R2.drewN nq).run.tne
 go_wp2_with fail
 refine (call_go g B r.told.length d T _ (r.regs.getD 10 0) (r.regs.getD 17 0) r.done _ k35 k11 k18 k36 ((R2.drewN nq).run.fz 35) ((R2.drewN nq).run.fz 36) hBB hsz hfull htne).mono ?_
 intro e w3 hcp
 have he:=hcp.1
 subst he
 obtain ⟨tv',R3⟩:=(R2.drewN nq).told_ hcp
 have hnt:some w.heap.size≠(Value.slice T r.told.length d).ownBlock:=fun hk=>by have:=(hr.told.lt _ hk.symm).2; omega
 have hne:w.heap.size≠g:=by omega
 have hin:w.heap.size < (w2.drewN nq).heap.size:=hz2
 have j0:=((hcp.far (p:=⟨w.heap.size,0,none⟩) hin hne hnt).1.trans (hc2 w.heap.size 0 hz)).trans (hc1 w.heap.size 0 (by simp))
 have j1:=((hcp.far (p:=⟨w.heap.size,1,none⟩) hin hne hnt).1.trans (hc2 w.heap.size 1 hz)).trans (hc1 w.heap.size 1 (by simp))
 have q38:w3.cell? ⟨g,38,none⟩=some (.bool false):=by rw [R3.run.c38]; exact congrArg (fun x=>some (Value.bool x)) HS.out
 have q38f:=R3.run.fz 38
 have lg3:=R3.run.blk.lt
 clear hcp
 by_cases hrd:i.rd=0
 ·have hd:((i.rd:Int) == 0)=true:=by simpa using hrd
  go_wp2
  go_ret
  exact ⟨tv',rfl,R3.fin0 HS.out hrd _⟩
 ·have hd:((i.rd:Int) == 0)=false:=by simpa using hrd
  have k3:=R3.run.cR i.rd h3
  have f3:=R3.run.fz (1+i.rd)
  have i30:(0:Int)≤(i.rd:Int):=Int.natCast_nonneg _
  have i31:(i.rd:Int) < 32:=by omega
  go_wp2
  go_region
  go_wp2
  go_ret
  exact ⟨tv',rfl,R3.fin1 HS.out hrd h3 _⟩
end Go.Proofs.YtoehlmiadiiimaaGreatDoor

/-
  The machine: what an instruction does: stores.
-/
set_option maxRecDepth 100000
set_option maxHeartbeats 2000000
namespace Go.Proofs.YtoehlmiadiiimaaGreatDoor
open Go.ChangeShapes Go.WideShapes Go.RowKit Go.Maps
theorem K9:Keyed Tryz.prog 9:=string_keyed Tryz.underlying9
theorem i64wf (n:Int) (h:0≤n) (h':n < 100) : (Lit.int IntKind.i64 n).wf=true:=by
 simp [Lit.wf,IntKind.min,IntKind.max,IntKind.signed,IntKind.bits]; omega
theorem RunB.grown {B g b:Nat} {w0 w w':World} {r:Rn} {mv tv:Value} (h:RunB B w0 w g r mv tv) (hg:w.grownBy w' (some b)) (hB:B≤b) (h0:g≠b) (h1:mv.ownBlock≠some b) (h2:tv.ownBlock≠some b) :
  RunB B w0 w' g r mv tv :=
 ⟨h.low.grown hg h.size (fun k hk=>by injection hk with hk; omega),Nat.le_trans h.size hg.size,⟨h.run.len,h.run.ge,h.run.blk.grown hg (fun e=>h0 (by injection e)),h.run.mem.kept hg (.inr h1),h.run.told.kept hg (.inr h2)⟩⟩
theorem RunB.stW {B g gm c:Nat} {w0 w:World} {r:Rn} {tv:Value} (h:RunB B w0 w g r (.slice (some ⟨gm,0,none⟩) r.mem.length c) tv) (hB:B≤gm) (k:Nat) (x:Int) (j:Nat) :
  RunB B w0 (stW w gm k x j) g { r with mem:=memSet r.mem k x j } (.slice (some ⟨gm,0,none⟩) r.mem.length c) tv :=
 ⟨h.low.trans (stW_below hB k x j),Nat.le_trans h.size (stW_below hB k x j).size,stW_run h.run k x j⟩
theorem stW_far (w:World) (gm k:Nat) (x:Int) (p:Addr) (hp:p.block≠gm) : ∀ j,(stW w gm k x j).heap[p.block]?=w.heap[p.block]?
 | 0=>rfl
 | j+1=>(Below.heap_setCell _ ⟨gm,k+j,none⟩ _ _ hp).trans (stW_far w gm k x p hp j)
theorem store_out (g:Nat) (A:Option Addr) (n c:Nat) (base addr:Int) (m:Int) (many:Nat) (x:Int) (s:Bool) (w:World)
  (h33:w.cell? ⟨g,33,none⟩=some (.int .u64 base)) (h34:w.cell? ⟨g,34,none⟩=some (.slice A n c))
  (h38:w.cell? ⟨g,38,none⟩=some (.bool s)) (hf:w.frozen? ⟨g,38,none⟩=false)
  (hw:IntKind.u64.wrap (addr - base)=m)
  (h1:Hid (n < m∨IntKind.u64.wrap (n - m) < many)) (hm:many≤8) (hn:n≤c) (hc:n≤1000000) :
  Calls Tryz.prog 70 #[.pointer (some ⟨g,0,none⟩),.int .u64 addr,.int .i64 many,.int .u64 x] w fun e w'=>e=.returned (.tuple #[])∧w.setCell ⟨g,38,none⟩ (.bool true)=w':=by
 go_enter Tryz.func70,Tryz.ntmps70
 go_wp2_with (go_at_call 101; refine (at_out _ _ _ _ _ _ _ _ _ _ h33 h34 h38 hf hw h1.out hm hn hc).mono ?_; rintro e w' ⟨rfl,rfl⟩)
 go_loop [16] (fun i=>i=.int .i64 0) (fun i=>0)
 case atStart=>exact rfl
 case round =>
  obtain rfl:=hrel
  go_wp2
  go_end0
  exact ⟨rfl,rfl⟩
theorem do_st (nm:ByteArray) (m:Nat) (hnz:nm.size≤maxLen) (hce:(((((DataW.map (H:=Unit) []).put (.string [115,98]) (.lit (.int .i64 1))).put (.string [115,104]) (.lit (.int .i64 2))).put (.string [115,119]) (.lit (.int .i64 4))).put (.string [115,100]) (.lit (.int .i64 8))).atKey (.string nm.data.toList) (.lit (.int .i64 0))=.lit (.int .i64 (m:Nat)))
  (B g:Nat) (r:Rn) (mv tv:Value) (w:World) (hr:RunW B w g r mv tv) (i:Ins) (h1:i.s1 < 32) (h2:i.s2 < 32) (h3:i.rd < 32) (hs:r.stop=false)
  (hname:∀ W,Below B w W→Calls Tryz.prog 30 #[.int .u8 i.op] W fun e w'=>e=.returned (.tuple #[.string nm,.int .i64 0])∧Below W.heap.size W w')
  (hform:∀ W,Below B w W→Calls Tryz.prog 31 #[.int .u8 i.op] W fun e w'=>e=.returned (.tuple #[.int .u8 83,.int .i64 0])∧Below W.heap.size W w') (gm k c:Nat) (hmv:mv=.slice (some ⟨gm,0,none⟩) r.mem.length c) (hgm:B≤gm) (hst:∀ W,RunB B w W g r mv tv→Calls Tryz.prog 70 #[.pointer (some ⟨g,0,none⟩),.int .u64 (IntKind.u64.wrap (r.regs[i.s1]?.getD 0+IntKind.u64.wrap i.imm)),.int .i64 m,.int .u64 (r.regs[i.s2]?.getD 0)] W fun e w'=>e=.returned (.tuple #[])∧stW W gm k (r.regs[i.s2]?.getD 0) m=w') :
  Calls Tryz.prog 45 #[.pointer (some ⟨g,0,none⟩),i.v] w (DoPost B w g mv tv r.on ({ r with mem:=memSet r.mem k (r.regs[i.s2]?.getD 0) m }.wr i.rd 0)):=by
 have HN:=Lib.hid hname
 have HF:=Lib.hid hform
 have lg:=hr.blk.lt
 have HS:=Lib.hid hs
 clear hname hform hs
 have HST:=Lib.hid hst
 clear hst
 have hmm:=@run_makeMap_plain Tryz.prog
 go_enter Tryz.func45,Tryz.ntmps45
 go_wp2_with fail
 refine (HN.out _ ((RunB.start hr).alloc _).low).mono ?_
 rintro e w1 ⟨rfl,hb1⟩
 have R1:=((RunB.start hr).alloc (.cells #[.int .u8 i.op,.int .i64 i.rd,.int .i64 i.s1,.int .i64 i.s2,.int .i64 i.imm] 57)).below hb1
 obtain ⟨hc1,hf1⟩:=bcell hb1
 have hz:w.heap.size < w1.heap.size:=by have:=hb1.size; simp at this; omega
 go_wp2_with fail
 refine (HF.out _ R1.low).mono ?_
 rintro e w2 ⟨rfl,hb2⟩
 have R2:=R1.below hb2
 obtain ⟨hc2,hf2⟩:=bcell hb2
 have k1:=R2.run.cR i.s1 h1
 have k2:=R2.run.cR i.s2 h2
 have i10:(0:Int)≤(i.s1:Int):=Int.natCast_nonneg _
 have i11:(i.s1:Int) < 32:=by omega
 have i20:(0:Int)≤(i.s2:Int):=Int.natCast_nonneg _
 have i21:(i.s2:Int) < 32:=by omega
 have k0:=R2.run.c0
 have k37:=R2.run.c37
 have k38:w2.cell? ⟨g,38,none⟩=some (.bool false):=by rw [R2.run.c38]; exact congrArg (fun x=>some (Value.bool x)) HS.out
 have f38:=R2.run.fz 38
 have lg2:=R2.run.blk.lt
 have hz2:w.heap.size < w2.heap.size:=by have:=hb2.size; omega
 go_wp2
 go_quiet (fail)
 have hm0:((w2.drewN nq).alloc (.map #[] 0)).ownsMap Tryz.prog 9 (plainElem (H:=Unit) Tryz.prog 3) w2.heap.size 0 (.map []):=World.ownsMap_made (w2.drewN nq) Tryz.prog 9 _
 obtain ⟨v1,hrun1,hm1,hg1⟩:=hm0.update K9 Tryz.underlying130 (by unfold maxLen; omega) (WideMaps.keyOf_string_mk Tryz.underlying9 (s:=⟨#[115,98]⟩) (by decide)) (plainElem_int Tryz.underlying3 (i64wf 1 (by omega) (by omega)))
 obtain ⟨v2,hrun2,hm2,hg2⟩:=hm1.update K9 Tryz.underlying130 (by unfold maxLen; omega) (WideMaps.keyOf_string_mk Tryz.underlying9 (s:=⟨#[115,104]⟩) (by decide)) (plainElem_int Tryz.underlying3 (i64wf 2 (by omega) (by omega)))
 obtain ⟨v3,hrun3,hm3,hg3⟩:=hm2.update K9 Tryz.underlying130 (by unfold maxLen; omega) (WideMaps.keyOf_string_mk Tryz.underlying9 (s:=⟨#[115,119]⟩) (by decide)) (plainElem_int Tryz.underlying3 (i64wf 4 (by omega) (by omega)))
 obtain ⟨v4,hrun4,hm4,hg4⟩:=hm3.update K9 Tryz.underlying130 (by unfold maxLen; omega) (WideMaps.keyOf_string_mk Tryz.underlying9 (s:=⟨#[115,100]⟩) (by decide)) (plainElem_int Tryz.underlying3 (i64wf 8 (by omega) (by omega)))
 obtain ⟨c1,hrunL,hat,hwc⟩:=hm4.lookup_int K9 Tryz.underlying130 Tryz.underlying3 (Tryz.zeroValue3 _) (WideMaps.keyOf_string_mk Tryz.underlying9 (s:=nm) hnz)
 obtain rfl:c1=m:=by have h:=hce.symm.trans hat; injection h with h; injection h with _ h; exact h.symm
 have hB2:=R2.size
 have lm:mv.ownBlock≠some w2.heap.size:=fun e=>by have:=(R2.run.mem.lt _ e).2; omega
 have lt_:tv.ownBlock≠some w2.heap.size:=fun e=>by have:=(R2.run.told.lt _ e).2; omega
 have RV:=(((((R2.drewN nq).alloc (.map #[] 0)).grown hg1 hB2 (by omega) lm lt_).grown hg2 hB2 (by omega) lm lt_).grown hg3 hB2 (by omega) lm lt_).grown hg4 hB2 (by omega) lm lt_
 have hin:w.heap.size < w2.heap.size:=hz2
 have s1:w2.heap.size < v1.heap.size:=by have:=hg1.size; simp at this; omega
 have s2:w2.heap.size < v2.heap.size:=Nat.lt_of_lt_of_le s1 hg2.size
 have s3:w2.heap.size < v3.heap.size:=Nat.lt_of_lt_of_le s2 hg3.size
 have hv:∀ x,x < w2.heap.size→v4.heap[x]?=w2.heap[x]?:=fun x hx=>by
  have n0:some x≠some w2.heap.size:=fun e=>by injection e with e; omega
  rw [hg4.block x (by omega) n0,hg3.block x (by omega) n0,hg2.block x (by omega) n0,hg1.block x (by simp; omega) n0]
  exact Below.heap_alloc (w2.drewN nq) _ x hx
 clear hg1 hg2 hg3 hg4 hm0 hm1 hm2 hm3 hm4 hat hce hwc
 go_wp2_with fail
 refine (HST.out _ RV).mono ?_
 rintro e w5 ⟨rfl,hw5⟩
 subst hmv
 have R5:=RV.stW hgm k (r.regs[i.s2]?.getD 0) m
 have hne:w.heap.size≠gm:=fun e=>by have:=(hr.mem.lt gm rfl).2; omega
 have hblk:w5.heap[w.heap.size]?=w2.heap[w.heap.size]?:=by rw [← hw5]; exact (stW_far _ gm k _ ⟨w.heap.size,0,none⟩ hne m).trans (hv _ hin)
 rw [hw5] at R5
 have j0:w5.cell? ⟨w.heap.size,0,none⟩=some (.int .u8 i.op):=((World.cell?_of_block (a:=⟨w.heap.size,0,none⟩) hblk).trans (hc2 w.heap.size 0 hz)).trans ((hc1 w.heap.size 0 (by simp)).trans (by simp))
 have j1:w5.cell? ⟨w.heap.size,1,none⟩=some (.int .i64 i.rd):=((World.cell?_of_block (a:=⟨w.heap.size,1,none⟩) hblk).trans (hc2 w.heap.size 1 hz)).trans ((hc1 w.heap.size 1 (by simp)).trans (by simp))
 have q38:w5.cell? ⟨g,38,none⟩=some (.bool false):=by rw [R5.run.c38]; exact congrArg (fun x=>some (Value.bool x)) HS.out
 have q38f:=R5.run.fz 38
 have lg5:=R5.run.blk.lt
 clear hblk hv RV hw5 hrun1 hrun2 hrun3 hrun4 hrunL
 by_cases hrd:i.rd=0
 ·have hd:((i.rd:Int) == 0)=true:=by simpa using hrd
  go_wp2
  go_ret
  exact ⟨rfl,R5.fin0 HS.out hrd _⟩
 ·have hd:((i.rd:Int) == 0)=false:=by simpa using hrd
  have k3:=R5.run.cR i.rd h3
  have f3:=R5.run.fz (1+i.rd)
  have i30:(0:Int)≤(i.rd:Int):=Int.natCast_nonneg _
  have i31:(i.rd:Int) < 32:=by omega
  go_wp2
  go_region
  go_wp2
  go_ret
  exact ⟨rfl,R5.fin1 HS.out hrd h3 _⟩
theorem do_stx (nm:ByteArray) (m:Nat) (hnz:nm.size≤maxLen) (hce:(((((DataW.map (H:=Unit) []).put (.string [115,98]) (.lit (.int .i64 1))).put (.string [115,104]) (.lit (.int .i64 2))).put (.string [115,119]) (.lit (.int .i64 4))).put (.string [115,100]) (.lit (.int .i64 8))).atKey (.string nm.data.toList) (.lit (.int .i64 0))=.lit (.int .i64 (m:Nat)))
  (B g:Nat) (r:Rn) (mv tv:Value) (w:World) (hr:RunW B w g r mv tv) (i:Ins) (h1:i.s1 < 32) (h2:i.s2 < 32) (h3:i.rd < 32) (hs:r.stop=false)
  (hname:∀ W,Below B w W→Calls Tryz.prog 30 #[.int .u8 i.op] W fun e w'=>e=.returned (.tuple #[.string nm,.int .i64 0])∧Below W.heap.size W w')
  (hform:∀ W,Below B w W→Calls Tryz.prog 31 #[.int .u8 i.op] W fun e w'=>e=.returned (.tuple #[.int .u8 83,.int .i64 0])∧Below W.heap.size W w') (hst:∀ W,RunB B w W g r mv tv→Calls Tryz.prog 70 #[.pointer (some ⟨g,0,none⟩),.int .u64 (IntKind.u64.wrap (r.regs[i.s1]?.getD 0+IntKind.u64.wrap i.imm)),.int .i64 m,.int .u64 (r.regs[i.s2]?.getD 0)] W fun e w'=>e=.returned (.tuple #[])∧W.setCell ⟨g,38,none⟩ (.bool true)=w') :
  Calls Tryz.prog 45 #[.pointer (some ⟨g,0,none⟩),i.v] w (StopPost B w g mv tv):=by
 have HN:=Lib.hid hname
 have HF:=Lib.hid hform
 have lg:=hr.blk.lt
 have HS:=Lib.hid hs
 clear hname hform hs
 have HST:=Lib.hid hst
 clear hst
 have hmm:=@run_makeMap_plain Tryz.prog
 go_enter Tryz.func45,Tryz.ntmps45
 go_wp2_with fail
 refine (HN.out _ ((RunB.start hr).alloc _).low).mono ?_
 rintro e w1 ⟨rfl,hb1⟩
 have R1:=((RunB.start hr).alloc (.cells #[.int .u8 i.op,.int .i64 i.rd,.int .i64 i.s1,.int .i64 i.s2,.int .i64 i.imm] 57)).below hb1
 obtain ⟨hc1,hf1⟩:=bcell hb1
 have hz:w.heap.size < w1.heap.size:=by have:=hb1.size; simp at this; omega
 go_wp2_with fail
 refine (HF.out _ R1.low).mono ?_
 rintro e w2 ⟨rfl,hb2⟩
 have R2:=R1.below hb2
 obtain ⟨hc2,hf2⟩:=bcell hb2
 have k1:=R2.run.cR i.s1 h1
 have k2:=R2.run.cR i.s2 h2
 have i10:(0:Int)≤(i.s1:Int):=Int.natCast_nonneg _
 have i11:(i.s1:Int) < 32:=by omega
 have i20:(0:Int)≤(i.s2:Int):=Int.natCast_nonneg _
 have i21:(i.s2:Int) < 32:=by omega
 have k0:=R2.run.c0
 have k37:=R2.run.c37
 have k38:w2.cell? ⟨g,38,none⟩=some (.bool false):=by rw [R2.run.c38]; exact congrArg (fun x=>some (Value.bool x)) HS.out
 have f38:=R2.run.fz 38
 have lg2:=R2.run.blk.lt
 have hz2:w.heap.size < w2.heap.size:=by have:=hb2.size; omega
 go_wp2
 go_quiet (fail)
 have hm0:((w2.drewN nq).alloc (.map #[] 0)).ownsMap Tryz.prog 9 (plainElem (H:=Unit) Tryz.prog 3) w2.heap.size 0 (.map []):=World.ownsMap_made (w2.drewN nq) Tryz.prog 9 _
 obtain ⟨v1,hrun1,hm1,hg1⟩:=hm0.update K9 Tryz.underlying130 (by unfold maxLen; omega) (WideMaps.keyOf_string_mk Tryz.underlying9 (s:=⟨#[115,98]⟩) (by decide)) (plainElem_int Tryz.underlying3 (i64wf 1 (by omega) (by omega)))
 obtain ⟨v2,hrun2,hm2,hg2⟩:=hm1.update K9 Tryz.underlying130 (by unfold maxLen; omega) (WideMaps.keyOf_string_mk Tryz.underlying9 (s:=⟨#[115,104]⟩) (by decide)) (plainElem_int Tryz.underlying3 (i64wf 2 (by omega) (by omega)))
 obtain ⟨v3,hrun3,hm3,hg3⟩:=hm2.update K9 Tryz.underlying130 (by unfold maxLen; omega) (WideMaps.keyOf_string_mk Tryz.underlying9 (s:=⟨#[115,119]⟩) (by decide)) (plainElem_int Tryz.underlying3 (i64wf 4 (by omega) (by omega)))
 obtain ⟨v4,hrun4,hm4,hg4⟩:=hm3.update K9 Tryz.underlying130 (by unfold maxLen; omega) (WideMaps.keyOf_string_mk Tryz.underlying9 (s:=⟨#[115,100]⟩) (by decide)) (plainElem_int Tryz.underlying3 (i64wf 8 (by omega) (by omega)))
 obtain ⟨c,hrunL,hat,hwc⟩:=hm4.lookup_int K9 Tryz.underlying130 Tryz.underlying3 (Tryz.zeroValue3 _) (WideMaps.keyOf_string_mk Tryz.underlying9 (s:=nm) hnz)
 obtain rfl:c=m:=by have h:=hce.symm.trans hat; injection h with h; injection h with _ h; exact h.symm
 have hB2:=R2.size
 have lm:mv.ownBlock≠some w2.heap.size:=fun e=>by have:=(R2.run.mem.lt _ e).2; omega
 have lt_:tv.ownBlock≠some w2.heap.size:=fun e=>by have:=(R2.run.told.lt _ e).2; omega
 have RV:=(((((R2.drewN nq).alloc (.map #[] 0)).grown hg1 hB2 (by omega) lm lt_).grown hg2 hB2 (by omega) lm lt_).grown hg3 hB2 (by omega) lm lt_).grown hg4 hB2 (by omega) lm lt_
 have hin:w.heap.size < w2.heap.size:=hz2
 have s1:w2.heap.size < v1.heap.size:=by have:=hg1.size; simp at this; omega
 have s2:w2.heap.size < v2.heap.size:=Nat.lt_of_lt_of_le s1 hg2.size
 have s3:w2.heap.size < v3.heap.size:=Nat.lt_of_lt_of_le s2 hg3.size
 have hv:∀ x,x < w2.heap.size→v4.heap[x]?=w2.heap[x]?:=fun x hx=>by
  have n0:some x≠some w2.heap.size:=fun e=>by injection e with e; omega
  rw [hg4.block x (by omega) n0,hg3.block x (by omega) n0,hg2.block x (by omega) n0,hg1.block x (by simp; omega) n0]
  exact Below.heap_alloc (w2.drewN nq) _ x hx
 clear hg1 hg2 hg3 hg4 hm0 hm1 hm2 hm3 hm4 hat hce hwc
 go_wp2_with fail
 refine (HST.out _ RV).mono ?_
 rintro e w5 ⟨rfl,hw5⟩
 have R5:=RV.stop_ true
 have hne:w.heap.size≠g:=by omega
 have hblk:w5.heap[w.heap.size]?=w2.heap[w.heap.size]?:=by rw [← hw5]; exact (Below.heap_setCell _ ⟨g,38,none⟩ _ _ hne).trans (hv _ hin)
 rw [hw5] at R5
 have j0:w5.cell? ⟨w.heap.size,0,none⟩=some (.int .u8 i.op):=((World.cell?_of_block (a:=⟨w.heap.size,0,none⟩) hblk).trans (hc2 w.heap.size 0 hz)).trans ((hc1 w.heap.size 0 (by simp)).trans (by simp))
 have j1:w5.cell? ⟨w.heap.size,1,none⟩=some (.int .i64 i.rd):=((World.cell?_of_block (a:=⟨w.heap.size,1,none⟩) hblk).trans (hc2 w.heap.size 1 hz)).trans ((hc1 w.heap.size 1 (by simp)).trans (by simp))
 have q38:w5.cell? ⟨g,38,none⟩=some (.bool true):=R5.run.c38
 have q38f:=R5.run.fz 38
 have lg5:=R5.run.blk.lt
 clear hblk hv RV hw5 hrun1 hrun2 hrun3 hrun4 hrunL
 by_cases hrd:i.rd=0
 ·have hd:((i.rd:Int) == 0)=true:=by simpa using hrd
  go_wp2
  go_ret
  exact ⟨_,_,rfl,R5.stop_ true,rfl⟩
 ·have hd:((i.rd:Int) == 0)=false:=by simpa using hrd
  have k3:=R5.run.cR i.rd h3
  have f3:=R5.run.fz (1+i.rd)
  have i30:(0:Int)≤(i.rd:Int):=Int.natCast_nonneg _
  have i31:(i.rd:Int) < 32:=by omega
  go_wp2
  go_region
  go_wp2
  go_ret
  exact ⟨_,_,rfl,((R5.stop_ true).reg_ i.rd h3 _).drew,rfl⟩
end Go.Proofs.YtoehlmiadiiimaaGreatDoor

