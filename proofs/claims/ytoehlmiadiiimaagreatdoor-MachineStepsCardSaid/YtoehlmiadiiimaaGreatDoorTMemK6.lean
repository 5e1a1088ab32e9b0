import Derived.Test.YtoehlmiadiiimaaGreatDoorTMemJP
import Derived.StillTailTactics
import Derived.Test.YtoehlmiadiiimaaGreatDoorTMemU1
/-
  The machine, as the document has it: what an instruction does: operations of two numbers.
-/
set_option maxRecDepth 100000
set_option maxHeartbeats 4000000
namespace Go.Proofs.YtoehlmiadiiimaaGreatDoor
open Go.ChangeShapes Go.WideShapes Go.RowKit Go.Proofs.YtoehlmiadiiimaaGreatDoor.Ex
theorem goD_II {cs:Array Value} {r:Rn} {w:World} {i:Ins} {x y:Int} {nm:ByteArray} {n:Nat} (G:GoH cs r w i x y nm n 73) (nr:ByteArray) (H55:∀ W,Hid (Calls Tryz.prog 55 #[.string nm] W fun e W'=>e=.returned (.string nr)∧Below W.heap.size W W')) (v:Int) (H54:∀ W,Hid (Calls Tryz.prog 54 #[.string nr,.int .u64 x,.int .u64 (IntKind.u64.wrap i.imm)] W (TwoPost v W))) : Calls Tryz.prog 35 #[.agg cs] w (StepPost w (.agg cs) (some ({ r with pc:=(IntKind.u64.wrap (r.pc+n)) }.wr i.rd v))):=by
 refine goD_pre G fun w5 b1 b2 mv2 tv2 Z ca K hK hlen O6 HCA D6 E6 hZ J6 HB5 hz1 hz2 lg n1 n2 n3 n4 k1 k2 k3 k4 d0 dx dy q0 f0=>?_
 change Code.wp _ (.region 7 _ _) _ _ _
 change ∀ a W,Code.wp _ (.seq _ _) _ _ _→_ at hK
 have hn:=G.hn
 have h1:=G.h1
 have h2:=G.h2
 have h3:=G.h3
 have O7:=O6.pc_ (IntKind.u64.wrap (r.pc+n))
 have E7:=E6.far (p:=⟨b2,0,none⟩) (by show w.heap.size+1≠b2; omega) (.int .u64 (IntKind.u64.wrap (r.pc+n)))
 have B7:=Lib.hid (HB5.out.setCell (p:=⟨b2,0,none⟩) (by show w.heap.size≤b2; omega) (.int .u64 (IntKind.u64.wrap (r.pc+n))))
 have J7:=J6.far (p:=⟨b2,0,none⟩) (by show b1≠b2; omega) (.int .u64 (IntKind.u64.wrap (r.pc+n)))
 go_wp2_with fail
 refine (H55 _).out.mono ?_
 rintro e w6 ⟨rfl,hb6⟩
 have O8:=O7.below hb6
 have E8:=E7.below hb6 E7.lt
 have J8:=J7.below hb6 J7.lt
 have B8:=Lib.hid (B7.out.trans (hb6.mono B7.out.size))
 clear hb6
 go_wp2_with fail
 refine (H54 _).out.mono ?_
 intro e w7 htp
 obtain ⟨rfl,hb7⟩:=htp
 have O9:=O8.below hb7
 have E9:=E8.below hb7 E8.lt
 have J9:=J8.below hb7 J8.lt
 have B9:=Lib.hid (B8.out.trans (hb7.mono B8.out.size))
 clear hb7
 have qr:=(O9.blk.cell (1+i.rd)).trans (mcR O9.len i.rd h3)
 have fr:=O9.fz (1+i.rd)
 have kr:=J9.cell 1
 by_cases hrd:i.rd=0
 ·have hd:decide ((0:Int) < (i.rd:Int))=false:=decide_eq_false (by omega)
  have hd':decide (0 < i.rd)=false:=decide_eq_false (by omega)
  have HRD:=Lib.hid hrd
  clear hrd qr fr
  obtain ⟨co,Ob,hszO,hso,hone,HCO⟩:=O9.cells
  go_wp2_with (first
   | (refine wpList_load_row rfl 27 (.tmp 7) rfl b2 rfl 27 co (0,0) _ Ob Tryz.underlying27 rfl hszO ?_)
   | (refine wpList_store_row rfl 27 (.tmp 2) (.tmp 222) rfl (w.heap.size+1) co rfl rfl 27 _ E9 hszO (by rw [hso.out,hZ.out]) hone ?_))
  refine bodyPost_ret (results_cell_tmp rfl _ _ (w.heap.size+1) 27 co (0,0) _ rfl (setRow_heap _ _ _ _ _ _ E9) Tryz.underlying27 rfl hszO) rfl ?_
  rw [wr_0 HRD.out]
  exact fin_some O9 HCO B9.out (by omega) (by omega)
 ·have hd:decide ((0:Int) < (i.rd:Int))=true:=decide_eq_true (by omega)
  have hd':decide (0 < i.rd)=true:=decide_eq_true (by omega)
  have HRD:=Lib.hid hrd
  clear hrd
  have O10:=O9.reg_ i.rd h3 (v)
  have E10:=E9.far (p:=⟨b2,1+i.rd,none⟩) (by show w.heap.size+1≠b2; omega) (.int .u64 (v))
  have B10:=Lib.hid (B9.out.setCell (p:=⟨b2,1+i.rd,none⟩) (by show w.heap.size≤b2; omega) (.int .u64 (v)))
  obtain ⟨co,Ob,hszO,hso,hone,HCO⟩:=O10.cells
  go_wp2_with (first
   | (refine wpList_load_row rfl 27 (.tmp 7) rfl b2 rfl 27 co (0,0) _ Ob Tryz.underlying27 rfl hszO ?_)
   | (refine wpList_store_row rfl 27 (.tmp 2) (.tmp 222) rfl (w.heap.size+1) co rfl rfl 27 _ E10 hszO (by rw [hso.out,hZ.out]) hone ?_))
  refine bodyPost_ret (results_cell_tmp rfl _ _ (w.heap.size+1) 27 co (0,0) _ rfl (setRow_heap _ _ _ _ _ _ E10) Tryz.underlying27 rfl hszO) rfl ?_
  rw [wr_s HRD.out]
  exact fin_some O10 HCO B10.out (by omega) (by omega)
theorem goD_R {cs:Array Value} {r:Rn} {w:World} {i:Ins} {x y:Int} {nm:ByteArray} {n:Nat} (G:GoH cs r w i x y nm n 82) (v:Int) (H54:∀ W,Hid (Calls Tryz.prog 54 #[.string nm,.int .u64 x,.int .u64 (y)] W (TwoPost v W))) : Calls Tryz.prog 35 #[.agg cs] w (StepPost w (.agg cs) (some ({ r with pc:=(IntKind.u64.wrap (r.pc+n)) }.wr i.rd v))):=by
 refine goD_pre G fun w5 b1 b2 mv2 tv2 Z ca K hK hlen O6 HCA D6 E6 hZ J6 HB5 hz1 hz2 lg n1 n2 n3 n4 k1 k2 k3 k4 d0 dx dy q0 f0=>?_
 change Code.wp _ (.region 7 _ _) _ _ _
 change ∀ a W,Code.wp _ (.seq _ _) _ _ _→_ at hK
 have hn:=G.hn
 have h1:=G.h1
 have h2:=G.h2
 have h3:=G.h3
 have O7:=O6.pc_ (IntKind.u64.wrap (r.pc+n))
 have E7:=E6.far (p:=⟨b2,0,none⟩) (by show w.heap.size+1≠b2; omega) (.int .u64 (IntKind.u64.wrap (r.pc+n)))
 have B7:=Lib.hid (HB5.out.setCell (p:=⟨b2,0,none⟩) (by show w.heap.size≤b2; omega) (.int .u64 (IntKind.u64.wrap (r.pc+n))))
 have J7:=J6.far (p:=⟨b2,0,none⟩) (by show b1≠b2; omega) (.int .u64 (IntKind.u64.wrap (r.pc+n)))
 go_wp2_with fail
 refine (H54 _).out.mono ?_
 intro e w7 htp
 obtain ⟨rfl,hb7⟩:=htp
 have O9:=O7.below hb7
 have E9:=E7.below hb7 E7.lt
 have J9:=J7.below hb7 J7.lt
 have B9:=Lib.hid (B7.out.trans (hb7.mono B7.out.size))
 clear hb7
 have qr:=(O9.blk.cell (1+i.rd)).trans (mcR O9.len i.rd h3)
 have fr:=O9.fz (1+i.rd)
 have kr:=J9.cell 1
 by_cases hrd:i.rd=0
 ·have hd:decide ((0:Int) < (i.rd:Int))=false:=decide_eq_false (by omega)
  have hd':decide (0 < i.rd)=false:=decide_eq_false (by omega)
  have HRD:=Lib.hid hrd
  clear hrd qr fr
  obtain ⟨co,Ob,hszO,hso,hone,HCO⟩:=O9.cells
  go_wp2_with (first
   | (refine wpList_load_row rfl 27 (.tmp 7) rfl b2 rfl 27 co (0,0) _ Ob Tryz.underlying27 rfl hszO ?_)
   | (refine wpList_store_row rfl 27 (.tmp 2) (.tmp 222) rfl (w.heap.size+1) co rfl rfl 27 _ E9 hszO (by rw [hso.out,hZ.out]) hone ?_))
  refine bodyPost_ret (results_cell_tmp rfl _ _ (w.heap.size+1) 27 co (0,0) _ rfl (setRow_heap _ _ _ _ _ _ E9) Tryz.underlying27 rfl hszO) rfl ?_
  rw [wr_0 HRD.out]
  exact fin_some O9 HCO B9.out (by omega) (by omega)
 ·have hd:decide ((0:Int) < (i.rd:Int))=true:=decide_eq_true (by omega)
  have hd':decide (0 < i.rd)=true:=decide_eq_true (by omega)
  have HRD:=Lib.hid hrd
  clear hrd
  have O10:=O9.reg_ i.rd h3 (v)
  have E10:=E9.far (p:=⟨b2,1+i.rd,none⟩) (by show w.heap.size+1≠b2; omega) (.int .u64 (v))
  have B10:=Lib.hid (B9.out.setCell (p:=⟨b2,1+i.rd,none⟩) (by show w.heap.size≤b2; omega) (.int .u64 (v)))
  obtain ⟨co,Ob,hszO,hso,hone,HCO⟩:=O10.cells
  go_wp2_with (first
   | (refine wpList_load_row rfl 27 (.tmp 7) rfl b2 rfl 27 co (0,0) _ Ob Tryz.underlying27 rfl hszO ?_)
   | (refine wpList_store_row rfl 27 (.tmp 2) (.tmp 222) rfl (w.heap.size+1) co rfl rfl 27 _ E10 hszO (by rw [hso.out,hZ.out]) hone ?_))
  refine bodyPost_ret (results_cell_tmp rfl _ _ (w.heap.size+1) 27 co (0,0) _ rfl (setRow_heap _ _ _ _ _ _ E10) Tryz.underlying27 rfl hszO) rfl ?_
  rw [wr_s HRD.out]
  exact fin_some O10 HCO B10.out (by omega) (by omega)
end Go.Proofs.YtoehlmiadiiimaaGreatDoor

/-
  The machine, as the document has it: what an instruction does: operations of two numbers.
-/
set_option maxRecDepth 100000
set_option maxHeartbeats 4000000
namespace Go.Proofs.YtoehlmiadiiimaaGreatDoor
open Go.ChangeShapes Go.WideShapes Go.RowKit Go.Proofs.YtoehlmiadiiimaaGreatDoor.Ex
theorem goD_I6 {cs:Array Value} {r:Rn} {w:World} {i:Ins} {x y:Int} {nm:ByteArray} {n:Nat} (G:GoH cs r w i x y nm n 54) (nr:ByteArray) (H55:∀ W,Hid (Calls Tryz.prog 55 #[.string nm] W fun e W'=>e=.returned (.string nr)∧Below W.heap.size W W')) (v:Int) (H54:∀ W,Hid (Calls Tryz.prog 54 #[.string nr,.int .u64 x,.int .u64 (IntKind.u64.wrap i.imm)] W (TwoPost v W))) : Calls Tryz.prog 35 #[.agg cs] w (StepPost w (.agg cs) (some ({ r with pc:=(IntKind.u64.wrap (r.pc+n)) }.wr i.rd v))):=by
 refine goD_pre G fun w5 b1 b2 mv2 tv2 Z ca K hK hlen O6 HCA D6 E6 hZ J6 HB5 hz1 hz2 lg n1 n2 n3 n4 k1 k2 k3 k4 d0 dx dy q0 f0=>?_
 change Code.wp _ (.region 7 _ _) _ _ _
 change ∀ a W,Code.wp _ (.seq _ _) _ _ _→_ at hK
 have hn:=G.hn
 have h1:=G.h1
 have h2:=G.h2
 have h3:=G.h3
 have O7:=O6.pc_ (IntKind.u64.wrap (r.pc+n))
 have E7:=E6.far (p:=⟨b2,0,none⟩) (by show w.heap.size+1≠b2; omega) (.int .u64 (IntKind.u64.wrap (r.pc+n)))
 have B7:=Lib.hid (HB5.out.setCell (p:=⟨b2,0,none⟩) (by show w.heap.size≤b2; omega) (.int .u64 (IntKind.u64.wrap (r.pc+n))))
 have J7:=J6.far (p:=⟨b2,0,none⟩) (by show b1≠b2; omega) (.int .u64 (IntKind.u64.wrap (r.pc+n)))
 go_wp2_with fail
 refine (H55 _).out.mono ?_
 rintro e w6 ⟨rfl,hb6⟩
 have O8:=O7.below hb6
 have E8:=E7.below hb6 E7.lt
 have J8:=J7.below hb6 J7.lt
 have B8:=Lib.hid (B7.out.trans (hb6.mono B7.out.size))
 clear hb6
 go_wp2_with fail
 refine (H54 _).out.mono ?_
 intro e w7 htp
 obtain ⟨rfl,hb7⟩:=htp
 have O9:=O8.below hb7
 have E9:=E8.below hb7 E8.lt
 have J9:=J8.below hb7 J8.lt
 have B9:=Lib.hid (B8.out.trans (hb7.mono B8.out.size))
 clear hb7
 have qr:=(O9.blk.cell (1+i.rd)).trans (mcR O9.len i.rd h3)
 have fr:=O9.fz (1+i.rd)
 have kr:=J9.cell 1
 by_cases hrd:i.rd=0
 ·have hd:decide ((0:Int) < (i.rd:Int))=false:=decide_eq_false (by omega)
  have hd':decide (0 < i.rd)=false:=decide_eq_false (by omega)
  have HRD:=Lib.hid hrd
  clear hrd qr fr
  obtain ⟨co,Ob,hszO,hso,hone,HCO⟩:=O9.cells
  go_wp2_with (first
   | (refine wpList_load_row rfl 27 (.tmp 7) rfl b2 rfl 27 co (0,0) _ Ob Tryz.underlying27 rfl hszO ?_)
   | (refine wpList_store_row rfl 27 (.tmp 2) (.tmp 222) rfl (w.heap.size+1) co rfl rfl 27 _ E9 hszO (by rw [hso.out,hZ.out]) hone ?_))
  refine bodyPost_ret (results_cell_tmp rfl _ _ (w.heap.size+1) 27 co (0,0) _ rfl (setRow_heap _ _ _ _ _ _ E9) Tryz.underlying27 rfl hszO) rfl ?_
  rw [wr_0 HRD.out]
  exact fin_some O9 HCO B9.out (by omega) (by omega)
 ·have hd:decide ((0:Int) < (i.rd:Int))=true:=decide_eq_true (by omega)
  have hd':decide (0 < i.rd)=true:=decide_eq_true (by omega)
  have HRD:=Lib.hid hrd
  clear hrd
  have O10:=O9.reg_ i.rd h3 (v)
  have E10:=E9.far (p:=⟨b2,1+i.rd,none⟩) (by show w.heap.size+1≠b2; omega) (.int .u64 (v))
  have B10:=Lib.hid (B9.out.setCell (p:=⟨b2,1+i.rd,none⟩) (by show w.heap.size≤b2; omega) (.int .u64 (v)))
  obtain ⟨co,Ob,hszO,hso,hone,HCO⟩:=O10.cells
  go_wp2_with (first
   | (refine wpList_load_row rfl 27 (.tmp 7) rfl b2 rfl 27 co (0,0) _ Ob Tryz.underlying27 rfl hszO ?_)
   | (refine wpList_store_row rfl 27 (.tmp 2) (.tmp 222) rfl (w.heap.size+1) co rfl rfl 27 _ E10 hszO (by rw [hso.out,hZ.out]) hone ?_))
  refine bodyPost_ret (results_cell_tmp rfl _ _ (w.heap.size+1) 27 co (0,0) _ rfl (setRow_heap _ _ _ _ _ _ E10) Tryz.underlying27 rfl hszO) rfl ?_
  rw [wr_s HRD.out]
  exact fin_some O10 HCO B10.out (by omega) (by omega)
theorem goD_I5 {cs:Array Value} {r:Rn} {w:World} {i:Ins} {x y:Int} {nm:ByteArray} {n:Nat} (G:GoH cs r w i x y nm n 53) (nr:ByteArray) (H55:∀ W,Hid (Calls Tryz.prog 55 #[.string nm] W fun e W'=>e=.returned (.string nr)∧Below W.heap.size W W')) (v:Int) (H54:∀ W,Hid (Calls Tryz.prog 54 #[.string nr,.int .u64 x,.int .u64 (IntKind.u64.wrap i.imm)] W (TwoPost v W))) : Calls Tryz.prog 35 #[.agg cs] w (StepPost w (.agg cs) (some ({ r with pc:=(IntKind.u64.wrap (r.pc+n)) }.wr i.rd v))):=by
 refine goD_pre G fun w5 b1 b2 mv2 tv2 Z ca K hK hlen O6 HCA D6 E6 hZ J6 HB5 hz1 hz2 lg n1 n2 n3 n4 k1 k2 k3 k4 d0 dx dy q0 f0=>?_
 change Code.wp _ (.region 7 _ _) _ _ _
 change ∀ a W,Code.wp _ (.seq _ _) _ _ _→_ at hK
 have hn:=G.hn
 have h1:=G.h1
 have h2:=G.h2
 have h3:=G.h3
 have O7:=O6.pc_ (IntKind.u64.wrap (r.pc+n))
 have E7:=E6.far (p:=⟨b2,0,none⟩) (by show w.heap.size+1≠b2; omega) (.int .u64 (IntKind.u64.wrap (r.pc+n)))
 have B7:=Lib.hid (HB5.out.setCell (p:=⟨b2,0,none⟩) (by show w.heap.size≤b2; omega) (.int .u64 (IntKind.u64.wrap (r.pc+n))))
 have J7:=J6.far (p:=⟨b2,0,none⟩) (by show b1≠b2; omega) (.int .u64 (IntKind.u64.wrap (r.pc+n)))
 go_wp2_with fail
 refine (H55 _).out.mono ?_
 rintro e w6 ⟨rfl,hb6⟩
 have O8:=O7.below hb6
 have E8:=E7.below hb6 E7.lt
 have J8:=J7.below hb6 J7.lt
 have B8:=Lib.hid (B7.out.trans (hb6.mono B7.out.size))
 clear hb6
 go_wp2_with fail
 refine (H54 _).out.mono ?_
 intro e w7 htp
 obtain ⟨rfl,hb7⟩:=htp
 have O9:=O8.below hb7
 have E9:=E8.below hb7 E8.lt
 have J9:=J8.below hb7 J8.lt
 have B9:=Lib.hid (B8.out.trans (hb7.mono B8.out.size))
 clear hb7
 have qr:=(O9.blk.cell (1+i.rd)).trans (mcR O9.len i.rd h3)
 have fr:=O9.fz (1+i.rd)
 have kr:=J9.cell 1
 by_cases hrd:i.rd=0
 ·have hd:decide ((0:Int) < (i.rd:Int))=false:=decide_eq_false (by omega)
  have hd':decide (0 < i.rd)=false:=decide_eq_false (by omega)
  have HRD:=Lib.hid hrd
  clear hrd qr fr
  obtain ⟨co,Ob,hszO,hso,hone,HCO⟩:=O9.cells
  go_wp2_with (first
   | (refine wpList_load_row rfl 27 (.tmp 7) rfl b2 rfl 27 co (0,0) _ Ob Tryz.underlying27 rfl hszO ?_)
   | (refine wpList_store_row rfl 27 (.tmp 2) (.tmp 222) rfl (w.heap.size+1) co rfl rfl 27 _ E9 hszO (by rw [hso.out,hZ.out]) hone ?_))
  refine bodyPost_ret (results_cell_tmp rfl _ _ (w.heap.size+1) 27 co (0,0) _ rfl (setRow_heap _ _ _ _ _ _ E9) Tryz.underlying27 rfl hszO) rfl ?_
  rw [wr_0 HRD.out]
  exact fin_some O9 HCO B9.out (by omega) (by omega)
 ·have hd:decide ((0:Int) < (i.rd:Int))=true:=decide_eq_true (by omega)
  have hd':decide (0 < i.rd)=true:=decide_eq_true (by omega)
  have HRD:=Lib.hid hrd
  clear hrd
  have O10:=O9.reg_ i.rd h3 (v)
  have E10:=E9.far (p:=⟨b2,1+i.rd,none⟩) (by show w.heap.size+1≠b2; omega) (.int .u64 (v))
  have B10:=Lib.hid (B9.out.setCell (p:=⟨b2,1+i.rd,none⟩) (by show w.heap.size≤b2; omega) (.int .u64 (v)))
  obtain ⟨co,Ob,hszO,hso,hone,HCO⟩:=O10.cells
  go_wp2_with (first
   | (refine wpList_load_row rfl 27 (.tmp 7) rfl b2 rfl 27 co (0,0) _ Ob Tryz.underlying27 rfl hszO ?_)
   | (refine wpList_store_row rfl 27 (.tmp 2) (.tmp 222) rfl (w.heap.size+1) co rfl rfl 27 _ E10 hszO (by rw [hso.out,hZ.out]) hone ?_))
  refine bodyPost_ret (results_cell_tmp rfl _ _ (w.heap.size+1) 27 co (0,0) _ rfl (setRow_heap _ _ _ _ _ _ E10) Tryz.underlying27 rfl hszO) rfl ?_
  rw [wr_s HRD.out]
  exact fin_some O10 HCO B10.out (by omega) (by omega)
end Go.Proofs.YtoehlmiadiiimaaGreatDoor

/-
  The machine, as the document has it: what an instruction does: loads.
-/
set_option maxRecDepth 100000
set_option maxHeartbeats 4000000
namespace Go.Proofs.YtoehlmiadiiimaaGreatDoor
open Go.ChangeShapes Go.WideShapes Go.RowKit Go.Proofs.YtoehlmiadiiimaaGreatDoor.Ex
theorem goD_Lx {cs:Array Value} {r:Rn} {w:World} {i:Ins} {x y:Int} {nm:ByteArray} {n:Nat} (G:GoH cs r w i x y nm n 76) (k:Nat) (H52:∀ W,Hid (Calls Tryz.prog 52 #[.string nm] W fun e W'=>e=.returned (.int .i64 k)∧W'=W)) (H51:∀ W,Hid (Calls Tryz.prog 51 #[.agg cs,.int .u64 (IntKind.u64.wrap (x+IntKind.u64.wrap i.imm)),.int .i64 k] W fun e W'=>e=.returned (.int .i64 (-1))∧Below W.heap.size W W')) (hnm:(nm.toList == [106,97,108,114])=false) : Calls Tryz.prog 35 #[.agg cs] w (StepPost w (.agg cs) (none)):=by
 refine goD_pre G fun w5 b1 b2 mv2 tv2 Z ca K hK hlen O6 HCA D6 E6 hZ J6 HB5 hz1 hz2 lg n1 n2 n3 n4 k1 k2 k3 k4 d0 dx dy q0 f0=>?_
 change Code.wp _ (.region 7 _ _) _ _ _
 change ∀ a W,Code.wp _ (.seq _ _) _ _ _→_ at hK
 have hn:=G.hn
 have h1:=G.h1
 have h2:=G.h2
 have h3:=G.h3
 have hs:=G.hs
 have hsz:=G.sz
 have hall:=G.hall
 have O7:=O6.pc_ (IntKind.u64.wrap (r.pc+n))
 have E7:=E6.far (p:=⟨b2,0,none⟩) (by show w.heap.size+1≠b2; omega) (.int .u64 (IntKind.u64.wrap (r.pc+n)))
 have B7:=Lib.hid (HB5.out.setCell (p:=⟨b2,0,none⟩) (by show w.heap.size≤b2; omega) (.int .u64 (IntKind.u64.wrap (r.pc+n))))
 have D7:=D6.far (p:=⟨b2,0,none⟩) (by show w.heap.size≠b2; omega) (.int .u64 (IntKind.u64.wrap (r.pc+n)))
 have J7:=J6.far (p:=⟨b2,0,none⟩) (by show b1≠b2; omega) (.int .u64 (IntKind.u64.wrap (r.pc+n)))
 go_wp2_with fail
 refine wp_region_still_tail 6 (by kernel_rfl) (by kernel_rfl) ?_
 simp only [List.take_succ_cons,List.take_zero,List.drop_succ_cons,List.drop_zero]
 refine wpStill_load_row rfl 27 (.tmp 1) rfl w.heap.size rfl 27 cs (0,0) _ D7 Tryz.underlying27 rfl hsz ?_
 still_step
 still_step
 still_step
 still_step
 still_call (H52 _).out
 refine wpStill_nil ?_
 change wpList _ _ _ _ _ (World.drew (w5.setCell ⟨b2,0,none⟩ (.int .u64 (IntKind.u64.wrap (r.pc+n)))))
 generalize hW:World.drew (w5.setCell ⟨b2,0,none⟩ (.int .u64 (IntKind.u64.wrap (r.pc+n))))=wd
 have O8:=O7.drew
 rw [hW] at O8
 have E8:Blk wd (w.heap.size+1) 27 Z:=by rw [← hW]; exact E7.drew
 have D8:Blk wd w.heap.size 27 cs:=by rw [← hW]; exact D7.drew
 have J8:Blk wd b1 57 #[.int .u8 i.op,.int .i64 i.rd,.int .i64 i.s1,.int .i64 i.s2,.int .i64 i.imm]:=by rw [← hW]; exact J7.drew
 have B8:Hid (Below w.heap.size w wd):=Lib.hid (by rw [← hW]; exact B7.out.drew)
 clear hW
 go_wp2_with fail
 refine (H51 _).out.mono ?_
 rintro e w7 ⟨rfl,hb7⟩
 have O9:=O8.below hb7
 have E9:=E8.below hb7 E8.lt
 have J9:=J8.below hb7 J8.lt
 have B9:=Lib.hid (B8.out.trans (hb7.mono B8.out.size))
 have D9:=D8.below hb7 D8.lt
 clear hb7
 go_wp2_with (first
  | (refine wpList_load_row rfl 27 (.tmp 1) rfl w.heap.size rfl 27 cs (0,0) _ D9 Tryz.underlying27 rfl hsz ?_)
  | (refine wpList_store_row rfl 27 (.tmp 2) (.tmp 119) rfl (w.heap.size+1) cs rfl rfl 27 _ E9 hsz (by rw [hs.out,hZ.out]) hall ?_))
 refine bodyPost_ret (results_cell_tmp rfl _ _ (w.heap.size+1) 27 cs (0,0) _ rfl (setRow_heap _ _ _ _ _ _ E9) Tryz.underlying27 rfl hsz) rfl ?_
 exact fin_none B9.out (by omega)
theorem goD_Lu {cs:Array Value} {r:Rn} {w:World} {i:Ins} {x y:Int} {nm:ByteArray} {n:Nat} (G:GoH cs r w i x y nm n 76) (k:Nat)  (p:Nat) (H52:∀ W,Hid (Calls Tryz.prog 52 #[.string nm] W fun e W'=>e=.returned (.int .i64 k)∧W'=W)) (H51:∀ W,Hid (Calls Tryz.prog 51 #[.agg cs,.int .u64 (IntKind.u64.wrap (x+IntKind.u64.wrap i.imm)),.int .i64 k] W fun e W'=>e=.returned (.int .i64 p)∧Below W.heap.size W W')) (hnm:(nm.toList == [106,97,108,114])=false) (v:Int) (H53:∀ W,Below w.heap.size w W→Hid (Calls Tryz.prog 53 #[.agg cs,.int .i64 p,.int .i64 k] W fun e W'=>e=.returned (.int .u64 v)∧Below W.heap.size W W')) (hl:((nm.size:Int) == 2)=false) (_hl':(nm.size == 2)=false) : Calls Tryz.prog 35 #[.agg cs] w (StepPost w (.agg cs) (some ({ r with pc:=(IntKind.u64.wrap (r.pc+n)) }.wr i.rd v))):=by
 refine goD_pre G fun w5 b1 b2 mv2 tv2 Z ca K hK hlen O6 HCA D6 E6 hZ J6 HB5 hz1 hz2 lg n1 n2 n3 n4 k1 k2 k3 k4 d0 dx dy q0 f0=>?_
 change Code.wp _ (.region 7 _ _) _ _ _
 change ∀ a W,Code.wp _ (.seq _ _) _ _ _→_ at hK
 have hn:=G.hn
 have h1:=G.h1
 have h2:=G.h2
 have h3:=G.h3
 have hsz:=G.sz
 have O7:=O6.pc_ (IntKind.u64.wrap (r.pc+n))
 have E7:=E6.far (p:=⟨b2,0,none⟩) (by show w.heap.size+1≠b2; omega) (.int .u64 (IntKind.u64.wrap (r.pc+n)))
 have B7:=Lib.hid (HB5.out.setCell (p:=⟨b2,0,none⟩) (by show w.heap.size≤b2; omega) (.int .u64 (IntKind.u64.wrap (r.pc+n))))
 have D7:=D6.far (p:=⟨b2,0,none⟩) (by show w.heap.size≠b2; omega) (.int .u64 (IntKind.u64.wrap (r.pc+n)))
 have J7:=J6.far (p:=⟨b2,0,none⟩) (by show b1≠b2; omega) (.int .u64 (IntKind.u64.wrap (r.pc+n)))
 go_wp2_with fail
 refine wp_region_still_tail 6 (by kernel_rfl) (by kernel_rfl) ?_
 simp only [List.take_succ_cons,List.take_zero,List.drop_succ_cons,List.drop_zero]
 refine wpStill_load_row rfl 27 (.tmp 1) rfl w.heap.size rfl 27 cs (0,0) _ D7 Tryz.underlying27 rfl hsz ?_
 still_step
 still_step
 still_step
 still_step
 still_call (H52 _).out
 refine wpStill_nil ?_
 change wpList _ _ _ _ _ (World.drew (w5.setCell ⟨b2,0,none⟩ (.int .u64 (IntKind.u64.wrap (r.pc+n)))))
 generalize hW:World.drew (w5.setCell ⟨b2,0,none⟩ (.int .u64 (IntKind.u64.wrap (r.pc+n))))=wd
 have O8:=O7.drew
 rw [hW] at O8
 have E8:Blk wd (w.heap.size+1) 27 Z:=by rw [← hW]; exact E7.drew
 have D8:Blk wd w.heap.size 27 cs:=by rw [← hW]; exact D7.drew
 have J8:Blk wd b1 57 #[.int .u8 i.op,.int .i64 i.rd,.int .i64 i.s1,.int .i64 i.s2,.int .i64 i.imm]:=by rw [← hW]; exact J7.drew
 have B8:Hid (Below w.heap.size w wd):=Lib.hid (by rw [← hW]; exact B7.out.drew)
 clear hW
 go_wp2_with fail
 refine (H51 _).out.mono ?_
 rintro e w7 ⟨rfl,hb7⟩
 have O9:=O8.below hb7
 have E9:=E8.below hb7 E8.lt
 have J9:=J8.below hb7 J8.lt
 have B9:=Lib.hid (B8.out.trans (hb7.mono B8.out.size))
 have D9:=D8.below hb7 D8.lt
 clear hb7
 go_wp2_with fail
 refine wp_region_still_tail 4 (by kernel_rfl) (by kernel_rfl) ?_
 simp only [List.take_succ_cons,List.take_zero,List.drop_succ_cons,List.drop_zero]
 refine wpStill_load_row rfl 27 (.tmp 1) rfl w.heap.size rfl 27 cs (0,0) _ D9 Tryz.underlying27 rfl hsz ?_
 still_step
 still_step
 still_call (H52 _).out
 refine wpStill_nil ?_
 change wpList _ _ _ _ _ (World.drew w7)
 generalize hW:World.drew w7=we
 have O10:=O9.drew
 rw [hW] at O10
 have E10:Blk we (w.heap.size+1) 27 Z:=by rw [← hW]; exact E9.drew
 have D10:Blk we w.heap.size 27 cs:=by rw [← hW]; exact D9.drew
 have J10:Blk we b1 57 #[.int .u8 i.op,.int .i64 i.rd,.int .i64 i.s1,.int .i64 i.s2,.int .i64 i.imm]:=by rw [← hW]; exact J9.drew
 have B10:Hid (Below w.heap.size w we):=Lib.hid (by rw [← hW]; exact B9.out.drew)
 clear hW
 go_wp2_with fail
 refine (H53 _ B10.out).out.mono ?_
 rintro e w8 ⟨rfl,hb8⟩
 have O11:=O10.below hb8
 have E11:=E10.below hb8 E10.lt
 have J11:=J10.below hb8 J10.lt
 have B11:=Lib.hid (B10.out.trans (hb8.mono B10.out.size))
 have D11:=D10.below hb8 D10.lt
 clear hb8
 have qr:=(O11.blk.cell (1+i.rd)).trans (mcR O11.len i.rd h3)
 have fr:=O11.fz (1+i.rd)
 have kr:=J11.cell 1
 by_cases hrd:i.rd=0
 ·have hd:decide ((0:Int) < (i.rd:Int))=false:=decide_eq_false (by omega)
  have hd':decide (0 < i.rd)=false:=decide_eq_false (by omega)
  have HRD:=Lib.hid hrd
  clear hrd qr fr
  obtain ⟨co,Ob,hszO,hso,hone,HCO⟩:=O11.cells
  go_wp2_with (first
   | (refine wpList_load_row rfl 27 (.tmp 7) rfl b2 rfl 27 co (0,0) _ Ob Tryz.underlying27 rfl hszO ?_)
   | (refine wpList_store_row rfl 27 (.tmp 2) (.tmp 222) rfl (w.heap.size+1) co rfl rfl 27 _ E11 hszO (by rw [hso.out,hZ.out]) hone ?_))
  refine bodyPost_ret (results_cell_tmp rfl _ _ (w.heap.size+1) 27 co (0,0) _ rfl (setRow_heap _ _ _ _ _ _ E11) Tryz.underlying27 rfl hszO) rfl ?_
  rw [wr_0 HRD.out]
  exact fin_some O11 HCO B11.out (by omega) (by omega)
 ·have hd:decide ((0:Int) < (i.rd:Int))=true:=decide_eq_true (by omega)
  have hd':decide (0 < i.rd)=true:=decide_eq_true (by omega)
  have HRD:=Lib.hid hrd
  clear hrd
  have O12:=O11.reg_ i.rd h3 (v)
  have E12:=E11.far (p:=⟨b2,1+i.rd,none⟩) (by show w.heap.size+1≠b2; omega) (.int .u64 (v))
  have B12:=Lib.hid (B11.out.setCell (p:=⟨b2,1+i.rd,none⟩) (by show w.heap.size≤b2; omega) (.int .u64 (v)))
  obtain ⟨co,Ob,hszO,hso,hone,HCO⟩:=O12.cells
  go_wp2_with (first
   | (refine wpList_load_row rfl 27 (.tmp 7) rfl b2 rfl 27 co (0,0) _ Ob Tryz.underlying27 rfl hszO ?_)
   | (refine wpList_store_row rfl 27 (.tmp 2) (.tmp 222) rfl (w.heap.size+1) co rfl rfl 27 _ E12 hszO (by rw [hso.out,hZ.out]) hone ?_))
  refine bodyPost_ret (results_cell_tmp rfl _ _ (w.heap.size+1) 27 co (0,0) _ rfl (setRow_heap _ _ _ _ _ _ E12) Tryz.underlying27 rfl hszO) rfl ?_
  rw [wr_s HRD.out]
  exact fin_some O12 HCO B12.out (by omega) (by omega)
end Go.Proofs.YtoehlmiadiiimaaGreatDoor

/-
  The machine, as the document has it: what an instruction does: loads.
-/
namespace Go.Proofs.YtoehlmiadiiimaaGreatDoor
open Go.ChangeShapes Go.WideShapes Go.RowKit Go.Proofs.YtoehlmiadiiimaaGreatDoor.Ex
set_option maxRecDepth 100000 in
set_option maxHeartbeats 4000000 in
theorem goD_Lc {cs:Array Value} {r:Rn} {w:World} {i:Ins} {x y:Int} {nm:ByteArray} {n:Nat} (G:GoH cs r w i x y nm n 76) (k:Nat)  (p:Nat) (H52:∀ W,Hid (Calls Tryz.prog 52 #[.string nm] W fun e W'=>e=.returned (.int .i64 k)∧W'=W)) (H51:∀ W,Hid (Calls Tryz.prog 51 #[.agg cs,.int .u64 (IntKind.u64.wrap (x+IntKind.u64.wrap i.imm)),.int .i64 k] W fun e W'=>e=.returned (.int .i64 p)∧Below W.heap.size W W')) (hnm:(nm.toList == [106,97,108,114])=false) (v:Int) (H53:∀ W,Below w.heap.size w W→Hid (Calls Tryz.prog 53 #[.agg cs,.int .i64 p,.int .i64 k] W fun e W'=>e=.returned (.int .u64 v)∧Below W.heap.size W W')) (hl:((nm.size:Int) == 2)=true) (_hl':(nm.size == 2)=true) (hk:k≤8) (v2:Int) (H49:∀ W,Hid (Calls Tryz.prog 49 #[.int .u64 v,.int .i64 (8*(k:Int))] W fun e W'=>e=.returned (.int .u64 v2)∧W=W')) : Calls Tryz.prog 35 #[.agg cs] w (StepPost w (.agg cs) (some ({ r with pc:=(IntKind.u64.wrap (r.pc+n)) }.wr i.rd v2))):=by
 refine goD_pre G fun w5 b1 b2 mv2 tv2 Z ca K hK hlen O6 HCA D6 E6 hZ J6 HB5 hz1 hz2 lg n1 n2 n3 n4 k1 k2 k3 k4 d0 dx dy q0 f0=>?_
 change Code.wp _ (.region 7 _ _) _ _ _
 change ∀ a W,Code.wp _ (.seq _ _) _ _ _→_ at hK
 have hn:=G.hn
 have h1:=G.h1
 have h2:=G.h2
 have h3:=G.h3
 have hsz:=G.sz
 have O7:=O6.pc_ (IntKind.u64.wrap (r.pc+n))
 have E7:=E6.far (p:=⟨b2,0,none⟩) (by show w.heap.size+1≠b2; omega) (.int .u64 (IntKind.u64.wrap (r.pc+n)))
 have B7:=Lib.hid (HB5.out.setCell (p:=⟨b2,0,none⟩) (by show w.heap.size≤b2; omega) (.int .u64 (IntKind.u64.wrap (r.pc+n))))
 have D7:=D6.far (p:=⟨b2,0,none⟩) (by show w.heap.size≠b2; omega) (.int .u64 (IntKind.u64.wrap (r.pc+n)))
 have J7:=J6.far (p:=⟨b2,0,none⟩) (by show b1≠b2; omega) (.int .u64 (IntKind.u64.wrap (r.pc+n)))
 go_wp2_with fail
 refine wp_region_still_tail 6 (by kernel_rfl) (by kernel_rfl) ?_
 simp only [List.take_succ_cons,List.take_zero,List.drop_succ_cons,List.drop_zero]
 refine wpStill_load_row rfl 27 (.tmp 1) rfl w.heap.size rfl 27 cs (0,0) _ D7 Tryz.underlying27 rfl hsz ?_
 still_step
 still_step
 still_step
 still_step
 still_call (H52 _).out
 refine wpStill_nil ?_
 change wpList _ _ _ _ _ (World.drew (w5.setCell ⟨b2,0,none⟩ (.int .u64 (IntKind.u64.wrap (r.pc+n)))))
 generalize hW:World.drew (w5.setCell ⟨b2,0,none⟩ (.int .u64 (IntKind.u64.wrap (r.pc+n))))=wd
 have O8:=O7.drew
 rw [hW] at O8
 have E8:Blk wd (w.heap.size+1) 27 Z:=by rw [← hW]; exact E7.drew
 have D8:Blk wd w.heap.size 27 cs:=by rw [← hW]; exact D7.drew
 have J8:Blk wd b1 57 #[.int .u8 i.op,.int .i64 i.rd,.int .i64 i.s1,.int .i64 i.s2,.int .i64 i.imm]:=by rw [← hW]; exact J7.drew
 have B8:Hid (Below w.heap.size w wd):=Lib.hid (by rw [← hW]; exact B7.out.drew)
 clear hW
 go_wp2_with fail
 refine (H51 _).out.mono ?_
 rintro e w7 ⟨rfl,hb7⟩
 have O9:=O8.below hb7
 have E9:=E8.below hb7 E8.lt
 have J9:=J8.below hb7 J8.lt
 have B9:=Lib.hid (B8.out.trans (hb7.mono B8.out.size))
 have D9:=D8.below hb7 D8.lt
 clear hb7
 go_wp2_with fail
 refine wp_region_still_tail 4 (by kernel_rfl) (by kernel_rfl) ?_
 simp only [List.take_succ_cons,List.take_zero,List.drop_succ_cons,List.drop_zero]
 refine wpStill_load_row rfl 27 (.tmp 1) rfl w.heap.size rfl 27 cs (0,0) _ D9 Tryz.underlying27 rfl hsz ?_
 still_step
 still_step
 still_call (H52 _).out
 refine wpStill_nil ?_
 change wpList _ _ _ _ _ (World.drew w7)
 generalize hW:World.drew w7=we
 have O10:=O9.drew
 rw [hW] at O10
 have E10:Blk we (w.heap.size+1) 27 Z:=by rw [← hW]; exact E9.drew
 have D10:Blk we w.heap.size 27 cs:=by rw [← hW]; exact D9.drew
 have J10:Blk we b1 57 #[.int .u8 i.op,.int .i64 i.rd,.int .i64 i.s1,.int .i64 i.s2,.int .i64 i.imm]:=by rw [← hW]; exact J9.drew
 have B10:Hid (Below w.heap.size w we):=Lib.hid (by rw [← hW]; exact B9.out.drew)
 clear hW
 go_wp2_with fail
 refine (H53 _ B10.out).out.mono ?_
 rintro e w8 ⟨rfl,hb8⟩
 have O11:=O10.below hb8
 have E11:=E10.below hb8 E10.lt
 have J11:=J10.below hb8 J10.lt
 have B11:=Lib.hid (B10.out.trans (hb8.mono B10.out.size))
 have D11:=D10.below hb8 D10.lt
 clear hb8
 have qr:=(O11.blk.cell (1+i.rd)).trans (mcR O11.len i.rd h3)
 have fr:=O11.fz (1+i.rd)
 have kr:=J11.cell 1
 by_cases hrd:i.rd=0
 ·have hd:decide ((0:Int) < (i.rd:Int))=false:=decide_eq_false (by omega)
  have hd':decide (0 < i.rd)=false:=decide_eq_false (by omega)
  have HRD:=Lib.hid hrd
  clear hrd qr fr
  obtain ⟨co,Ob,hszO,hso,hone,HCO⟩:=O11.cells
  go_wp2_with (first
   | (go_at_call 52; refine (H52 _).out.mono ?_; intro e w' hcc; obtain ⟨rfl,hcc2⟩:=hcc; subst hcc2)
   | (go_at_call 49; refine (H49 _).out.mono ?_; rintro e w' ⟨rfl,rfl⟩)
   | (refine wpList_load_row rfl 27 (.tmp 7) rfl b2 rfl 27 co (0,0) _ Ob Tryz.underlying27 rfl hszO ?_)
   | (refine wpList_store_row rfl 27 (.tmp 2) (.tmp 222) rfl (w.heap.size+1) co rfl rfl 27 _ E11 hszO (by rw [hso.out,hZ.out]) hone ?_))
  refine bodyPost_ret (results_cell_tmp rfl _ _ (w.heap.size+1) 27 co (0,0) _ rfl (setRow_heap _ _ _ _ _ _ E11) Tryz.underlying27 rfl hszO) rfl ?_
  rw [wr_0 HRD.out]
  exact fin_some O11 HCO B11.out (by omega) (by omega)
 ·have hd:decide ((0:Int) < (i.rd:Int))=true:=decide_eq_true (by omega)
  have hd':decide (0 < i.rd)=true:=decide_eq_true (by omega)
  have HRD:=Lib.hid hrd
  clear hrd
  have O12:=O11.reg_ i.rd h3 (v2)
  have E12:=E11.far (p:=⟨b2,1+i.rd,none⟩) (by show w.heap.size+1≠b2; omega) (.int .u64 (v2))
  have B12:=Lib.hid (B11.out.setCell (p:=⟨b2,1+i.rd,none⟩) (by show w.heap.size≤b2; omega) (.int .u64 (v2)))
  obtain ⟨co,Ob,hszO,hso,hone,HCO⟩:=O12.cells
  go_wp2_with (first
   | (go_at_call 52; refine (H52 _).out.mono ?_; intro e w' hcc; obtain ⟨rfl,hcc2⟩:=hcc; subst hcc2)
   | (go_at_call 49; refine (H49 _).out.mono ?_; rintro e w' ⟨rfl,rfl⟩)
   | (refine wpList_load_row rfl 27 (.tmp 7) rfl b2 rfl 27 co (0,0) _ Ob Tryz.underlying27 rfl hszO ?_)
   | (refine wpList_store_row rfl 27 (.tmp 2) (.tmp 222) rfl (w.heap.size+1) co rfl rfl 27 _ E12 hszO (by rw [hso.out,hZ.out]) hone ?_))
  refine bodyPost_ret (results_cell_tmp rfl _ _ (w.heap.size+1) 27 co (0,0) _ rfl (setRow_heap _ _ _ _ _ _ E12) Tryz.underlying27 rfl hszO) rfl ?_
  rw [wr_s HRD.out]
  exact fin_some O12 HCO B12.out (by omega) (by omega)
end Go.Proofs.YtoehlmiadiiimaaGreatDoor

/-
  The machine, as the document has it: what an instruction does: stores.
-/
set_option maxRecDepth 100000
set_option maxHeartbeats 4000000
namespace Go.Proofs.YtoehlmiadiiimaaGreatDoor
open Go.ChangeShapes Go.WideShapes Go.RowKit Go.Proofs.YtoehlmiadiiimaaGreatDoor.Ex
theorem hmem2 {w:World} {B:Nat} {e:TypeId} {size n:Nat} {v:Value} {xs:List Value} (h:w.ownsRow B e size v n xs) (hn:0 < n) : ∃ gm c,v=.slice (some ⟨gm,0,none⟩) n c:=by
 obtain ⟨A,c,hv,_,hA⟩:=own_slice h
 obtain ⟨g,rfl,_,_⟩:=hA hn
 exact ⟨g,c,hv⟩
theorem stW_out {B g gm c:Nat} {w:World} {r:Rn} {tv:Value} (h:OutW B w g r (.slice (some ⟨gm,0,none⟩) r.mem.length c) tv) (k:Nat) (x:Int) :
  ∀ j,OutW B (stW w gm k x j) g { r with mem:=memSet r.mem k x j } (.slice (some ⟨gm,0,none⟩) r.mem.length c) tv
 | 0=>h
 | j+1=>by
  have ih:=stW_out h k x j
  have hl:=memSet_len r.mem k x j
  have hm:=ih.mem
  simp only [hl] at hm
  have hne:=ih.mne
  have hmt:=own_own_ne ih.told hm (by decide)
  refine ⟨ih.len,ih.ge,ih.blk.far (p:=⟨gm,k+j,none⟩) (fun e=>hne (by rw [e]; rfl)) _,?_,?_⟩
  ·have:=(hm.stored (k+j) (.int .u8 (stv x j))).1
   simp only [memSet,List.length_set,hl,List.map_set]
   exact this
  ·refine own_set_far ih.told (p:=⟨gm,k+j,none⟩) ?_ _
   rcases hmt with h0 | h0
   ·rw [h0]; simp
   ·exact h0
theorem out_byte {B g gm c:Nat} {w:World} {r:Rn} {tv:Value} (h:OutW B w g r (.slice (some ⟨gm,0,none⟩) r.mem.length c) tv) (k:Nat) (hk:k < r.mem.length) : (∃ u,w.cell? ⟨gm,k,none⟩=some u)∧w.frozen? ⟨gm,k,none⟩=false:=by
 refine ⟨⟨.int .u8 (r.mem.getD k 0),?_⟩,h.mem.frozenAt k⟩
 have:=h.mem.cells (g:=gm) rfl k (.int .u8 (r.mem.getD k 0)) (by simp [hk])
 have e:(⟨gm,0,none⟩ : Addr).add k=⟨gm,k,none⟩:=by unfold Addr.add; split <;> simp_all
 rwa [e] at this
theorem stv_eq (y:Int) (_hy:0≤y) (j:Nat) : stv y j=y / 256 ^ j % 256:=by
 unfold stv
 have e8:(2:Int) ^ (8*j)=256 ^ j:=by rw [Int.pow_mul]; rfl
 rw [e8]
 show (y / 256 ^ j) % 256=_
 rfl
theorem pow_step (y:Int) (j:Nat) : y / 256 ^ (j+1)=y / 256 ^ j / 256:=by
 rw [Int.pow_succ,Int.ediv_ediv_of_nonneg (Int.le_of_lt (Int.pow_pos (by decide)))]
theorem goD_Sx {cs:Array Value} {r:Rn} {w:World} {i:Ins} {x y:Int} {nm:ByteArray} {n:Nat} (G:GoH cs r w i x y nm n 83) (k:Nat) (H52:∀ W,Hid (Calls Tryz.prog 52 #[.string nm] W fun e W'=>e=.returned (.int .i64 k)∧W'=W)) (H51:∀ W,Hid (Calls Tryz.prog 51 #[.agg cs,.int .u64 (IntKind.u64.wrap (x+IntKind.u64.wrap i.imm)),.int .i64 k] W fun e W'=>e=.returned (.int .i64 (-1))∧Below W.heap.size W W')) : Calls Tryz.prog 35 #[.agg cs] w (StepPost w (.agg cs) (none)):=by
 refine goD_pre G fun w5 b1 b2 mv2 tv2 Z ca K hK hlen O6 HCA D6 E6 hZ J6 HB5 hz1 hz2 lg n1 n2 n3 n4 k1 k2 k3 k4 d0 dx dy q0 f0=>?_
 change Code.wp _ (.region 7 _ _) _ _ _
 change ∀ a W,Code.wp _ (.seq _ _) _ _ _→_ at hK
 have hn:=G.hn
 have h1:=G.h1
 have h2:=G.h2
 have h3:=G.h3
 have hs:=G.hs
 have hsz:=G.sz
 have hall:=G.hall
 have O7:=O6.pc_ (IntKind.u64.wrap (r.pc+n))
 have E7:=E6.far (p:=⟨b2,0,none⟩) (by show w.heap.size+1≠b2; omega) (.int .u64 (IntKind.u64.wrap (r.pc+n)))
 have B7:=Lib.hid (HB5.out.setCell (p:=⟨b2,0,none⟩) (by show w.heap.size≤b2; omega) (.int .u64 (IntKind.u64.wrap (r.pc+n))))
 have D7:=D6.far (p:=⟨b2,0,none⟩) (by show w.heap.size≠b2; omega) (.int .u64 (IntKind.u64.wrap (r.pc+n)))
 have J7:=J6.far (p:=⟨b2,0,none⟩) (by show b1≠b2; omega) (.int .u64 (IntKind.u64.wrap (r.pc+n)))
 go_wp2_with fail
 refine wp_region_still_tail 6 (by kernel_rfl) (by kernel_rfl) ?_
 simp only [List.take_succ_cons,List.take_zero,List.drop_succ_cons,List.drop_zero]
 refine wpStill_load_row rfl 27 (.tmp 1) rfl w.heap.size rfl 27 cs (0,0) _ D7 Tryz.underlying27 rfl hsz ?_
 still_step
 still_step
 still_step
 still_step
 still_call (H52 _).out
 refine wpStill_nil ?_
 change wpList _ _ _ _ _ (World.drew (w5.setCell ⟨b2,0,none⟩ (.int .u64 (IntKind.u64.wrap (r.pc+n)))))
 generalize hW:World.drew (w5.setCell ⟨b2,0,none⟩ (.int .u64 (IntKind.u64.wrap (r.pc+n))))=wd
 have O8:=O7.drew
 rw [hW] at O8
 have E8:Blk wd (w.heap.size+1) 27 Z:=by rw [← hW]; exact E7.drew
 have D8:Blk wd w.heap.size 27 cs:=by rw [← hW]; exact D7.drew
 have J8:Blk wd b1 57 #[.int .u8 i.op,.int .i64 i.rd,.int .i64 i.s1,.int .i64 i.s2,.int .i64 i.imm]:=by rw [← hW]; exact J7.drew
 have B8:Hid (Below w.heap.size w wd):=Lib.hid (by rw [← hW]; exact B7.out.drew)
 clear hW
 go_wp2_with fail
 refine (H51 _).out.mono ?_
 rintro e w7 ⟨rfl,hb7⟩
 have O9:=O8.below hb7
 have E9:=E8.below hb7 E8.lt
 have J9:=J8.below hb7 J8.lt
 have B9:=Lib.hid (B8.out.trans (hb7.mono B8.out.size))
 have D9:=D8.below hb7 D8.lt
 clear hb7
 go_wp2_with (first
  | (refine wpList_load_row rfl 27 (.tmp 1) rfl w.heap.size rfl 27 cs (0,0) _ D9 Tryz.underlying27 rfl hsz ?_)
  | (refine wpList_store_row rfl 27 (.tmp 2) (.tmp 144) rfl (w.heap.size+1) cs rfl rfl 27 _ E9 hsz (by rw [hs.out,hZ.out]) hall ?_))
 refine bodyPost_ret (results_cell_tmp rfl _ _ (w.heap.size+1) 27 cs (0,0) _ rfl (setRow_heap _ _ _ _ _ _ E9) Tryz.underlying27 rfl hsz) rfl ?_
 exact fin_none B9.out (by omega)
theorem goD_S {cs:Array Value} {r:Rn} {w:World} {i:Ins} {x y:Int} {nm:ByteArray} {n:Nat} (G:GoH cs r w i x y nm n 83) (k:Nat)  (p:Nat) (H52:∀ W,Hid (Calls Tryz.prog 52 #[.string nm] W fun e W'=>e=.returned (.int .i64 k)∧W'=W)) (H51:∀ W,Hid (Calls Tryz.prog 51 #[.agg cs,.int .u64 (IntKind.u64.wrap (x+IntKind.u64.wrap i.imm)),.int .i64 k] W fun e W'=>e=.returned (.int .i64 p)∧Below W.heap.size W W')) (hk:k≤8) (hpk:p+k≤r.mem.length) (hk0:0 < k) (hml:r.mem.length≤65536) (hy0:0≤y) (hy1:y < B64) : Calls Tryz.prog 35 #[.agg cs] w (StepPost w (.agg cs) (some { r with pc:=(IntKind.u64.wrap (r.pc+n)),mem:=memSet r.mem p y k })):=by
 refine goD_pre G fun w5 b1 b2 mv2 tv2 Z ca K hK hlen O6 HCA D6 E6 hZ J6 HB5 hz1 hz2 lg n1 n2 n3 n4 k1 k2 k3 k4 d0 dx dy q0 f0=>?_
 change Code.wp _ (.region 7 _ _) _ _ _
 change ∀ a W,Code.wp _ (.seq _ _) _ _ _→_ at hK
 have hn:=G.hn
 have h1:=G.h1
 have h2:=G.h2
 have h3:=G.h3
 have hsz:=G.sz
 have O7:=O6.pc_ (IntKind.u64.wrap (r.pc+n))
 have E7:=E6.far (p:=⟨b2,0,none⟩) (by show w.heap.size+1≠b2; omega) (.int .u64 (IntKind.u64.wrap (r.pc+n)))
 have B7:=Lib.hid (HB5.out.setCell (p:=⟨b2,0,none⟩) (by show w.heap.size≤b2; omega) (.int .u64 (IntKind.u64.wrap (r.pc+n))))
 have D7:=D6.far (p:=⟨b2,0,none⟩) (by show w.heap.size≠b2; omega) (.int .u64 (IntKind.u64.wrap (r.pc+n)))
 have J7:=J6.far (p:=⟨b2,0,none⟩) (by show b1≠b2; omega) (.int .u64 (IntKind.u64.wrap (r.pc+n)))
 go_wp2_with fail
 refine wp_region_still_tail 6 (by kernel_rfl) (by kernel_rfl) ?_
 simp only [List.take_succ_cons,List.take_zero,List.drop_succ_cons,List.drop_zero]
 refine wpStill_load_row rfl 27 (.tmp 1) rfl w.heap.size rfl 27 cs (0,0) _ D7 Tryz.underlying27 rfl hsz ?_
 still_step
 still_step
 still_step
 still_step
 still_call (H52 _).out
 refine wpStill_nil ?_
 change wpList _ _ _ _ _ (World.drew (w5.setCell ⟨b2,0,none⟩ (.int .u64 (IntKind.u64.wrap (r.pc+n)))))
 generalize hW:World.drew (w5.setCell ⟨b2,0,none⟩ (.int .u64 (IntKind.u64.wrap (r.pc+n))))=wd
 have O8:=O7.drew
 rw [hW] at O8
 have E8:Blk wd (w.heap.size+1) 27 Z:=by rw [← hW]; exact E7.drew
 have D8:Blk wd w.heap.size 27 cs:=by rw [← hW]; exact D7.drew
 have J8:Blk wd b1 57 #[.int .u8 i.op,.int .i64 i.rd,.int .i64 i.s1,.int .i64 i.s2,.int .i64 i.imm]:=by rw [← hW]; exact J7.drew
 have B8:Hid (Below w.heap.size w wd):=Lib.hid (by rw [← hW]; exact B7.out.drew)
 clear hW
 go_wp2_with fail
 refine (H51 _).out.mono ?_
 rintro e w7 ⟨rfl,hb7⟩
 have O9:=O8.below hb7
 have E9:=E8.below hb7 E8.lt
 have J9:=J8.below hb7 J8.lt
 have B9:=Lib.hid (B8.out.trans (hb7.mono B8.out.size))
 have D9:=D8.below hb7 D8.lt
 clear hb7
 obtain ⟨gm,c,rfl⟩:=hmem2 O9.mem (by show 0 < r.mem.length; omega)
 have hcap:r.mem.length≤c:=by
  obtain ⟨A',c',he,hcap,_⟩:=own_slice O9.mem
  injection he with he1 he2 he3
  subst he3
  exact hcap
 have OL:=fun j=>Lib.hid (stW_out O9 p y j)
 have DL:=fun j=>Lib.hid (stW_below (B:=b1+1) (w:=w7) (O9.mem.lt gm rfl).1 p y j)
 have lt9:=O9.blk.lt
 have OM:=Lib.hid O9.mne
 go_wp2
 go_loopw [13,20] (fun yv kv wr=>∃ j:Nat,j≤k∧kv=.int .i64 j∧yv=.int .u64 (y / 256 ^ j)∧wr=stW w7 gm p y j) (fun _ kv _=>k - (intOf kv).toNat)
 case atStart=>exact ⟨0,Nat.zero_le _,rfl,by rw [Int.pow_zero,Int.ediv_one],rfl⟩
 case round =>
  obtain ⟨j,hj,rfl,rfl,rfl⟩:=hrel
  have OJ:=OL j
  have hl:=memSet_len r.mem p y j
  have q34:=(OJ.out.blk.cell 34).trans (mc34 OJ.out.len)
  have n5:¬ gm=b2:=fun e=>OM.out (by rw [e]; rfl)
  have n6:¬ b2=gm:=fun e=>n5 e.symm
  have hY:0≤y / 256 ^ j:=Int.ediv_nonneg hy0 (Int.le_of_lt (Int.pow_pos (by decide)))
  have hY1:y / 256 ^ j < B64:=by
   have:=Int.ediv_le_self (256 ^ j) hy0
   omega
  have HV:=Lib.hid (stv_eq y hy0 j)
  have HY:=Lib.hid (pow_step y j)
  by_cases hlt:j < k
  ·have hb:=out_byte (r:={ ({ r with pc:=IntKind.u64.wrap (r.pc+n) } : Rn) with mem:=memSet r.mem p y j }) (c:=c) (by have:=OJ.out; simpa only [hl] using this) (p+j) (by show p+j < (memSet r.mem p y j).length; omega)
   obtain ⟨⟨u,hu⟩,hfz⟩:=hb
   have HS:Hid (stW w7 gm p y (j+1)=(stW w7 gm p y j).setCell ⟨gm,p+j,none⟩ (.int .u8 (stv y j))):=Lib.hid rfl
   clear OJ hl
   generalize stW w7 gm p y j=wj at *
   generalize y / 256 ^ j=Y at *
   go_wp2_with (go_at_call 52; refine (H52 _).out.mono ?_; intro e w' hcc; obtain ⟨rfl,hcc2⟩:=hcc; subst hcc2)
   go_roundw
   case rel=>exact ⟨j+1,by omega,by go_num,by rw [HY.out,tdiv_nn Y hY hY1 256 (by decide)],by rw [HS.out,HV.out]⟩
   case measure=>simp [intOf]; omega
  ·obtain rfl:j=k:=by omega
   have EK:=E9.below (DL j).out (by omega)
   have BK:=Lib.hid (B9.out.trans ((DL j).out.mono (by omega)))
   have OK_:=OJ.out
   clear OJ DL OL hl
   generalize stW w7 gm p y j=wj at *
   obtain ⟨co,Ob,hszO,hso,hone,HCO⟩:=OK_.cells
   go_wp2_with (first
    | (go_at_call 52; refine (H52 _).out.mono ?_; intro e w' hcc; obtain ⟨rfl,hcc2⟩:=hcc; subst hcc2)
    | (refine wpList_load_row rfl 27 (.tmp 7) rfl b2 rfl 27 co (0,0) _ Ob Tryz.underlying27 rfl hszO ?_)
    | (refine wpList_store_row rfl 27 (.tmp 2) (.tmp 222) rfl (w.heap.size+1) co rfl rfl 27 _ EK hszO (by rw [hso.out,hZ.out]) hone ?_))
   refine bodyPost_ret (results_cell_tmp rfl _ _ (w.heap.size+1) 27 co (0,0) _ rfl (setRow_heap _ _ _ _ _ _ EK) Tryz.underlying27 rfl hszO) rfl ?_
   exact fin_some OK_ HCO BK.out (by omega) (by omega)
end Go.Proofs.YtoehlmiadiiimaaGreatDoor

