/-
  The machine, as the document has it: what an instruction does: branches; a jump by a register; what it does not know.
-/
import Derived.Test.YtoehlmiadiiimaaGreatDoorTMemJP
set_option maxRecDepth 100000
set_option maxHeartbeats 4000000
namespace Go.Proofs.YtoehlmiadiiimaaGreatDoor
open Go.ChangeShapes Go.WideShapes Go.RowKit Go.Proofs.YtoehlmiadiiimaaGreatDoor.Ex
theorem goD_Bf {cs:Array Value} {r:Rn} {w:World} {i:Ins} {x y:Int} {nm:ByteArray} {n:Nat} (G:GoH cs r w i x y nm n 66) (H50:∀ W,Hid (Calls Tryz.prog 50 #[.string nm,.int .u64 x,.int .u64 y] W fun e W'=>e=.returned (.bool false)∧W=W')) : Calls Tryz.prog 35 #[.agg cs] w (StepPost w (.agg cs) (some { r with pc:=(IntKind.u64.wrap (r.pc+n)) })):=by
 refine goD_pre G fun w5 b1 b2 mv2 tv2 Z ca K hK hlen O6 HCA D6 E6 hZ J6 HB5 hz1 hz2 lg n1 n2 n3 n4 k1 k2 k3 k4 d0 dx dy q0 f0=>?_
 change Code.wp _ (.region 7 _ _) _ _ _
 change ∀ a W,Code.wp _ (.seq _ _) _ _ _→_ at hK
 have hn:=G.hn
 have h1:=G.h1
 have h2:=G.h2
 have h3:=G.h3
 have O7:=O6.pc_ (IntKind.u64.wrap (r.pc+n))
 have E7:=E6.far (p:=⟨b2,0,none⟩) (by show w.heap.size+1≠b2; omega) (.int .u64 (IntKind.u64.wrap (r.pc+n)))
 have B7:=Lib.hid (HB5.out.setCell (p:=⟨b2,0,none⟩) (by show w.heap.size≤b2; omega) (.int .u64 (IntKind.u64.wrap (r.pc+n))))
 obtain ⟨co,Ob,hszO,hso,hone,HCO⟩:=O7.cells
 go_wp2_with (first
  | (go_at_call 50; refine (H50 _).out.mono ?_; rintro e w' ⟨rfl,rfl⟩)
  | (refine wpList_load_row rfl 27 (.tmp 7) rfl b2 rfl 27 co (0,0) _ Ob Tryz.underlying27 rfl hszO ?_)
  | (refine wpList_store_row rfl 27 (.tmp 2) (.tmp 222) rfl (w.heap.size+1) co rfl rfl 27 _ E7 hszO (by rw [hso.out,hZ.out]) hone ?_))
 refine bodyPost_ret (results_cell_tmp rfl _ _ (w.heap.size+1) 27 co (0,0) _ rfl (setRow_heap _ _ _ _ _ _ E7) Tryz.underlying27 rfl hszO) rfl ?_
 exact fin_some O7 HCO B7.out (by omega) (by omega)
theorem goD_Bt {cs:Array Value} {r:Rn} {w:World} {i:Ins} {x y:Int} {nm:ByteArray} {n:Nat} (G:GoH cs r w i x y nm n 66) (H50:∀ W,Hid (Calls Tryz.prog 50 #[.string nm,.int .u64 x,.int .u64 y] W fun e W'=>e=.returned (.bool true)∧W=W')) : Calls Tryz.prog 35 #[.agg cs] w (StepPost w (.agg cs) (some { r with pc:=(IntKind.u64.wrap (r.pc+IntKind.u64.wrap i.imm)) })):=by
 refine goD_pre G fun w5 b1 b2 mv2 tv2 Z ca K hK hlen O6 HCA D6 E6 hZ J6 HB5 hz1 hz2 lg n1 n2 n3 n4 k1 k2 k3 k4 d0 dx dy q0 f0=>?_
 change Code.wp _ (.region 7 _ _) _ _ _
 change ∀ a W,Code.wp _ (.seq _ _) _ _ _→_ at hK
 have hn:=G.hn
 have h1:=G.h1
 have h2:=G.h2
 have h3:=G.h3
 have O7:=O6.pc_ (IntKind.u64.wrap (r.pc+n))
 have E7:=E6.far (p:=⟨b2,0,none⟩) (by show w.heap.size+1≠b2; omega) (.int .u64 (IntKind.u64.wrap (r.pc+n)))
 have B7:=Lib.hid (HB5.out.setCell (p:=⟨b2,0,none⟩) (by show w.heap.size≤b2; omega) (.int .u64 (IntKind.u64.wrap (r.pc+n))))
 have O8:=O7.pc_ (IntKind.u64.wrap (r.pc+IntKind.u64.wrap i.imm))
 have E8:=E7.far (p:=⟨b2,0,none⟩) (by show w.heap.size+1≠b2; omega) (.int .u64 (IntKind.u64.wrap (r.pc+IntKind.u64.wrap i.imm)))
 have B8:=Lib.hid (B7.out.setCell (p:=⟨b2,0,none⟩) (by show w.heap.size≤b2; omega) (.int .u64 (IntKind.u64.wrap (r.pc+IntKind.u64.wrap i.imm))))
 obtain ⟨co,Ob,hszO,hso,hone,HCO⟩:=O8.cells
 go_wp2_with (first
  | (go_at_call 50; refine (H50 _).out.mono ?_; rintro e w' ⟨rfl,rfl⟩)
  | (refine wpList_load_row rfl 27 (.tmp 7) rfl b2 rfl 27 co (0,0) _ Ob Tryz.underlying27 rfl hszO ?_)
  | (refine wpList_store_row rfl 27 (.tmp 2) (.tmp 222) rfl (w.heap.size+1) co rfl rfl 27 _ E8 hszO (by rw [hso.out,hZ.out]) hone ?_))
 refine bodyPost_ret (results_cell_tmp rfl _ _ (w.heap.size+1) 27 co (0,0) _ rfl (setRow_heap _ _ _ _ _ _ E8) Tryz.underlying27 rfl hszO) rfl ?_
 exact fin_some O8 HCO B8.out (by omega) (by omega)
theorem half2 (x:Int) : 0≤IntKind.u64.wrap x∧IntKind.u64.wrap x≤18446744073709551615:=by rw [IntKind.wrap_u64]; omega
theorem goD_jalr {cs:Array Value} {r:Rn} {w:World} {i:Ins} {x y:Int} {nm:ByteArray} {n:Nat} (G:GoH cs r w i x y nm n 76) (hnm:(nm.toList == [106,97,108,114])=true) : Calls Tryz.prog 35 #[.agg cs] w (StepPost w (.agg cs) (some ({ r with pc:=(IntKind.u64.wrap (x+IntKind.u64.wrap i.imm) / 2*2) }.wr i.rd (IntKind.u64.wrap (r.pc+n))))):=by
 refine goD_pre G fun w5 b1 b2 mv2 tv2 Z ca K hK hlen O6 HCA D6 E6 hZ J6 HB5 hz1 hz2 lg n1 n2 n3 n4 k1 k2 k3 k4 d0 dx dy q0 f0=>?_
 change Code.wp _ (.region 7 _ _) _ _ _
 change ∀ a W,Code.wp _ (.seq _ _) _ _ _→_ at hK
 have hn:=G.hn
 have h1:=G.h1
 have h2:=G.h2
 have h3:=G.h3
 obtain ⟨jb0,jb1⟩:=half2 (x+IntKind.u64.wrap i.imm)
 have qr:=(O6.blk.cell (1+i.rd)).trans (mcR hlen i.rd h3)
 have fr:=O6.fz (1+i.rd)
 by_cases hrd:i.rd=0
 ·have hd:decide ((0:Int) < (i.rd:Int))=false:=decide_eq_false (by omega)
  have hd':decide (0 < i.rd)=false:=decide_eq_false (by omega)
  have HRD:=Lib.hid hrd
  clear hrd qr fr
  have O7:=O6.pc_ (IntKind.u64.wrap (r.pc+n))
  have E7:=E6.far (p:=⟨b2,0,none⟩) (by show w.heap.size+1≠b2; omega) (.int .u64 (IntKind.u64.wrap (r.pc+n)))
  have B7:=Lib.hid (HB5.out.setCell (p:=⟨b2,0,none⟩) (by show w.heap.size≤b2; omega) (.int .u64 (IntKind.u64.wrap (r.pc+n))))
  have O8:=O7.pc_ (IntKind.u64.wrap (x+IntKind.u64.wrap i.imm) / 2*2)
  have E8:=E7.far (p:=⟨b2,0,none⟩) (by show w.heap.size+1≠b2; omega) (.int .u64 (IntKind.u64.wrap (x+IntKind.u64.wrap i.imm) / 2*2))
  have B8:=Lib.hid (B7.out.setCell (p:=⟨b2,0,none⟩) (by show w.heap.size≤b2; omega) (.int .u64 (IntKind.u64.wrap (x+IntKind.u64.wrap i.imm) / 2*2)))
  obtain ⟨co,Ob,hszO,hso,hone,HCO⟩:=O8.cells
  go_wp2_with (first
   | (refine wpList_load_row rfl 27 (.tmp 7) rfl b2 rfl 27 co (0,0) _ Ob Tryz.underlying27 rfl hszO ?_)
   | (refine wpList_store_row rfl 27 (.tmp 2) (.tmp 222) rfl (w.heap.size+1) co rfl rfl 27 _ E8 hszO (by rw [hso.out,hZ.out]) hone ?_))
  refine bodyPost_ret (results_cell_tmp rfl _ _ (w.heap.size+1) 27 co (0,0) _ rfl (setRow_heap _ _ _ _ _ _ E8) Tryz.underlying27 rfl hszO) rfl ?_
  rw [wr_0 HRD.out]
  exact fin_some O8 HCO B8.out (by omega) (by omega)
 ·have hd:decide ((0:Int) < (i.rd:Int))=true:=decide_eq_true (by omega)
  have hd':decide (0 < i.rd)=true:=decide_eq_true (by omega)
  have HRD:=Lib.hid hrd
  clear hrd
  have O7:=O6.pc_ (IntKind.u64.wrap (r.pc+n))
  have E7:=E6.far (p:=⟨b2,0,none⟩) (by show w.heap.size+1≠b2; omega) (.int .u64 (IntKind.u64.wrap (r.pc+n)))
  have B7:=Lib.hid (HB5.out.setCell (p:=⟨b2,0,none⟩) (by show w.heap.size≤b2; omega) (.int .u64 (IntKind.u64.wrap (r.pc+n))))
  have O8:=O7.pc_ (IntKind.u64.wrap (x+IntKind.u64.wrap i.imm) / 2*2)
  have E8:=E7.far (p:=⟨b2,0,none⟩) (by show w.heap.size+1≠b2; omega) (.int .u64 (IntKind.u64.wrap (x+IntKind.u64.wrap i.imm) / 2*2))
  have B8:=Lib.hid (B7.out.setCell (p:=⟨b2,0,none⟩) (by show w.heap.size≤b2; omega) (.int .u64 (IntKind.u64.wrap (x+IntKind.u64.wrap i.imm) / 2*2)))
  have O9:=O8.reg_ i.rd h3 ((IntKind.u64.wrap (r.pc+n)))
  have E9:=E8.far (p:=⟨b2,1+i.rd,none⟩) (by show w.heap.size+1≠b2; omega) (.int .u64 ((IntKind.u64.wrap (r.pc+n))))
  have B9:=Lib.hid (B8.out.setCell (p:=⟨b2,1+i.rd,none⟩) (by show w.heap.size≤b2; omega) (.int .u64 ((IntKind.u64.wrap (r.pc+n)))))
  obtain ⟨co,Ob,hszO,hso,hone,HCO⟩:=O9.cells
  go_wp2_with (first
   | (refine wpList_load_row rfl 27 (.tmp 7) rfl b2 rfl 27 co (0,0) _ Ob Tryz.underlying27 rfl hszO ?_)
   | (refine wpList_store_row rfl 27 (.tmp 2) (.tmp 222) rfl (w.heap.size+1) co rfl rfl 27 _ E9 hszO (by rw [hso.out,hZ.out]) hone ?_))
  refine bodyPost_ret (results_cell_tmp rfl _ _ (w.heap.size+1) 27 co (0,0) _ rfl (setRow_heap _ _ _ _ _ _ E9) Tryz.underlying27 rfl hszO) rfl ?_
  rw [wr_s HRD.out]
  exact fin_some O9 HCO B9.out (by omega) (by omega)
theorem goD_noC {cs:Array Value} {r:Rn} {w:World} {i:Ins} {x y:Int} {nm:ByteArray} {n:Nat} (G:GoH cs r w i x y nm n 67) : Calls Tryz.prog 35 #[.agg cs] w (StepPost w (.agg cs) (none)):=by
 refine goD_pre G fun w5 b1 b2 mv2 tv2 Z ca K hK hlen O6 HCA D6 E6 hZ J6 HB5 hz1 hz2 lg n1 n2 n3 n4 k1 k2 k3 k4 d0 dx dy q0 f0=>?_
 change Code.wp _ (.region 7 _ _) _ _ _
 change ∀ a W,Code.wp _ (.seq _ _) _ _ _→_ at hK
 have hn:=G.hn
 have h1:=G.h1
 have h2:=G.h2
 have h3:=G.h3
 have hs:=G.hs
 have hsz:=G.sz
 have hall:=G.hall
 have O7:=O6.pc_ (IntKind.u64.wrap (r.pc+n))
 have E7:=E6.far (p:=⟨b2,0,none⟩) (by show w.heap.size+1≠b2; omega) (.int .u64 (IntKind.u64.wrap (r.pc+n)))
 have B7:=Lib.hid (HB5.out.setCell (p:=⟨b2,0,none⟩) (by show w.heap.size≤b2; omega) (.int .u64 (IntKind.u64.wrap (r.pc+n))))
 have D7:=D6.far (p:=⟨b2,0,none⟩) (by show w.heap.size≠b2; omega) (.int .u64 (IntKind.u64.wrap (r.pc+n)))
 go_wp2_with (first
  | (refine wpList_load_row rfl 27 (.tmp 1) rfl w.heap.size rfl 27 cs (0,0) _ D7 Tryz.underlying27 rfl hsz ?_)
  | (refine wpList_store_row rfl 27 (.tmp 2) (.tmp 210) rfl (w.heap.size+1) cs rfl rfl 27 _ E7 hsz (by rw [hs.out,hZ.out]) hall ?_))
 refine bodyPost_ret (results_cell_tmp rfl _ _ (w.heap.size+1) 27 cs (0,0) _ rfl (setRow_heap _ _ _ _ _ _ E7) Tryz.underlying27 rfl hsz) rfl ?_
 exact fin_none B7.out (by omega)
theorem goD_noZ {cs:Array Value} {r:Rn} {w:World} {i:Ins} {x y:Int} {nm:ByteArray} {n:Nat} (G:GoH cs r w i x y nm n 90) : Calls Tryz.prog 35 #[.agg cs] w (StepPost w (.agg cs) (none)):=by
 refine goD_pre G fun w5 b1 b2 mv2 tv2 Z ca K hK hlen O6 HCA D6 E6 hZ J6 HB5 hz1 hz2 lg n1 n2 n3 n4 k1 k2 k3 k4 d0 dx dy q0 f0=>?_
 change Code.wp _ (.region 7 _ _) _ _ _
 change ∀ a W,Code.wp _ (.seq _ _) _ _ _→_ at hK
 have hn:=G.hn
 have h1:=G.h1
 have h2:=G.h2
 have h3:=G.h3
 have hs:=G.hs
 have hsz:=G.sz
 have hall:=G.hall
 have O7:=O6.pc_ (IntKind.u64.wrap (r.pc+n))
 have E7:=E6.far (p:=⟨b2,0,none⟩) (by show w.heap.size+1≠b2; omega) (.int .u64 (IntKind.u64.wrap (r.pc+n)))
 have B7:=Lib.hid (HB5.out.setCell (p:=⟨b2,0,none⟩) (by show w.heap.size≤b2; omega) (.int .u64 (IntKind.u64.wrap (r.pc+n))))
 have D7:=D6.far (p:=⟨b2,0,none⟩) (by show w.heap.size≠b2; omega) (.int .u64 (IntKind.u64.wrap (r.pc+n)))
 go_wp2_with (first
  | (refine wpList_load_row rfl 27 (.tmp 1) rfl w.heap.size rfl 27 cs (0,0) _ D7 Tryz.underlying27 rfl hsz ?_)
  | (refine wpList_store_row rfl 27 (.tmp 2) (.tmp 210) rfl (w.heap.size+1) cs rfl rfl 27 _ E7 hsz (by rw [hs.out,hZ.out]) hall ?_))
 refine bodyPost_ret (results_cell_tmp rfl _ _ (w.heap.size+1) 27 cs (0,0) _ rfl (setRow_heap _ _ _ _ _ _ E7) Tryz.underlying27 rfl hsz) rfl ?_
 exact fin_none B7.out (by omega)
theorem goD_nol {cs:Array Value} {r:Rn} {w:World} {i:Ins} {x y:Int} {nm:ByteArray} {n:Nat} (G:GoH cs r w i x y nm n 108) : Calls Tryz.prog 35 #[.agg cs] w (StepPost w (.agg cs) (none)):=by
 refine goD_pre G fun w5 b1 b2 mv2 tv2 Z ca K hK hlen O6 HCA D6 E6 hZ J6 HB5 hz1 hz2 lg n1 n2 n3 n4 k1 k2 k3 k4 d0 dx dy q0 f0=>?_
 change Code.wp _ (.region 7 _ _) _ _ _
 change ∀ a W,Code.wp _ (.seq _ _) _ _ _→_ at hK
 have hn:=G.hn
 have h1:=G.h1
 have h2:=G.h2
 have h3:=G.h3
 have hs:=G.hs
 have hsz:=G.sz
 have hall:=G.hall
 have O7:=O6.pc_ (IntKind.u64.wrap (r.pc+n))
 have E7:=E6.far (p:=⟨b2,0,none⟩) (by show w.heap.size+1≠b2; omega) (.int .u64 (IntKind.u64.wrap (r.pc+n)))
 have B7:=Lib.hid (HB5.out.setCell (p:=⟨b2,0,none⟩) (by show w.heap.size≤b2; omega) (.int .u64 (IntKind.u64.wrap (r.pc+n))))
 have D7:=D6.far (p:=⟨b2,0,none⟩) (by show w.heap.size≠b2; omega) (.int .u64 (IntKind.u64.wrap (r.pc+n)))
 go_wp2_with (first
  | (refine wpList_load_row rfl 27 (.tmp 1) rfl w.heap.size rfl 27 cs (0,0) _ D7 Tryz.underlying27 rfl hsz ?_)
  | (refine wpList_store_row rfl 27 (.tmp 2) (.tmp 210) rfl (w.heap.size+1) cs rfl rfl 27 _ E7 hsz (by rw [hs.out,hZ.out]) hall ?_))
 refine bodyPost_ret (results_cell_tmp rfl _ _ (w.heap.size+1) 27 cs (0,0) _ rfl (setRow_heap _ _ _ _ _ _ E7) Tryz.underlying27 rfl hsz) rfl ?_
 exact fin_none B7.out (by omega)
theorem goD_noA {cs:Array Value} {r:Rn} {w:World} {i:Ins} {x y:Int} {nm:ByteArray} {n:Nat} (G:GoH cs r w i x y nm n 65) : Calls Tryz.prog 35 #[.agg cs] w (StepPost w (.agg cs) (none)):=by
 refine goD_pre G fun w5 b1 b2 mv2 tv2 Z ca K hK hlen O6 HCA D6 E6 hZ J6 HB5 hz1 hz2 lg n1 n2 n3 n4 k1 k2 k3 k4 d0 dx dy q0 f0=>?_
 change Code.wp _ (.region 7 _ _) _ _ _
 change ∀ a W,Code.wp _ (.seq _ _) _ _ _→_ at hK
 have hn:=G.hn
 have h1:=G.h1
 have h2:=G.h2
 have h3:=G.h3
 have hs:=G.hs
 have hsz:=G.sz
 have hall:=G.hall
 have O7:=O6.pc_ (IntKind.u64.wrap (r.pc+n))
 have E7:=E6.far (p:=⟨b2,0,none⟩) (by show w.heap.size+1≠b2; omega) (.int .u64 (IntKind.u64.wrap (r.pc+n)))
 have B7:=Lib.hid (HB5.out.setCell (p:=⟨b2,0,none⟩) (by show w.heap.size≤b2; omega) (.int .u64 (IntKind.u64.wrap (r.pc+n))))
 have D7:=D6.far (p:=⟨b2,0,none⟩) (by show w.heap.size≠b2; omega) (.int .u64 (IntKind.u64.wrap (r.pc+n)))
 go_wp2_with (first
  | (refine wpList_load_row rfl 27 (.tmp 1) rfl w.heap.size rfl 27 cs (0,0) _ D7 Tryz.underlying27 rfl hsz ?_)
  | (refine wpList_store_row rfl 27 (.tmp 2) (.tmp 210) rfl (w.heap.size+1) cs rfl rfl 27 _ E7 hsz (by rw [hs.out,hZ.out]) hall ?_))
 refine bodyPost_ret (results_cell_tmp rfl _ _ (w.heap.size+1) 27 cs (0,0) _ rfl (setRow_heap _ _ _ _ _ _ E7) Tryz.underlying27 rfl hsz) rfl ?_
 exact fin_none B7.out (by omega)
end Go.Proofs.YtoehlmiadiiimaaGreatDoor
