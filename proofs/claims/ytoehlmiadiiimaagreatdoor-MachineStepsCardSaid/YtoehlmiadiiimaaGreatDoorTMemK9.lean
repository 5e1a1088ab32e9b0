import Derived.Test.YtoehlmiadiiimaaGreatDoorTMemJP
import Derived.Maps.AppendAt
/-
  The machine, as the document has it: what an instruction does: calls.
-/
namespace Go.Proofs.YtoehlmiadiiimaaGreatDoor
open Go.ChangeShapes Go.WideShapes Go.RowKit Go.Proofs.YtoehlmiadiiimaaGreatDoor.Ex
theorem heap_alloc_at {X:World} {o:Obj} {k:Nat} (h:X.heap.size=k) : (X.alloc o).heap[k]?=some o:=by subst h; exact heap_alloc_new X o
theorem grown_alloc {w w1:World} {o:Obj} {row:Option Nat} (h:(w.alloc o).grownBy w1 row) : w.grownBy w1 row :=
 ⟨h.os,h.tape,h.output,Nat.le_trans (by simp) h.size,fun i hi hne=>(h.block i (by simp; omega) hne).trans (Below.heap_alloc w o i hi)⟩
theorem OutW.told_ {B g:Nat} {w w1:World} {r:Rn} {mv tv v':Value} {x:Int} (h:OutW B w g r mv tv) (hgr:w.grownBy w1 tv.ownBlock) (hown:w1.ownsRow B 22 1 v' (r.told.length+1) (r.told.map (.int .u64) ++ [.int .u64 x])) :
  OutW B (w1.setCell ⟨g,35,none⟩ v') g { r with told:=r.told ++ [x] } mv v':=by
 have hb1:Blk w1 g 27 (mcells r mv tv).toArray:=h.blk.grown hgr (Ne.symm h.tne)
 have hm1:w1.ownsRow B 5 1 mv r.mem.length (r.mem.map (.int .u8)):=h.mem.kept hgr (own_own_ne h.mem h.told (by decide))
 have hne:=own_blk_ne hown hb1 (by decide)
 have hne':=own_blk_ne hm1 hb1 (by decide)
 exact ⟨h.len,h.ge,by have:=hb1.set_ 35 v'; rwa [mt35 h.len _ (r.told ++ [x])] at this,own_set_far hm1 (p:=⟨g,35,none⟩) hne' _,
   by have:=own_set_far hown (p:=⟨g,35,none⟩) hne v'; simpa using this⟩
end Go.Proofs.YtoehlmiadiiimaaGreatDoor

/-
  The machine, as the document has it: what an instruction does: calls, told.
-/
namespace Go.Proofs.YtoehlmiadiiimaaGreatDoor
open Go.ChangeShapes Go.WideShapes Go.RowKit Go.Proofs.YtoehlmiadiiimaaGreatDoor.Ex
set_option maxRecDepth 100000 in
set_option maxHeartbeats 4000000 in
theorem goD_Nx {cs:Array Value} {r:Rn} {w:World} {i:Ins} {x y:Int} {nm:ByteArray} {n:Nat} (G:GoH cs r w i x y nm n 78) (r10 r17:Int) (T:Option Addr) (cT:Nat) (h11:cs[11]?=some (.int .u64 r10)) (h18:cs[18]?=some (.int .u64 r17)) (h35:cs[35]?=some (.slice T r.told.length cT)) (htl:r.told.length≤1000000) (hnm:(nm.toList == [101,99,97,108,108])=false) : Calls Tryz.prog 35 #[.agg cs] w (StepPost w (.agg cs) (none)):=by
 refine goD_pre G fun w5 b1 b2 mv2 tv2 Z ca K hK hlen O6 HCA D6 E6 hZ J6 HB5 hz1 hz2 lg n1 n2 n3 n4 k1 k2 k3 k4 d0 dx dy q0 f0=>?_
 change Code.wp _ (.region 7 _ _) _ _ _
 change ∀ a W,Code.wp _ (.seq _ _) _ _ _→_ at hK
 have hn:=G.hn
 have h1:=G.h1
 have h2:=G.h2
 have h3:=G.h3
 have hs:=G.hs
 have hsz:=G.sz
 have hall:=G.hall
 obtain ⟨j0,hj0,hy0,hy1,hy2⟩:=info_parts info22
 have O7:=O6.pc_ (IntKind.u64.wrap (r.pc+n))
 have E7:=E6.far (p:=⟨b2,0,none⟩) (by show w.heap.size+1≠b2; omega) (.int .u64 (IntKind.u64.wrap (r.pc+n)))
 have B7:=Lib.hid (HB5.out.setCell (p:=⟨b2,0,none⟩) (by show w.heap.size≤b2; omega) (.int .u64 (IntKind.u64.wrap (r.pc+n))))
 have D7:=D6.far (p:=⟨b2,0,none⟩) (by show w.heap.size≠b2; omega) (.int .u64 (IntKind.u64.wrap (r.pc+n)))
 have J7:=J6.far (p:=⟨b2,0,none⟩) (by show b1≠b2; omega) (.int .u64 (IntKind.u64.wrap (r.pc+n)))
 have e11:=(D6.cell 11).trans h11
 have e35:=(D6.cell 35).trans h35
 have q35':=(O6.blk.cell 35).trans (mc35 hlen)
 have hs25:Hid (∃ A c,tv2=.slice A r.told.length c):=Lib.hid (by obtain ⟨A,c,h,_⟩:=own_slice O6.told; exact ⟨A,c,h⟩)
 go_wp2_with (first
  | (at_builtin
     refine wpList_append_own_at _ rfl (.tmp 196) (.tmp 200) 25 rfl (b1+1) 22 j0 _ 1 8 Tryz.underlying25 hj0 hy0 hy1 hy2 rfl (by decide) tv2 r.told.length (r.told.map (.int .u64)) rfl (O7.told.alloc _) _ 1 1 [.int .u64 r10] rfl (by simp) (World.news_of_block (cs:=#[.int .u64 r10]) (t:=22) (fr:=(0,0)) (heap_alloc_at (by simp))) (by simp [Value.oneCell']) (by unfold maxLen; omega) (by omega) (by simp; omega) ?_
     intro v' w8 hown hgr _ _
     replace hgr:=grown_alloc hgr
     obtain ⟨A8,c8,rfl,_⟩:=own_slice hown
     have hz8:w.heap.size+2≤w8.heap.size:=Nat.le_trans (by simp; omega) hgr.size
     have ne8:∀ k,k < b1+1→some k≠tv2.ownBlock:=fun k hk e=>by have:=(O7.told.lt k e.symm).1; omega
     have D8:=D7.grown hgr (ne8 _ (by omega))
     have E8:=E7.grown hgr (ne8 _ (by omega))
     have J8:=J7.grown hgr (ne8 _ (by omega))
     have O8:=O7.told_ hgr hown
     have O8b:=O7.blk.grown hgr (Ne.symm O7.tne)
     have B8:=Lib.hid (B7.out.grown hgr B7.out.size (fun k hk=>by have:=(O7.told.lt k hk).1; omega))
     have e18:=(D8.cell 18).trans h18
     have q35:=O8b.cell 35
     have q36:=O8b.cell 36
     have g35:=O8b.frozen 35
     have g36:=O8b.frozen 36
     have c35:=q35.trans (mc35 O7.len)
     have c36:=q36.trans (mc36 O7.len)
     have kr:=J8.cell 1
     have hgl:=O8b.lt
     clear q35 q36 hown hgr)
  | (refine wpList_load_row rfl 27 (.tmp 1) rfl w.heap.size rfl 27 cs (0,0) _ ((D8.far (p:=⟨b2,35,none⟩) (by show w.heap.size≠b2; omega) _).far (p:=⟨b2,36,none⟩) (by show w.heap.size≠b2; omega) _) Tryz.underlying27 rfl hsz ?_)
  | (refine wpList_store_row rfl 27 (.tmp 2) (.tmp 210) rfl (w.heap.size+1) cs rfl rfl 27 _ ((E8.far (p:=⟨b2,35,none⟩) (by show w.heap.size+1≠b2; omega) _).far (p:=⟨b2,36,none⟩) (by show w.heap.size+1≠b2; omega) _) hsz (by rw [hs.out,hZ.out]) hall ?_))
 refine bodyPost_ret (results_cell_tmp rfl _ _ (w.heap.size+1) 27 cs (0,0) _ rfl (setRow_heap _ _ _ _ _ _ ((E8.far (p:=⟨b2,35,none⟩) (by show w.heap.size+1≠b2; omega) _).far (p:=⟨b2,36,none⟩) (by show w.heap.size+1≠b2; omega) _)) Tryz.underlying27 rfl hsz) rfl ?_
 exact fin_none ((B8.out.setCell (p:=⟨b2,35,none⟩) (by show w.heap.size≤b2; omega) _).setCell (p:=⟨b2,36,none⟩) (by show w.heap.size≤b2; omega) _) (by omega)
end Go.Proofs.YtoehlmiadiiimaaGreatDoor

/-
  The machine, as the document has it: what an instruction does: calls, told.
-/
namespace Go.Proofs.YtoehlmiadiiimaaGreatDoor
open Go.ChangeShapes Go.WideShapes Go.RowKit Go.Proofs.YtoehlmiadiiimaaGreatDoor.Ex
set_option maxRecDepth 100000 in
set_option maxHeartbeats 4000000 in
theorem goD_Nfull {cs:Array Value} {r:Rn} {w:World} {i:Ins} {x y:Int} {nm:ByteArray} {n:Nat} (G:GoH cs r w i x y nm n 78) (r10 r17:Int) (T:Option Addr) (cT:Nat) (h11:cs[11]?=some (.int .u64 r10)) (h18:cs[18]?=some (.int .u64 r17)) (h35:cs[35]?=some (.slice T r.told.length cT)) (htl:r.told.length≤1000000) (hnm:(nm.toList == [101,99,97,108,108])=true) (hl:decide ((r.told.length:Int) < 1000)=false) (_hl':decide (r.told.length < 1000)=false) : Calls Tryz.prog 35 #[.agg cs] w (StepPost w (.agg cs) (none)):=by
 refine goD_pre G fun w5 b1 b2 mv2 tv2 Z ca K hK hlen O6 HCA D6 E6 hZ J6 HB5 hz1 hz2 lg n1 n2 n3 n4 k1 k2 k3 k4 d0 dx dy q0 f0=>?_
 change Code.wp _ (.region 7 _ _) _ _ _
 change ∀ a W,Code.wp _ (.seq _ _) _ _ _→_ at hK
 have hn:=G.hn
 have h1:=G.h1
 have h2:=G.h2
 have h3:=G.h3
 have hs:=G.hs
 have hsz:=G.sz
 have hall:=G.hall
 obtain ⟨j0,hj0,hy0,hy1,hy2⟩:=info_parts info22
 have O7:=O6.pc_ (IntKind.u64.wrap (r.pc+n))
 have E7:=E6.far (p:=⟨b2,0,none⟩) (by show w.heap.size+1≠b2; omega) (.int .u64 (IntKind.u64.wrap (r.pc+n)))
 have B7:=Lib.hid (HB5.out.setCell (p:=⟨b2,0,none⟩) (by show w.heap.size≤b2; omega) (.int .u64 (IntKind.u64.wrap (r.pc+n))))
 have D7:=D6.far (p:=⟨b2,0,none⟩) (by show w.heap.size≠b2; omega) (.int .u64 (IntKind.u64.wrap (r.pc+n)))
 have J7:=J6.far (p:=⟨b2,0,none⟩) (by show b1≠b2; omega) (.int .u64 (IntKind.u64.wrap (r.pc+n)))
 have e11:=(D6.cell 11).trans h11
 have e35:=(D6.cell 35).trans h35
 have q35':=(O6.blk.cell 35).trans (mc35 hlen)
 have hs25:Hid (∃ A c,tv2=.slice A r.told.length c):=Lib.hid (by obtain ⟨A,c,h,_⟩:=own_slice O6.told; exact ⟨A,c,h⟩)
 go_wp2_with (first
  | (at_builtin
     refine wpList_append_own_at _ rfl (.tmp 196) (.tmp 200) 25 rfl (b1+1) 22 j0 _ 1 8 Tryz.underlying25 hj0 hy0 hy1 hy2 rfl (by decide) tv2 r.told.length (r.told.map (.int .u64)) rfl (O7.told.alloc _) _ 1 1 [.int .u64 r10] rfl (by simp) (World.news_of_block (cs:=#[.int .u64 r10]) (t:=22) (fr:=(0,0)) (heap_alloc_at (by simp))) (by simp [Value.oneCell']) (by unfold maxLen; omega) (by omega) (by simp; omega) ?_
     intro v' w8 hown hgr _ _
     replace hgr:=grown_alloc hgr
     obtain ⟨A8,c8,rfl,_⟩:=own_slice hown
     have hz8:w.heap.size+2≤w8.heap.size:=Nat.le_trans (by simp; omega) hgr.size
     have ne8:∀ k,k < b1+1→some k≠tv2.ownBlock:=fun k hk e=>by have:=(O7.told.lt k e.symm).1; omega
     have D8:=D7.grown hgr (ne8 _ (by omega))
     have E8:=E7.grown hgr (ne8 _ (by omega))
     have J8:=J7.grown hgr (ne8 _ (by omega))
     have O8:=O7.told_ hgr hown
     have O8b:=O7.blk.grown hgr (Ne.symm O7.tne)
     have B8:=Lib.hid (B7.out.grown hgr B7.out.size (fun k hk=>by have:=(O7.told.lt k hk).1; omega))
     have e18:=(D8.cell 18).trans h18
     have q35:=O8b.cell 35
     have q36:=O8b.cell 36
     have g35:=O8b.frozen 35
     have g36:=O8b.frozen 36
     have c35:=q35.trans (mc35 O7.len)
     have c36:=q36.trans (mc36 O7.len)
     have kr:=J8.cell 1
     have hgl:=O8b.lt
     clear q35 q36 hown hgr)
  | (refine wpList_load_row rfl 27 (.tmp 1) rfl w.heap.size rfl 27 cs (0,0) _ ((D8.far (p:=⟨b2,35,none⟩) (by show w.heap.size≠b2; omega) _).far (p:=⟨b2,36,none⟩) (by show w.heap.size≠b2; omega) _) Tryz.underlying27 rfl hsz ?_)
  | (refine wpList_store_row rfl 27 (.tmp 2) (.tmp 210) rfl (w.heap.size+1) cs rfl rfl 27 _ ((E8.far (p:=⟨b2,35,none⟩) (by show w.heap.size+1≠b2; omega) _).far (p:=⟨b2,36,none⟩) (by show w.heap.size+1≠b2; omega) _) hsz (by rw [hs.out,hZ.out]) hall ?_))
 refine bodyPost_ret (results_cell_tmp rfl _ _ (w.heap.size+1) 27 cs (0,0) _ rfl (setRow_heap _ _ _ _ _ _ ((E8.far (p:=⟨b2,35,none⟩) (by show w.heap.size+1≠b2; omega) _).far (p:=⟨b2,36,none⟩) (by show w.heap.size+1≠b2; omega) _)) Tryz.underlying27 rfl hsz) rfl ?_
 exact fin_none ((B8.out.setCell (p:=⟨b2,35,none⟩) (by show w.heap.size≤b2; omega) _).setCell (p:=⟨b2,36,none⟩) (by show w.heap.size≤b2; omega) _) (by omega)
end Go.Proofs.YtoehlmiadiiimaaGreatDoor

/-
  The machine, as the document has it: what an instruction does: calls, told.
-/
namespace Go.Proofs.YtoehlmiadiiimaaGreatDoor
open Go.ChangeShapes Go.WideShapes Go.RowKit Go.Proofs.YtoehlmiadiiimaaGreatDoor.Ex
set_option maxRecDepth 100000 in
set_option maxHeartbeats 4000000 in
theorem goD_Nok {cs:Array Value} {r:Rn} {w:World} {i:Ins} {x y:Int} {nm:ByteArray} {n:Nat} (G:GoH cs r w i x y nm n 78) (r10 r17:Int) (T:Option Addr) (cT:Nat) (h11:cs[11]?=some (.int .u64 r10)) (h18:cs[18]?=some (.int .u64 r17)) (h35:cs[35]?=some (.slice T r.told.length cT)) (htl:r.told.length≤1000000) (hnm:(nm.toList == [101,99,97,108,108])=true) (hl:decide ((r.told.length:Int) < 1000)=true) (_hl':decide (r.told.length < 1000)=true) : Calls Tryz.prog 35 #[.agg cs] w (StepPost w (.agg cs) (some { r with pc:=(IntKind.u64.wrap (r.pc+n)),told:=r.told ++ [r10],done:=r17 == 93 })):=by
 refine goD_pre G fun w5 b1 b2 mv2 tv2 Z ca K hK hlen O6 HCA D6 E6 hZ J6 HB5 hz1 hz2 lg n1 n2 n3 n4 k1 k2 k3 k4 d0 dx dy q0 f0=>?_
 change Code.wp _ (.region 7 _ _) _ _ _
 change ∀ a W,Code.wp _ (.seq _ _) _ _ _→_ at hK
 have hn:=G.hn
 have h1:=G.h1
 have h2:=G.h2
 have h3:=G.h3
 obtain ⟨j0,hj0,hy0,hy1,hy2⟩:=info_parts info22
 have O7:=O6.pc_ (IntKind.u64.wrap (r.pc+n))
 have E7:=E6.far (p:=⟨b2,0,none⟩) (by show w.heap.size+1≠b2; omega) (.int .u64 (IntKind.u64.wrap (r.pc+n)))
 have B7:=Lib.hid (HB5.out.setCell (p:=⟨b2,0,none⟩) (by show w.heap.size≤b2; omega) (.int .u64 (IntKind.u64.wrap (r.pc+n))))
 have D7:=D6.far (p:=⟨b2,0,none⟩) (by show w.heap.size≠b2; omega) (.int .u64 (IntKind.u64.wrap (r.pc+n)))
 have J7:=J6.far (p:=⟨b2,0,none⟩) (by show b1≠b2; omega) (.int .u64 (IntKind.u64.wrap (r.pc+n)))
 have e11:=(D6.cell 11).trans h11
 have e35:=(D6.cell 35).trans h35
 have q35':=(O6.blk.cell 35).trans (mc35 hlen)
 have hs25:Hid (∃ A c,tv2=.slice A r.told.length c):=Lib.hid (by obtain ⟨A,c,h,_⟩:=own_slice O6.told; exact ⟨A,c,h⟩)
 go_wp2_with (first
  | (at_builtin
     refine wpList_append_own_at _ rfl (.tmp 196) (.tmp 200) 25 rfl (b1+1) 22 j0 _ 1 8 Tryz.underlying25 hj0 hy0 hy1 hy2 rfl (by decide) tv2 r.told.length (r.told.map (.int .u64)) rfl (O7.told.alloc _) _ 1 1 [.int .u64 r10] rfl (by simp) (World.news_of_block (cs:=#[.int .u64 r10]) (t:=22) (fr:=(0,0)) (heap_alloc_at (by simp))) (by simp [Value.oneCell']) (by unfold maxLen; omega) (by omega) (by simp; omega) ?_
     intro v' w8 hown hgr _ _
     replace hgr:=grown_alloc hgr
     obtain ⟨A8,c8,rfl,_⟩:=own_slice hown
     have hz8:w.heap.size+2≤w8.heap.size:=Nat.le_trans (by simp; omega) hgr.size
     have ne8:∀ k,k < b1+1→some k≠tv2.ownBlock:=fun k hk e=>by have:=(O7.told.lt k e.symm).1; omega
     have D8:=D7.grown hgr (ne8 _ (by omega))
     have E8:=E7.grown hgr (ne8 _ (by omega))
     have J8:=J7.grown hgr (ne8 _ (by omega))
     have O8:=O7.told_ hgr hown
     have O8b:=O7.blk.grown hgr (Ne.symm O7.tne)
     have B8:=Lib.hid (B7.out.grown hgr B7.out.size (fun k hk=>by have:=(O7.told.lt k hk).1; omega))
     have e18:=(D8.cell 18).trans h18
     have q35:=O8b.cell 35
     have q36:=O8b.cell 36
     have g35:=O8b.frozen 35
     have g36:=O8b.frozen 36
     have c35:=q35.trans (mc35 O7.len)
     have c36:=q36.trans (mc36 O7.len)
     have kr:=J8.cell 1
     have hgl:=O8b.lt
     clear q35 q36 hown hgr)
  | (refine wpList_load_row rfl 27 (.tmp 7) rfl b2 rfl 27 _ (0,0) _ (O8.done_ (r17 == 93)).blk Tryz.underlying27 rfl (by rw [mc_size (O8.done_ (r17 == 93)).len]; exact info27) ?_)
  | (refine wpList_store_row rfl 27 (.tmp 2) (.tmp 222) rfl (w.heap.size+1) _ rfl rfl 27 _ ((E8.far (p:=⟨b2,35,none⟩) (by show w.heap.size+1≠b2; omega) (.slice A8 (r.told.length+1) c8)).far (p:=⟨b2,36,none⟩) (by show w.heap.size+1≠b2; omega) (.bool (r17 == 93))) (by rw [mc_size (O8.done_ (r17 == 93)).len]; exact info27) (by rw [mc_size (O8.done_ (r17 == 93)).len,hZ.out]) (mc_one (own_one (O8.done_ (r17 == 93)).mem) (own_one (O8.done_ (r17 == 93)).told)) ?_))
 refine bodyPost_ret (results_cell_tmp rfl _ _ (w.heap.size+1) 27 _ (0,0) _ rfl (setRow_heap _ _ _ _ _ _ ((E8.far (p:=⟨b2,35,none⟩) (by show w.heap.size+1≠b2; omega) (.slice A8 (r.told.length+1) c8)).far (p:=⟨b2,36,none⟩) (by show w.heap.size+1≠b2; omega) (.bool (r17 == 93)))) Tryz.underlying27 rfl (by rw [mc_size (O8.done_ (r17 == 93)).len]; exact info27)) rfl ?_
 exact fin_some (O8.done_ (r17 == 93)) (Lib.hid rfl) ((B8.out.setCell (p:=⟨b2,35,none⟩) (by show w.heap.size≤b2; omega) _).setCell (p:=⟨b2,36,none⟩) (by show w.heap.size≤b2; omega) _) (by omega) (by omega)
end Go.Proofs.YtoehlmiadiiimaaGreatDoor

