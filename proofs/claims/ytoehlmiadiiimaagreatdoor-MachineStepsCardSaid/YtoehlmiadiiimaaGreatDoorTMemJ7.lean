import Derived.Test.YtoehlmiadiiimaaGreatDoorTMemR5
import Derived.StillTailTactics
/-
  The machine, as the document has it: copies; a machine under way in memory.
-/
namespace Go.Proofs.YtoehlmiadiiimaaGreatDoor
open Go.ChangeShapes Go.WideShapes Go.RowKit Go.Proofs.YtoehlmiadiiimaaGreatDoor.Ex
section
variable {r:Rn} {mv tv:Value}
theorem mt0 (x:Int) : (mcells r mv tv).toArray.setIfInBounds 0 (.int .u64 x)=(mcells { r with pc:=x } mv tv).toArray:=by simp [mcells]
theorem mt35 (h:r.regs.length=32) (tv':Value) (l:List Int) : (mcells r mv tv).toArray.setIfInBounds 35 tv'=(mcells { r with told:=l } mv tv').toArray:=by simp [mcells,h]
theorem mt36 (h:r.regs.length=32) (x:Bool) : (mcells r mv tv).toArray.setIfInBounds 36 (.bool x)=(mcells { r with done:=x } mv tv).toArray:=by simp [mcells,h]
theorem mtR (h:r.regs.length=32) (i:Nat) (hi:i < 32) (x:Int) : (mcells r mv tv).toArray.setIfInBounds (1+i) (.int .u64 x)=(mcells { r with regs:=r.regs.set i x } mv tv).toArray:=by
 rw [Nat.add_comm]
 simp [mcells,h,hi,List.map_set]
end
structure OutW (B:Nat) (w:World) (g:Nat) (r:Rn) (mv tv:Value) : Prop where
 len:r.regs.length=32
 ge:B≤g
 blk:Blk w g 27 (mcells r mv tv).toArray
 mem:w.ownsRow B 5 1 mv r.mem.length (r.mem.map (.int .u8))
 told:w.ownsRow B 22 1 tv r.told.length (r.told.map (.int .u64))
namespace OutW
variable {B g:Nat} {w w':World} {r:Rn} {mv tv:Value}
theorem fz (h:OutW B w g r mv tv) (i:Nat) : w.frozen? ⟨g,i,none⟩=false:=h.blk.frozen i
theorem mne (h:OutW B w g r mv tv) : mv.ownBlock≠some g:=own_blk_ne h.mem h.blk (by decide)
theorem tne (h:OutW B w g r mv tv) : tv.ownBlock≠some g:=own_blk_ne h.told h.blk (by decide)
theorem set_ (h:OutW B w g r mv tv) {i:Nat} {u:Value} {r':Rn} (e:(mcells r mv tv).toArray.setIfInBounds i u=(mcells r' mv tv).toArray) (hl:r'.regs.length=32) (hm:r'.mem=r.mem) (ht:r'.told=r.told) :
  OutW B (w.setCell ⟨g,i,none⟩ u) g r' mv tv where
 len:=hl
 ge:=h.ge
 blk:=by rw [← e]; exact h.blk.set_ i u
 mem:=by rw [hm]; exact own_set_far h.mem (p:=⟨g,i,none⟩) h.mne u
 told:=by rw [ht]; exact own_set_far h.told (p:=⟨g,i,none⟩) h.tne u
theorem pc_ (h:OutW B w g r mv tv) (x:Int) : OutW B (w.setCell ⟨g,0,none⟩ (.int .u64 x)) g { r with pc:=x } mv tv:=h.set_ (mt0 x) h.len rfl rfl
theorem done_ (h:OutW B w g r mv tv) (x:Bool) : OutW B (w.setCell ⟨g,36,none⟩ (.bool x)) g { r with done:=x } mv tv:=h.set_ (mt36 h.len x) h.len rfl rfl
theorem reg_ (h:OutW B w g r mv tv) (i:Nat) (hi:i < 32) (x:Int) : OutW B (w.setCell ⟨g,1+i,none⟩ (.int .u64 x)) g { r with regs:=r.regs.set i x } mv tv:=h.set_ (mtR h.len i hi x) (by simpa using h.len) rfl rfl
theorem below (h:OutW B w g r mv tv) (hb:Below w.heap.size w w') : OutW B w' g r mv tv :=
 ⟨h.len,h.ge,h.blk.below hb h.blk.lt,own_below h.mem hb,own_below h.told hb⟩
theorem alloc (h:OutW B w g r mv tv) (o:Obj) : OutW B (w.alloc o) g r mv tv:=⟨h.len,h.ge,h.blk.alloc o,h.mem.alloc o,h.told.alloc o⟩
theorem drew (h:OutW B w g r mv tv) : OutW B w.drew g r mv tv:=⟨h.len,h.ge,h.blk,h.mem,h.told⟩
theorem row (h:OutW B w g r mv tv) {p:Nat} (h0:p < B) (cs:Array Value) : OutW B (w.setRow p cs) g r mv tv :=
 ⟨h.len,h.ge,(setRow_other w p g cs (by have:=h.ge; omega)).trans h.blk,own_setRow_far h.mem (fun e=>by have:=(h.mem.lt _ e).1; omega) cs,own_setRow_far h.told (fun e=>by have:=(h.told.lt _ e).1; omega) cs⟩
theorem made {z:Array Value} (ho:MachO B w (.agg (mcells r mv tv).toArray) r) (hm:w.ownsRow B 5 1 mv r.mem.length (r.mem.map (.int .u8))) (ht:w.ownsRow B 22 1 tv r.told.length (r.told.map (.int .u64))) (hB:B≤w.heap.size) :
  OutW B ((w.alloc (.cells z 27)).setRow w.heap.size (mcells r mv tv).toArray) w.heap.size r mv tv :=
 ⟨ho.len,hB,setRow_heap _ _ z _ 27 (0,0) (heap_alloc_new w _),own_setRow_far (hm.alloc _) (fun e=>by have:=(hm.lt _ e).2; omega) _,own_setRow_far (ht.alloc _) (fun e=>by have:=(ht.lt _ e).2; omega) _⟩
theorem out (h:OutW B w g r mv tv) {C:Nat} (hC:C≤B) : MachO C w (.agg (mcells r mv tv).toArray) r:=⟨h.len,mv,tv,rfl,h.mem.mono hC,h.told.mono hC⟩
end OutW
theorem wpStill_load_row {P:Program} {ops:Array Oper} {w:World} {Q:Act→Prop} {a:Act} {o:Oper} {rest:List Oper} (hgd:o.guard=none) (ty:TypeId) (x:Operand) (ho:o.op=.load ty x)
  (g:Nat) (hx:a.eval x=.pointer (some ⟨g,0,none⟩)) (t:TypeId) (cs:Array Value) (fr:Nat×Nat) (d:TypeDesc) (hg:w.heap[g]?=some (.cells cs t fr))
  (hu:P.underlying ty=some d) (hd:(match d with | .struct _ | .array _ _=>true | _=>false)=true) (hi:(P.info? ty).map (·.size)=some cs.size)
  (h:wpStill P ops w Q rest (a.put o.dst (.agg cs))) : wpStill P ops w Q (o :: rest) a:=by
 refine wpStill_step fun K hK=>?_
 have hw:Region.wanted o (yielded ops a.tmps)=true:=by unfold Region.wanted; rw [hgd]
 rw [if_pos hw]
 unfold Oper.still execOp
 simp only [ho,hx,Instr.loadAt,Instr.sureAddr,Sem.run_bind,Sem.run_pure,Result.andThen_ok,run_loadVar_row w g t ty cs fr d hg hu hd hi]
 rw [Oper.stillUpon_value]
 exact hK _ h
end Go.Proofs.YtoehlmiadiiimaaGreatDoor

/-
  The machine, as the document has it: copies.
-/
namespace Go.Proofs.YtoehlmiadiiimaaGreatDoor
open Go.ChangeShapes Go.WideShapes Go.RowKit Go.Proofs.YtoehlmiadiiimaaGreatDoor.Ex
theorem run_append_nil0 {P:Program} (w:World) (t ty e:TypeId) (i:TypeInfo) (ht:P.underlying t=some (.slice e)) (hi:P.info? e=some i) (c:Nat) : (Builtin.append_ #[t,t] ty #[.slice none 0 0,.slice none 0 c]).run P w=.ok (.slice none 0 0) w:=by
 simp [Builtin.append_,run_underlying ht,sizeOf,typeInfo,hi,Builtin.lenOf,Builtin.firstCells]
theorem run_append_rd {P:Program} (w:World) (t ty e:TypeId) (i:TypeInfo) (z:Value) (bytes:Nat) (ht:P.underlying t=some (.slice e)) (hi:P.info? e=some i) (hz:i.zero=some z)
  (hsize:i.size=1) (hby:i.bytes=bytes) (hzs:z.cells.size=1) (A:Option Addr) (m c:Nat) (xs:List Value) (hr:RdS w (.slice A m c) xs) (h1:∀ u∈xs,u.oneCell'=true) (h63:m≤maxLen) (hbytes:m*bytes≤140737488355328) :
  ∃ v' w',(Builtin.append_ #[t,t] ty #[.slice none 0 0,.slice A m c]).run P w=.ok v' w'∧w'.ownsRow w.heap.size e 1 v' m xs∧Below w.heap.size w w'∧∃ A' c',v'=.slice A' m c':=by
 obtain ⟨A',c',hv,hc,hA⟩:=hr.form
 injection hv with hv1 hv2 hv3
 subst hv1; subst hv2; subst hv3
 cases A with
 | none =>
  have h0:xs=[]:=by
   rcases Nat.lt_or_ge 0 xs.length with h | h
   ·obtain ⟨ad,he,_⟩:=hA h; cases he
   ·exact List.eq_nil_of_length_eq_zero (by omega)
  subst h0
  exact ⟨_,w,run_append_nil0 w t ty e i ht hi c,World.ownsRow_nil w _ _ _,Below.refl _ _,none,0,rfl⟩
 | some ad =>
  have hcells:∀ j u,xs[j]?=some u→w.cell? (ad.add j)=some u:=fun j u hu=>by
   have h0:0 < xs.length:=by
    rcases Nat.lt_or_ge 0 xs.length with h | h
    ·exact h
    ·rw [List.getElem?_eq_none (by omega)] at hu; cases hu
   obtain ⟨ad',he,_,hc'⟩:=hA h0
   injection he with he
   subst he
   exact hc' j u hu
  obtain ⟨v',w',hrun,h2,h3,_,h5⟩:=run_append_own_at (P:=P) w w.heap.size t ty e i z 1 bytes ht hi hz hsize hby hzs (by decide) (.slice none 0 0) 0 [] (World.ownsRow_nil w _ _ _) ad xs.length c xs (by simp) hcells h1 (by omega) (by rw [Nat.zero_add]; exact hbytes) (Nat.le_refl _)
  rw [Nat.zero_add,List.nil_append] at h2
  refine ⟨v',w',hrun,h2,(Below.refl _ _).grown h3 (Nat.le_refl _) (by simp [Value.ownBlock]),?_⟩
  obtain ⟨A',c',hv,_⟩:=own_slice h2
  exact ⟨A',c',hv⟩
theorem wpList_append_rd {P:Program} {w:World} {ops:Array Oper} {rest:List Oper} {o:Oper} {a:Act} {Q:Exit→Act→World→Prop} (hgd:o.guard=none) (s x:Operand) (t:TypeId)
  (ho:o.op=.call { callee:=.builtin .append,args:=#[s,x],argTypes:=#[t,t] }) (e:TypeId) (i:TypeInfo) (z:Value) (bytes:Nat) (ht:P.underlying t=some (.slice e)) (hi:P.info? e=some i) (hz:i.zero=some z)
  (hsize:i.size=1) (hby:i.bytes=bytes) (hzs:z.cells.size=1) (hs:a.eval s=.slice none 0 0) (A:Option Addr) (m c:Nat) (xs:List Value) (hx:a.eval x=.slice A m c) (hr:RdS w (.slice A m c) xs) (h1:∀ u∈xs,u.oneCell'=true) (h63:m≤maxLen) (hbytes:m*bytes≤140737488355328)
  (h:∀ A' c' w',w'.ownsRow w.heap.size e 1 (.slice A' m c') m xs→Below w.heap.size w w'→wpList P ops Q rest (a.put o.dst (.slice A' m c')) w') : wpList P ops Q (o :: rest) a w:=by
 refine wpList_plain hgd fun K hK=>?_
 obtain ⟨v',w',hrun,h2,h3,A',c',rfl⟩:=run_append_rd (P:=P) w t o.type e i z bytes ht hi hz hsize hby hzs A m c xs hr h1 h63 hbytes
 unfold Oper.wp execOp
 simp only [ho,resolve,invoke,builtin,Sem.run_bind,Sem.run_pure,Result.andThen_ok,List.map_toArray,List.map_cons,List.map_nil,hs,hx,hrun]
 exact hK _ _ (h A' c' w' h2 h3)
theorem heap_alloc3_old (w:World) (x y z:Obj) : (((w.alloc x).alloc y).alloc z).heap[w.heap.size]?=some x:=(Below.heap_alloc _ z _ (by simp; omega)).trans (heap_alloc2_old w x y)
theorem heap_alloc3_mid (w:World) (x y z:Obj) : (((w.alloc x).alloc y).alloc z).heap[w.heap.size+1]?=some y:=(Below.heap_alloc _ z _ (by simp)).trans (heap_alloc2_new w x y)
theorem heap_alloc3_new (w:World) (x y z:Obj) : (((w.alloc x).alloc y).alloc z).heap[w.heap.size+2]?=some z:=by
 have:=heap_alloc_new ((w.alloc x).alloc y) z
 simpa using this
structure Cells (r:Rn) (M:Value→Value→Array Value) : Prop where
 eq:∀ x y,M x y=(mcells r x y).toArray
 size:∀ x y,(M x y).size=37
 c34:∀ x y,(M x y)[34]?=some x
 c35:∀ x y,(M x y)[35]?=some y
 s34:∀ x y z,(M x y).setIfInBounds 34 z=M z y
 s35:∀ x y z,(M x y).setIfInBounds 35 z=M x z
 one:∀ A n c B m d,(M (.slice A n c) (.slice B m d)).all (·.oneCell')=true
theorem cells_of {r:Rn} (h:r.regs.length=32) : ∃ M,Cells r M :=
 ⟨fun x y=>(mcells r x y).toArray,fun _ _=>rfl,fun _ _=>mc_size h,fun _ _=>mc34 h,fun _ _=>mc35 h,fun _ _ _=>ms34 h _,fun _ _ _=>ms35 h _,fun _ _ _ _ _ _=>mc_one rfl rfl⟩
set_option maxRecDepth 100000 in
set_option maxHeartbeats 2000000 in
theorem twinD_raw (M:Value→Value→Array Value) (r:Rn) (A B:Option Addr) (q p:Nat) (w:World) (hM:Hid (Cells r M)) (HM:Hid (RdS w (.slice A r.mem.length q) (r.mem.map (.int .u8)))) (HT:Hid (RdS w (.slice B r.told.length p) (r.told.map (.int .u64))))
  (hm:r.mem.length≤1000000) (ht:r.told.length≤1000000) : Calls Tryz.prog 12 #[.agg (M (.slice A r.mem.length q) (.slice B r.told.length p))] w fun e w'=>∃ A1 q1 B1 p1,e=.returned (.agg (M (.slice A1 r.mem.length q1) (.slice B1 r.told.length p1))) ∧
    w'.ownsRow w.heap.size 5 1 (.slice A1 r.mem.length q1) r.mem.length (r.mem.map (.int .u8))∧w'.ownsRow w.heap.size 22 1 (.slice B1 r.told.length p1) r.told.length (r.told.map (.int .u64))∧Below w.heap.size w w':=by
 obtain ⟨i0,hi0,hz0,hz1,hz2⟩:=info_parts info5
 obtain ⟨j0,hj0,hy0,hy1,hy2⟩:=info_parts info22
 have hsz:∀ x y,(Tryz.prog.info? 27).map (·.size)=some (M x y).size:=fun x y=>by rw [hM.out.size]; exact info27
 have HSZ:=Lib.hid hsz
 clear hsz
 go_enter Tryz.func12,Tryz.ntmps12
 go_wp2_with (first
  | (at_builtin
     refine wpList_append_rd rfl (.tmp 7) (.tmp 9) 24 rfl 5 i0 _ 1 Tryz.underlying24 hi0 hz0 hz1 hz2 rfl rfl A r.mem.length q (r.mem.map (.int .u8)) rfl (HM.out.keep (HB1.out.setCell (p:=⟨w.heap.size+2,34,none⟩) (by simp) _)) (bytes_one _) (by unfold maxLen; omega) (by omega) ?_
     intro A1 q1 w2 ho1 hb1
     have hz1':w.heap.size+3≤w1.heap.size:=hsz1.out
     have D2:=((D1.far (p:=⟨w.heap.size+2,34,none⟩) (by simp) _).below hb1 (by simp; omega))
     have E2:=((E1.far (p:=⟨w.heap.size+2,34,none⟩) (by simp) _).below hb1 (by simp; omega))
     have F2:=((F1.set_ 34 (.slice none 0 0)).below hb1 (by simp; omega))
     rw [hM.out.s34] at F2
     have HB2:=Lib.hid ((HB1.out.setCell (p:=⟨w.heap.size+2,34,none⟩) (by simp) (.slice none 0 0)).trans (hb1.mono (by simp; omega)))
     have hsz2:=Lib.hid (show w.heap.size+3≤w2.heap.size by have:=hb1.size; simp at this; omega)
     have d35':=(D2.cell 35).trans (hM.out.c35 _ _)
     have k34':=(F2.cell 34).trans (hM.out.c34 _ _)
     have k35':=(F2.cell 35).trans (hM.out.c35 _ _)
     have g34':=F2.frozen 34
     have g35':=F2.frozen 35
     have HO1:=Lib.hid ho1
     clear hz1' hb1 ho1 D1 E1 F1 d34 d35 k34 k35 g34 g35)
  | (at_builtin
     refine wpList_append_rd rfl (.tmp 14) (.tmp 16) 25 rfl 22 j0 _ 8 Tryz.underlying25 hj0 hy0 hy1 hy2 rfl rfl B r.told.length p (r.told.map (.int .u64)) rfl (HT.out.keep ((HB2.out.setCell (p:=⟨w.heap.size+2,34,none⟩) (by simp) _).setCell (p:=⟨w.heap.size+2,35,none⟩) (by simp) _)) (words_one _) (by unfold maxLen; omega) (by omega) ?_
     intro B1 p1 w3 ho2 hb2
     have hz2':w.heap.size+3≤w2.heap.size:=hsz2.out
     have E3:=(((E2.far (p:=⟨w.heap.size+2,34,none⟩) (by simp) (.slice A1 r.mem.length q1)).far (p:=⟨w.heap.size+2,35,none⟩) (by simp) (.slice none 0 0)).below hb2 (by simp; omega))
     have F3:=(((F2.set_ 34 (.slice A1 r.mem.length q1)).set_ 35 (.slice none 0 0)).below hb2 (by simp; omega))
     rw [hM.out.s34,hM.out.s35] at F3
     have HB3:=Lib.hid (((HB2.out.setCell (p:=⟨w.heap.size+2,34,none⟩) (by simp) (.slice A1 r.mem.length q1)).setCell (p:=⟨w.heap.size+2,35,none⟩) (by simp) (.slice none 0 0)).trans (hb2.mono (by simp; omega)))
     have F4:=F3.set_ 35 (.slice B1 r.told.length p1)
     rw [hM.out.s35] at F4
     have E4:=E3.far (p:=⟨w.heap.size+2,35,none⟩) (by simp) (.slice B1 r.told.length p1)
     have k34'':=(F3.cell 34).trans (hM.out.c34 _ _)
     have k35'':=(F3.cell 35).trans (hM.out.c35 _ _)
     have g35'':=F3.frozen 35
     have HO2:=Lib.hid ho2
     have HB2':=Lib.hid hb2
     clear hz2' hb2 ho2 D2 E2 F2 d35' k34' k35' g34' g35')
  | (refine wpList_load_row rfl 27 (.tmp 1) rfl w.heap.size rfl 27 _ (0,0) _ (heap_alloc2_old w _ _) Tryz.underlying27 rfl (HSZ.out _ _) ?_)
  | (refine wpList_store_row rfl 27 (.tmp 3) (.tmp 4) rfl (w.heap.size + 2) _ rfl rfl 27 _ (heap_alloc3_new w _ _ _) (HSZ.out _ _) (by rw [hM.out.size]; rfl) (hM.out.one _ _ _ _ _ _) ?_
     generalize hW:World.setRow _ _ _=w1
     have D1:Blk w1 w.heap.size 27 (M (.slice A r.mem.length q) (.slice B r.told.length p)):=by rw [← hW]; exact (setRow_other _ (w.heap.size+2) w.heap.size _ (by omega)).trans (heap_alloc3_old w _ _ _)
     have E1:∃ Z,Blk w1 (w.heap.size+1) 27 Z∧Hid (Z.size=37):=⟨_,by rw [← hW]; exact (setRow_other _ (w.heap.size+2) (w.heap.size+1) _ (by omega)).trans (heap_alloc3_mid w _ _ _),Lib.hid rfl⟩
     obtain ⟨Z,E1,hZ⟩:=E1
     have F1:Blk w1 (w.heap.size+2) 27 (M (.slice A r.mem.length q) (.slice B r.told.length p)):=by rw [← hW]; exact setRow_heap _ _ _ _ 27 (0,0) (heap_alloc3_new w _ _ _)
     have HB1:Hid (Below w.heap.size w w1):=Lib.hid (by rw [← hW]; exact below_setRow ((((Below.refl _ _).alloc (Nat.le_refl _) _).alloc (by simp) _).alloc (by simp; omega) _) (by omega) _)
     have hsz1:Hid (w.heap.size+3≤w1.heap.size):=Lib.hid (by rw [← hW]; simp)
     have d34:=(D1.cell 34).trans (hM.out.c34 _ _)
     have d35:=(D1.cell 35).trans (hM.out.c35 _ _)
     have k34:=(F1.cell 34).trans (hM.out.c34 _ _)
     have k35:=(F1.cell 35).trans (hM.out.c35 _ _)
     have g34:=F1.frozen 34
     have g35:=F1.frozen 35
     clear hW)
  | (refine wpList_load_row rfl 27 (.tmp 3) rfl (w.heap.size+2) rfl 27 _ (0,0) _ F4 Tryz.underlying27 rfl (HSZ.out _ _) ?_; refine wpList_store_row rfl 27 (.tmp 2) (.tmp 19) rfl (w.heap.size+1) (M (.slice A1 r.mem.length q1) (.slice B1 r.told.length p1)) rfl rfl 27 _ E4 (HSZ.out _ _) (by rw [hM.out.size,hZ.out]) (hM.out.one _ _ _ _ _ _) ?_))
 refine bodyPost_ret (results_cell_row rfl _ _ (w.heap.size+1) 27 _ (0,0) _ rfl (setRow_heap _ _ _ _ _ _ E4) Tryz.underlying27 rfl (HSZ.out _ _)) rfl ?_
 have hz1':w.heap.size+3≤w1.heap.size:=hsz1.out
 have hz2':w.heap.size+3≤w2.heap.size:=hsz2.out
 refine ⟨A1,q1,B1,p1,rfl,?_,?_,?_⟩
 ·have h1:w2.ownsRow w1.heap.size 5 1 (.slice A1 r.mem.length q1) r.mem.length (r.mem.map (.int .u8)):=by simpa using HO1.out
  have h1:=h1.mono hz1'
  have ne:∀ k,k < w.heap.size+3→(Value.slice A1 r.mem.length q1).ownBlock≠some k:=fun k hk he=>by have:=(h1.lt k he).1; omega
  have h2:=own_set_far (own_set_far h1 (p:=⟨w.heap.size+2,34,none⟩) (ne _ (by show w.heap.size+2 < _; omega)) (.slice A1 r.mem.length q1)) (p:=⟨w.heap.size+2,35,none⟩) (ne _ (by show w.heap.size+2 < _; omega)) (.slice none 0 0)
  exact (own_setRow_far (own_set_far (own_below h2 HB2'.out) (p:=⟨w.heap.size+2,35,none⟩) (ne _ (by show w.heap.size+2 < _; omega)) _) (ne _ (by omega)) _).mono (by omega)
 ·have h1:w3.ownsRow w2.heap.size 22 1 (.slice B1 r.told.length p1) r.told.length (r.told.map (.int .u64)):=by simpa using HO2.out
  have h1:=h1.mono hz2'
  have ne:∀ k,k < w.heap.size+3→(Value.slice B1 r.told.length p1).ownBlock≠some k:=fun k hk he=>by have:=(h1.lt k he).1; omega
  exact (own_setRow_far (own_set_far h1 (p:=⟨w.heap.size+2,35,none⟩) (ne _ (by show w.heap.size+2 < _; omega)) _) (ne _ (by omega)) _).mono (by omega)
 ·exact below_setRow (HB3.out.setCell (p:=⟨w.heap.size+2,35,none⟩) (by simp) _) (Nat.le_succ _) _
theorem twinD (v:Value) (r:Rn) (w:World) (h:MachR w v r) (hm:r.mem.length≤1000000) (ht:r.told.length≤1000000) : Calls Tryz.prog 12 #[v] w (TwinPost w r):=by
 obtain ⟨mv,tv,rfl,hmv,htv⟩:=h.form
 obtain ⟨A,q,rfl,_,_⟩:=hmv.form
 obtain ⟨B,p,rfl,_,_⟩:=htv.form
 rw [List.length_map] at hmv htv
 simp only [List.length_map]
 obtain ⟨M,hM⟩:=cells_of h.len
 have k:=twinD_raw M r A B q p w (Lib.hid hM) (Lib.hid hmv) (Lib.hid htv) hm ht
 rw [hM.eq] at k
 refine k.mono ?_
 rintro e w' ⟨A1,q1,B1,p1,rfl,h1,h2,h3⟩
 exact ⟨_,rfl,⟨h.len,_,_,by rw [hM.eq],h1,h2⟩,h3⟩
end Go.Proofs.YtoehlmiadiiimaaGreatDoor

