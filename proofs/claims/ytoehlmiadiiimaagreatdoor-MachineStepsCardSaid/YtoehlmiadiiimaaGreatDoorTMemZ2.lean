import Derived.Test.YtoehlmiadiiimaaGreatDoorTMemV2
import Derived.Maps.AppendAt
import Derived.Lib.SliceRun
import Derived.Deep.RegionWith
import Derived.Laws.CopyOwn
import Derived.Deep.Onto
set_option maxRecDepth 100000
set_option maxHeartbeats 1000000
namespace Go.Proofs.YtoehlmiadiiimaaGreatDoor
open Go.ChangeShapes Go.WideShapes Go.RowKit Go.Proofs.YtoehlmiadiiimaaGreatDoor.Ex
structure RdS (w:World) (v:Value) (xs:List Value) : Prop where
 form:∃ A c,v=.slice A xs.length c∧xs.length≤c∧(0 < xs.length→∃ ad,A=some ad∧ad.block < w.heap.size∧∀ j u,xs[j]?=some u→w.cell? (ad.add j)=some u)
theorem RdS.keep {w w':World} {v:Value} {xs:List Value} (h:RdS w v xs) (hb:Below w.heap.size w w') : RdS w' v xs:=by
 obtain ⟨A,c,hv,hc,hA⟩:=h.form
 refine ⟨A,c,hv,hc,fun hn=>?_⟩
 obtain ⟨ad,rfl,hlt,hcell⟩:=hA hn
 refine ⟨ad,rfl,Nat.lt_of_lt_of_le hlt hb.size,fun j u hu=>?_⟩
 have hbl:(ad.add j).block=ad.block:=by unfold Addr.add; split <;> rfl
 exact (hb.cell (by rw [hbl]; exact hlt)).trans (hcell j u hu)
theorem RdS.of_own {w:World} {B:Nat} {e:TypeId} {v:Value} {xs:List Value} {n:Nat} (h:w.ownsRow B e 1 v n xs) : RdS w v xs:=by
 obtain ⟨A,c,hv,hc,hA⟩:=own_slice h
 have hn:xs.length=n:=by simpa using h.1
 refine ⟨A,c,by rw [hn]; exact hv,by omega,fun h0=>?_⟩
 obtain ⟨g,rfl,hg,hlt⟩:=hA (by omega)
 exact ⟨_,rfl,hlt,h.cells (g:=g) (by rw [hv]; rfl)⟩
def ClonePost (w:World) (e:TypeId) (xs:List Value) (r:Ending) (w':World) : Prop :=
 ∃ v,r=.returned v∧w'.ownsRow w.heap.size e 1 v xs.length xs∧Below w.heap.size w w'
theorem clone8_nil (n c:Nat) (w:World) : Calls Tryz.prog 36 #[.slice none n c] w fun e w'=>e=.returned (.slice none 0 0)∧w=w':=by
 have hnil:=fun (W:World)=>Lib.run_eql_slice_nil (P:=Tryz.prog) W 24 5 none n c 0 0 Tryz.underlying24
 go_enter Tryz.func36,Tryz.ntmps36
 go_wp2
 go_ret
 exact ⟨rfl,rfl⟩
theorem clone8_some (ad:Addr) (n c:Nat) (xs:List Value) (w:World) (hl:xs.length=n) (hcell:∀ j u,xs[j]?=some u→w.cell? (ad.add j)=some u) (hlt:0 < n→ad.block < w.heap.size) (h1:∀ u∈xs,u.oneCell'=true) (hn:n≤1000000) :
  Calls Tryz.prog 36 #[.slice (some ad) n c] w (ClonePost w 5 xs):=by
 subst hl
 obtain ⟨i0,hi0,hz0,hz1,hz2⟩:=info_parts info5
 have hnil:=fun (W:World)=>Lib.run_eql_slice_nil (P:=Tryz.prog) W 24 5 (some ad) xs.length c 0 0 Tryz.underlying24
 have hown:(w.alloc (.cells #[] 5)).ownsRow w.heap.size 5 1 (.slice (some ⟨w.heap.size,0,none⟩) 0 0) 0 []:=World.ownsRow_made w #[] 0 (Nat.le_refl _) (by unfold maxLen; omega) rfl
 have hc':∀ j u,xs[j]?=some u→(w.alloc (.cells #[] 5)).cell? (ad.add j)=some u:=fun j u hu=>by
  have h0:0 < xs.length:=by
   rcases Nat.lt_or_ge 0 xs.length with h | h
   ·exact h
   ·rw [List.getElem?_eq_none (by omega)] at hu; cases hu
  have hbl:(ad.add j).block=ad.block:=by unfold Addr.add; split <;> rfl
  exact (World.cell?_alloc_lt w _ _ (by rw [hbl]; exact hlt h0)).trans (hcell j u hu)
 have HC:=Lib.hid hc'
 clear hc' hcell
 go_enter Tryz.func36,Tryz.ntmps36
 go_wp2_with (at_builtin; refine wpList_append_own_at _ rfl _ _ 24 rfl w.heap.size 5 i0 (.int .u8 0) 1 1 Tryz.underlying24 hi0 hz0 hz1 hz2 rfl (by decide) _ 0 [] rfl hown ad xs.length c xs rfl (by simp) HC.out h1 (by unfold maxLen; omega) (by omega) (by simp) ?_; intro v' w1 hown1 hgrow _ _)
 go_ret
 refine ⟨v',rfl,by simpa using hown1,((Below.refl _ _).alloc (Nat.le_refl _) _).grown hgrow (by simp) (fun k hk=>?_)⟩
 have hk:some w.heap.size=some k:=hk
 injection hk with hk
 omega
theorem clone8_c (v:Value) (xs:List Value) (w:World) (h:RdS w v xs) (h1:∀ u∈xs,u.oneCell'=true) (hn:xs.length≤1000000) : Calls Tryz.prog 36 #[v] w (ClonePost w 5 xs):=by
 obtain ⟨A,c,rfl,hc,hA⟩:=h.form
 cases A with
 | none =>
  have h0:xs=[]:=by
   rcases Nat.lt_or_ge 0 xs.length with h | h
   ·obtain ⟨ad,he,_⟩:=hA h; cases he
   ·exact List.eq_nil_of_length_eq_zero (by omega)
  subst h0
  refine (clone8_nil _ c w).mono ?_
  rintro e w' ⟨rfl,rfl⟩
  exact ⟨_,rfl,World.ownsRow_nil w _ _ _,Below.refl _ _⟩
 | some ad =>
  refine clone8_some ad xs.length c xs w rfl (fun j u hu=>?_) (fun h=>?_) h1 hn
  ·have h0:0 < xs.length:=by
    rcases Nat.lt_or_ge 0 xs.length with h | h
    ·exact h
    ·rw [List.getElem?_eq_none (by omega)] at hu; cases hu
   obtain ⟨ad',he,_,hcell⟩:=hA h0
   injection he with he
   subst he
   exact hcell j u hu
  ·obtain ⟨ad',he,hlt,_⟩:=hA h
   injection he with he
   subst he
   exact hlt
theorem clone64_nil (n c:Nat) (w:World) : Calls Tryz.prog 37 #[.slice none n c] w fun e w'=>e=.returned (.slice none 0 0)∧w=w':=by
 have hnil:=fun (W:World)=>Lib.run_eql_slice_nil (P:=Tryz.prog) W 25 22 none n c 0 0 Tryz.underlying25
 go_enter Tryz.func37,Tryz.ntmps37
 go_wp2
 go_ret
 exact ⟨rfl,rfl⟩
theorem clone64_some (ad:Addr) (n c:Nat) (xs:List Value) (w:World) (hl:xs.length=n) (hcell:∀ j u,xs[j]?=some u→w.cell? (ad.add j)=some u) (hlt:0 < n→ad.block < w.heap.size) (h1:∀ u∈xs,u.oneCell'=true) (hn:n≤1000000) :
  Calls Tryz.prog 37 #[.slice (some ad) n c] w (ClonePost w 22 xs):=by
 subst hl
 obtain ⟨i0,hi0,hz0,hz1,hz2⟩:=info_parts info22
 have hnil:=fun (W:World)=>Lib.run_eql_slice_nil (P:=Tryz.prog) W 25 22 (some ad) xs.length c 0 0 Tryz.underlying25
 have hown:(w.alloc (.cells #[] 22)).ownsRow w.heap.size 22 1 (.slice (some ⟨w.heap.size,0,none⟩) 0 0) 0 []:=World.ownsRow_made w #[] 0 (Nat.le_refl _) (by unfold maxLen; omega) rfl
 have hc':∀ j u,xs[j]?=some u→(w.alloc (.cells #[] 22)).cell? (ad.add j)=some u:=fun j u hu=>by
  have h0:0 < xs.length:=by
   rcases Nat.lt_or_ge 0 xs.length with h | h
   ·exact h
   ·rw [List.getElem?_eq_none (by omega)] at hu; cases hu
  have hbl:(ad.add j).block=ad.block:=by unfold Addr.add; split <;> rfl
  exact (World.cell?_alloc_lt w _ _ (by rw [hbl]; exact hlt h0)).trans (hcell j u hu)
 have HC:=Lib.hid hc'
 clear hc' hcell
 go_enter Tryz.func37,Tryz.ntmps37
 go_wp2_with (at_builtin; refine wpList_append_own_at _ rfl _ _ 25 rfl w.heap.size 22 i0 (.int .u64 0) 1 8 Tryz.underlying25 hi0 hz0 hz1 hz2 rfl (by decide) _ 0 [] rfl hown ad xs.length c xs rfl (by simp) HC.out h1 (by unfold maxLen; omega) (by omega) (by simp) ?_; intro v' w1 hown1 hgrow _ _)
 go_ret
 refine ⟨v',rfl,by simpa using hown1,((Below.refl _ _).alloc (Nat.le_refl _) _).grown hgrow (by simp) (fun k hk=>?_)⟩
 have hk:some w.heap.size=some k:=hk
 injection hk with hk
 omega
theorem clone64_c (v:Value) (xs:List Value) (w:World) (h:RdS w v xs) (h1:∀ u∈xs,u.oneCell'=true) (hn:xs.length≤1000000) : Calls Tryz.prog 37 #[v] w (ClonePost w 22 xs):=by
 obtain ⟨A,c,rfl,hc,hA⟩:=h.form
 cases A with
 | none =>
  have h0:xs=[]:=by
   rcases Nat.lt_or_ge 0 xs.length with h | h
   ·obtain ⟨ad,he,_⟩:=hA h; cases he
   ·exact List.eq_nil_of_length_eq_zero (by omega)
  subst h0
  refine (clone64_nil _ c w).mono ?_
  rintro e w' ⟨rfl,rfl⟩
  exact ⟨_,rfl,World.ownsRow_nil w _ _ _,Below.refl _ _⟩
 | some ad =>
  refine clone64_some ad xs.length c xs w rfl (fun j u hu=>?_) (fun h=>?_) h1 hn
  ·have h0:0 < xs.length:=by
    rcases Nat.lt_or_ge 0 xs.length with h | h
    ·exact h
    ·rw [List.getElem?_eq_none (by omega)] at hu; cases hu
   obtain ⟨ad',he,_,hcell⟩:=hA h0
   injection he with he
   subst he
   exact hcell j u hu
  ·obtain ⟨ad',he,hlt,_⟩:=hA h
   injection he with he
   subst he
   exact hlt
def mcells (r:Rn) (mv tv:Value) : List Value:=.int .u64 r.pc :: (r.regs.map (Value.int .u64) ++ [.int .u64 r.base,mv,tv,.bool r.done])
section
variable {r:Rn} {mv tv:Value}
theorem mc0:(mcells r mv tv).toArray[0]?=some (.int .u64 r.pc):=rfl
theorem mcR (h:r.regs.length=32) (i:Nat) (hi:i < 32) : (mcells r mv tv).toArray[1+i]?=some (.int .u64 (r.regs.getD i 0)):=by
 rw [Nat.add_comm]
 simp [mcells,List.getElem?_append,h,hi]
theorem mc33 (h:r.regs.length=32) : (mcells r mv tv).toArray[33]?=some (.int .u64 r.base):=by simp [mcells,h]
theorem mc34 (h:r.regs.length=32) : (mcells r mv tv).toArray[34]?=some mv:=by simp [mcells,h]
theorem mc35 (h:r.regs.length=32) : (mcells r mv tv).toArray[35]?=some tv:=by simp [mcells,h]
theorem mc36 (h:r.regs.length=32) : (mcells r mv tv).toArray[36]?=some (.bool r.done):=by simp [mcells,h]
theorem ms34 (h:r.regs.length=32) (x:Value) : (mcells r mv tv).toArray.setIfInBounds 34 x=(mcells r x tv).toArray:=by simp [mcells,h]
theorem ms35 (h:r.regs.length=32) (x:Value) : (mcells r mv tv).toArray.setIfInBounds 35 x=(mcells r mv x).toArray:=by simp [mcells,h]
theorem mc_size (h:r.regs.length=32) : (mcells r mv tv).toArray.size=37:=by simp [mcells,h]
theorem mc_one (h:mv.oneCell'=true) (h':tv.oneCell'=true) : (mcells r mv tv).toArray.all (·.oneCell')=true:=by
 simp only [mcells,List.all_toArray,List.all_cons,List.all_append,List.all_map,List.all_nil,Bool.and_true,h,h']
 simp [Value.oneCell']
end
structure MachR (w:World) (v:Value) (r:Rn) : Prop where
 len:r.regs.length=32
 form:∃ mv tv,v=.agg (mcells r mv tv).toArray∧RdS w mv (r.mem.map (.int .u8))∧RdS w tv (r.told.map (.int .u64))
structure MachO (B:Nat) (w:World) (v:Value) (r:Rn) : Prop where
 len:r.regs.length=32
 form:∃ mv tv,v=.agg (mcells r mv tv).toArray∧w.ownsRow B 5 1 mv r.mem.length (r.mem.map (.int .u8))∧w.ownsRow B 22 1 tv r.told.length (r.told.map (.int .u64))
theorem MachO.reads {B:Nat} {w:World} {v:Value} {r:Rn} (h:MachO B w v r) : MachR w v r:=by
 obtain ⟨mv,tv,hv,hm,ht⟩:=h.form
 exact ⟨h.len,mv,tv,hv,RdS.of_own hm,RdS.of_own ht⟩
theorem MachR.keep {w w':World} {v:Value} {r:Rn} (h:MachR w v r) (hb:Below w.heap.size w w') : MachR w' v r:=by
 obtain ⟨mv,tv,hv,hm,ht⟩:=h.form
 exact ⟨h.len,mv,tv,hv,hm.keep hb,ht.keep hb⟩
end Go.Proofs.YtoehlmiadiiimaaGreatDoor
namespace Go.Proofs.YtoehlmiadiiimaaGreatDoor
open Go.ChangeShapes Go.WideShapes Go.RowKit Go.Proofs.YtoehlmiadiiimaaGreatDoor.Ex
theorem bytes_one (l:List Int) : ∀ u∈l.map (Value.int .u8),u.oneCell'=true:=by
 intro u hu
 obtain ⟨x,_,rfl⟩:=List.mem_map.1 hu
 rfl
theorem words_one (l:List Int) : ∀ u∈l.map (Value.int .u64),u.oneCell'=true:=by
 intro u hu
 obtain ⟨x,_,rfl⟩:=List.mem_map.1 hu
 rfl
theorem own_below {w w':World} {B:Nat} {e:TypeId} {size n:Nat} {v:Value} {xs:List Value} (h:w.ownsRow B e size v n xs) (hb:Below w.heap.size w w') : w'.ownsRow B e size v n xs :=
 h.kept (row:=none) ⟨hb.os,hb.tape,hb.output,hb.size,fun k hk _=>hb.block k hk⟩ (by cases hv:v.ownBlock <;> simp)
theorem own_setRow_far {w:World} {B g:Nat} {e:TypeId} {size n:Nat} {v:Value} {xs:List Value} (h:w.ownsRow B e size v n xs) (hg:v.ownBlock≠some g) (cs:Array Value) : (w.setRow g cs).ownsRow B e size v n xs :=
 h.kept (row:=some g) ⟨rfl,rfl,rfl,by simp,fun k _ hk=>setRow_other w g k cs (fun e=>hk (by rw [e]))⟩ (.inr hg)
theorem own_fin {w:World} {B b:Nat} {e:TypeId} {size n:Nat} {v:Value} {xs:List Value} (h:w.ownsRow B e size v n xs) (hB:b+2≤B) {x y:Value} {cs:Array Value} :
  (((w.setCell ⟨b,34,none⟩ x).setCell ⟨b,35,none⟩ y).setRow (b+1) cs).ownsRow b e size v n xs:=by
 have ne:∀ k,k < b+2→v.ownBlock≠some k:=fun k hk he=>by have:=(h.lt k he).1; omega
 have h1:=own_set_far h (p:=⟨b,34,none⟩) (ne b (by omega)) x
 have h2:=own_set_far h1 (p:=⟨b,35,none⟩) (ne b (by omega)) y
 exact (own_setRow_far h2 (ne (b+1) (by omega)) cs).mono (by omega)
theorem info27:(Tryz.prog.info? 27).map (·.size)=some 37:=by kernel_rfl
def TwinPost (w:World) (r:Rn) (e:Ending) (w':World) : Prop:=∃ v,e=.returned v∧MachO w.heap.size w' v r∧Below w.heap.size w w'
theorem twin_c (v:Value) (r:Rn) (w:World) (h:MachR w v r) (hm:r.mem.length≤1000000) (ht:r.told.length≤1000000) : Calls Tryz.prog 15 #[v] w (TwinPost w r):=by
 obtain ⟨mv,tv,rfl,hmv,htv⟩:=h.form
 have hlen:=h.len
 have c34:=mc34 (r:=r) (mv:=mv) (tv:=tv) hlen
 have c35:=mc35 (r:=r) (mv:=mv) (tv:=tv) hlen
 have hsz:=mc_size (r:=r) (mv:=mv) (tv:=tv) hlen
 have CM:∀ W,Below w.heap.size w W→Calls Tryz.prog 36 #[mv] W (ClonePost W 5 (r.mem.map (.int .u8))):=fun W hb=>clone8_c mv _ W (hmv.keep hb) (bytes_one _) (by simpa using hm)
 have CT:∀ W,Below w.heap.size w W→Calls Tryz.prog 37 #[tv] W (ClonePost W 22 (r.told.map (.int .u64))):=fun W hb=>clone64_c tv _ W (htv.keep hb) (words_one _) (by simpa using ht)
 have HM:=Lib.hid CM
 have HT:=Lib.hid CT
 clear CM CT
 generalize hcs:(mcells r mv tv).toArray=cs at *
 have HCS:=Lib.hid hcs
 have HSZ:=Lib.hid hsz
 clear hcs hsz
 go_enter Tryz.func15,Tryz.ntmps15
 go_wp2
 go_region_with (first
  | (go_at_call 36; refine (HM.out _ ((((Below.refl _ _).alloc (Nat.le_refl _) _).alloc (by simp) _).drew)).mono ?_; intro e w1 hcp; obtain ⟨v1, rfl, ho1, hb1⟩ := hcp; obtain ⟨A1, q1, rfl, -, -⟩ := own_slice ho1
     have hz1:w.heap.size+1 < w1.heap.size:=by have:=hb1.size; simp at this; omega
     have D1:Blk w1 w.heap.size 27 cs:=(((Blk.new w 27 cs).alloc _).drew).below hb1 (by simp; omega)
     have E1:=(hb1.block (w.heap.size+1) (by simp)).trans (heap_alloc2_new w _ _)
     have t35:=(D1.cell 35).trans c35)
  | (go_at_call 37; refine (HT.out _ (((((Below.refl _ _).alloc (Nat.le_refl _) _).alloc (by simp) _).drew).trans (hb1.mono (by simp; omega)))).mono ?_; intro e w2 hcp; obtain ⟨v2, rfl, ho2, hb2⟩ := hcp; obtain ⟨A2, q2, rfl, -, -⟩ := own_slice ho2
     have hz2:w.heap.size+1 < w2.heap.size:=by have:=hb2.size; omega
     have D2:Blk w2 w.heap.size 27 cs:=D1.below hb2 D1.lt
     have E2:=(hb2.block (w.heap.size+1) hz1).trans E1
     have s34:=(D2.cell 34).trans c34
     have s35:=(D2.cell 35).trans c35
     have g34:=D2.frozen 34
     have g35:=D2.frozen 35))
 all_goals
  have D4:=(D2.set_ 34 (.slice A1 r.mem.length q1)).set_ 35 (.slice A2 r.told.length q2)
  rw [← HCS.out,ms34 hlen,ms35 hlen] at D4
  have E4:=(Below.heap_setCell (w2.setCell ⟨w.heap.size,34,none⟩ (.slice A1 r.mem.length q1)) ⟨w.heap.size,35,none⟩ (.slice A2 r.told.length q2) (w.heap.size+1) (by simp)).trans ((Below.heap_setCell w2 ⟨w.heap.size,34,none⟩ (.slice A1 r.mem.length q1) (w.heap.size+1) (by simp)).trans E2)
  have hsz:(Tryz.prog.info? 27).map (·.size)=some (mcells r (.slice A1 r.mem.length q1) (.slice A2 r.told.length q2)).toArray.size:=by rw [mc_size hlen]; exact info27
  go_wp2_with (first
   | (refine wpList_load_row rfl 27 (.tmp 1) rfl w.heap.size rfl 27 _ (0,0) _ D4 Tryz.underlying27 rfl hsz ?_)
   | (refine wpList_store_row rfl 27 (.tmp 2) (.tmp 11) rfl (w.heap.size+1) (mcells r (.slice A1 r.mem.length q1) (.slice A2 r.told.length q2)).toArray rfl rfl 27 _ E4 hsz (by rw [mc_size hlen]; rfl) (mc_one rfl rfl) ?_))
  refine bodyPost_ret (results_cell_row rfl _ _ (w.heap.size+1) 27 _ (0,0) _ rfl (setRow_heap _ _ _ _ _ _ E4) Tryz.underlying27 rfl hsz) rfl ?_
  refine ⟨_,rfl,⟨hlen,_,_,rfl,?_,?_⟩,?_⟩
  ·exact own_fin ((by simpa using ho1:w1.ownsRow (w.heap.size+2) 5 1 (.slice A1 r.mem.length q1) r.mem.length (r.mem.map (.int .u8))) |> fun h=>own_below h hb2) (Nat.le_refl _)
  ·exact own_fin ((by simpa using ho2:w2.ownsRow w1.heap.size 22 1 (.slice A2 r.told.length q2) r.told.length (r.told.map (.int .u64)))) (by omega)
  ·exact below_setRow ((((((((Below.refl _ _).alloc (Nat.le_refl _) _).alloc (by simp) _).drew).trans (hb1.mono (by simp; omega))).trans (hb2.mono (by omega))).setCell (p:=⟨w.heap.size,34,none⟩) (Nat.le_refl _) _).setCell (p:=⟨w.heap.size,35,none⟩) (Nat.le_refl _) _) (Nat.le_succ _) _
end Go.Proofs.YtoehlmiadiiimaaGreatDoor
