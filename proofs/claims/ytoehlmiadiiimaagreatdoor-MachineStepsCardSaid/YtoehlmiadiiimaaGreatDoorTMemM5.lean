import Derived.Test.YtoehlmiadiiimaaGreatDoorTMemR5
import Derived.Deep.Cut
import Derived.Test.YtoehlmiadiiimaaGreatDoorTMemKH
import Derived.Test.YtoehlmiadiiimaaGreatDoorTMemKG
import Derived.Test.YtoehlmiadiiimaaGreatDoorTMemM2
import Derived.Test.YtoehlmiadiiimaaGreatDoorTMemJ7
import Derived.Lib.QuietBelow
/-
  The law MachineSteps: small words.
-/
namespace Go.Proofs.YtoehlmiadiiimaaGreatDoor
open Go.ChangeShapes Go.WideShapes Go.RowKit Go.Proofs.YtoehlmiadiiimaaGreatDoor.Ex
theorem wpList_load_row_w {P:Program} {w:World} {ops:Array Oper} {rest:List Oper} {o:Oper} {a:Act} {Q:Exit→Act→World→Prop} (hw:Region.wanted o (yielded ops a.tmps)=true) (ty:TypeId) (x:Operand) (ho:o.op=.load ty x)
  (g:Nat) (hx:a.eval x=.pointer (some ⟨g,0,none⟩)) (t:TypeId) (cs:Array Value) (fr:Nat×Nat) (d:TypeDesc) (hg:w.heap[g]?=some (.cells cs t fr))
  (hu:P.underlying ty=some d) (hd:(match d with | .struct _ | .array _ _=>true | _=>false)=true) (hi:(P.info? ty).map (·.size)=some cs.size)
  (h:wpList P ops Q rest (a.put o.dst (.agg cs)) w) : wpList P ops Q (o :: rest) a w :=
 wpList_step fun K hK=>by rw [if_pos hw]; exact wp_load_row ty x ho g hx t cs fr d hg hu hd hi (hK _ _ h)
def GoodPost (w:World) (e:Ending) (w':World) : Prop:=e=.returned (.bool true)∧Below w.heap.size w w'
end Go.Proofs.YtoehlmiadiiimaaGreatDoor

/-
  The machine: Step; what writes a machine over.
-/
set_option maxRecDepth 100000
set_option maxHeartbeats 2000000
namespace Go.Proofs.YtoehlmiadiiimaaGreatDoor
open Go.ChangeShapes Go.WideShapes Go.RowKit Go.Proofs.YtoehlmiadiiimaaGreatDoor.Ex
def stepR (r:Rn) : Rn×Int:=if checkE r=0 then (match stepF r with | none=>(rn0,300) | some r'=>(r',0)) else (rn0,8)
def StepAll (w:World) (x:Rn×Int) (e:Ending) (w':World) : Prop :=
 Below w.heap.size w w'∧∃ v,e=.returned (.tuple #[v,.int .i64 x.2])∧MachO w.heap.size w' v x.1
theorem step1_err (v:Value) (r:Rn) (w:World) (h:MachR w v r) (hc:checkE r=8) : Calls Tryz.prog 13 #[v] w (StepAll w (rn0,8)):=by
 have H17:Hid (∀ W,Below w.heap.size w W→Calls Tryz.prog 17 #[v] W (CheckPost W 8)):=Lib.hid fun W hb=>by have:=check_c v r W (h.keep hb); rw [hc] at this; exact this
 obtain ⟨mv,tv,rfl,hmv,htv⟩:=h.form
 have hlen:=h.len
 have hsz:(Tryz.prog.info? 27).map (·.size)=some (mcells r mv tv).toArray.size:=by rw [mc_size hlen]; exact info27
 have hz:(Tryz.prog.info? 27).map (·.size)=some z27.size:=by rw [z27_size]; exact info27
 clear h hc hmv htv hlen
 generalize (mcells r mv tv).toArray=cs at *
 go_enter Tryz.func13,Tryz.ntmps13
 go_wp2_with (refine wpList_load_row rfl 27 (.tmp 1) rfl w.heap.size rfl 27 cs (0,0) _ (heap_alloc2_old w _ _) Tryz.underlying27 rfl hsz ?_)
 refine (H17.out _ (((Below.refl _ _).alloc (Nat.le_refl _) _).alloc (by simp) _)).mono ?_
 intro e w1 hp1
 obtain ⟨rfl,hb1⟩:=hp1
 have E1:=(hb1.block (w.heap.size+1) (by simp)).trans (heap_alloc2_new w _ _)
 have hw1:Below w.heap.size w w1:=(((Below.refl _ _).alloc (Nat.le_refl _) _).alloc (by simp) _).trans (hb1.mono (by simp; omega))
 have HW1:=Lib.hid hw1
 clear hw1 hb1
 go_wp2_with (first
  | (refine wpList_build0 rfl 27 rfl z27 built27 ?_)
  | (refine wpList_store_row rfl 27 (.tmp 2) (.tmp 11) rfl (w.heap.size+1) z27 rfl rfl 27 _ E1 hz (by rw [z27_size]; rfl) z27_one ?_))
 refine bodyPost_ret (results_cell_tmp rfl _ _ (w.heap.size+1) 27 z27 (0,0) _ rfl (setRow_heap _ _ _ _ _ _ E1) Tryz.underlying27 rfl hz) rfl ?_
 exact ⟨below_setRow HW1.out (Nat.le_succ _) _,_,rfl,rn0_own _ _⟩
theorem step1_none (v:Value) (r:Rn) (w:World) (h:MachR w v r) (hwf:WFm r) (hL:LG w) (h13:3≤w.heap.size) (hc:checkE r=0) (hs:stepF r=none) : Calls Tryz.prog 13 #[v] w (StepAll w (rn0,300)):=by
 have H17:Hid (∀ W,Below w.heap.size w W→Calls Tryz.prog 17 #[v] W (CheckPost W 0)):=Lib.hid fun W hb=>by have:=check_c v r W (h.keep hb); rw [hc] at this; exact this
 have H33:Hid (∀ W,Below w.heap.size w W→Calls Tryz.prog 33 #[v] W (StepPost W v none)):=Lib.hid fun W hb=>by have:=step_c v r W (h.keep hb) hwf (laidG_below hL (hb.mono h13)) (Nat.le_trans h13 hb.size); rw [hs] at this; exact this
 obtain ⟨mv,tv,rfl,hmv,htv⟩:=h.form
 have hlen:=h.len
 have hsz:(Tryz.prog.info? 27).map (·.size)=some (mcells r mv tv).toArray.size:=by rw [mc_size hlen]; exact info27
 have h37:=Lib.hid (mc_size (r:=r) (mv:=mv) (tv:=tv) hlen)
 have hall:=mc_one (r:=r) (rds_one hmv) (rds_one htv)
 have hz:(Tryz.prog.info? 27).map (·.size)=some z27.size:=by rw [z27_size]; exact info27
 clear h hc hs hwf hL h13 hmv htv hlen
 generalize (mcells r mv tv).toArray=cs at *
 go_enter Tryz.func13,Tryz.ntmps13
 go_wp2_with (refine wpList_load_row rfl 27 (.tmp 1) rfl w.heap.size rfl 27 cs (0,0) _ (heap_alloc2_old w _ _) Tryz.underlying27 rfl hsz ?_)
 refine (H17.out _ (((Below.refl _ _).alloc (Nat.le_refl _) _).alloc (by simp) _)).mono ?_
 intro e w1 hp1
 obtain ⟨rfl,hb1⟩:=hp1
 have D1:=(hb1.block w.heap.size (by simp; omega)).trans (heap_alloc2_old w _ _)
 have E1:=(hb1.block (w.heap.size+1) (by simp)).trans (heap_alloc2_new w _ _)
 have hz1:w.heap.size+2≤w1.heap.size:=by have:=hb1.size; simpa using this
 have HW1:=Lib.hid ((((Below.refl _ _).alloc (Nat.le_refl _) _).alloc (by simp) _).trans (hb1.mono (by simp; omega)) : Below w.heap.size w w1)
 clear hb1
 go_wp2_with (refine wpList_load_row rfl 27 (.tmp 1) rfl w.heap.size rfl 27 cs (0,0) _ D1 Tryz.underlying27 rfl hsz ?_)
 refine (H33.out _ HW1.out).mono ?_
 intro e w2 hp2
 obtain ⟨hb2,rfl⟩:=hp2
 have E2:=(hb2.block (w.heap.size+1) (by omega)).trans E1
 have HW2:=Lib.hid (HW1.out.trans (hb2.mono (by omega)))
 have hz2:=Nat.le_trans hz1 hb2.size
 clear hb2 D1 E1
 have hE3:∀ o,((w2.alloc o).setRow w2.heap.size cs).heap[w.heap.size+1]?=w2.heap[w.heap.size+1]?:=fun o=>(setRow_other _ _ _ _ (by omega)).trans (Below.heap_alloc w2 o _ (by omega))
 go_upto_region 5 with (refine wpList_store_row rfl 27 (.tmp 5) (.tmp 16) rfl w2.heap.size cs rfl rfl 27 _ (by exact heap_alloc_new w2 _) hsz (by rw [h37.out]; rfl) hall ?_)
 have hk3:∀ o,Below w2.heap.size w2 ((w2.alloc o).setRow w2.heap.size cs):=fun o=>below_setRow ((Below.refl w2.heap.size w2).alloc (Nat.le_refl _) _) (Nat.le_refl _) cs
 go_wp2_with (first
  | (refine wpList_build0 rfl 27 rfl z27 built27 ?_)
  | (refine wpList_store_row rfl 27 (.tmp 2) (.tmp 20) rfl (w.heap.size+1) z27 rfl rfl 27 _ ((hE3 _).trans E2) hz (by rw [z27_size]; rfl) z27_one ?_))
 refine bodyPost_ret (results_cell_tmp rfl _ _ (w.heap.size+1) 27 z27 (0,0) _ rfl (setRow_heap _ _ _ _ _ _ ((hE3 _).trans E2)) Tryz.underlying27 rfl hz) rfl ?_
 exact ⟨below_setRow (HW2.out.trans ((hk3 _).mono (by omega))) (Nat.le_succ _) _,_,rfl,rn0_own _ _⟩
theorem step1_some (v:Value) (r r':Rn) (w:World) (h:MachR w v r) (hwf:WFm r) (hL:LG w) (h13:3≤w.heap.size) (hc:checkE r=0) (hs:stepF r=some r') : Calls Tryz.prog 13 #[v] w (StepAll w (r',0)):=by
 have H17:Hid (∀ W,Below w.heap.size w W→Calls Tryz.prog 17 #[v] W (CheckPost W 0)):=Lib.hid fun W hb=>by have:=check_c v r W (h.keep hb); rw [hc] at this; exact this
 have H33:Hid (∀ W,Below w.heap.size w W→Calls Tryz.prog 33 #[v] W (StepPost W v (some r'))):=Lib.hid fun W hb=>by have:=step_c v r W (h.keep hb) hwf (laidG_below hL (hb.mono h13)) (Nat.le_trans h13 hb.size); rw [hs] at this; exact this
 obtain ⟨mv,tv,rfl,hmv,htv⟩:=h.form
 have hlen:=h.len
 have hsz:(Tryz.prog.info? 27).map (·.size)=some (mcells r mv tv).toArray.size:=by rw [mc_size hlen]; exact info27
 clear h hc hs hwf hL h13 hmv htv hlen
 generalize (mcells r mv tv).toArray=cs at *
 go_enter Tryz.func13,Tryz.ntmps13
 go_wp2_with (refine wpList_load_row rfl 27 (.tmp 1) rfl w.heap.size rfl 27 cs (0,0) _ (heap_alloc2_old w _ _) Tryz.underlying27 rfl hsz ?_)
 refine (H17.out _ (((Below.refl _ _).alloc (Nat.le_refl _) _).alloc (by simp) _)).mono ?_
 intro e w1 hp1
 obtain ⟨rfl,hb1⟩:=hp1
 have D1:=(hb1.block w.heap.size (by simp; omega)).trans (heap_alloc2_old w _ _)
 have E1:=(hb1.block (w.heap.size+1) (by simp)).trans (heap_alloc2_new w _ _)
 have hz1:w.heap.size+2≤w1.heap.size:=by have:=hb1.size; simpa using this
 have HW1:=Lib.hid ((((Below.refl _ _).alloc (Nat.le_refl _) _).alloc (by simp) _).trans (hb1.mono (by simp; omega)) : Below w.heap.size w w1)
 clear hb1
 go_wp2_with (refine wpList_load_row rfl 27 (.tmp 1) rfl w.heap.size rfl 27 cs (0,0) _ D1 Tryz.underlying27 rfl hsz ?_)
 refine (H33.out _ HW1.out).mono ?_
 intro e w2 hp2
 obtain ⟨hb2,v2,rfl,ho2⟩:=hp2
 obtain ⟨c2,rfl,hs2,hall2⟩:=mach_cells ho2
 have hsz2:(Tryz.prog.info? 27).map (·.size)=some c2.size:=by rw [hs2.out]; exact info27
 have E2:=(hb2.block (w.heap.size+1) (by omega)).trans E1
 have HW2:=Lib.hid (HW1.out.trans (hb2.mono (by omega)))
 have hz2:=Nat.le_trans hz1 hb2.size
 have HO2:=Lib.hid ho2
 clear hb2 D1 E1 ho2
 have hE3:∀ o,((w2.alloc o).setRow w2.heap.size c2).heap[w.heap.size+1]?=w2.heap[w.heap.size+1]?:=fun o=>(setRow_other _ _ _ _ (by omega)).trans (Below.heap_alloc w2 o _ (by omega))
 have hF3:∀ Z:Array Value,((w2.alloc (.cells Z 27)).setRow w2.heap.size c2).heap[w2.heap.size]?=some (.cells c2 27 (0,0)):=fun Z=>setRow_heap _ _ Z _ 27 (0,0) (heap_alloc_new w2 _)
 have hk3:∀ o,Below w2.heap.size w2 ((w2.alloc o).setRow w2.heap.size c2):=fun o=>below_setRow ((Below.refl w2.heap.size w2).alloc (Nat.le_refl _) _) (Nat.le_refl _) c2
 go_upto_region 5 with (refine wpList_store_row rfl 27 (.tmp 5) (.tmp 16) rfl w2.heap.size c2 rfl rfl 27 _ (by exact heap_alloc_new w2 _) hsz2 (by rw [hs2.out]; rfl) hall2 ?_)
 go_wp2_with (first
  | (refine wpList_load_row rfl 27 (.tmp 5) rfl w2.heap.size rfl 27 c2 (0,0) _ (hF3 _) Tryz.underlying27 rfl hsz2 ?_)
  | (refine wpList_store_row rfl 27 (.tmp 2) (.tmp 21) rfl (w.heap.size+1) c2 rfl rfl 27 _ ((hE3 _).trans E2) hsz2 (by rw [hs2.out]; rfl) hall2 ?_))
 refine bodyPost_ret (results_cell_tmp rfl _ _ (w.heap.size+1) 27 c2 (0,0) _ rfl (setRow_heap _ _ _ _ _ _ ((hE3 _).trans E2)) Tryz.underlying27 rfl hsz2) rfl ?_
 exact ⟨below_setRow (HW2.out.trans ((hk3 _).mono (by omega))) (Nat.le_succ _) _,_,rfl,((HO2.out.keep (hk3 _)).far (by omega) _).mono (by omega)⟩
theorem step1_all (v:Value) (r:Rn) (w:World) (h:MachR w v r) (hp:0≤r.pc) (hr:Regs64 r.regs) (hL:LG w) (h13:3≤w.heap.size) : Calls Tryz.prog 13 #[v] w (StepAll w (stepR r)):=by
 unfold stepR
 rcases checkE_or r with hc | hc
 ·rw [if_pos hc]
  obtain ⟨h1,h2,h3,h4⟩:=checkE_zero hc
  have hwf:WFm r:=⟨hp,hr,h2,by omega⟩
  cases hs:stepF r with
  | none=>exact step1_none v r w h hwf hL h13 hc hs
  | some r'=>exact step1_some v r r' w h hwf hL h13 hc hs
 ·rw [if_neg (by rw [hc]; decide)]
  exact step1_err v r w h hc
theorem at_row {B:Nat} {e:TypeId} {ik:IntKind} {A:Option Addr} {n q j:Nat} {l:List Int} {w:World} (h2:w.ownsRow B e 1 (.slice A n q) n (l.map (.int ik))) (h1:l.length=n) (hj:j < n) :
  ∃ (gm:Nat) (x:Int),A=some ⟨gm,0,none⟩∧w.cell? ⟨gm,j,none⟩=some (.int ik x)∧w.frozen? ⟨gm,j,none⟩=false ∧
   ∀ y:Int,(∃ l':List Int,l'.length=n∧(w.setCell ⟨gm,j,none⟩ (.int ik y)).ownsRow B e 1 (.slice A n q) n (l'.map (.int ik)))∧w.grownBy (w.setCell ⟨gm,j,none⟩ (.int ik y)) (Value.slice A n q).ownBlock:=by
 obtain ⟨gm,c,hv,-⟩:=h2.form (by omega)
 injection hv with e1 e2 e3
 subst e1; subst e3
 have hc:=h2.cellAt j (by omega)
 have hl:j < l.length:=by omega
 refine ⟨gm,l.getD j 0,rfl,by rw [hc]; simp [List.getD,hl],h2.frozenAt j,fun y=>?_⟩
 have hs:=h2.stored j (.int ik y)
 exact ⟨⟨l.set j y,by simpa using h1,by rw [List.map_set]; exact hs.1⟩,hs.2⟩
def SpPost (w:World) (mv tv:Value) (e:Ending) (w':World) : Prop:=e=.returned (.tuple #[])∧∃ w1,w.grownBy w1 mv.ownBlock∧w1.grownBy w' tv.ownBlock
theorem spoil_c (r:Rn) (mv tv:Value) (w:World) (B:Nat) (hlen:r.regs.length=32) (hm:w.ownsRow B 5 1 mv r.mem.length (r.mem.map (.int .u8))) (ht':w.ownsRow B 22 1 tv r.told.length (r.told.map (.int .u64))) (hl:r.mem.length≤1000000) (ht:r.told.length≤1000000) :
  Calls Tryz.prog 20 #[.agg (mcells r mv tv).toArray] w (SpPost w mv tv):=by
 obtain ⟨A1,q1,rfl,hq1,-⟩:=(RdS.of_own hm).form
 obtain ⟨A2,q2,rfl,hq2,-⟩:=(RdS.of_own ht').form
 have c34:=mc34 (r:=r) (mv:=.slice A1 (r.mem.map (Value.int .u8)).length q1) (tv:=.slice A2 (r.told.map (Value.int .u64)).length q2) hlen
 have c35:=mc35 (r:=r) (mv:=.slice A1 (r.mem.map (Value.int .u8)).length q1) (tv:=.slice A2 (r.told.map (Value.int .u64)).length q2) hlen
 generalize (mcells r (.slice A1 (r.mem.map (Value.int .u8)).length q1) (.slice A2 (r.told.map (Value.int .u64)).length q2)).toArray=cs at *
 simp only [List.length_map] at c34 c35 hm ht' hq1 hq2 ⊢
 have HM:Hid (∃ l:List Int,l.length=r.mem.length∧(w.alloc (.cells cs 27)).ownsRow B 5 1 (.slice A1 r.mem.length q1) r.mem.length (l.map (.int .u8))):=Lib.hid ⟨r.mem,rfl,hm.alloc _⟩
 have HT:Hid (∃ l:List Int,l.length=r.told.length∧(w.alloc (.cells cs 27)).ownsRow B 22 1 (.slice A2 r.told.length q2) r.told.length (l.map (.int .u64))):=Lib.hid ⟨r.told,rfl,ht'.alloc _⟩
 clear hm ht' hlen
 generalize r.mem.length=n at *
 generalize r.told.length=k at *
 go_enter Tryz.func20,Tryz.ntmps20
 go_wp2
 go_loopw [2] (fun i wr=>∃ j:Nat,j≤n∧i=.int .i64 j∧Blk wr w.heap.size 27 cs∧Hid (∃ l:List Int,l.length=n∧wr.ownsRow B 5 1 (.slice A1 n q1) n (l.map (.int .u8)))∧Hid (∃ l:List Int,l.length=k∧wr.ownsRow B 22 1 (.slice A2 k q2) k (l.map (.int .u64)))∧Hid (w.grownBy wr (Value.slice A1 n q1).ownBlock)) (fun i _=>n - (intOf i).toNat)
 case atStart=>exact ⟨0,Nat.zero_le _,rfl,Blk.new w 27 cs,HM,HT,Lib.hid (World.grownBy_alloc _ _ _)⟩
 case round =>
  obtain ⟨j,hj,rfl,hD,hM,hT,hG⟩:=hrel
  have s34:=(hD.cell 34).trans c34
  clear HM HT
  by_cases hlt:j < n
  ·obtain ⟨l,hl1,hl2⟩:=hM.out
   obtain ⟨tl,ht1,ht2⟩:=hT.out
   obtain ⟨gm,x,hA,hx,hf,hst⟩:=at_row hl2 hl1 hlt
   have hne:=own_blk_ne hl2 hD (by decide)
   have HN:=Lib.hid (own_own_ne ht2 hl2 (by decide))
   have HT2:=Lib.hid ht2
   have HST:=Lib.hid hst
   clear hst hl2 ht2 hM hT
   subst hA
   have hne':gm≠w.heap.size:=fun e=>hne (by rw [e]; rfl)
   clear hne
   go_wp2
   go_roundw
   case rel=>exact ⟨j+1,by omega,by go_num,hD.grown (HST.out _).2 (fun e=>hne' (by injection e with e; exact e.symm)),Lib.hid (HST.out _).1,Lib.hid ⟨tl,ht1,HT2.out.kept (HST.out _).2 HN.out⟩,Lib.hid (hG.out.trans (HST.out _).2)⟩
   case measure=>simp [intOf]; omega
  ·obtain rfl:j=n:=by omega
   clear hM
   go_wp2
   obtain ⟨wo,rfl⟩ : ∃ wo:World,wo=wr:=⟨_,rfl⟩
   go_loopw [3] (fun i wr=>∃ j:Nat,j≤k∧i=.int .i64 j∧Blk wr w.heap.size 27 cs∧Hid (∃ l:List Int,l.length=k∧wr.ownsRow B 22 1 (.slice A2 k q2) k (l.map (.int .u64)))∧Hid (wo.grownBy wr (Value.slice A2 k q2).ownBlock)) (fun i _=>k - (intOf i).toNat)
   case atStart=>exact ⟨0,Nat.zero_le _,rfl,hD,hT,Lib.hid (World.grownBy.refl _ _)⟩
   case round =>
    obtain ⟨i,hi,rfl,hD2,hT2,hG2⟩:=hrel
    have s35:=(hD2.cell 35).trans c35
    clear hT
    by_cases hlt2:i < k
    ·obtain ⟨tl,ht1,ht2⟩:=hT2.out
     obtain ⟨gm,x,hA,hx,hf,hst⟩:=at_row ht2 ht1 hlt2
     have hne:=own_blk_ne ht2 hD2 (by decide)
     have HST:=Lib.hid hst
     clear hst ht2 hT2
     subst hA
     have hne':gm≠w.heap.size:=fun e=>hne (by rw [e]; rfl)
     clear hne
     go_wp2
     go_roundw
     case rel=>exact ⟨i+1,by omega,by go_num,hD2.grown (HST.out _).2 (fun e=>hne' (by injection e with e; exact e.symm)),Lib.hid (HST.out _).1,Lib.hid (hG2.out.trans (HST.out _).2)⟩
     case measure=>simp [intOf]; omega
    ·obtain rfl:i=k:=by omega
     go_wp2
     go_end0
     exact ⟨rfl,_,hG.out,hG2.out⟩
end Go.Proofs.YtoehlmiadiiimaaGreatDoor

/-
  The document's Step and Check.
-/
set_option maxRecDepth 100000
set_option maxHeartbeats 2000000
namespace Go.Proofs.YtoehlmiadiiimaaGreatDoor
open Go.ChangeShapes Go.WideShapes Go.RowKit Go.Proofs.YtoehlmiadiiimaaGreatDoor.Ex
theorem stepD_err (v:Value) (r:Rn) (w:World) (h:MachR w v r) (hc:checkE r=8) : Calls Tryz.prog 14 #[v] w (StepAll w (rn0,8)):=by
 have H34:Hid (∀ W,Below w.heap.size w W→Calls Tryz.prog 34 #[v] W fun e w'=>e=.returned (.bool false)∧Below W.heap.size W w'):=Lib.hid fun W hb=>mayM v r W (h.keep hb) false (decide_eq_false (by rw [hc]; decide))
 obtain ⟨mv,tv,rfl,hmv,htv⟩:=h.form
 have hlen:=h.len
 have hsz:(Tryz.prog.info? 27).map (·.size)=some (mcells r mv tv).toArray.size:=by rw [mc_size hlen]; exact info27
 have hz:(Tryz.prog.info? 27).map (·.size)=some z27.size:=by rw [z27_size]; exact info27
 clear h hc hmv htv hlen
 generalize (mcells r mv tv).toArray=cs at *
 go_enter Tryz.func14,Tryz.ntmps14
 go_wp2_with (refine wpList_load_row rfl 27 (.tmp 1) rfl w.heap.size rfl 27 cs (0,0) _ (heap_alloc2_old w _ _) Tryz.underlying27 rfl hsz ?_)
 refine (H34.out _ (((Below.refl _ _).alloc (Nat.le_refl _) _).alloc (by simp) _)).mono ?_
 intro e w1 hp1
 obtain ⟨rfl,hb1⟩:=hp1
 have E1:=(hb1.block (w.heap.size+1) (by simp)).trans (heap_alloc2_new w _ _)
 have hw1:Below w.heap.size w w1:=(((Below.refl _ _).alloc (Nat.le_refl _) _).alloc (by simp) _).trans (hb1.mono (by simp; omega))
 have HW1:=Lib.hid hw1
 clear hw1 hb1
 go_wp2_with (first
  | (refine wpList_build0 rfl 27 rfl z27 built27 ?_)
  | (refine wpList_store_row rfl 27 (.tmp 2) (.tmp 9) rfl (w.heap.size+1) z27 rfl rfl 27 _ E1 hz (by rw [z27_size]; rfl) z27_one ?_))
 refine bodyPost_ret (results_cell_tmp rfl _ _ (w.heap.size+1) 27 z27 (0,0) _ rfl (setRow_heap _ _ _ _ _ _ E1) Tryz.underlying27 rfl hz) rfl ?_
 exact ⟨below_setRow HW1.out (Nat.le_succ _) _,_,rfl,rn0_own _ _⟩
theorem stepD_none (v:Value) (r:Rn) (w:World) (h:MachR w v r) (hF:Fit r) (hL:LG w) (h13:3≤w.heap.size) (hc:checkE r=0) (hs:stepF r=none) : Calls Tryz.prog 14 #[v] w (StepAll w (rn0,300)):=by
 have H34:Hid (∀ W,Below w.heap.size w W→Calls Tryz.prog 34 #[v] W fun e w'=>e=.returned (.bool true)∧Below W.heap.size W w'):=Lib.hid fun W hb=>mayM v r W (h.keep hb) true (decide_eq_true hc)
 have H35:Hid (∀ W,Below w.heap.size w W→Calls Tryz.prog 35 #[v] W (StepPost W v none)):=Lib.hid fun W hb=>by have:=go_D v r W (h.keep hb) hF (laidG_below hL (hb.mono h13)) (Nat.le_trans h13 hb.size); rw [hs] at this; exact this
 obtain ⟨mv,tv,rfl,hmv,htv⟩:=h.form
 have hlen:=h.len
 have hsz:(Tryz.prog.info? 27).map (·.size)=some (mcells r mv tv).toArray.size:=by rw [mc_size hlen]; exact info27
 have h37:=Lib.hid (mc_size (r:=r) (mv:=mv) (tv:=tv) hlen)
 have hall:=mc_one (r:=r) (rds_one hmv) (rds_one htv)
 have hz:(Tryz.prog.info? 27).map (·.size)=some z27.size:=by rw [z27_size]; exact info27
 clear h hc hs hF hL h13 hmv htv hlen
 generalize (mcells r mv tv).toArray=cs at *
 go_enter Tryz.func14,Tryz.ntmps14
 go_wp2_with (refine wpList_load_row rfl 27 (.tmp 1) rfl w.heap.size rfl 27 cs (0,0) _ (heap_alloc2_old w _ _) Tryz.underlying27 rfl hsz ?_)
 refine (H34.out _ (((Below.refl _ _).alloc (Nat.le_refl _) _).alloc (by simp) _)).mono ?_
 intro e w1 hp1
 obtain ⟨rfl,hb1⟩:=hp1
 have D1:=(hb1.block w.heap.size (by simp; omega)).trans (heap_alloc2_old w _ _)
 have E1:=(hb1.block (w.heap.size+1) (by simp)).trans (heap_alloc2_new w _ _)
 have hz1:w.heap.size+2≤w1.heap.size:=by have:=hb1.size; simpa using this
 have HW1:=Lib.hid ((((Below.refl _ _).alloc (Nat.le_refl _) _).alloc (by simp) _).trans (hb1.mono (by simp; omega)) : Below w.heap.size w w1)
 clear hb1
 go_wp2_with (refine wpList_load_row rfl 27 (.tmp 1) rfl w.heap.size rfl 27 cs (0,0) _ D1 Tryz.underlying27 rfl hsz ?_)
 refine (H35.out _ HW1.out).mono ?_
 intro e w2 hp2
 obtain ⟨hb2,rfl⟩:=hp2
 have E2:=(hb2.block (w.heap.size+1) (by omega)).trans E1
 have HW2:=Lib.hid (HW1.out.trans (hb2.mono (by omega)))
 have hz2:=Nat.le_trans hz1 hb2.size
 clear hb2 D1 E1
 have hE3:∀ o,((w2.alloc o).setRow w2.heap.size cs).heap[w.heap.size+1]?=w2.heap[w.heap.size+1]?:=fun o=>(setRow_other _ _ _ _ (by omega)).trans (Below.heap_alloc w2 o _ (by omega))
 go_upto_region 4 with (refine wpList_store_row rfl 27 (.tmp 4) (.tmp 13) rfl w2.heap.size cs rfl rfl 27 _ (by exact heap_alloc_new w2 _) hsz (by rw [h37.out]; rfl) hall ?_)
 have hk3:∀ o,Below w2.heap.size w2 ((w2.alloc o).setRow w2.heap.size cs):=fun o=>below_setRow ((Below.refl w2.heap.size w2).alloc (Nat.le_refl _) _) (Nat.le_refl _) cs
 go_wp2_with (first
  | (refine wpList_build0 rfl 27 rfl z27 built27 ?_)
  | (refine wpList_store_row rfl 27 (.tmp 2) (.tmp 17) rfl (w.heap.size+1) z27 rfl rfl 27 _ ((hE3 _).trans E2) hz (by rw [z27_size]; rfl) z27_one ?_))
 refine bodyPost_ret (results_cell_tmp rfl _ _ (w.heap.size+1) 27 z27 (0,0) _ rfl (setRow_heap _ _ _ _ _ _ ((hE3 _).trans E2)) Tryz.underlying27 rfl hz) rfl ?_
 exact ⟨below_setRow (HW2.out.trans ((hk3 _).mono (by omega))) (Nat.le_succ _) _,_,rfl,rn0_own _ _⟩
theorem stepD_some (v:Value) (r r':Rn) (w:World) (h:MachR w v r) (hF:Fit r) (hL:LG w) (h13:3≤w.heap.size) (hc:checkE r=0) (hs:stepF r=some r') : Calls Tryz.prog 14 #[v] w (StepAll w (r',0)):=by
 have H34:Hid (∀ W,Below w.heap.size w W→Calls Tryz.prog 34 #[v] W fun e w'=>e=.returned (.bool true)∧Below W.heap.size W w'):=Lib.hid fun W hb=>mayM v r W (h.keep hb) true (decide_eq_true hc)
 have H35:Hid (∀ W,Below w.heap.size w W→Calls Tryz.prog 35 #[v] W (StepPost W v (some r'))):=Lib.hid fun W hb=>by have:=go_D v r W (h.keep hb) hF (laidG_below hL (hb.mono h13)) (Nat.le_trans h13 hb.size); rw [hs] at this; exact this
 obtain ⟨mv,tv,rfl,hmv,htv⟩:=h.form
 have hlen:=h.len
 have hsz:(Tryz.prog.info? 27).map (·.size)=some (mcells r mv tv).toArray.size:=by rw [mc_size hlen]; exact info27
 clear h hc hs hF hL h13 hmv htv hlen
 generalize (mcells r mv tv).toArray=cs at *
 go_enter Tryz.func14,Tryz.ntmps14
 go_wp2_with (refine wpList_load_row rfl 27 (.tmp 1) rfl w.heap.size rfl 27 cs (0,0) _ (heap_alloc2_old w _ _) Tryz.underlying27 rfl hsz ?_)
 refine (H34.out _ (((Below.refl _ _).alloc (Nat.le_refl _) _).alloc (by simp) _)).mono ?_
 intro e w1 hp1
 obtain ⟨rfl,hb1⟩:=hp1
 have D1:=(hb1.block w.heap.size (by simp; omega)).trans (heap_alloc2_old w _ _)
 have E1:=(hb1.block (w.heap.size+1) (by simp)).trans (heap_alloc2_new w _ _)
 have hz1:w.heap.size+2≤w1.heap.size:=by have:=hb1.size; simpa using this
 have HW1:=Lib.hid ((((Below.refl _ _).alloc (Nat.le_refl _) _).alloc (by simp) _).trans (hb1.mono (by simp; omega)) : Below w.heap.size w w1)
 clear hb1
 go_wp2_with (refine wpList_load_row rfl 27 (.tmp 1) rfl w.heap.size rfl 27 cs (0,0) _ D1 Tryz.underlying27 rfl hsz ?_)
 refine (H35.out _ HW1.out).mono ?_
 intro e w2 hp2
 obtain ⟨hb2,v2,rfl,ho2⟩:=hp2
 obtain ⟨c2,rfl,hs2,hall2⟩:=mach_cells ho2
 have hsz2:(Tryz.prog.info? 27).map (·.size)=some c2.size:=by rw [hs2.out]; exact info27
 have E2:=(hb2.block (w.heap.size+1) (by omega)).trans E1
 have HW2:=Lib.hid (HW1.out.trans (hb2.mono (by omega)))
 have hz2:=Nat.le_trans hz1 hb2.size
 have HO2:=Lib.hid ho2
 clear hb2 D1 E1 ho2
 have hE3:∀ o,((w2.alloc o).setRow w2.heap.size c2).heap[w.heap.size+1]?=w2.heap[w.heap.size+1]?:=fun o=>(setRow_other _ _ _ _ (by omega)).trans (Below.heap_alloc w2 o _ (by omega))
 have hF3:∀ Z:Array Value,((w2.alloc (.cells Z 27)).setRow w2.heap.size c2).heap[w2.heap.size]?=some (.cells c2 27 (0,0)):=fun Z=>setRow_heap _ _ Z _ 27 (0,0) (heap_alloc_new w2 _)
 have hk3:∀ o,Below w2.heap.size w2 ((w2.alloc o).setRow w2.heap.size c2):=fun o=>below_setRow ((Below.refl w2.heap.size w2).alloc (Nat.le_refl _) _) (Nat.le_refl _) c2
 go_upto_region 4 with (refine wpList_store_row rfl 27 (.tmp 4) (.tmp 13) rfl w2.heap.size c2 rfl rfl 27 _ (by exact heap_alloc_new w2 _) hsz2 (by rw [hs2.out]; rfl) hall2 ?_)
 go_wp2_with (first
  | (refine wpList_load_row rfl 27 (.tmp 4) rfl w2.heap.size rfl 27 c2 (0,0) _ (hF3 _) Tryz.underlying27 rfl hsz2 ?_)
  | (refine wpList_store_row rfl 27 (.tmp 2) (.tmp 18) rfl (w.heap.size+1) c2 rfl rfl 27 _ ((hE3 _).trans E2) hsz2 (by rw [hs2.out]; rfl) hall2 ?_))
 refine bodyPost_ret (results_cell_tmp rfl _ _ (w.heap.size+1) 27 c2 (0,0) _ rfl (setRow_heap _ _ _ _ _ _ ((hE3 _).trans E2)) Tryz.underlying27 rfl hsz2) rfl ?_
 exact ⟨below_setRow (HW2.out.trans ((hk3 _).mono (by omega))) (Nat.le_succ _) _,_,rfl,((HO2.out.keep (hk3 _)).far (by omega) _).mono (by omega)⟩
theorem fit_of {r:Rn} (pc:0≤r.pc∧r.pc < B64) (regs:Regs64 r.regs) (base:0≤r.base) (mem:∀ x∈r.mem,0≤x∧x < 256) (hc:checkE r=0) : Fit r:=by
 obtain ⟨h1,h2,h3,h4⟩:=checkE_zero hc
 exact ⟨pc,⟨base,h1⟩,h2,mem,regs,by omega⟩
theorem stepD_all (v:Value) (r:Rn) (w:World) (h:MachR w v r) (pc:0≤r.pc∧r.pc < B64) (regs:Regs64 r.regs) (base:0≤r.base) (mem:∀ x∈r.mem,0≤x∧x < 256) (hL:LG w) (h13:3≤w.heap.size) : Calls Tryz.prog 14 #[v] w (StepAll w (stepR r)):=by
 unfold stepR
 rcases checkE_or r with hc | hc
 ·rw [if_pos hc]
  have hF:=fit_of pc regs base mem hc
  cases hs:stepF r with
  | none=>exact stepD_none v r w h hF hL h13 hc hs
  | some r'=>exact stepD_some v r r' w h hF hL h13 hc hs
 ·rw [if_neg (by rw [hc]; decide)]
  exact stepD_err v r w h hc
theorem checkD_c (v:Value) (r:Rn) (w:World) (h:MachR w v r) : Calls Tryz.prog 18 #[v] w fun e w'=>e=.returned (.int .i64 (checkE r))∧Below w.heap.size w w':=by
 obtain ⟨b,hb⟩ : ∃ b,decide (checkE r=0)=b:=⟨_,rfl⟩
 have H34:Hid (∀ W,Below w.heap.size w W→Calls Tryz.prog 34 #[v] W fun e w'=>e=.returned (.bool b)∧Below W.heap.size W w'):=Lib.hid fun W hB=>mayM v r W (h.keep hB) b hb
 obtain ⟨mv,tv,rfl,hmv,htv⟩:=h.form
 have hlen:=h.len
 have hsz:(Tryz.prog.info? 27).map (·.size)=some (mcells r mv tv).toArray.size:=by rw [mc_size hlen]; exact info27
 clear h hmv htv hlen
 have hE:checkE r=if b=true then 0 else 8:=by
  subst hb
  rcases checkE_or r with hc | hc <;> simp [hc]
 rw [hE]
 clear hE hb
 generalize (mcells r mv tv).toArray=cs at *
 go_enter Tryz.func18,Tryz.ntmps18
 go_wp2_with (refine wpList_load_row rfl 27 (.tmp 1) rfl w.heap.size rfl 27 cs (0,0) _ (heap_alloc_new w _) Tryz.underlying27 rfl hsz ?_)
 refine (H34.out _ ((Below.refl _ _).alloc (Nat.le_refl _) _)).mono ?_
 rintro e w1 ⟨rfl,hb1⟩
 have HW1:=Lib.hid ((((Below.refl _ _).alloc (Nat.le_refl _) _)).trans (hb1.mono (by simp)) : Below w.heap.size w w1)
 clear hb1
 cases b with
 | true =>
  go_wp2
  go_ret
  exact ⟨rfl,HW1.out⟩
 | false =>
  go_wp2
  go_ret
  exact ⟨rfl,HW1.out⟩
end Go.Proofs.YtoehlmiadiiimaaGreatDoor

/-
  The law MachineSteps: its parts.
-/
namespace Go.Proofs.YtoehlmiadiiimaaGreatDoor
open Go.ChangeShapes Go.WideShapes Go.RowKit Go.Proofs.YtoehlmiadiiimaaGreatDoor.Ex
def AtB (B:Nat) (w:World) (g:Nat) (cs:Array Value) (r:Rn) : Prop:=∃ mv tv,cs=(mcells r mv tv).toArray∧OutW B w g r mv tv
namespace AtB
variable {B g:Nat} {w w':World} {cs:Array Value} {r:Rn}
theorem blk (h:AtB B w g cs r) : Blk w g 27 cs:=by obtain ⟨mv,tv,rfl,O⟩:=h; exact O.blk
theorem below (h:AtB B w g cs r) (hb:Below w.heap.size w w') : AtB B w' g cs r:=by obtain ⟨mv,tv,e,O⟩:=h; exact ⟨mv,tv,e,O.below hb⟩
theorem reads (h:AtB B w g cs r) : MachR w (.agg cs) r:=by obtain ⟨mv,tv,rfl,O⟩:=h; exact (O.out (Nat.le_refl _)).reads
theorem high {row:Option Nat} (h:AtB B w g cs r) (hg:w.grownBy w' row) (hr:∀ k,row=some k→k < B) : AtB B w' g cs r:=by
 obtain ⟨mv,tv,e,O⟩:=h
 have hq:∀ q:Option Nat,(∀ k,q=some k→B≤k)→q=none∨q≠row:=fun q hk=>by
  cases q with
  | none=>exact .inl rfl
  | some k=>exact .inr fun e=>by have h1:=hk k rfl; have h2:=hr k e.symm; omega
 exact ⟨mv,tv,e,O.len,O.ge,O.blk.grown hg (fun e=>by have h1:=hr g e.symm; have h2:=O.ge; omega),O.mem.kept hg (hq _ fun k e=>(O.mem.lt k e).1),O.told.kept hg (hq _ fun k e=>(O.told.lt k e).1)⟩
theorem made {B':Nat} {v:Value} (h:MachO B' w v r) (hB:B≤B') (hB2:B≤w.heap.size) : ∃ cs,v=.agg cs∧(Tryz.prog.info? 27).map (·.size)=some cs.size∧Hid (cs.size=37)∧cs.all (·.oneCell')=true ∧
  Hid (∀ Z,AtB B ((w.alloc (.cells Z 27)).setRow w.heap.size cs) w.heap.size cs r):=by
 obtain ⟨mv,tv,rfl,hm,ht⟩:=h.form
 refine ⟨_,rfl,by rw [mc_size h.len]; exact info27,Lib.hid (mc_size h.len),mc_one (rds_one (RdS.of_own hm)) (rds_one (RdS.of_own ht)),Lib.hid fun Z=>⟨mv,tv,rfl,?_⟩⟩
 exact OutW.made (h.mono hB) (hm.mono hB) (ht.mono hB) hB2
end AtB
theorem eqB_refl (r:Rn) : eqB r r=true:=by simp [eqB]
def SmallM (x:Rn) : Prop:=(∀ z∈x.mem,0≤z∧z < 256)∧x.mem.length≤1000000∧x.told.length≤1000000
theorem stepR_small {r:Rn} (pc:0≤r.pc∧r.pc < B64) (regs:Regs64 r.regs) (base:0≤r.base) (mem:∀ x∈r.mem,0≤x∧x < 256) : SmallM (stepR r).1:=by
 have h0:SmallM rn0:=⟨fun z hz=>(by cases hz),by decide,by decide⟩
 unfold stepR
 split
 ·rename_i hc
  have hF:=fit_of pc regs base mem hc
  cases hs:stepF r with
  | none=>exact h0
  | some r' =>
   have hF':=fit_step hF hs
   exact ⟨hF'.bytes,by have:=hF'.len; show r'.mem.length≤_; omega,hF'.told⟩
 ·exact h0
def QC (w W:World) : Prop:=Below w.heap.size w W
theorem region_quiet_below {P:Program} {id:Nat} {Q:Exit→Act→World→Prop} {a:Act} {w:World} {l:List Oper} (hm:P.follows .mixedOrders=true) (hB:Region.lexB .any l.toArray=true)
  (h:wpQuiet P l.toArray (QC w) (fun a'=>∀ w',QC w w'→Q .normal a' w') l a) : (Code.region id l.toArray true).wp P Q a w :=
 wp_region_quiet (C:=QC w) hm hB ⟨rfl,rfl,rfl,Nat.le_refl _,fun _ _=>rfl⟩ (by simpa using h)
theorem wpQuiet_load_row {P:Program} {ops:Array Oper} {C:World→Prop} {Q:Act→Prop} {a:Act} {o:Oper} {rest:List Oper} (hw:Region.wanted o (yielded ops a.tmps)=true) (ty:TypeId) (x:Operand) (ho:o.op=.load ty x)
  (g:Nat) (hx:a.eval x=.pointer (some ⟨g,0,none⟩)) (t:TypeId) (cs:Array Value) (d:TypeDesc) (hS:∀ w,C w→Blk w g t cs)
  (hu:P.underlying ty=some d) (hd:(match d with | .struct _ | .array _ _=>true | _=>false)=true) (hi:(P.info? ty).map (·.size)=some cs.size)
  (h:wpQuiet P ops C Q rest (a.put o.dst (.agg cs))) : wpQuiet P ops C Q (o :: rest) a:=by
 refine wpQuiet_step fun K hK=>?_
 rw [if_pos hw]
 refine ⟨_,fun w hw'=>?_,hK _ h⟩
 unfold Oper.quietAt execOp
 simp only [ho,hx,Instr.loadAt,Instr.sureAddr,Sem.run_bind,Sem.run_pure,Result.andThen_ok,run_loadVar_row w g t ty cs (0,0) d (hS w hw') hu hd hi]
 exact ⟨rfl,rfl⟩
set_option maxRecDepth 100000 in
set_option maxHeartbeats 2000000 in
theorem steps_great (v0 v1:Value) (r s:Rn) (w:World) (h0:MachR w v0 r) (h1:MachR w v1 s) (hg:greatB r=true∨greatB s=true) : Calls Tryz.prog 3 #[v0,v1] w (GoodPost w):=by
 obtain ⟨q,hq⟩ : ∃ q,greatB r=q:=⟨_,rfl⟩
 obtain ⟨p,hp⟩ : ∃ p,greatB s=p:=⟨_,rfl⟩
 have HG0:Hid (∀ W,Below w.heap.size w W→Calls Tryz.prog 11 #[v0] W fun e w'=>e=.returned (.bool q)∧Below W.heap.size W w'):=Lib.hid fun W hb=>by have:=great_c v0 r W (h0.keep hb); rw [hq] at this; exact this
 have HG1:Hid (∀ W,Below w.heap.size w W→Calls Tryz.prog 11 #[v1] W fun e w'=>e=.returned (.bool p)∧Below W.heap.size W w'):=Lib.hid fun W hb=>by have:=great_c v1 s W (h1.keep hb); rw [hp] at this; exact this
 rw [hq,hp] at hg
 have hc:=h0.len
 have hd:=h1.len
 obtain ⟨mv,tv,rfl,-,-⟩:=h0.form
 obtain ⟨mv',tv',rfl,-,-⟩:=h1.form
 have hsz0:(Tryz.prog.info? 27).map (·.size)=some (mcells r mv tv).toArray.size:=by rw [mc_size hc]; exact info27
 have hsz1:(Tryz.prog.info? 27).map (·.size)=some (mcells s mv' tv').toArray.size:=by rw [mc_size hd]; exact info27
 clear h0 h1 hc hd hq hp
 generalize (mcells r mv tv).toArray=cs at *
 generalize (mcells s mv' tv').toArray=ds at *
 go_enter Tryz.func3,Tryz.ntmps3
 go_wp2_with (refine wpList_load_row rfl 27 (.tmp 2) rfl w.heap.size rfl 27 cs (0,0) _ (heap_alloc2_old w _ _) Tryz.underlying27 rfl hsz0 ?_)
 refine (HG0.out _ (((Below.refl _ _).alloc (Nat.le_refl _) _).alloc (by simp) _)).mono ?_
 rintro e w1 ⟨rfl,hb1⟩
 have D1:Blk w1 (w.heap.size+1) 27 ds:=(show Blk ((w.alloc (.cells cs 27)).alloc (.cells ds 27)) (w.heap.size+1) 27 ds by simpa using Blk.new (w.alloc (.cells cs 27)) 27 ds).below hb1 (by simp)
 have HW1:=Lib.hid ((((Below.refl _ _).alloc (Nat.le_refl _) _).alloc (by simp) _).trans (hb1.mono (by simp; omega)) : Below w.heap.size w w1)
 clear hb1
 cases q with
 | true =>
  go_wp2
  go_ret
  exact ⟨rfl,HW1.out⟩
 | false =>
  obtain rfl:p=true:=by simpa using hg
  go_wp2_with (refine wpList_load_row_w (by rfl) 27 (.tmp 3) rfl (w.heap.size+1) rfl 27 ds (0,0) _ D1 Tryz.underlying27 rfl hsz1 ?_)
  refine (HG1.out _ HW1.out).mono ?_
  rintro e w2 ⟨rfl,hb2⟩
  have HW2:=Lib.hid (HW1.out.trans (hb2.mono HW1.out.size))
  clear hb2
  go_wp2
  go_ret
  exact ⟨rfl,HW2.out⟩
end Go.Proofs.YtoehlmiadiiimaaGreatDoor

/-
  The law MachineSteps.
-/
namespace Go.Proofs.YtoehlmiadiiimaaGreatDoor
open Go.ChangeShapes Go.WideShapes Go.RowKit Go.Proofs.YtoehlmiadiiimaaGreatDoor.Ex
set_option maxRecDepth 100000 in
set_option maxHeartbeats 16000000 in
theorem steps_in (v0 v1:Value) (r s:Rn) (w:World) (h0:MachR w v0 r) (h1:MachR w v1 s) (S0:Sound r) (S1:Sound s) (hL:LG w) (h13:3≤w.heap.size) (g0:greatB r=false) (g1:greatB s=false) :
  Calls Tryz.prog 3 #[v0,v1] w (GoodPost w):=by
 have hm0:SmallM r:=⟨S0.mem,by unfold greatB at g0; simp at g0; omega,by unfold greatB at g0; simp at g0; omega⟩
 have hm1:SmallM s:=⟨S1.mem,by unfold greatB at g1; simp at g1; omega,by unfold greatB at g1; simp at g1; omega⟩
 have HG0:Hid (∀ W,Below w.heap.size w W→Calls Tryz.prog 11 #[v0] W fun e w'=>e=.returned (.bool false)∧Below W.heap.size W w'):=Lib.hid fun W hb=>by have:=great_c v0 r W (h0.keep hb); rw [g0] at this; exact this
 have HG1:Hid (∀ W,Below w.heap.size w W→Calls Tryz.prog 11 #[v1] W fun e w'=>e=.returned (.bool false)∧Below W.heap.size W w'):=Lib.hid fun W hb=>by have:=great_c v1 s W (h1.keep hb); rw [g1] at this; exact this
 have H12:Hid (∀ W,Below w.heap.size w W→Calls Tryz.prog 12 #[v0] W (TwinPost W r)):=Lib.hid fun W hb=>twinD v0 r W (h0.keep hb) hm0.2.1 hm0.2.2
 have H13:Hid (∀ W v,Below w.heap.size w W→MachR W v r→Calls Tryz.prog 13 #[v] W (StepAll W (stepR r))):=Lib.hid fun W v hb hm=>step1_all v r W hm S0.pc.1 S0.regs (laidG_below hL (hb.mono h13)) (Nat.le_trans h13 hb.size)
 have H14:Hid (∀ W,Below w.heap.size w W→Calls Tryz.prog 14 #[v0] W (StepAll W (stepR r))):=Lib.hid fun W hb=>stepD_all v0 r W (h0.keep hb) S0.pc S0.regs S0.base.1 S0.mem (laidG_below hL (hb.mono h13)) (Nat.le_trans h13 hb.size)
 have H15:Hid (∀ W v,MachR W v r→Calls Tryz.prog 15 #[v] W (TwinPost W r)):=Lib.hid fun W v hm=>twin_c v r W hm hm0.2.1 hm0.2.2
 have H16:Hid (∀ W v v' x y,MachR W v x→MachR W v' y→SmallM x→SmallM y→Calls Tryz.prog 16 #[v,v'] W (SamePost (eqB x y) W)):=Lib.hid fun W v v' x y a b c d=>same2_c v v' x y W a b c.1 d.1 c.2.1 d.2.1 c.2.2 d.2.2
 have H17:Hid (∀ W v,MachR W v r→Calls Tryz.prog 17 #[v] W (CheckPost W (checkE r))):=Lib.hid fun W v hm=>check_c v r W hm
 have H18:Hid (∀ W,Below w.heap.size w W→Calls Tryz.prog 18 #[v0] W fun e w'=>e=.returned (.int .i64 (checkE r))∧Below W.heap.size W w'):=Lib.hid fun W hb=>checkD_c v0 r W (h0.keep hb)
 have H19:Hid (∀ W v v' x y,MachR W v x→MachR W v' y→SmallM x→SmallM y→Calls Tryz.prog 19 #[v,v'] W (SamePost (eqB x y) W)):=Lib.hid fun W v v' x y a b c d=>msame2_c v v' x y W a b c.2.1 d.2.1 c.2.2 d.2.2
 have HS:Hid (SmallM r∧SmallM s∧SmallM (stepR r).1):=Lib.hid ⟨hm0,hm1,stepR_small S0.pc S0.regs S0.base.1 S0.mem⟩
 have hc:=h0.len
 have hd:=h1.len
 obtain ⟨mv,tv,rfl,-,-⟩:=h0.form
 obtain ⟨mv',tv',rfl,-,-⟩:=h1.form
 have hsz0:(Tryz.prog.info? 27).map (·.size)=some (mcells r mv tv).toArray.size:=by rw [mc_size hc]; exact info27
 have hsz1:(Tryz.prog.info? 27).map (·.size)=some (mcells s mv' tv').toArray.size:=by rw [mc_size hd]; exact info27
 have HM0:=Lib.hid h0
 have HM1:=Lib.hid h1
 clear h0 h1 hc hd S0 S1 hL h13 g0 g1 hm0 hm1
 generalize (mcells r mv tv).toArray=cs at *
 generalize (mcells s mv' tv').toArray=ds at *
 generalize stepR r=X at *
 obtain ⟨ra,E⟩:=X
 generalize checkE r=E2 at *
 go_enter Tryz.func3,Tryz.ntmps3
 go_wp2_with (refine wpList_load_row rfl 27 (.tmp 2) rfl w.heap.size rfl 27 cs (0,0) _ (heap_alloc2_old w _ _) Tryz.underlying27 rfl hsz0 ?_)
 refine (HG0.out _ (((Below.refl _ _).alloc (Nat.le_refl _) _).alloc (by simp) _)).mono ?_
 rintro e w1 ⟨rfl,hb1⟩
 have D0:Blk w1 w.heap.size 27 cs:=((Blk.new w 27 cs).alloc _).below hb1 (by simp; omega)
 have D1:Blk w1 (w.heap.size+1) 27 ds:=(show Blk ((w.alloc (.cells cs 27)).alloc (.cells ds 27)) (w.heap.size+1) 27 ds by simpa using Blk.new (w.alloc (.cells cs 27)) 27 ds).below hb1 (by simp)
 have HW1:=Lib.hid ((((Below.refl _ _).alloc (Nat.le_refl _) _).alloc (by simp) _).trans (hb1.mono (by simp; omega)) : Below w.heap.size w w1)
 have hz1:w.heap.size+2≤w1.heap.size:=by have:=hb1.size; simpa using this
 clear hb1
 go_wp2_with (refine wpList_load_row_w (by rfl) 27 (.tmp 3) rfl (w.heap.size+1) rfl 27 ds (0,0) _ D1 Tryz.underlying27 rfl hsz1 ?_)
 refine (HG1.out _ HW1.out).mono ?_
 rintro e w2 ⟨rfl,hb2⟩
 have E0:=D0.below hb2 D0.lt
 have E1:=D1.below hb2 D1.lt
 have HW2:=Lib.hid (HW1.out.trans (hb2.mono (by omega)))
 have hz2:=Nat.le_trans hz1 hb2.size
 clear hb2 D0 D1 HW1 hz1
 go_wp2_with (refine wpList_load_row rfl 27 (.tmp 2) rfl w.heap.size rfl 27 cs (0,0) _ E0 Tryz.underlying27 rfl hsz0 ?_)
 refine (H12.out _ HW2.out).mono ?_
 rintro e w3 ⟨v3,rfl,ho3,hb3⟩
 obtain ⟨c5,rfl,hsz5,hs5,hall5,hA5⟩:=AtB.made (B:=w.heap.size) ho3 (by omega) (by have:=hb3.size; omega)
 have F0:=E0.below hb3 E0.lt
 have F1:=E1.below hb3 E1.lt
 have HW3:=Lib.hid (HW2.out.trans (hb3.mono (by omega)))
 have hz3:=Nat.le_trans hz2 hb3.size
 clear hb3 ho3 E0 E1 HW2 hz2
 have hk4:∀ Z:Array Value,Below w3.heap.size w3 ((w3.alloc (.cells Z 27)).setRow w3.heap.size c5):=fun Z=>below_setRow ((Below.refl w3.heap.size w3).alloc (Nat.le_refl _) _) (Nat.le_refl _) c5
 go_upto_region 4 with (refine wpList_store_row rfl 27 (.tmp 5) (.tmp 19) rfl w3.heap.size c5 rfl rfl 27 _ (heap_alloc_new w3 _) hsz5 (by rw [hs5.out]; rfl) hall5 ?_)
 refine (fun (h:∀ w4:World,w4.heap.size=w3.heap.size+1→Hid (Below w.heap.size w w4)→Blk w4 w.heap.size 27 cs→Blk w4 (w.heap.size+1) 27 ds→Blk w4 w3.heap.size 27 c5→Hid (MachR w4 (.agg c5) r)→Code.wp Tryz.prog _ _ _ w4)=>h _ (by simp) (Lib.hid (HW3.out.trans ((hk4 _).mono (by omega)))) (F0.below (hk4 _) F0.lt) (F1.below (hk4 _) F1.lt) (hA5.out _).blk (Lib.hid (hA5.out _).reads)) ?_
 clear HW3 F0 F1 hA5 hk4
 intro w4 hz4 HW4 F0 F1 F5 HM5
 generalize w3.heap.size=G5 at *
 have HM0':=Lib.hid (HM0.out.keep HW4.out)
 have HM1':=Lib.hid (HM1.out.keep HW4.out)
 clear HM0 HM1 HG0 HG1 H12
 go_wp2_with (refine wpList_load_row rfl 27 (.tmp 5) rfl G5 rfl 27 c5 (0,0) _ F5 Tryz.underlying27 rfl hsz5 ?_)
 refine (H13.out _ _ HW4.out HM5.out).mono ?_
 intro e w5 hp5
 obtain ⟨hb5,v6,rfl,ho6⟩:=hp5
 obtain ⟨c6,rfl,hsz6,hs6,hall6,hA6⟩:=AtB.made (B:=w4.heap.size) ho6 (Nat.le_refl _) hb5.size
 have hk6:∀ Z:Array Value,Below w4.heap.size w4 ((w5.alloc (.cells Z 27)).setRow w5.heap.size c6):=fun Z=>hb5.trans ((below_setRow ((Below.refl w5.heap.size w5).alloc (Nat.le_refl _) _) (Nat.le_refl _) c6).mono hb5.size)
 go_upto_region 5 with (refine wpList_store_row rfl 27 (.tmp 6) (.tmp 23) rfl w5.heap.size c6 rfl rfl 27 _ (heap_alloc_new w5 _) hsz6 (by rw [hs6.out]; rfl) hall6 ?_)
 refine (fun (h:∀ w6:World,w6.heap.size=w5.heap.size+1→Hid (Below w4.heap.size w4 w6)→Hid (AtB w4.heap.size w6 w5.heap.size c6 ra)→Code.wp Tryz.prog _ _ _ w6)=>h _ (by simp) (Lib.hid (hk6 _)) (Lib.hid (hA6.out _))) ?_
 have hz5:=hb5.size
 clear hb5 ho6 hA6 hk6
 intro w6 hz6 HB6 HA6
 generalize w5.heap.size=G6 at *
 have G0:=F0.below HB6.out F0.lt
 go_wp2_with (refine wpList_load_row rfl 27 (.tmp 2) rfl w.heap.size rfl 27 cs (0,0) _ G0 Tryz.underlying27 rfl hsz0 ?_)
 refine (H14.out _ (HW4.out.trans (HB6.out.mono (by omega)))).mono ?_
 intro e w7 hp7
 obtain ⟨hb7,v8,rfl,ho8⟩:=hp7
 obtain ⟨c8,rfl,hsz8,hs8,hall8,hA8⟩:=AtB.made (B:=w6.heap.size) ho8 (Nat.le_refl _) hb7.size
 have hk8:∀ Z:Array Value,Below w6.heap.size w6 ((w7.alloc (.cells Z 27)).setRow w7.heap.size c8):=fun Z=>hb7.trans ((below_setRow ((Below.refl w7.heap.size w7).alloc (Nat.le_refl _) _) (Nat.le_refl _) c8).mono hb7.size)
 go_upto_region 6 with (refine wpList_store_row rfl 27 (.tmp 8) (.tmp 28) rfl w7.heap.size c8 rfl rfl 27 _ (heap_alloc_new w7 _) hsz8 (by rw [hs8.out]; rfl) hall8 ?_)
 refine (fun (h:∀ w8:World,w8.heap.size=w7.heap.size+1→Hid (Below w6.heap.size w6 w8)→Hid (AtB w6.heap.size w8 w7.heap.size c8 ra)→Code.wp Tryz.prog _ _ _ w8)=>h _ (by simp) (Lib.hid (hk8 _)) (Lib.hid (hA8.out _))) ?_
 have hz7:=hb7.size
 clear hb7 ho8 hA8 hk8 G0
 intro w8 hz8 HB8 HA8
 generalize w7.heap.size=G8 at *
 have HC8:=Lib.hid (HB6.out.trans (HB8.out.mono (by omega)))
 have G5':=F5.below HC8.out F5.lt
 go_wp2_with (refine wpList_load_row rfl 27 (.tmp 5) rfl G5 rfl 27 c5 (0,0) _ G5' Tryz.underlying27 rfl hsz5 ?_)
 refine (H15.out _ _ (HM5.out.keep HC8.out)).mono ?_
 rintro e w9 ⟨v10,rfl,ho10,hb9⟩
 obtain ⟨c10,rfl,hsz10,hs10,hall10,hA10⟩:=AtB.made (B:=w8.heap.size) ho10 (Nat.le_refl _) hb9.size
 have hk10:∀ Z:Array Value,Below w8.heap.size w8 ((w9.alloc (.cells Z 27)).setRow w9.heap.size c10):=fun Z=>hb9.trans ((below_setRow ((Below.refl w9.heap.size w9).alloc (Nat.le_refl _) _) (Nat.le_refl _) c10).mono hb9.size)
 go_upto_region 7 with (refine wpList_store_row rfl 27 (.tmp 10) (.tmp 31) rfl w9.heap.size c10 rfl rfl 27 _ (heap_alloc_new w9 _) hsz10 (by rw [hs10.out]; rfl) hall10 ?_)
 refine (fun (h:∀ w10:World,w10.heap.size=w9.heap.size+1→Hid (Below w8.heap.size w8 w10)→Hid (AtB w8.heap.size w10 w9.heap.size c10 r)→Code.wp Tryz.prog _ _ _ w10)=>h _ (by simp) (Lib.hid (hk10 _)) (Lib.hid (hA10.out _))) ?_
 have hz9:=hb9.size
 clear hb9 ho10 hA10 hk10 G5'
 intro w10 hz10 HB10 HA10
 generalize w9.heap.size=G10 at *
 have HC10:=Lib.hid (HC8.out.trans (HB10.out.mono (by omega)))
 have I6:=Lib.hid ((HA6.out.below HB8.out).below HB10.out)
 have I8:=Lib.hid (HA8.out.below HB10.out)
 have hN6:Hid (∀ W mv tv,OutW w4.heap.size w6 G6 ra mv tv→(∀ k,mv.ownBlock=some k→w4.heap.size≤k∧k < w8.heap.size)∧(∀ k,tv.ownBlock=some k→w4.heap.size≤k∧k < w8.heap.size)∧(Below w6.heap.size w6 W→OutW w4.heap.size W G6 ra mv tv)):=Lib.hid fun W mv tv O=>⟨fun k e=>⟨(O.mem.lt k e).1,by have:=(O.mem.lt k e).2; omega⟩,fun k e=>⟨(O.told.lt k e).1,by have:=(O.told.lt k e).2; omega⟩,O.below⟩
 have HD10:=Lib.hid (HB8.out.trans (HB10.out.mono (by omega)))
 have Q0:∀ W,QC w10 W→Blk W w.heap.size 27 cs:=fun W h=>(F0.below HC10.out F0.lt).below h (F0.below HC10.out F0.lt).lt
 have Q1:∀ W,QC w10 W→Blk W (w.heap.size+1) 27 ds:=fun W h=>(F1.below HC10.out F1.lt).below h (F1.below HC10.out F1.lt).lt
 have Q5:∀ W,QC w10 W→Blk W G5 27 c5:=fun W h=>(F5.below HC10.out F5.lt).below h (F5.below HC10.out F5.lt).lt
 have Q6:∀ W,QC w10 W→Blk W G6 27 c6:=fun W h=>I6.out.blk.below h I6.out.blk.lt
 have Q8:∀ W,QC w10 W→Blk W G8 27 c8:=fun W h=>I8.out.blk.below h I8.out.blk.lt
 have Q10:∀ W,QC w10 W→Blk W G10 27 c10:=fun W h=>HA10.out.blk.below h HA10.out.blk.lt
 have HWX:Hid (∀ W,QC w10 W→Below w.heap.size w W):=Lib.hid fun W h=>HW4.out.trans ((HC10.out.trans (Below.mono h (by omega))).mono (by omega))
 have HQC:Hid (∀ W W',QC w10 W→Below W.heap.size W W'→QC w10 W'):=Lib.hid fun W W' h h'=>Below.trans h (h'.mono (Below.size h))
 have X16a:Hid (∀ W,QC w10 W→Calls Tryz.prog 16 #[.agg c6,.agg c8] W fun e w''=>e=.returned (.bool true)∧QC w10 w''):=Lib.hid fun W h=>(H16.out W _ _ ra ra (I6.out.below h).reads (I8.out.below h).reads HS.out.2.2 HS.out.2.2).mono fun e w' ⟨h1,h2⟩=>⟨by rw [h1,eqB_refl],HQC.out _ _ h h2⟩
 have X17:Hid (∀ W,QC w10 W→Calls Tryz.prog 17 #[.agg c5] W fun e w''=>e=.returned (.int .i64 E2)∧QC w10 w''):=Lib.hid fun W h=>(H17.out W _ ((HM5.out.keep HC10.out).keep h)).mono fun e w' ⟨h1,h2⟩=>⟨h1,HQC.out _ _ h h2⟩
 have X18:Hid (∀ W,QC w10 W→Calls Tryz.prog 18 #[.agg cs] W fun e w''=>e=.returned (.int .i64 E2)∧QC w10 w''):=Lib.hid fun W h=>(H18.out W (HWX.out W h)).mono fun e w' ⟨h1,h2⟩=>⟨h1,HQC.out _ _ h h2⟩
 have X16b:Hid (∀ W,QC w10 W→Calls Tryz.prog 16 #[.agg c10,.agg cs] W fun e w''=>e=.returned (.bool true)∧QC w10 w''):=Lib.hid fun W h=>(H16.out W _ _ r r (HA10.out.below h).reads ((HM0'.out.keep HC10.out).keep h) HS.out.1 HS.out.1).mono fun e w' ⟨h1,h2⟩=>⟨by rw [h1,eqB_refl],HQC.out _ _ h h2⟩
 have X19a:Hid (∀ W,QC w10 W→Calls Tryz.prog 19 #[.agg cs,.agg ds] W fun e w''=>e=.returned (.bool (eqB r s))∧QC w10 w''):=Lib.hid fun W h=>(H19.out W _ _ r s ((HM0'.out.keep HC10.out).keep h) ((HM1'.out.keep HC10.out).keep h) HS.out.1 HS.out.2.1).mono fun e w' ⟨h1,h2⟩=>⟨h1,HQC.out _ _ h h2⟩
 have X16c:Hid (∀ W,QC w10 W→Calls Tryz.prog 16 #[.agg cs,.agg ds] W fun e w''=>e=.returned (.bool (eqB r s))∧QC w10 w''):=Lib.hid fun W h=>(H16.out W _ _ r s ((HM0'.out.keep HC10.out).keep h) ((HM1'.out.keep HC10.out).keep h) HS.out.1 HS.out.2.1).mono fun e w' ⟨h1,h2⟩=>⟨h1,HQC.out _ _ h h2⟩
 have X19b:Hid (∀ W,QC w10 W→Calls Tryz.prog 19 #[.agg c5,.agg cs] W fun e w''=>e=.returned (.bool true)∧QC w10 w''):=Lib.hid fun W h=>(H19.out W _ _ r r ((HM5.out.keep HC10.out).keep h) ((HM0'.out.keep HC10.out).keep h) HS.out.1 HS.out.1).mono fun e w' ⟨h1,h2⟩=>⟨by rw [h1,eqB_refl],HQC.out _ _ h h2⟩
 generalize eqB r s=bq at *
 refine region_quiet_below mixed (by kernel_rfl) ?_
 repeat (first
  | (refine wpQuiet_load_row (by rfl) 27 (.tmp 2) rfl w.heap.size rfl 27 cs _ Q0 Tryz.underlying27 rfl hsz0 ?_)
  | (refine wpQuiet_load_row (by rfl) 27 (.tmp 3) rfl (w.heap.size+1) rfl 27 ds _ Q1 Tryz.underlying27 rfl hsz1 ?_)
  | (refine wpQuiet_load_row (by rfl) 27 (.tmp 5) rfl G5 rfl 27 c5 _ Q5 Tryz.underlying27 rfl hsz5 ?_)
  | (refine wpQuiet_load_row (by rfl) 27 (.tmp 6) rfl G6 rfl 27 c6 _ Q6 Tryz.underlying27 rfl hsz6 ?_)
  | (refine wpQuiet_load_row (by rfl) 27 (.tmp 8) rfl G8 rfl 27 c8 _ Q8 Tryz.underlying27 rfl hsz8 ?_)
  | (refine wpQuiet_load_row (by rfl) 27 (.tmp 10) rfl G10 rfl 27 c10 _ Q10 Tryz.underlying27 rfl hsz10 ?_)
  | (refine wpQuiet_step (fun K hK => ?_)
     go_simp
     first
       | (refine hK _ ?_; clear hK K)
       | (apply Exists.intro
          refine ⟨fun W hW=>?_,hK _ ?_⟩
          first | with_reducible exact X16a.out W hW | with_reducible exact X17.out W hW | with_reducible exact X18.out W hW | with_reducible exact X16b.out W hW | with_reducible exact X19a.out W hW | with_reducible exact X16c.out W hW | with_reducible exact X19b.out W hW
          clear hK K)
       | (refine ⟨_,fun _ _=>rfl,hK _ ?_⟩; clear hK K)))
 refine wpQuiet_nil ?_
 intro w11 hw11
 have B11:Below w10.heap.size w10 w11:=hw11
 have hz11:=B11.size
 have P6:=Q6 w11 hw11
 have A10:=(HA10.out.below B11)
 have HB11:=Lib.hid (HC10.out.trans (B11.mono (by omega)))
 obtain ⟨mv6,tv6,e6,O6⟩:=HA6.out
 have hn:=hN6.out w11 mv6 tv6 O6
 have O6':=hn.2.2 (HD10.out.trans (B11.mono (by omega)))
 have H20:Hid (Calls Tryz.prog 20 #[.agg c6] w11 (SpPost w11 mv6 tv6)):=Lib.hid (by have:=spoil_c ra mv6 tv6 w11 _ O6'.len O6'.mem O6'.told HS.out.2.2.2.1 HS.out.2.2.2.2; rw [← e6] at this; exact this)
 have HN:=Lib.hid (And.intro hn.1 hn.2.1)
 have HA:=Lib.hid A10
 clear hn O6 O6' e6 A10 Q0 Q1 Q5 Q6 Q8 Q10 hN6 X16a X16b X16c X17 X18 X19a X19b HWX HQC hw11 B11
 go_wp2_with (refine wpList_load_row rfl 27 (.tmp 6) rfl G6 rfl 27 c6 (0,0) _ P6 Tryz.underlying27 rfl hsz6 ?_)
 refine H20.out.mono ?_
 rintro e w13 ⟨rfl,w12,hg1,hg2⟩
 have hz12:=hg1.size
 have hz13:=hg2.size
 have HB13:=Lib.hid ((HB11.out.grown hg1 (by omega) (fun k e=>(HN.out.1 k e).1)).grown hg2 (by omega) (fun k e=>(HN.out.2 k e).1))
 have A10:=(HA.out.high hg1 (fun k e=>(HN.out.1 k e).2)).high hg2 (fun k e=>(HN.out.2 k e).2)
 have P10:=A10.blk
 obtain ⟨mv10,tv10,e10,O10⟩:=A10
 have H20':Hid (Calls Tryz.prog 20 #[.agg c10] w13 (SpPost w13 mv10 tv10)):=Lib.hid (by have:=spoil_c r mv10 tv10 w13 _ O10.len O10.mem O10.told HS.out.1.2.1 HS.out.1.2.2; rw [← e10] at this; exact this)
 have HM:Hid ((∀ k,mv10.ownBlock=some k→w8.heap.size≤k)∧(∀ k,tv10.ownBlock=some k→w8.heap.size≤k)):=Lib.hid ⟨fun k e=>(O10.mem.lt k e).1,fun k e=>(O10.told.lt k e).1⟩
 clear hg1 hg2 O10 e10 P6 HA HN H20 HB11
 go_wp2_with (refine wpList_load_row rfl 27 (.tmp 10) rfl G10 rfl 27 c10 (0,0) _ P10 Tryz.underlying27 rfl hsz10 ?_)
 refine H20'.out.mono ?_
 rintro e w15 ⟨rfl,w14,hg3,hg4⟩
 have hz14:=hg3.size
 have hz15:=hg4.size
 have HB15:=Lib.hid ((HB13.out.grown hg3 (by omega) (fun k e=>by have:=HM.out.1 k e; omega)).grown hg4 (by omega) (fun k e=>by have:=HM.out.2 k e; omega))
 have P0:=F0.below HB15.out F0.lt
 have P5:=F5.below HB15.out F5.lt
 clear hg3 hg4 P10 HM HB13
 go_wp2_with (first
  | (refine wpList_load_row_w (by rfl) 27 (.tmp 5) rfl G5 rfl 27 c5 (0,0) _ P5 Tryz.underlying27 rfl hsz5 ?_)
  | (refine wpList_load_row_w (by rfl) 27 (.tmp 2) rfl w.heap.size rfl 27 cs (0,0) _ P0 Tryz.underlying27 rfl hsz0 ?_))
 refine (H16.out w15 _ _ r r (HM5.out.keep HB15.out) (HM0'.out.keep HB15.out) HS.out.1 HS.out.1).mono ?_
 rintro e w16 ⟨he,hb16⟩
 rw [eqB_refl] at he
 subst he
 have HW16:=Lib.hid (HW4.out.trans ((HB15.out.trans (hb16.mono (by omega))).mono (by omega)))
 clear hb16
 go_wp2
 go_ret
 exact ⟨rfl,HW16.out⟩
theorem steps_c (v0 v1:Value) (r s:Rn) (w:World) (h0:MachR w v0 r) (h1:MachR w v1 s) (S0:Sound r) (S1:Sound s) (hL:LG w) (h13:3≤w.heap.size) : Calls Tryz.prog 3 #[v0,v1] w (GoodPost w):=by
 cases g0:greatB r with
 | true=>exact steps_great v0 v1 r s w h0 h1 (.inl g0)
 | false=>cases g1:greatB s with
  | true=>exact steps_great v0 v1 r s w h0 h1 (.inr g1)
  | false=>exact steps_in v0 v1 r s w h0 h1 S0 S1 hL h13 g0 g1
end Go.Proofs.YtoehlmiadiiimaaGreatDoor

