import Derived.Test.YtoehlmiadiiimaaGreatDoorTMemJ8
import Derived.Test.YtoehlmiadiiimaaGreatDoorTMemKG
import Derived.Test.YtoehlmiadiiimaaGreatDoorTMemR5
/-
  The machine, as the document has it: may one be; what stays as numbers are.
-/
namespace Go.Proofs.YtoehlmiadiiimaaGreatDoor
open Go.ChangeShapes Go.WideShapes Go.RowKit Go.Proofs.YtoehlmiadiiimaaGreatDoor.Ex
set_option maxRecDepth 100000 in
set_option maxHeartbeats 1000000 in
theorem mayM (v:Value) (r:Rn) (w:World) (h:MachR w v r) (b:Bool) (hb:decide (checkE r=0)=b) : Calls Tryz.prog 34 #[v] w fun e w'=>e=.returned (.bool b)∧Below w.heap.size w w':=by
 obtain ⟨mv,tv,rfl,hmv,htv⟩:=h.form
 have hlen:=h.len
 obtain ⟨A1,q1,rfl,-,-⟩:=hmv.form
 obtain ⟨A2,q2,rfl,-,-⟩:=htv.form
 have c33:=mc33 (r:=r) (mv:=.slice A1 (r.mem.map (Value.int .u8)).length q1) (tv:=.slice A2 (r.told.map (Value.int .u64)).length q2) hlen
 have c34:=mc34 (r:=r) (mv:=.slice A1 (r.mem.map (Value.int .u8)).length q1) (tv:=.slice A2 (r.told.map (Value.int .u64)).length q2) hlen
 have c35:=mc35 (r:=r) (mv:=.slice A1 (r.mem.map (Value.int .u8)).length q1) (tv:=.slice A2 (r.told.map (Value.int .u64)).length q2) hlen
 have c1:=mcR (r:=r) (mv:=.slice A1 (r.mem.map (Value.int .u8)).length q1) (tv:=.slice A2 (r.told.map (Value.int .u64)).length q2) hlen 0 (by omega)
 generalize (mcells r (.slice A1 (r.mem.map (Value.int .u8)).length q1) (.slice A2 (r.told.map (Value.int .u64)).length q2)).toArray=cs at *
 simp only [List.length_map] at c34 c35
 unfold checkE checkF at hb
 generalize r.base=B at *
 generalize r.mem.length=m at *
 generalize r.regs.getD 0 0=x at *
 generalize r.told.length=t at *
 clear hmv htv h hlen
 have HB:=Lib.hid hb
 clear hb
 by_cases k1:B≤2147483648
 ·by_cases k2:m≤65536
  ·have k2':(m:Int)≤65536:=by omega
   by_cases k3:x=0
   ·subst k3
    by_cases k4:t≤1000
    ·have k4':(t:Int)≤1000:=by omega
     have d4:decide (t≤1000)=true:=decide_eq_true k4
     have d2:decide (m≤65536)=true:=decide_eq_true k2
     obtain rfl:b=true:=by rw [← HB.out]; exact decide_eq_true (by (repeat' split) <;> omega)
     go_enter Tryz.func34,Tryz.ntmps34
     go_wp2
     go_ret
     exact ⟨rfl,(Below.refl _ _).alloc (Nat.le_refl _) _⟩
    ·have k4':¬ (t:Int)≤1000:=by omega
     have d4:decide (t≤1000)=false:=decide_eq_false k4
     have d2:decide (m≤65536)=true:=decide_eq_true k2
     obtain rfl:b=false:=by rw [← HB.out]; exact decide_eq_false (by (repeat' split) <;> omega)
     go_enter Tryz.func34,Tryz.ntmps34
     go_wp2
     go_ret
     exact ⟨rfl,(Below.refl _ _).alloc (Nat.le_refl _) _⟩
   ·have k3':(x == 0)=false:=by simpa using k3
    have d2:decide (m≤65536)=true:=decide_eq_true k2
    obtain rfl:b=false:=by rw [← HB.out]; exact decide_eq_false (by (repeat' split) <;> omega)
    clear k3
    go_enter Tryz.func34,Tryz.ntmps34
    go_wp2
    go_ret
    exact ⟨rfl,(Below.refl _ _).alloc (Nat.le_refl _) _⟩
  ·have k2':¬ (m:Int)≤65536:=by omega
   have d2:decide (m≤65536)=false:=decide_eq_false k2
   obtain rfl:b=false:=by rw [← HB.out]; exact decide_eq_false (by (repeat' split) <;> omega)
   go_enter Tryz.func34,Tryz.ntmps34
   go_wp2
   go_ret
   exact ⟨rfl,(Below.refl _ _).alloc (Nat.le_refl _) _⟩
 ·have d1:decide (B≤2147483648)=false:=decide_eq_false k1
  obtain rfl:b=false:=by rw [← HB.out]; exact decide_eq_false (by (repeat' split) <;> omega)
  go_enter Tryz.func34,Tryz.ntmps34
  go_wp2
  go_ret
  exact ⟨rfl,(Below.refl _ _).alloc (Nat.le_refl _) _⟩
theorem mem_set_all {l:List Int} (h:∀ x∈l,0≤x∧x < 256) (k:Nat) {v:Int} (hv:0≤v∧v < 256) : ∀ x∈l.set k v,0≤x∧x < 256:=fun x hx=>by
 rcases List.mem_or_eq_of_mem_set hx with h1 | h1
 ·exact h x h1
 ·subst h1; exact hv
theorem memSet_all {l:List Int} (h:∀ x∈l,0≤x∧x < 256) (k:Nat) (y:Int) : ∀ j,∀ x∈memSet l k y j,0≤x∧x < 256
 | 0=>h
 | j+1=>mem_set_all (memSet_all h k y j) _ (by
  unfold stv
  show 0≤(y / 2 ^ (8*j)) % 256∧(y / 2 ^ (8*j)) % 256 < 256
  omega)
theorem doF_more {i:Ins} {r r':Rn} {to:Int} (h:doF i r=some (to,r')) (h0:r.on < B64) (hm:∀ x∈r.mem,0≤x∧x < 256) : to < B64∧∀ x∈r'.mem,0≤x∧x < 256:=by
 unfold doF at h
 split at h
 ·injection h with h; injection h with h1 h; subst h; subst h1
  exact ⟨h0,hm⟩
 ·injection h with h; injection h with h1 h; subst h; subst h1
  exact ⟨(u64_B _).2,hm⟩
 ·injection h with h; injection h with h1 h; subst h; subst h1
  refine ⟨?_,hm⟩
  split
  ·exact (u64_B _).2
  ·exact h0
 ·split at h
  ·injection h with h; injection h with h1 h; subst h; subst h1
   exact ⟨(bits_bd _ _ _).2,hm⟩
  ·split at h
   ·cases h
   ·injection h with h; injection h with h1 h; subst h; subst h1
    exact ⟨h0,hm⟩
 ·split at h
  ·cases h
  ·injection h with h; injection h with h1 h; subst h; subst h1
   exact ⟨h0,memSet_all hm _ _ _⟩
 ·injection h with h; injection h with h1 h; subst h; subst h1
  exact ⟨h0,hm⟩
 ·injection h with h; injection h with h1 h; subst h; subst h1
  exact ⟨h0,hm⟩
 ·injection h with h; injection h with h1 h; subst h; subst h1
  exact ⟨h0,hm⟩
 ·injection h with h; injection h with h1 h; subst h; subst h1
  exact ⟨h0,hm⟩
 ·injection h with h; injection h with h1 h; subst h; subst h1
  exact ⟨h0,hm⟩
 ·split at h
  ·split at h
   ·injection h with h; injection h with h1 h; subst h; subst h1
    exact ⟨h0,hm⟩
   ·cases h
  ·cases h
 ·cases h
theorem fit_step {r r':Rn} (F:Fit r) (h:stepF r=some r') : Fit r':=by
 have K:=step_kept h
 have K1:=K.mem
 have K2:=K.base
 have K3:=K.most
 have F1:=F.len
 have F2:=F.told
 have key:r'.pc < B64∧∀ x∈r'.mem,0≤x∧x < 256:=by
  unfold stepF at h
  split at h
  ·cases h
  ·split at h
   ·cases h
   ·rename_i i on hf
    split at h
    ·cases h
    ·rename_i to r1 hd
     injection h with h
     subst h
     have k:=doF_more (r:={ r with on:=on,stop:=false }) hd (fetch_on hf).2 F.bytes
     exact k
 exact ⟨⟨K.pc F.pc.1,key.1⟩,by rw [K2]; exact F.base,by omega,key.2,K.regs F.regs,by omega⟩
theorem fit_go (r:Rn) (F:Fit r) : ∀ n,Fit (goF n r).1
 | 0=>F
 | n+1=>by
  unfold goF
  split
  ·exact F
  ·rename_i r1 hs
   exact fit_go r1 (fit_step F hs) n
end Go.Proofs.YtoehlmiadiiimaaGreatDoor

/-
  The machine, as the document has it: Run.
-/
set_option maxRecDepth 100000
set_option maxHeartbeats 2000000
namespace Go.Proofs.YtoehlmiadiiimaaGreatDoor
open Go.ChangeShapes Go.WideShapes Go.RowKit Go.Proofs.YtoehlmiadiiimaaGreatDoor.Ex
theorem runD_err (v:Value) (r:Rn) (n:Int) (w:World) (h:MachR w v r) (hc:checkE r=8) :
  Calls Tryz.prog 24 #[v,.int .i64 n] w (RunAll w (rn0,0,false,8)):=by
 have H34:Hid (∀ W,Below w.heap.size w W→Calls Tryz.prog 34 #[v] W fun e w'=>e=.returned (.bool false)∧Below W.heap.size W w'):=Lib.hid fun W hb=>mayM v r W (h.keep hb) false (decide_eq_false (by rw [hc]; decide))
 obtain ⟨mv,tv,rfl,hmv,htv⟩:=h.form
 have hlen:=h.len
 have hsz:(Tryz.prog.info? 27).map (·.size)=some (mcells r mv tv).toArray.size:=by rw [mc_size hlen]; exact info27
 have hz:(Tryz.prog.info? 27).map (·.size)=some z27.size:=by rw [z27_size]; exact info27
 clear h hc hmv htv hlen
 generalize (mcells r mv tv).toArray=cs at *
 go_enter Tryz.func24,Tryz.ntmps24
 go_wp2_with (refine wpList_load_row rfl 27 (.tmp 2) rfl w.heap.size rfl 27 cs (0,0) _ (heap_alloc2_old w _ _) Tryz.underlying27 rfl hsz ?_)
 refine (H34.out _ (((Below.refl _ _).alloc (Nat.le_refl _) _).alloc (by simp) _)).mono ?_
 rintro e w1 ⟨rfl,hb1⟩
 have E1:=(hb1.block (w.heap.size+1) (by simp)).trans (heap_alloc2_new w _ _)
 have hw1:Below w.heap.size w w1:=(((Below.refl _ _).alloc (Nat.le_refl _) _).alloc (by simp) _).trans (hb1.mono (by simp; omega))
 have HW1:=Lib.hid hw1
 clear hw1 hb1
 go_wp2_with (first
  | (refine wpList_build0 rfl 27 rfl z27 built27 ?_)
  | (refine wpList_store_row rfl 27 (.tmp 4) (.tmp 16) rfl (w.heap.size+1) z27 rfl rfl 27 _ E1 hz (by rw [z27_size]; rfl) z27_one ?_))
 refine bodyPost_ret (results_cell_tmp3 rfl _ _ (w.heap.size+1) 27 z27 (0,0) _ rfl (setRow_heap _ _ _ _ _ _ E1) Tryz.underlying27 rfl hz) rfl ?_
 exact ⟨below_setRow HW1.out (Nat.le_succ _) _,_,rfl,rn0_own _ _⟩
theorem runD_bad (v:Value) (r:Rn) (n:Int) (w:World) (h:MachR w v r) (hc:checkE r=0) (hn:n < 0∨1000 < n) :
  Calls Tryz.prog 24 #[v,.int .i64 n] w (RunAll w (rn0,0,false,2)):=by
 have H34:Hid (∀ W,Below w.heap.size w W→Calls Tryz.prog 34 #[v] W fun e w'=>e=.returned (.bool true)∧Below W.heap.size W w'):=Lib.hid fun W hb=>mayM v r W (h.keep hb) true (decide_eq_true hc)
 obtain ⟨mv,tv,rfl,hmv,htv⟩:=h.form
 have hlen:=h.len
 have hsz:(Tryz.prog.info? 27).map (·.size)=some (mcells r mv tv).toArray.size:=by rw [mc_size hlen]; exact info27
 have hz:(Tryz.prog.info? 27).map (·.size)=some z27.size:=by rw [z27_size]; exact info27
 clear h hc hmv htv hlen
 generalize (mcells r mv tv).toArray=cs at *
 rcases hn with hn | hn
 all_goals
  have hd0:decide (n < 0)=decide (n < 0):=rfl
  go_enter Tryz.func24,Tryz.ntmps24
  go_wp2_with (refine wpList_load_row rfl 27 (.tmp 2) rfl w.heap.size rfl 27 cs (0,0) _ (heap_alloc2_old w _ _) Tryz.underlying27 rfl hsz ?_)
  refine (H34.out _ (((Below.refl _ _).alloc (Nat.le_refl _) _).alloc (by simp) _)).mono ?_
  rintro e w1 ⟨rfl,hb1⟩
  have E1:=(hb1.block (w.heap.size+1) (by simp)).trans (heap_alloc2_new w _ _)
  have hw1:Below w.heap.size w w1:=(((Below.refl _ _).alloc (Nat.le_refl _) _).alloc (by simp) _).trans (hb1.mono (by simp; omega))
  have HW1:=Lib.hid hw1
  clear hw1 hb1
  go_wp2_with (first
   | (refine wpList_build0 rfl 27 rfl z27 built27 ?_)
   | (refine wpList_store_row rfl 27 (.tmp 4) (.tmp 23) rfl (w.heap.size+1) z27 rfl rfl 27 _ E1 hz (by rw [z27_size]; rfl) z27_one ?_))
  refine bodyPost_ret (results_cell_tmp3 rfl _ _ (w.heap.size+1) 27 z27 (0,0) _ rfl (setRow_heap _ _ _ _ _ _ E1) Tryz.underlying27 rfl hz) rfl ?_
  exact ⟨below_setRow HW1.out (Nat.le_succ _) _,_,rfl,rn0_own _ _⟩
theorem runP_bad (v:Value) (r:Rn) (n:Int) (w:World) (h:MachR w v r) (hc:checkE r=0) (hn:n < 0∨1000 < n) :
  Calls Tryz.prog 23 #[v,.int .i64 n] w (RunAll w (rn0,0,false,2)):=by
 have H17:Hid (∀ W,Below w.heap.size w W→Calls Tryz.prog 17 #[v] W (CheckPost W 0)):=Lib.hid fun W hb=>by have:=check_c v r W (h.keep hb); rw [hc] at this; exact this
 obtain ⟨mv,tv,rfl,hmv,htv⟩:=h.form
 have hlen:=h.len
 have hsz:(Tryz.prog.info? 27).map (·.size)=some (mcells r mv tv).toArray.size:=by rw [mc_size hlen]; exact info27
 have hz:(Tryz.prog.info? 27).map (·.size)=some z27.size:=by rw [z27_size]; exact info27
 clear h hc hmv htv hlen
 generalize (mcells r mv tv).toArray=cs at *
 rcases hn with hn | hn
 all_goals
  go_enter Tryz.func23,Tryz.ntmps23
  go_wp2_with (refine wpList_load_row rfl 27 (.tmp 2) rfl w.heap.size rfl 27 cs (0,0) _ (heap_alloc2_old w _ _) Tryz.underlying27 rfl hsz ?_)
  refine (H17.out _ (((Below.refl _ _).alloc (Nat.le_refl _) _).alloc (by simp) _)).mono ?_
  intro e w1 hp1
  obtain ⟨rfl,hb1⟩:=hp1
  have E1:=(hb1.block (w.heap.size+1) (by simp)).trans (heap_alloc2_new w _ _)
  have hw1:Below w.heap.size w w1:=(((Below.refl _ _).alloc (Nat.le_refl _) _).alloc (by simp) _).trans (hb1.mono (by simp; omega))
  have HW1:=Lib.hid hw1
  clear hw1 hb1
  go_wp2_with (first
   | (refine wpList_build0 rfl 27 rfl z27 built27 ?_)
   | (refine wpList_store_row rfl 27 (.tmp 4) (.tmp 25) rfl (w.heap.size+1) z27 rfl rfl 27 _ E1 hz (by rw [z27_size]; rfl) z27_one ?_))
  refine bodyPost_ret (results_cell_tmp3 rfl _ _ (w.heap.size+1) 27 z27 (0,0) _ rfl (setRow_heap _ _ _ _ _ _ E1) Tryz.underlying27 rfl hz) rfl ?_
  exact ⟨below_setRow HW1.out (Nat.le_succ _) _,_,rfl,rn0_own _ _⟩
end Go.Proofs.YtoehlmiadiiimaaGreatDoor

/-
  The machine, as the document has it: Run, many steps.
-/
namespace Go.Proofs.YtoehlmiadiiimaaGreatDoor
open Go.ChangeShapes Go.WideShapes Go.RowKit Go.Proofs.YtoehlmiadiiimaaGreatDoor.Ex
theorem MachO.farT {B g:Nat} {w:World} {v:Value} {r:Rn} {c0:Array Value} (h:MachO B w v r) (hb:w.heap[g]?=some (.cells c0 27 (0,0))) (cs:Array Value) : MachO B (w.setRow g cs) v r:=by
 obtain ⟨hl,mv,tv,rfl,hm,ht⟩:=h
 exact ⟨hl,mv,tv,rfl,own_setRow_far hm (own_blk_ne hm (show Blk w g 27 c0 from hb) (by decide)) cs,own_setRow_far ht (own_blk_ne ht (show Blk w g 27 c0 from hb) (by decide)) cs⟩
set_option maxRecDepth 100000 in
set_option maxHeartbeats 4000000 in
theorem runD_c (v:Value) (r:Rn) (n:Nat) (w:World) (h:MachR w v r) (F:Fit r) (hL:LG w) (h13:3≤w.heap.size) (hn:n≤1000) (hc:checkE r=0) :
  Calls Tryz.prog 24 #[v,.int .i64 n] w (RunPost w r n):=by
 have H34:Hid (∀ W,Below w.heap.size w W→Calls Tryz.prog 34 #[v] W fun e w'=>e=.returned (.bool true)∧Below W.heap.size W w'):=Lib.hid fun W hb=>mayM v r W (h.keep hb) true (decide_eq_true hc)
 have H12:Hid (∀ W,Below w.heap.size w W→Calls Tryz.prog 12 #[v] W (TwinPost W r)):=Lib.hid fun W hb=>twinD v r W (h.keep hb) (by have:=F.len; omega) F.told
 have H35:Hid (∀ W v' r',Below w.heap.size w W→MachR W v' r'→Fit r'→Calls Tryz.prog 35 #[v'] W (StepPost W v' (stepF r'))):=Lib.hid fun W v' r' hb hm hw=>go_D v' r' W hm hw (laidG_below hL (hb.mono h13)) (Nat.le_trans h13 hb.size)
 obtain ⟨mv,tv,rfl,hmv,htv⟩:=h.form
 have hlen:=h.len
 have hsz:(Tryz.prog.info? 27).map (·.size)=some (mcells r mv tv).toArray.size:=by rw [mc_size hlen]; exact info27
 have h37:=Lib.hid (mc_size (r:=r) (mv:=mv) (tv:=tv) hlen)
 have HF:=Lib.hid (fit_go r F)
 clear hL F h hc hmv htv
 generalize (mcells r mv tv).toArray=cs at *
 go_enter Tryz.func24,Tryz.ntmps24
 go_wp2_with (refine wpList_load_row rfl 27 (.tmp 2) rfl w.heap.size rfl 27 cs (0,0) _ (heap_alloc2_old w _ _) Tryz.underlying27 rfl hsz ?_)
 refine (H34.out _ (((Below.refl _ _).alloc (Nat.le_refl _) _).alloc (by simp) _)).mono ?_
 rintro e w1 ⟨rfl,hb1⟩
 have D1:=(hb1.block w.heap.size (by simp; omega)).trans (heap_alloc2_old w _ _)
 have E1:∃ Z,w1.heap[w.heap.size+1]?=some (.cells Z 27 (0,0))∧Hid (Z.size=37):=⟨_,(hb1.block (w.heap.size+1) (by simp)).trans (heap_alloc2_new w _ _),Lib.hid rfl⟩
 obtain ⟨Z,E1,hZ⟩:=E1
 have hz1:w.heap.size+2≤w1.heap.size:=by have:=hb1.size; simpa using this
 have hw1:Below w.heap.size w w1:=(((Below.refl _ _).alloc (Nat.le_refl _) _).alloc (by simp) _).trans (hb1.mono (by simp; omega))
 have HW1:=Lib.hid hw1
 clear hw1 hb1
 go_wp2_with (refine wpList_load_row rfl 27 (.tmp 2) rfl w.heap.size rfl 27 cs (0,0) _ D1 Tryz.underlying27 rfl hsz ?_)
 refine (H12.out _ HW1.out).mono ?_
 intro e w2 hp2
 obtain ⟨v2,rfl,ho2,hb2⟩:=hp2
 obtain ⟨cs2,rfl,hs2,hall2⟩:=mach_cells ho2
 have E2:=(hb2.block (w.heap.size+1) (by omega)).trans E1
 have hz2:w.heap.size+2≤w2.heap.size:=Nat.le_trans hz1 hb2.size
 have HO2:=Lib.hid (ho2.mono hz1)
 have HW2:=Lib.hid (HW1.out.trans (hb2.mono (by omega)))
 have hs2':(Tryz.prog.info? 27).map (·.size)=some cs2.size:=by rw [hs2.out]; exact info27
 clear D1 E1 hz1 ho2 hb2
 go_wp2_with (first
  | (refine wpList_store_row rfl 27 (.tmp 8) (.tmp 25) rfl w2.heap.size cs2 rfl rfl 27 _ (heap_alloc_new w2 _) hs2' (by rw [hs2.out]; rfl) hall2 ?_
     generalize hW:World.setRow _ _ _=w3
     have G3:w3.heap[w2.heap.size]?=some (.cells cs2 27 (0,0)):=by rw [← hW]; exact setRow_heap _ _ _ _ 27 (0,0) (heap_alloc_new w2 _)
     have E3:w3.heap[w.heap.size+1]?=some (.cells Z 27 (0,0)):=by rw [← hW]; exact (setRow_other _ _ _ _ (by omega)).trans ((Below.heap_alloc w2 _ _ (by omega)).trans E2)
     have HW3:Hid (Below w.heap.size w w3):=Lib.hid (by rw [← hW]; exact below_setRow (HW2.out.alloc (by omega) _) (by omega) _)
     have HO3:Hid (MachO (w.heap.size+2) w3 (.agg cs2) r):=Lib.hid (by rw [← hW]; exact HO2.out.keep (below_setRow ((Below.refl _ _).alloc (Nat.le_refl _) _) (Nat.le_refl _) _))
     have hz3:w2.heap.size < w3.heap.size:=(show Blk w3 w2.heap.size 27 cs2 from G3).lt
     clear hW))
 have lg2:w.heap.size+2≤w2.heap.size:=hz2
 generalize w2.heap.size=G at *
 clear HW2 HO2 E2 hz2
 go_loopw [9,10] (fun nv kv wr=>∃ (k j:Nat) (r1:Rn) (c1:Array Value),nv=.int .i64 j∧kv=.int .i64 k∧((k=j∧j≤n)∨(k=n+1∧j=n))∧Hid ((k=n+1→(stepF r1).isNone=false)∧goF j r=(r1,j))∧Hid (Below w.heap.size w wr)∧wr.heap[w.heap.size+1]?=some (.cells Z 27 (0,0))∧wr.heap[G]?=some (.cells c1 27 (0,0))∧Hid (c1.size=37)∧Hid (MachO (w.heap.size+2) wr (.agg c1) r1)∧G < wr.heap.size) (fun _ kv _=>n+1 - (intOf kv).toNat)
 case atStart =>
  exact ⟨0,0,r,cs2,rfl,rfl,.inl ⟨rfl,Nat.zero_le _⟩,Lib.hid ⟨fun h=>by omega,rfl⟩,HW3,E3,G3,hs2,HO3,hz3⟩
 case round =>
  obtain ⟨k,j,r1,c1,rfl,rfl,hkj,hg,hb,hE,hG,hs,hm,hz⟩:=hrel
  have hsz1:(Tryz.prog.info? 27).map (·.size)=some c1.size:=by rw [hs.out]; exact info27
  have hall1:c1.all (·.oneCell')=true:=by obtain ⟨c,e,-,h⟩:=mach_cells hm.out; injection e with e; rw [e]; exact h
  have HF1:=Lib.hid (by have:=HF.out j; rw [hg.out.2] at this; exact this:Fit r1)
  clear hs2' hall2 HO3 HW3 hz3 hsz hs2 E3 G3
  by_cases hlt:k≤n
  ·obtain ⟨rfl,hj⟩ : k=j∧j≤n:=by omega
   have hlt':(k:Int)≤n:=by omega
   clear hkj
   go_wp2_with (refine wpList_load_row rfl 27 (.tmp 8) rfl G rfl 27 c1 (0,0) _ hG Tryz.underlying27 rfl hsz1 ?_)
   refine (H35.out wr _ r1 hb.out hm.out.reads HF1.out).mono ?_
   intro e w4 hst
   obtain ⟨hb4,hpo⟩:=hst
   have E4:=(hb4.block (w.heap.size+1) (by omega)).trans hE
   have G4:=(hb4.block G hz).trans hG
   have hz4:G < w4.heap.size:=Nat.lt_of_lt_of_le hz hb4.size
   have HB4:=Lib.hid (hb.out.trans (hb4.mono (by have:=hb.out.size; omega)))
   have HM4:=Lib.hid (hm.out.keep hb4)
   cases hsf:stepF r1 with
   | none =>
    rw [hsf] at hpo
    subst hpo
    have hE5:∀ o,((w4.alloc o).setRow w4.heap.size c1).heap[w.heap.size+1]?=some (.cells Z 27 (0,0)):=fun o=>(setRow_other _ _ _ _ (by omega)).trans ((Below.heap_alloc w4 o _ (by omega)).trans E4)
    have hG5:∀ o,((w4.alloc o).setRow w4.heap.size c1).heap[G]?=some (.cells c1 27 (0,0)):=fun o=>(setRow_other _ _ _ _ (by omega)).trans ((Below.heap_alloc w4 o _ (by omega)).trans G4)
    have HG:=Lib.hid (goF_end hg.out.2 hsf hj)
    clear hb4
    go_wp2_with (first
     | (refine wpList_store_row rfl 27 (.tmp 11) (.tmp 34) rfl w4.heap.size c1 rfl rfl 27 _ (heap_alloc_new w4 _) hsz1 (by rw [hs.out]; rfl) hall1 ?_)
     | (refine wpList_load_row rfl 27 (.tmp 8) rfl G rfl 27 c1 (0,0) _ (hG5 _) Tryz.underlying27 rfl hsz1 ?_)
     | (refine wpList_store_row rfl 27 (.tmp 4) (.tmp 38) rfl (w.heap.size+1) c1 rfl rfl 27 Z (hE5 _) hsz1 (by rw [hs.out,hZ.out]) hall1 ?_))
    refine bodyPost_ret (results_cell_tmp3 rfl _ _ (w.heap.size+1) 27 c1 (0,0) _ rfl (setRow_heap _ _ _ _ _ _ (hE5 _)) Tryz.underlying27 rfl hsz1) rfl ?_
    unfold RunPost
    rw [HG.out]
    simp only
    rw [hsf]
    have hk:∀ o,Below w4.heap.size w4 ((w4.alloc o).setRow w4.heap.size c1):=fun o=>below_setRow ((Below.refl w4.heap.size w4).alloc (Nat.le_refl _) _) (Nat.le_refl _) c1
    exact ⟨below_setRow (HB4.out.trans ((hk _).mono (by have:=HB4.out.size; omega))) (Nat.le_succ _) _,_,rfl,((HM4.out.keep (hk _)).far (by omega) _).mono (by omega)⟩
   | some r2 =>
    rw [hsf] at hpo
    obtain ⟨v2,rfl,ho4⟩:=hpo
    obtain ⟨c2,rfl,hs2,hall2⟩:=mach_cells ho4
    have hsz2:(Tryz.prog.info? 27).map (·.size)=some c2.size:=by rw [hs2.out]; exact info27
    have hE5:∀ o,((w4.alloc o).setRow w4.heap.size c2).heap[w.heap.size+1]?=some (.cells Z 27 (0,0)):=fun o=>(setRow_other _ _ _ _ (by omega)).trans ((Below.heap_alloc w4 o _ (by omega)).trans E4)
    have hG5:∀ o,((w4.alloc o).setRow w4.heap.size c2).heap[G]?=some (.cells c1 27 (0,0)):=fun o=>(setRow_other _ _ _ _ (by omega)).trans ((Below.heap_alloc w4 o _ (by omega)).trans G4)
    have hF5:∀ Z:Array Value,((w4.alloc (.cells Z 27)).setRow w4.heap.size c2).heap[w4.heap.size]?=some (.cells c2 27 (0,0)):=fun Z=>setRow_heap _ _ Z _ 27 (0,0) (heap_alloc_new w4 _)
    have HO4:=Lib.hid ho4
    have HG:=Lib.hid (goF_more hg.out.2 hsf)
    have hk:∀ o,Below w4.heap.size w4 ((w4.alloc o).setRow w4.heap.size c2):=fun o=>below_setRow ((Below.refl w4.heap.size w4).alloc (Nat.le_refl _) _) (Nat.le_refl _) c2
    have hzr:G < wr.heap.size:=hz
    clear ho4 hb4
    by_cases hlt2:k < n
    ·have hlt2':(k:Int) < n:=by omega
     go_wp2_with (first
      | (refine wpList_store_row rfl 27 (.tmp 11) (.tmp 34) rfl w4.heap.size c2 rfl rfl 27 _ (heap_alloc_new w4 _) hsz2 (by rw [hs2.out]; rfl) hall2 ?_)
      | (refine wpList_load_row rfl 27 (.tmp 11) rfl w4.heap.size rfl 27 c2 (0,0) _ (hF5 _) Tryz.underlying27 rfl hsz2 ?_)
      | (refine wpList_store_row rfl 27 (.tmp 8) (.tmp 43) rfl G c2 rfl rfl 27 c1 (hG5 _) hsz2 (by rw [hs2.out,hs.out]) hall2 ?_))
     go_roundw
     case rel =>
      exact ⟨k+1,k+1,r2,c2,by go_num,by go_num,.inl ⟨rfl,by omega⟩,Lib.hid ⟨fun h=>by omega,HG.out⟩,Lib.hid (below_setRow (HB4.out.trans ((hk _).mono (by have:=HB4.out.size; omega))) (by omega) _),(setRow_other _ _ _ _ (by omega)).trans (hE5 _),setRow_heap _ _ _ _ _ _ (hG5 _),hs2,Lib.hid (((HO4.out.keep (hk _)).mono (by omega)).farT (hG5 _) _),by simp; omega⟩
     case measure=>first | (simp [intOf]; done) | (simp [intOf]; omega)
    ·have hlt2':¬ (k:Int) < n:=by omega
     obtain rfl:k=n:=by omega
     go_wp2_with (first
      | (refine wpList_store_row rfl 27 (.tmp 11) (.tmp 34) rfl w4.heap.size c2 rfl rfl 27 _ (heap_alloc_new w4 _) hsz2 (by rw [hs2.out]; rfl) hall2 ?_))
     go_roundw
     case rel =>
      exact ⟨k+1,k,r1,c1,by go_num,by go_num,.inr ⟨rfl,rfl⟩,Lib.hid ⟨fun h=>by rw [hsf]; rfl,hg.out.2⟩,Lib.hid (HB4.out.trans ((hk _).mono (by have:=HB4.out.size; omega))),hE5 _,hG5 _,hs,Lib.hid (HM4.out.keep (hk _)),by simp; omega⟩
     case measure=>first | (simp [intOf]; done) | (simp [intOf]; omega)
  ·obtain ⟨rfl,rfl⟩ : k=n+1∧j=n:=by omega
   have hlt':¬ (((j+1:Nat) : Int))≤j:=by omega
   have hlt2':¬ ((j:Int)+1)≤j:=by omega
   go_wp2_with (first
    | (refine wpList_load_row rfl 27 (.tmp 8) rfl G rfl 27 c1 (0,0) _ hG Tryz.underlying27 rfl hsz1 ?_)
    | (refine wpList_store_row rfl 27 (.tmp 4) (.tmp 46) rfl (w.heap.size+1) c1 rfl rfl 27 Z hE hsz1 (by rw [hs.out,hZ.out]) hall1 ?_))
   refine bodyPost_ret (results_cell_tmp3 rfl _ _ (w.heap.size+1) 27 c1 (0,0) _ rfl (setRow_heap _ _ _ _ _ _ hE) Tryz.underlying27 rfl hsz1) rfl ?_
   unfold RunPost
   rw [hg.out.2]
   simp only
   rw [hg.out.1 (by first | rfl | trivial)]
   exact ⟨below_setRow hb.out (Nat.le_succ _) _,_,rfl,(hm.out.far (by omega) _).mono (by omega)⟩
end Go.Proofs.YtoehlmiadiiimaaGreatDoor

