import Derived.Test.YtoehlmiadiiimaaGreatDoorTMemZ4
import Derived.Laws.BytesArg
import Derived.Deep.Slices
import Derived.OpenShut
set_option maxRecDepth 100000
set_option maxHeartbeats 2000000
namespace Go.Proofs.YtoehlmiadiiimaaGreatDoor
open Go.ChangeShapes Go.WideShapes Go.RowKit Go.Proofs.YtoehlmiadiiimaaGreatDoor.Ex
theorem bits_bd (o:BinOp) (x y:Int) : 0≤bits o .u64 x y∧bits o .u64 x y < B64:=by
 unfold bits
 exact u64_bd _
theorem u64_B (x:Int) : 0≤IntKind.u64.wrap x∧IntKind.u64.wrap x < B64:=u64_bd x
theorem div_bd {x:Int} (hx:0≤x) (hx1:x < B64) (k:Nat) : 0≤x / 2 ^ k∧x / 2 ^ k < B64:=by
 have h2:(0:Int) < 2 ^ k:=Int.pow_pos (by omega)
 refine ⟨Int.ediv_nonneg hx (Int.le_of_lt h2),Int.lt_of_le_of_lt ?_ hx1⟩
 exact Int.ediv_le_self _ hx
theorem high_bd {x y:Int} (hx:0≤x) (hx1:x < B64) (hy:0≤y) (hy1:y < B64) (sx sy:Bool) : 0≤highF sx sy x y∧highF sx sy x y < B64:=by
 have h0:0≤x*y / B64∧x*y / B64 < B64:=by
  refine ⟨Int.ediv_nonneg (Int.mul_nonneg hx hy) (by decide),?_⟩
  refine Int.ediv_lt_of_lt_mul (by decide) ?_
  exact Int.lt_of_le_of_lt (Int.mul_le_mul_of_nonneg_left (Int.le_of_lt hy1) hx) (Int.mul_lt_mul_of_pos_right hx1 (by decide))
 unfold highF
 simp only
 split <;> split <;> first | exact u64_B _ | exact h0
theorem two_bd (op:Nat) {x y:Int} (hx:0≤x) (hx1:x < B64) (hy:0≤y) (hy1:y < B64) : 0≤twoF op x y∧twoF op x y < B64:=by
 have hq:0≤(quo64 x y).1∧(quo64 x y).1 < B64:=by
  unfold quo64; split <;> exact u64_B _
 have hr:0≤(quo64 x y).2∧(quo64 x y).2 < B64:=by
  unfold quo64; split
  ·exact ⟨hx,hx1⟩
  ·rename_i h; exact ⟨Int.emod_nonneg _ h,Int.lt_trans (Int.emod_lt_of_pos _ (by omega)) hy1⟩
 unfold twoF
 split
 all_goals first
  | exact u64_B _
  | exact bits_bd _ _ _
  | exact div_bd hx hx1 _
  | exact high_bd hx hx1 hy hy1 _ _
  | exact hq
  | exact hr
  | exact ⟨Int.le_refl _,by decide⟩
  | (split <;> exact ⟨by decide,by decide⟩)
theorem ldm_bd (l:List Int) (k many:Nat) : 0≤ldm l k many∧ldm l k many < B64:=by
 unfold ldm
 cases many with
 | zero=>unfold ldv; exact ⟨Int.le_refl _,by decide⟩
 | succ n=>unfold ldv; exact bits_bd _ _ _
theorem ldE_bd (op:Nat) {x:Int} (hx:0≤x∧x < B64) : 0≤ldE op x∧ldE op x < B64:=by
 unfold ldE
 split
 ·exact u64_B _
 ·exact u64_B _
 ·exact u64_B _
 ·exact hx
theorem regs_set {l:List Int} (h:Regs64 l) (i:Nat) {x:Int} (hx:0≤x∧x < B64) : Regs64 (l.set i x):=by
 intro y hy
 rcases List.mem_or_eq_of_mem_set hy with h1 | rfl
 ·exact h y h1
 ·exact hx
structure Kept (r r':Rn) : Prop where
 mem:r'.mem.length=r.mem.length
 base:r'.base=r.base
 len:r'.regs.length=r.regs.length
 zero:r'.regs.getD 0 0=r.regs.getD 0 0
 told:∃ l,r'.told=r.told ++ l
 most:r'.told.length≤max r.told.length 1000
 pc:0≤r.pc→0≤r'.pc
 regs:Regs64 r.regs→Regs64 r'.regs
theorem Kept.refl (r:Rn) : Kept r r:=⟨rfl,rfl,rfl,rfl,⟨[],by simp⟩,by omega,fun h=>h,fun h=>h⟩
theorem Kept.trans {a b c:Rn} (h:Kept a b) (g:Kept b c) : Kept a c:=by
 obtain ⟨l,hl⟩:=h.told
 obtain ⟨m,hm⟩:=g.told
 have:=h.most
 have:=g.most
 exact ⟨g.mem.trans h.mem,g.base.trans h.base,g.len.trans h.len,g.zero.trans h.zero,⟨l ++ m,by rw [hm,hl,List.append_assoc]⟩,by omega,fun x=>g.pc (h.pc x),fun x=>g.regs (h.regs x)⟩
theorem Kept.wf {r r':Rn} (h:Kept r r') (hw:WFm r) : WFm r':=by
 have:=h.most
 have:=hw.told
 have:=h.mem
 have:=hw.mem
 exact ⟨h.pc hw.pc,h.regs hw.regs,by omega,by omega⟩
theorem Kept.wr {r r':Rn} (h:Kept r r') (rd:Nat) {x:Int} (hx:Regs64 r.regs→0≤x∧x < B64) : Kept r (r'.wr rd x):=by
 unfold Rn.wr
 by_cases h0:rd=0
 ·simp only [if_pos h0]; exact h
 ·simp only [if_neg h0]
  refine ⟨h.mem,h.base,by simpa using h.len,?_,h.told,h.most,h.pc,fun g=>regs_set (h.regs g) _ (hx g)⟩
  rw [← h.zero]
  simp [List.getD,h0]
theorem wr_kept {r:Rn} {rd:Nat} {x:Int} (hx:Regs64 r.regs→0≤x∧x < B64) : Kept r (r.wr rd x):=(Kept.refl r).wr rd hx
theorem zero_bd:(0:Int)≤0∧(0:Int) < B64:=⟨Int.le_refl _,by decide⟩
theorem doF_kept {i:Ins} {r r':Rn} {to:Int} (h:doF i r=some (to,r')) (h0:0≤r.on∧r.on < B64) : Kept r r'∧0≤to:=by
 have hreg:∀ k:Nat,Regs64 r.regs→(0:Int)≤r.regs[k]?.getD 0∧r.regs[k]?.getD 0 < B64:=fun k hr=>reg64 hr k
 unfold doF at h
 split at h
 ·injection h with h; injection h with h1 h; subst h; subst h1
  exact ⟨wr_kept fun _=>by split <;> exact u64_B _,h0.1⟩
 ·injection h with h; injection h with h1 h; subst h; subst h1
  exact ⟨wr_kept fun _=>h0,(u64_B _).1⟩
 ·injection h with h; injection h with h1 h; subst h; subst h1
  refine ⟨wr_kept fun _=>zero_bd,?_⟩
  split
  ·exact (u64_B _).1
  ·exact h0.1
 ·split at h
  ·injection h with h; injection h with h1 h; subst h; subst h1
   exact ⟨wr_kept fun _=>h0,(bits_bd _ _ _).1⟩
  ·split at h
   ·cases h
   ·injection h with h; injection h with h1 h; subst h; subst h1
    exact ⟨wr_kept fun _=>ldE_bd _ (ldm_bd _ _ _),h0.1⟩
 ·split at h
  ·cases h
  ·injection h with h; injection h with h1 h; subst h; subst h1
   refine ⟨Kept.wr (r':={ r with mem:=memSet r.mem _ _ _ }) ⟨memSet_len _ _ _ _,rfl,rfl,rfl,⟨[],by simp⟩,by simp; omega,fun h=>h,fun h=>h⟩ _ fun _=>zero_bd,h0.1⟩
 ·injection h with h; injection h with h1 h; subst h; subst h1
  exact ⟨wr_kept fun hr=>two_bd _ (hreg _ hr).1 (hreg _ hr).2 (u64_B _).1 (u64_B _).2,h0.1⟩
 ·injection h with h; injection h with h1 h; subst h; subst h1
  exact ⟨wr_kept fun hr=>two_bd _ (hreg _ hr).1 (hreg _ hr).2 (u64_B _).1 (u64_B _).2,h0.1⟩
 ·injection h with h; injection h with h1 h; subst h; subst h1
  exact ⟨wr_kept fun hr=>two_bd _ (hreg _ hr).1 (hreg _ hr).2 (u64_B _).1 (u64_B _).2,h0.1⟩
 ·injection h with h; injection h with h1 h; subst h; subst h1
  exact ⟨wr_kept fun hr=>two_bd _ (hreg _ hr).1 (hreg _ hr).2 (hreg _ hr).1 (hreg _ hr).2,h0.1⟩
 ·injection h with h; injection h with h1 h; subst h; subst h1
  exact ⟨wr_kept fun _=>zero_bd,h0.1⟩
 ·split at h
  ·split at h
   ·rename_i ht
    injection h with h; injection h with h1 h; subst h; subst h1
    exact ⟨Kept.wr (r:=r) (r':={ r with told:=r.told ++ [r.regs.getD 10 0],done:=r.regs.getD 17 0 == 93 }) ⟨rfl,rfl,rfl,rfl,⟨[r.regs.getD 10 0],rfl⟩,by simp; omega,fun h=>h,fun h=>h⟩ _ fun _=>zero_bd,h0.1⟩
   ·cases h
  ·cases h
 ·cases h
theorem fetch_on {r:Rn} {i:Ins} {on:Int} (h:fetch r=some (i,on)) : 0≤on∧on < B64:=by
 unfold fetch at h
 split at h
 ·cases h
 ·split at h
  ·simp only at h
   split at h
   ·split at h
    ·simp only [Option.some.injEq,Prod.mk.injEq] at h
     rw [← h.2]; exact u64_B _
    ·cases h
   ·split at h
    ·cases h
    ·split at h
     ·simp only [Option.some.injEq,Prod.mk.injEq] at h
      rw [← h.2]; exact u64_B _
     ·cases h
  ·cases h
theorem step_kept {r r':Rn} (h:stepF r=some r') : Kept r r':=by
 unfold stepF at h
 split at h
 ·cases h
 ·split at h
  ·cases h
  ·rename_i i on hf
   split at h
   ·cases h
   ·rename_i to r1 hd
    injection h with h
    subst h
    obtain ⟨k,k0⟩:=doF_kept hd (fetch_on hf)
    exact ⟨k.mem,k.base,k.len,k.zero,k.told,k.most,fun _=>k0,k.regs⟩
def goF:Nat→Rn→Rn×Nat
 | 0,r=>(r,0)
 | n+1,r=>match stepF r with
  | none=>(r,0)
  | some r'=>((goF n r').1,(goF n r').2+1)
theorem goF_kept:∀ n r,Kept r (goF n r).1
 | 0,r=>Kept.refl r
 | n+1,r=>by
  unfold goF
  split
  ·exact Kept.refl r
  ·rename_i r' h
   exact (step_kept h).trans (goF_kept n r')
theorem goF_stuck {r:Rn} (h:stepF r=none) : ∀ n,goF n r=(r,0)
 | 0=>rfl
 | n+1=>by unfold goF; rw [h]
theorem goF_add:∀ a b r,goF (a+b) r=((goF b (goF a r).1).1,(goF a r).2+(goF b (goF a r).1).2)
 | 0,b,r=>by simp [goF]
 | a+1,b,r=>by
  rw [Nat.add_right_comm]
  cases h:stepF r with
  | none=>rw [goF_stuck h,goF_stuck h,goF_stuck h]; rfl
  | some r' =>
   have e:∀ n,goF (n+1) r=((goF n r').1,(goF n r').2+1):=fun n=>by
    rw [goF,h]
   rw [e,e,goF_add a b r']
   simp only [Prod.mk.injEq,true_and]
   omega
end Go.Proofs.YtoehlmiadiiimaaGreatDoor
namespace Go.Proofs.YtoehlmiadiiimaaGreatDoor
open Go.ChangeShapes Go.WideShapes Go.RowKit Go.Proofs.YtoehlmiadiiimaaGreatDoor.Ex
theorem wpList_build0 {P:Program} {w:World} {ops:Array Oper} {rest:List Oper} {o:Oper} {a:Act} {Q:Exit→Act→World→Prop} (hg:o.guard=none) (t:TypeId) (ho:o.op=.build t #[]) (cells:Array Value)
  (hf:P.built t []=some cells) (h:wpList P ops Q rest (a.put o.dst (.agg cells)) w) : wpList P ops Q (o :: rest) a w:=by
 have e:P.built t (((#[] : Array (Nat×Operand)).map fun (i,x)=>(i,a.eval x)).toList)=some cells:=by simpa using hf
 exact wpList_build hg t #[] ho (by rw [e]; rfl) (by rw [e]; exact h)
def rn0:Rn:=⟨0,List.replicate 32 0,0,[],[],false,0,false⟩
def z27:Array Value:=(mcells rn0 (.slice none 0 0) (.slice none 0 0)).toArray
theorem built27:Tryz.prog.built 27 []=some z27:=by kernel_rfl
theorem z27_size:z27.size=37:=by kernel_rfl
theorem z27_one:z27.all (·.oneCell')=true:=by kernel_rfl
theorem MachO.mono {B C:Nat} {w:World} {v:Value} {r:Rn} (h:MachO B w v r) (hc:C≤B) : MachO C w v r:=by
 obtain ⟨mv,tv,hv,hm,ht⟩:=h.form
 exact ⟨h.len,mv,tv,hv,hm.mono hc,ht.mono hc⟩
theorem MachO.keep {B:Nat} {w w':World} {v:Value} {r:Rn} (h:MachO B w v r) (hb:Below w.heap.size w w') : MachO B w' v r:=by
 obtain ⟨mv,tv,hv,hm,ht⟩:=h.form
 exact ⟨h.len,mv,tv,hv,own_below hm hb,own_below ht hb⟩
theorem MachO.far {B g:Nat} {w:World} {v:Value} {r:Rn} (h:MachO B w v r) (hg:g < B) (cs:Array Value) : MachO B (w.setRow g cs) v r:=by
 obtain ⟨mv,tv,hv,hm,ht⟩:=h.form
 exact ⟨h.len,mv,tv,hv,own_setRow_far hm (fun e=>by have:=(hm.lt _ e).1; omega) _,own_setRow_far ht (fun e=>by have:=(ht.lt _ e).1; omega) _⟩
theorem mach_cells {B:Nat} {w:World} {v:Value} {r:Rn} (h:MachO B w v r) : ∃ cs:Array Value,v=.agg cs∧Hid (cs.size=37)∧cs.all (·.oneCell')=true:=by
 obtain ⟨mv,tv,hv,hm,ht⟩:=h.form
 exact ⟨_,hv,Lib.hid (mc_size h.len),mc_one (rds_one (RdS.of_own hm)) (rds_one (RdS.of_own ht))⟩
theorem results_cell_tmp3 {P:Program} {fn:Func} {p q q2 q3:Tmp} {ty:TypeId} (h:fn.results=#[.cell p ty,.tmp q,.tmp q2,.tmp q3]) (tmps:Array Value) (w:World) (g:Nat) (t:TypeId) (cs:Array Value) (fr:Nat×Nat) (d:TypeDesc)
  (hp:tmps.getD p undef=.pointer (some ⟨g,0,none⟩)) (hg:w.heap[g]?=some (.cells cs t fr))
  (hu:P.underlying ty=some d) (hd:(match d with | .struct _ | .array _ _=>true | _=>false)=true) (hi:(P.info? ty).map (·.size)=some cs.size) :
  (results fn tmps).run P w=.ok (.tuple #[.agg cs,tmps.getD q undef,tmps.getD q2 undef,tmps.getD q3 undef]) w:=by
 have hp':tmps[p]?.getD undef=.pointer (some ⟨g,0,none⟩):=by simpa using hp
 simp [results,h,hp',asAddr,run_loadVar_row w g t ty cs fr d hg hu hd hi]
theorem goF_end {j n:Nat} {r r1:Rn} (hg:goF j r=(r1,j)) (hs:stepF r1=none) (hj:j≤n) : goF n r=(r1,j):=by
 have e:goF n r=goF (j+(n - j)) r:=by rw [Nat.add_sub_cancel' hj]
 rw [e,goF_add,hg]
 simp only
 rw [goF_stuck hs]
 rfl
theorem goF_more {j:Nat} {r r1 r2:Rn} (hg:goF j r=(r1,j)) (hs:stepF r1=some r2) : goF (j+1) r=(r2,j+1):=by
 have e:goF 1 r1=(r2,1):=by simp [goF,hs]
 rw [goF_add,hg]
 simp only
 rw [e]
def RunPost (w:World) (r:Rn) (n:Nat) (e:Ending) (w':World) : Prop :=
 Below w.heap.size w w'∧∃ v,e=.returned (.tuple #[v,.int .i64 (goF n r).2,.bool (stepF (goF n r).1).isNone,.int .i64 0])∧MachO w.heap.size w' v (goF n r).1
theorem run_c (v:Value) (r:Rn) (n:Nat) (w:World) (h:MachR w v r) (hwf:WFm r) (hL:LG w) (h13:3≤w.heap.size) (hn:n≤1000) (hc:checkE r=0) :
  Calls Tryz.prog 23 #[v,.int .i64 n] w (RunPost w r n):=by
 have H17:Hid (∀ W,Below w.heap.size w W→Calls Tryz.prog 17 #[v] W (CheckPost W 0)):=Lib.hid fun W hb=>by have:=check_c v r W (h.keep hb); rw [hc] at this; exact this
 have H15:Hid (∀ W,Below w.heap.size w W→Calls Tryz.prog 15 #[v] W (TwinPost W r)):=Lib.hid fun W hb=>twin_c v r W (h.keep hb) (by have:=hwf.mem; omega) hwf.told
 have H33:Hid (∀ W v' r',Below w.heap.size w W→MachR W v' r'→WFm r'→Calls Tryz.prog 33 #[v'] W (StepPost W v' (stepF r'))):=Lib.hid fun W v' r' hb hm hw=>step_c v' r' W hm hw (laidG_below hL (hb.mono h13)) (Nat.le_trans h13 hb.size)
 obtain ⟨mv,tv,rfl,hmv,htv⟩:=h.form
 have hlen:=h.len
 have hsz:(Tryz.prog.info? 27).map (·.size)=some (mcells r mv tv).toArray.size:=by rw [mc_size hlen]; exact info27
 have h37:=Lib.hid (mc_size (r:=r) (mv:=mv) (tv:=tv) hlen)
 have HWF:=Lib.hid hwf
 clear hL hwf h hc hmv htv
 generalize (mcells r mv tv).toArray=cs at *
 go_enter Tryz.func23,Tryz.ntmps23
 go_wp2_with (refine wpList_load_row rfl 27 (.tmp 2) rfl w.heap.size rfl 27 cs (0,0) _ (heap_alloc2_old w _ _) Tryz.underlying27 rfl hsz ?_)
 refine (H17.out _ (((Below.refl _ _).alloc (Nat.le_refl _) _).alloc (by simp) _)).mono ?_
 intro e w1 hp1
 obtain ⟨rfl,hb1⟩:=hp1
 have D1:=(hb1.block w.heap.size (by simp; omega)).trans (heap_alloc2_old w _ _)
 have E1:=(hb1.block (w.heap.size+1) (by simp)).trans (heap_alloc2_new w _ _)
 have hz1:w.heap.size+2≤w1.heap.size:=by have:=hb1.size; simpa using this
 have hw1:Below w.heap.size w w1:=(((Below.refl _ _).alloc (Nat.le_refl _) _).alloc (by simp) _).trans (hb1.mono (by simp; omega))
 have HW1:=Lib.hid hw1
 clear hw1 hb1
 go_wp2_with (refine wpList_load_row rfl 27 (.tmp 2) rfl w.heap.size rfl 27 cs (0,0) _ D1 Tryz.underlying27 rfl hsz ?_)
 refine (H15.out _ HW1.out).mono ?_
 intro e w2 hp2
 obtain ⟨v2,rfl,ho2,hb2⟩:=hp2
 obtain ⟨cs2,rfl,hs2,hall2⟩:=mach_cells ho2
 have E2:=(hb2.block (w.heap.size+1) (by omega)).trans E1
 have hz2:w.heap.size+2≤w2.heap.size:=Nat.le_trans hz1 hb2.size
 have HO2:=Lib.hid (ho2.mono hz1)
 have HW2:=Lib.hid (HW1.out.trans (hb2.mono (by omega)))
 have hs2':(Tryz.prog.info? 27).map (·.size)=some cs2.size:=by rw [hs2.out]; exact info27
 clear D1 E1 hz1 ho2 hb2
 go_wp2_with (refine wpList_store_row rfl 27 (.tmp 4) (.tmp 27) rfl (w.heap.size+1) cs2 rfl rfl 27 _ E2 hs2' (by rw [hs2.out]; rfl) hall2 ?_)
 go_frame
 go_loopw [5] (fun i wr=>∃ (j:Nat) (r1:Rn) (c1:Array Value),j≤n∧i=.int .i64 j∧Hid (goF j r=(r1,j))∧Hid (Below w.heap.size w wr)∧wr.heap[w.heap.size+1]?=some (.cells c1 27 (0,0))∧Hid (c1.size=37)∧Hid (MachO (w.heap.size+2) wr (.agg c1) r1)∧w.heap.size+2≤wr.heap.size) (fun i _=>n - (intOf i).toNat)
 case atStart =>
  exact ⟨0,r,cs2,Nat.zero_le _,rfl,Lib.hid rfl,Lib.hid (below_setRow HW2.out (Nat.le_succ _) _),setRow_heap _ _ _ _ _ _ E2,hs2,Lib.hid (HO2.out.far (by omega) _),by simpa using hz2⟩
 case round =>
  obtain ⟨j,r1,c1,hj,rfl,hg,hb,hE,hs,hm,hz⟩:=hrel
  have hsz1:(Tryz.prog.info? 27).map (·.size)=some c1.size:=by rw [hs.out]; exact info27
  have hall1:c1.all (·.oneCell')=true:=by obtain ⟨c,e,-,h⟩:=mach_cells hm.out; injection e with e; rw [e]; exact h
  have hwf1:WFm r1:=by have:=(goF_kept j r).wf HWF.out; rw [hg.out] at this; exact this
  have HWF1:=Lib.hid hwf1
  clear hwf1 E2 hs2' hall2 HO2 HW2 hz2 hsz hs2
  by_cases hlt:j < n
  ·go_wp2_with (refine wpList_load_row rfl 27 (.tmp 4) rfl (w.heap.size+1) rfl 27 c1 (0,0) _ hE Tryz.underlying27 rfl hsz1 ?_)
   refine (H33.out wr _ r1 hb.out hm.out.reads HWF1.out).mono ?_
   intro e w3 hst
   obtain ⟨hb3,hpo⟩:=hst
   have E3:=(hb3.block (w.heap.size+1) (by omega)).trans hE
   have hz3:=Nat.le_trans hz hb3.size
   have HB3:=Lib.hid (hb.out.trans (hb3.mono (by have:=hb.out.size; omega)))
   have HM3:=Lib.hid (hm.out.keep hb3)
   cases hsf:stepF r1 with
   | none =>
    rw [hsf] at hpo
    subst hpo
    have hE5:∀ o,((w3.alloc o).setRow w3.heap.size c1).heap[w.heap.size+1]?=some (.cells c1 27 (0,0)):=fun o=>(setRow_other _ _ _ _ (by omega)).trans ((Below.heap_alloc w3 o _ (by omega)).trans E3)
    have HG:=Lib.hid (goF_end hg.out hsf hj)
    go_wp2_with (first
     | (refine wpList_store_row rfl 27 (.tmp 9) (.tmp 36) rfl w3.heap.size c1 rfl rfl 27 _ (heap_alloc_new w3 _) hsz1 (by rw [hs.out]; rfl) hall1 ?_)
     | (refine wpList_load_row rfl 27 (.tmp 4) rfl (w.heap.size+1) rfl 27 c1 (0,0) _ (hE5 _) Tryz.underlying27 rfl hsz1 ?_)
     | (refine wpList_store_row rfl 27 (.tmp 4) (.tmp 40) rfl (w.heap.size+1) c1 rfl rfl 27 c1 (hE5 _) hsz1 rfl hall1 ?_))
    refine bodyPost_ret (results_cell_tmp3 rfl _ _ (w.heap.size+1) 27 c1 (0,0) _ rfl (setRow_heap _ _ _ _ _ _ (hE5 _)) Tryz.underlying27 rfl hsz1) rfl ?_
    unfold RunPost
    rw [HG.out]
    simp only
    rw [hsf]
    have hk:∀ o,Below w3.heap.size w3 ((w3.alloc o).setRow w3.heap.size c1):=fun o=>below_setRow ((Below.refl w3.heap.size w3).alloc (Nat.le_refl _) _) (Nat.le_refl _) c1
    exact ⟨below_setRow (HB3.out.trans ((hk _).mono (by have:=HB3.out.size; omega))) (Nat.le_succ _) _,_,rfl,((HM3.out.keep (hk _)).far (by omega) _).mono (by omega)⟩
   | some r2 =>
    rw [hsf] at hpo
    obtain ⟨v2,rfl,ho3⟩:=hpo
    obtain ⟨c2,rfl,hs2,hall2⟩:=mach_cells ho3
    have hsz2:(Tryz.prog.info? 27).map (·.size)=some c2.size:=by rw [hs2.out]; exact info27
    have hE5:∀ o,((w3.alloc o).setRow w3.heap.size c2).heap[w.heap.size+1]?=some (.cells c1 27 (0,0)):=fun o=>(setRow_other _ _ _ _ (by omega)).trans ((Below.heap_alloc w3 o _ (by omega)).trans E3)
    have hF5:∀ Z:Array Value,((w3.alloc (.cells Z 27)).setRow w3.heap.size c2).heap[w3.heap.size]?=some (.cells c2 27 (0,0)):=fun Z=>setRow_heap _ _ Z _ 27 (0,0) (heap_alloc_new w3 _)
    have HO3:=Lib.hid ho3
    have HG:=Lib.hid (goF_more hg.out hsf)
    clear ho3
    go_wp2_with (first
     | (refine wpList_store_row rfl 27 (.tmp 9) (.tmp 36) rfl w3.heap.size c2 rfl rfl 27 _ (heap_alloc_new w3 _) hsz2 (by rw [hs2.out]; rfl) hall2 ?_)
     | (refine wpList_load_row rfl 27 (.tmp 9) rfl w3.heap.size rfl 27 c2 (0,0) _ (hF5 _) Tryz.underlying27 rfl hsz2 ?_)
     | (refine wpList_store_row rfl 27 (.tmp 4) (.tmp 42) rfl (w.heap.size+1) c2 rfl rfl 27 c1 (hE5 _) hsz2 (by rw [hs2.out,hs.out]) hall2 ?_))
    go_roundw
    case rel =>
     have hk:∀ o,Below w3.heap.size w3 ((w3.alloc o).setRow w3.heap.size c2):=fun o=>below_setRow ((Below.refl w3.heap.size w3).alloc (Nat.le_refl _) _) (Nat.le_refl _) c2
     exact ⟨j+1,r2,c2,by omega,by go_num,HG,Lib.hid (below_setRow (HB3.out.trans ((hk _).mono (by have:=HB3.out.size; omega))) (Nat.le_succ _) _),setRow_heap _ _ _ _ _ _ (hE5 _),hs2,Lib.hid (((HO3.out.keep (hk _)).mono hz).far (by omega) _),by simp; omega⟩
    case measure=>simp [intOf]; omega
  ·obtain rfl:j=n:=by omega
   go_wp2_with (refine wpList_load_row rfl 27 (.tmp 4) rfl (w.heap.size+1) rfl 27 c1 (0,0) _ hE Tryz.underlying27 rfl hsz1 ?_)
   refine (H33.out wr _ r1 hb.out hm.out.reads HWF1.out).mono ?_
   intro e w3 hst
   obtain ⟨hb3,hpo⟩:=hst
   have E3:=(hb3.block (w.heap.size+1) (by omega)).trans hE
   have hz3:=Nat.le_trans hz hb3.size
   have HB3:=Lib.hid (hb.out.trans (hb3.mono (by have:=hb.out.size; omega)))
   have HM3:=Lib.hid (hm.out.keep hb3)
   cases hsf:stepF r1 with
   | none =>
    rw [hsf] at hpo
    subst hpo
    have hE5:∀ o,((w3.alloc o).setRow w3.heap.size c1).heap[w.heap.size+1]?=some (.cells c1 27 (0,0)):=fun o=>(setRow_other _ _ _ _ (by omega)).trans ((Below.heap_alloc w3 o _ (by omega)).trans E3)
    go_wp2_with (first
     | (refine wpList_store_row rfl 27 (.tmp 11) (.tmp 46) rfl w3.heap.size c1 rfl rfl 27 _ (heap_alloc_new w3 _) hsz1 (by rw [hs.out]; rfl) hall1 ?_)
     | (refine wpList_load_row rfl 27 (.tmp 4) rfl (w.heap.size+1) rfl 27 c1 (0,0) _ (hE5 _) Tryz.underlying27 rfl hsz1 ?_)
     | (refine wpList_store_row rfl 27 (.tmp 4) (.tmp 48) rfl (w.heap.size+1) c1 rfl rfl 27 c1 (hE5 _) hsz1 rfl hall1 ?_))
    refine bodyPost_ret (results_cell_tmp3 rfl _ _ (w.heap.size+1) 27 c1 (0,0) _ rfl (setRow_heap _ _ _ _ _ _ (hE5 _)) Tryz.underlying27 rfl hsz1) rfl ?_
    unfold RunPost
    rw [hg.out]
    simp only
    rw [hsf]
    have hk:∀ o,Below w3.heap.size w3 ((w3.alloc o).setRow w3.heap.size c1):=fun o=>below_setRow ((Below.refl w3.heap.size w3).alloc (Nat.le_refl _) _) (Nat.le_refl _) c1
    exact ⟨below_setRow (HB3.out.trans ((hk _).mono (by have:=HB3.out.size; omega))) (Nat.le_succ _) _,_,rfl,((HM3.out.keep (hk _)).far (by omega) _).mono (by omega)⟩
   | some r2 =>
    rw [hsf] at hpo
    obtain ⟨v2,rfl,ho3⟩:=hpo
    obtain ⟨c2,rfl,hs2,hall2⟩:=mach_cells ho3
    have hsz2:(Tryz.prog.info? 27).map (·.size)=some c2.size:=by rw [hs2.out]; exact info27
    clear ho3
    have hE5:∀ o,((w3.alloc o).setRow w3.heap.size c2).heap[w.heap.size+1]?=some (.cells c1 27 (0,0)):=fun o=>(setRow_other _ _ _ _ (by omega)).trans ((Below.heap_alloc w3 o _ (by omega)).trans E3)
    go_wp2_with (first
     | (refine wpList_store_row rfl 27 (.tmp 11) (.tmp 46) rfl w3.heap.size c2 rfl rfl 27 _ (heap_alloc_new w3 _) hsz2 (by rw [hs2.out]; rfl) hall2 ?_)
     | (refine wpList_load_row rfl 27 (.tmp 4) rfl (w.heap.size+1) rfl 27 c1 (0,0) _ (hE5 _) Tryz.underlying27 rfl hsz1 ?_)
     | (refine wpList_store_row rfl 27 (.tmp 4) (.tmp 48) rfl (w.heap.size+1) c1 rfl rfl 27 c1 (hE5 _) hsz1 rfl hall1 ?_))
    refine bodyPost_ret (results_cell_tmp3 rfl _ _ (w.heap.size+1) 27 c1 (0,0) _ rfl (setRow_heap _ _ _ _ _ _ (hE5 _)) Tryz.underlying27 rfl hsz1) rfl ?_
    unfold RunPost
    rw [hg.out]
    simp only
    rw [hsf]
    have hk:∀ o,Below w3.heap.size w3 ((w3.alloc o).setRow w3.heap.size c2):=fun o=>below_setRow ((Below.refl w3.heap.size w3).alloc (Nat.le_refl _) _) (Nat.le_refl _) c2
    exact ⟨below_setRow (HB3.out.trans ((hk _).mono (by have:=HB3.out.size; omega))) (Nat.le_succ _) _,_,rfl,((HM3.out.keep (hk _)).far (by omega) _).mono (by omega)⟩
end Go.Proofs.YtoehlmiadiiimaaGreatDoor
namespace Go.Proofs.YtoehlmiadiiimaaGreatDoor
open Go.ChangeShapes Go.WideShapes Go.RowKit Go.Proofs.YtoehlmiadiiimaaGreatDoor.Ex
theorem conv_rd {w:World} {A:Option Addr} {n c:Nat} {l:List Int} (h:RdS w (.slice A n c) (l.map (.int .u8))) : (convert 24 9 (.slice A n c)).run Tryz.prog w=.ok (.string (strOfNums l)) w:=by
 obtain ⟨A',c',hv,hc,hA⟩:=h.form
 injection hv with h1 h2 h3
 subst h1; subst h2; subst h3
 simp only [List.length_map] at hA ⊢
 rcases Nat.eq_zero_or_pos l.length with h0 | h0
 ·have:l=[]:=List.eq_nil_of_length_eq_zero h0
  subst this
  cases A with
  | none=>exact run_convert_bytes_nil w 24 5 Tryz.underlying24 Tryz.underlying5 _ _ 9 Tryz.underlying9
  | some a =>
   show (convert 24 9 (.slice (some a) 0 c)).run Tryz.prog w=_
   rw [run_convert_bytes_string w 24 9 5 _ 0 c Tryz.underlying24 Tryz.underlying5 Tryz.underlying9]
   have hl:(loadCells a 0).run Tryz.prog w=.ok (([] : List Int).map (Value.int .u8)).toArray w:=run_loadCells_list w a [] (fun j v hj=>by simp at hj)
   exact run_bytesToString w a 0 c [] hl
 ·obtain ⟨a,rfl,_,hcell⟩:=hA h0
  have hl:(loadCells a l.length).run Tryz.prog w=.ok (l.map (Value.int .u8)).toArray w:=by
   have:=run_loadCells_list (P:=Tryz.prog) w a (l.map (Value.int .u8)) hcell
   simpa using this
  rw [run_convert_bytes_string w 24 9 5 _ l.length c Tryz.underlying24 Tryz.underlying5 Tryz.underlying9,run_bytesToString w a l.length c l hl,foldl_push_bytes]
  simp [strOfNums,ByteArray.empty,ByteArray.emptyWithCapacity]
  rfl
theorem rd_at {w:World} {A:Option Addr} {n c k:Nat} {l:List Int} {q:IntKind} (h:RdS w (.slice A n c) (l.map (.int q))) (hk:k < l.length) : ∃ ad,A=some ad∧w.cell? (ad.add k)=some (.int q (l.getD k 0)):=by
 obtain ⟨A',c',hv,hc,hA⟩:=h.form
 injection hv with h1 h2 h3
 subst h1
 obtain ⟨ad,rfl,_,hcell⟩:=hA (by simp; omega)
 exact ⟨ad,rfl,hcell k _ (by simp [List.getD,List.getElem?_eq_getElem hk])⟩
theorem same_c (v1 v2:Value) (r:Rn) (w:World) (h1:MachR w v1 r) (h2:MachR w v2 r) (_hm:r.mem.length≤1000000) (ht:r.told.length≤1000000) : Calls Tryz.prog 16 #[v1,v2] w fun e w'=>e=.returned (.bool true)∧Below w.heap.size w w':=by
 have hlen:=h1.len
 obtain ⟨mv1,tv1,hv1,hm1,ht1⟩:=h1.form
 obtain ⟨mv2,tv2,hv2,hm2,ht2⟩:=h2.form
 obtain ⟨A1,q1,rfl,-,-⟩:=hm1.form
 obtain ⟨A2,q2,rfl,-,-⟩:=hm2.form
 obtain ⟨B1,p1,rfl,-,-⟩:=ht1.form
 obtain ⟨B2,p2,rfl,-,-⟩:=ht2.form
 subst hv1; subst hv2
 have F:∀ (mv tv:Value) (cs:Array Value),cs=(mcells r mv tv).toArray→cs[0]?=some (.int .u64 r.pc)∧cs[33]?=some (.int .u64 r.base)∧cs[34]?=some mv∧cs[35]?=some tv∧cs[36]?=some (.bool r.done)∧Hid (∀ i,i < 32→cs[1+i]?=some (.int .u64 (r.regs.getD i 0))):=by
  rintro mv tv cs rfl
  exact ⟨mc0,mc33 hlen,mc34 hlen,mc35 hlen,mc36 hlen,Lib.hid (mcR hlen)⟩
 obtain ⟨c0,c33,c34,c35,c36,cR⟩:=F _ _ _ (Eq.refl (mcells r (.slice A1 (r.mem.map (Value.int .u8)).length q1) (.slice B1 (r.told.map (Value.int .u64)).length p1)).toArray)
 obtain ⟨d0,d33,d34,d35,d36,dR⟩:=F _ _ _ (Eq.refl (mcells r (.slice A2 (r.mem.map (Value.int .u8)).length q2) (.slice B2 (r.told.map (Value.int .u64)).length p2)).toArray)
 clear F
 simp only [List.length_map] at *
 generalize (mcells r (.slice A1 r.mem.length q1) (.slice B1 r.told.length p1)).toArray=cs at *
 generalize (mcells r (.slice A2 r.mem.length q2) (.slice B2 r.told.length p2)).toArray=ds at *
 have K1:(convert 24 9 (.slice A1 r.mem.length q1)).run Tryz.prog ((w.alloc (.cells cs 27)).alloc (.cells ds 27))=.ok (.string (strOfNums r.mem)) ((w.alloc (.cells cs 27)).alloc (.cells ds 27)):=conv_rd (hm1.keep (((Below.refl _ _).alloc (Nat.le_refl _) _).alloc (by simp) _))
 have K2:(convert 24 9 (.slice A2 r.mem.length q2)).run Tryz.prog ((w.alloc (.cells cs 27)).alloc (.cells ds 27))=.ok (.string (strOfNums r.mem)) ((w.alloc (.cells cs 27)).alloc (.cells ds 27)):=conv_rd (hm2.keep (((Below.refl _ _).alloc (Nat.le_refl _) _).alloc (by simp) _))
 have HT1:=Lib.hid ht1
 have HT2:=Lib.hid ht2
 clear h1 h2 hm1 hm2 ht1 ht2
 generalize strOfNums r.mem=str at *
 go_enter Tryz.func16,Tryz.ntmps16
 go_wp2
 go_loopw [5] (fun i wr=>∃ j:Nat,j≤32∧i=.int .i64 j∧Blk wr w.heap.size 27 cs∧Blk wr (w.heap.size+1) 27 ds∧Hid (Below w.heap.size w wr)) (fun i _=>32 - (intOf i).toNat)
 case atStart=>exact ⟨0,by omega,rfl,(Blk.new w 27 cs).alloc _,by simpa using Blk.new (w.alloc (.cells cs 27)) 27 ds,Lib.hid (((Below.refl _ _).alloc (Nat.le_refl _) _).alloc (by simp) _)⟩
 case round =>
  obtain ⟨j,hj,rfl,hD,hE,hB⟩:=hrel
  by_cases hlt:j < 32
  ·have q1':=(hD.cell (1+j)).trans (cR.out j hlt)
   have q2':=(hE.cell (1+j)).trans (dR.out j hlt)
   go_wp2
   go_region
   go_wp2
   go_roundw
   case rel=>exact ⟨j+1,by omega,by go_num,hD,hE,Lib.hid hB.out.drew⟩
   case measure=>simp [intOf]; omega
  ·obtain rfl:j=32:=by omega
   go_wp2
   obtain ⟨wo,rfl⟩ : ∃ wo:World,wo=wr:=⟨_,rfl⟩
   go_loopw [6] (fun i wr=>∃ j:Nat,j≤r.told.length∧i=.int .i64 j∧Blk wr w.heap.size 27 cs∧Blk wr (w.heap.size+1) 27 ds∧Hid (Below w.heap.size w wr)) (fun i _=>r.told.length - (intOf i).toNat)
   case atStart=>exact ⟨0,Nat.zero_le _,rfl,hD,hE,hB⟩
   case round =>
    obtain ⟨k,hk,rfl,hD2,hE2,hB2⟩:=hrel
    have s35:=(hD2.cell 35).trans c35
    have u35:=(hE2.cell 35).trans d35
    by_cases hlt:k < r.told.length
    ·have X1:=rd_at (HT1.out.keep hB2.out) hlt
     have X2:=rd_at (HT2.out.keep hB2.out) hlt
     obtain ⟨ad1,rfl,hx1⟩:=X1
     obtain ⟨ad2,rfl,hx2⟩:=X2
     go_wp2
     go_region
     go_wp2
     go_roundw
     case rel=>exact ⟨k+1,by omega,by go_num,hD2,hE2,Lib.hid hB2.out.drew⟩
     case measure=>simp [intOf]; omega
    ·obtain rfl:k=r.told.length:=by omega
     go_wp2
     go_ret
     exact ⟨rfl,hB2.out⟩
end Go.Proofs.YtoehlmiadiiimaaGreatDoor

namespace Go.Proofs.YtoehlmiadiiimaaGreatDoor
open Go.ChangeShapes Go.WideShapes Go.RowKit Go.Proofs.YtoehlmiadiiimaaGreatDoor.Ex
section
variable {H:Type} {enc:TypeId×Value→H} {w:World} {base:Nat} {spare:Nat→Bool} {held:Bool}
theorem cell_lt {w:World} {a:Addr} {v:Value} (h:w.cell? a=some v) : a.block < w.heap.size:=by
 rcases Nat.lt_or_ge a.block w.heap.size with h1 | h1
 ·exact h1
 ·unfold World.cell? at h
  rw [Array.getElem?_eq_none h1] at h
  simp at h
theorem rds_of_trod {t e fuel:Nat} {k:IntKind} {cs:List Value} {x:DataW H×List MemPlace} (ht:Tryz.prog.underlying t=some (.slice e)) (he:Tryz.prog.underlying e=some (.int k)) (hc:Tryz.prog.cellsOf e=1)
  (h:DataW.trod enc Tryz.prog w base spare held fuel t cs=some x) : ∃ (v:Value) (l:List Int),cs=[v]∧RdS w v (l.map (.int k))∧∀ z∈l,(Lit.int k z).wf=true:=by
 rcases Go.Deep.open_slice1 ht hc h with ⟨rfl,rfl⟩ | ⟨a,len,cap,m,n,V,D,Pl,rfl,_,hl,_,hm,_,hx⟩
 ·exact ⟨_,[],rfl,⟨none,0,rfl,Nat.le_refl _,fun h=>absurd h (by simp)⟩,by simp⟩
 ·have hm':len≤m:=by rw [hm]; split <;> omega
  have hz:∀ i,i < len→∃ z,V i=.int k z∧(Lit.int k z).wf=true:=by
   intro i hi
   obtain ⟨_,h2⟩:=hx i (by omega)
   obtain ⟨z,e1,_,w1⟩:=DataW.trod_int he h2
   injection e1 with e1
   exact ⟨z,e1,w1⟩
  obtain ⟨Z,hZ⟩:=Go.Deep.choose_lt (p:=fun i z=>V i=.int k z∧(Lit.int k z).wf=true) hz
  refine ⟨_,(List.range len).map Z,rfl,⟨some a,cap,by simp,by simpa using hl,fun h0=>⟨a,rfl,?_,fun j u hu=>?_⟩⟩,?_⟩
  ·have h0':0 < len:=by simpa using h0
   have:=cell_lt (hx 0 (by omega)).1
   have e:(a.add 0).block=a.block:=by unfold Addr.add; split <;> rfl
   rwa [e] at this
  ·have hj:j < len:=by
    rcases Nat.lt_or_ge j len with h1 | h1
    ·exact h1
    ·rw [List.getElem?_eq_none (by simpa using h1)] at hu; cases hu
   simp [hj] at hu
   rw [(hx j (by omega)).1,(hZ j hj).1,hu]
  ·intro z hz
   obtain ⟨i,hi,rfl⟩:=List.mem_map.1 hz
   exact (hZ i (List.mem_range.1 hi)).2
theorem cells22:Tryz.prog.cellsOf 22=1:=by kernel_rfl
theorem cells5:Tryz.prog.cellsOf 5=1:=by kernel_rfl
theorem cells23:Tryz.prog.cellsOf 23=32:=by kernel_rfl
end
end Go.Proofs.YtoehlmiadiiimaaGreatDoor
namespace Go.Proofs.YtoehlmiadiiimaaGreatDoor
open Go.ChangeShapes Go.WideShapes Go.RowKit Go.Proofs.YtoehlmiadiiimaaGreatDoor.Ex
theorem checkE_or (r:Rn) : checkE r=0∨checkE r=8:=by
 unfold checkE checkF
 (repeat' split) <;> simp
theorem checkE_zero {r:Rn} (h:checkE r=0) : r.base≤2147483648∧r.mem.length≤65536∧r.regs.getD 0 0=0∧r.told.length≤1000:=by
 unfold checkE checkF at h
 split at h
 ·cases h
 ·split at h
  ·cases h
  ·split at h
   ·cases h
   ·split at h
    ·cases h
    ·omega
theorem checkE_of {r:Rn} (h1:r.base≤2147483648) (h2:r.mem.length≤65536) (h3:r.regs.getD 0 0=0) (h4:r.told.length≤1000) : checkE r=0:=by
 unfold checkE checkF
 rw [if_neg (by omega),if_neg (by omega),if_neg (by omega),if_neg (by omega)]
theorem check_kept {r r':Rn} (h:Kept r r') (hc:checkE r=0) : checkE r'=0:=by
 obtain ⟨h1,h2,h3,h4⟩:=checkE_zero hc
 have:=h.most
 exact checkE_of (by rw [h.base]; exact h1) (by rw [h.mem]; exact h2) (by rw [h.zero]; exact h3) (by omega)
def RunAll (w:World) (x:Rn×Nat×Bool×Int) (e:Ending) (w':World) : Prop :=
 Below w.heap.size w w'∧∃ v,e=.returned (.tuple #[v,.int .i64 x.2.1,.bool x.2.2.1,.int .i64 x.2.2.2])∧MachO w.heap.size w' v x.1
theorem rn0_own (B:Nat) (w:World) : MachO B w (.agg z27) rn0:=⟨rfl,_,_,rfl,World.ownsRow_nil w _ _ _,World.ownsRow_nil w _ _ _⟩
set_option maxRecDepth 100000 in
set_option maxHeartbeats 2000000 in
theorem run_err (v:Value) (r:Rn) (n:Int) (w:World) (h:MachR w v r) (hc:checkE r=8) :
  Calls Tryz.prog 23 #[v,.int .i64 n] w (RunAll w (rn0,0,false,8)):=by
 have H17:Hid (∀ W,Below w.heap.size w W→Calls Tryz.prog 17 #[v] W (CheckPost W 8)):=Lib.hid fun W hb=>by have:=check_c v r W (h.keep hb); rw [hc] at this; exact this
 obtain ⟨mv,tv,rfl,hmv,htv⟩:=h.form
 have hlen:=h.len
 have hsz:(Tryz.prog.info? 27).map (·.size)=some (mcells r mv tv).toArray.size:=by rw [mc_size hlen]; exact info27
 have hz:(Tryz.prog.info? 27).map (·.size)=some z27.size:=by rw [z27_size]; exact info27
 clear h hc hmv htv hlen
 generalize (mcells r mv tv).toArray=cs at *
 go_enter Tryz.func23,Tryz.ntmps23
 go_wp2_with (refine wpList_load_row rfl 27 (.tmp 2) rfl w.heap.size rfl 27 cs (0,0) _ (heap_alloc2_old w _ _) Tryz.underlying27 rfl hsz ?_)
 refine (H17.out _ (((Below.refl _ _).alloc (Nat.le_refl _) _).alloc (by simp) _)).mono ?_
 intro e w1 hp1
 obtain ⟨rfl,hb1⟩:=hp1
 have E1:=(hb1.block (w.heap.size+1) (by simp)).trans (heap_alloc2_new w _ _)
 have hw1:Below w.heap.size w w1:=(((Below.refl _ _).alloc (Nat.le_refl _) _).alloc (by simp) _).trans (hb1.mono (by simp; omega))
 have HW1:=Lib.hid hw1
 clear hw1 hb1
 go_wp2_with (first
  | (refine wpList_build0 rfl 27 rfl z27 built27 ?_)
  | (refine wpList_store_row rfl 27 (.tmp 4) (.tmp 17) rfl (w.heap.size+1) z27 rfl rfl 27 _ E1 hz (by rw [z27_size]; rfl) z27_one ?_))
 refine bodyPost_ret (results_cell_tmp3 rfl _ _ (w.heap.size+1) 27 z27 (0,0) _ rfl (setRow_heap _ _ _ _ _ _ E1) Tryz.underlying27 rfl hz) rfl ?_
 exact ⟨below_setRow HW1.out (Nat.le_succ _) _,_,rfl,rn0_own _ _⟩
end Go.Proofs.YtoehlmiadiiimaaGreatDoor

/-
  A handed array of registers, a handed slice of bytes.
-/
set_option maxRecDepth 100000
namespace Go.Proofs.YtoehlmiadiiimaaGreatDoor
open Go.ChangeShapes Go.WideShapes Go.RowKit
theorem okWide_array {P:Program} {w:World} {r:Reach} {b0:Nat} {t e:TypeId} {n:Nat} {v:Value} (ht:P.underlying t=some (.array e n)) (h:Value.okWide P w r b0 t v) : ∃ cs,v=.agg cs∧cs.size=P.cellsOf t:=by
 simp only [Value.okWide,ht] at h
 obtain ⟨cs,h1,h2,_⟩:=h
 exact ⟨cs,h1,h2⟩
section
variable {H:Type} {enc:TypeId×Value→H} {w:World} {base:Nat} {spare:Nat→Bool} {held:Bool}
theorem regs_of_trod {b0:Nat} {rc:Reach} {v:Value} {y:DataW H} {ps:List MemPlace} (hv:Value.okWide Tryz.prog w rc b0 23 v) (h:DataW.Trod enc Tryz.prog w base spare held 23 v y ps) : ∃ regs:List Int,v=.agg (regs.map (Value.int .u64)).toArray∧regs.length=32∧Regs64 regs:=by
 obtain ⟨⟨l⟩,rfl,hsz⟩:=okWide_array Tryz.underlying23 hv
 obtain ⟨fuel,hf⟩:=h
 have hf':DataW.trod enc Tryz.prog w base spare held fuel 23 l=some (y,ps):=hf
 obtain ⟨zs,m,-,-,-,hzl,hel⟩:=DataW.trod_array Tryz.underlying23 hf'
 rw [cells22] at hel
 have hl:l.length=32:=hsz.trans cells23
 have hz:∀ i,i < 32→∃ z,l[i]?=some (.int .u64 z)∧(Lit.int .u64 z).wf=true:=by
  intro i hi
  have h0:=hel i hi
  rw [Nat.mul_one,List.getElem?_eq_getElem (by omega:i < zs.length)] at h0
  obtain ⟨z,e1,-,w1⟩:=DataW.trod_int Tryz.underlying22 h0
  refine ⟨z,?_,w1⟩
  have:=congrArg (fun l=>l[0]?) e1
  simpa using this
 obtain ⟨Z,hZ⟩:=Go.Deep.choose_lt (p:=fun i z=>l[i]?=some (.int .u64 z)∧(Lit.int .u64 z).wf=true) hz
 refine ⟨(List.range 32).map Z,?_,by simp,?_⟩
 ·congr 2
  apply List.ext_getElem?
  intro i
  rcases Nat.lt_or_ge i 32 with hi | hi
  ·rw [(hZ i hi).1]; simp [hi]
  ·rw [List.getElem?_eq_none (by omega),List.getElem?_eq_none (by simp; omega)]
 ·intro x hx
  obtain ⟨i,hi,rfl⟩:=List.mem_map.1 hx
  have:=bounds_u64 (hZ i (List.mem_range.1 hi)).2
  unfold B64; omega
theorem bytes_of_trod {v:Value} {y:DataW H} {ps:List MemPlace} {b0:Nat} {rc:Reach} (hv:Value.okWide Tryz.prog w rc b0 24 v) (h:DataW.Trod enc Tryz.prog w base spare held 24 v y ps) : ∃ (A:Option Addr) (n c:Nat) (l:List Int),v=.slice A n c∧RdS w v (l.map (.int .u8))∧∀ z∈l,0≤z∧z < 256:=by
 obtain ⟨A,n,c,rfl⟩:=okWide_slice Tryz.underlying24 hv
 obtain ⟨fuel,hf⟩:=h
 obtain ⟨v',l,e,hr,hw⟩:=rds_of_trod Tryz.underlying24 Tryz.underlying5 cells5 hf
 have e':Value.slice A n c=v':=by have:=congrArg (fun l=>l[0]?) e; simpa [Value.cells] using this
 subst e'
 exact ⟨A,n,c,l,rfl,hr,fun z hz=>by have:=bounds_u8 (hw z hz); omega⟩
end
end Go.Proofs.YtoehlmiadiiimaaGreatDoor

