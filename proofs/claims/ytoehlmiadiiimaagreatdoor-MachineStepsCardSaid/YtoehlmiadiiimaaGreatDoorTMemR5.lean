import Derived.Test.YtoehlmiadiiimaaGreatDoorTMemZ4
import Derived.Laws.BytesArg
import Derived.Deep.Slices
import Derived.OpenShut
set_option maxRecDepth 100000
namespace Go.Proofs.YtoehlmiadiiimaaGreatDoor
open Go.ChangeShapes Go.WideShapes Go.RowKit Go.Proofs.YtoehlmiadiiimaaGreatDoor.Ex
theorem bits_bd (o:BinOp) (x y:Int) : 0≤bits o .u64 x y∧bits o .u64 x y < B64:=by
 unfold bits
 exact u64_bd _
theorem u64_B (x:Int) : 0≤IntKind.u64.wrap x∧IntKind.u64.wrap x < B64:=u64_bd x
theorem div_bd {x:Int} (hx:0≤x) (hx1:x < B64) (k:Nat) : 0≤x / 2 ^ k∧x / 2 ^ k < B64:=by
 have h2:(0:Int) < 2 ^ k:=Int.pow_pos (by omega)
 refine ⟨Int.ediv_nonneg hx (Int.le_of_lt h2),Int.lt_of_le_of_lt ?_ hx1⟩
 exact Int.ediv_le_self _ hx
theorem high_bd {x y:Int} (hx:0≤x) (hx1:x < B64) (hy:0≤y) (hy1:y < B64) (sx sy:Bool) : 0≤highF sx sy x y∧highF sx sy x y < B64:=by
 have h0:0≤x*y / B64∧x*y / B64 < B64:=by
  refine ⟨Int.ediv_nonneg (Int.mul_nonneg hx hy) (by decide),?_⟩
  refine Int.ediv_lt_of_lt_mul (by decide) ?_
  exact Int.lt_of_le_of_lt (Int.mul_le_mul_of_nonneg_left (Int.le_of_lt hy1) hx) (Int.mul_lt_mul_of_pos_right hx1 (by decide))
 unfold highF
 simp only
 split <;> split <;> first | exact u64_B _ | exact h0
theorem two_bd (op:Nat) {x y:Int} (hx:0≤x) (hx1:x < B64) (hy:0≤y) (hy1:y < B64) : 0≤twoF op x y∧twoF op x y < B64:=by
 have hq:0≤(quo64 x y).1∧(quo64 x y).1 < B64:=by
  unfold quo64; split <;> exact u64_B _
 have hr:0≤(quo64 x y).2∧(quo64 x y).2 < B64:=by
  unfold quo64; split
  ·exact ⟨hx,hx1⟩
  ·rename_i h; exact ⟨Int.emod_nonneg _ h,Int.lt_trans (Int.emod_lt_of_pos _ (by omega)) hy1⟩
 unfold twoF
 split
 all_goals first
  | exact u64_B _
  | exact bits_bd _ _ _
  | exact div_bd hx hx1 _
  | exact high_bd hx hx1 hy hy1 _ _
  | exact hq
  | exact hr
  | exact ⟨Int.le_refl _,by decide⟩
  | (split <;> exact ⟨by decide,by decide⟩)
theorem ldm_bd (l:List Int) (k many:Nat) : 0≤ldm l k many∧ldm l k many < B64:=by
 unfold ldm
 cases many with
 | zero=>unfold ldv; exact ⟨Int.le_refl _,by decide⟩
 | succ n=>unfold ldv; exact bits_bd _ _ _
theorem ldE_bd (op:Nat) {x:Int} (hx:0≤x∧x < B64) : 0≤ldE op x∧ldE op x < B64:=by
 unfold ldE
 split
 ·exact u64_B _
 ·exact u64_B _
 ·exact u64_B _
 ·exact hx
theorem regs_set {l:List Int} (h:Regs64 l) (i:Nat) {x:Int} (hx:0≤x∧x < B64) : Regs64 (l.set i x):=by
 intro y hy
 rcases List.mem_or_eq_of_mem_set hy with h1 | rfl
 ·exact h y h1
 ·exact hx
structure Kept (r r':Rn) : Prop where
 mem:r'.mem.length=r.mem.length
 base:r'.base=r.base
 len:r'.regs.length=r.regs.length
 zero:r'.regs.getD 0 0=r.regs.getD 0 0
 told:∃ l,r'.told=r.told ++ l
 most:r'.told.length≤max r.told.length 1000
 pc:0≤r.pc→0≤r'.pc
 regs:Regs64 r.regs→Regs64 r'.regs
theorem Kept.refl (r:Rn) : Kept r r:=⟨rfl,rfl,rfl,rfl,⟨[],by simp⟩,by omega,fun h=>h,fun h=>h⟩
theorem Kept.trans {a b c:Rn} (h:Kept a b) (g:Kept b c) : Kept a c:=by
 obtain ⟨l,hl⟩:=h.told
 obtain ⟨m,hm⟩:=g.told
 have:=h.most
 have:=g.most
 exact ⟨g.mem.trans h.mem,g.base.trans h.base,g.len.trans h.len,g.zero.trans h.zero,⟨l ++ m,by rw [hm,hl,List.append_assoc]⟩,by omega,fun x=>g.pc (h.pc x),fun x=>g.regs (h.regs x)⟩
theorem Kept.wf {r r':Rn} (h:Kept r r') (hw:WFm r) : WFm r':=by
 have:=h.most
 have:=hw.told
 have:=h.mem
 have:=hw.mem
 exact ⟨h.pc hw.pc,h.regs hw.regs,by omega,by omega⟩
theorem Kept.wr {r r':Rn} (h:Kept r r') (rd:Nat) {x:Int} (hx:Regs64 r.regs→0≤x∧x < B64) : Kept r (r'.wr rd x):=by
 unfold Rn.wr
 by_cases h0:rd=0
 ·simp only [if_pos h0]; exact h
 ·simp only [if_neg h0]
  refine ⟨h.mem,h.base,by simpa using h.len,?_,h.told,h.most,h.pc,fun g=>regs_set (h.regs g) _ (hx g)⟩
  rw [← h.zero]
  simp [List.getD,h0]
theorem wr_kept {r:Rn} {rd:Nat} {x:Int} (hx:Regs64 r.regs→0≤x∧x < B64) : Kept r (r.wr rd x):=(Kept.refl r).wr rd hx
theorem zero_bd:(0:Int)≤0∧(0:Int) < B64:=⟨Int.le_refl _,by decide⟩
theorem doF_kept {i:Ins} {r r':Rn} {to:Int} (h:doF i r=some (to,r')) (h0:0≤r.on∧r.on < B64) : Kept r r'∧0≤to:=by
 have hreg:∀ k:Nat,Regs64 r.regs→(0:Int)≤r.regs[k]?.getD 0∧r.regs[k]?.getD 0 < B64:=fun k hr=>reg64 hr k
 unfold doF at h
 split at h
 ·injection h with h; injection h with h1 h; subst h; subst h1
  exact ⟨wr_kept fun _=>by split <;> exact u64_B _,h0.1⟩
 ·injection h with h; injection h with h1 h; subst h; subst h1
  exact ⟨wr_kept fun _=>h0,(u64_B _).1⟩
 ·injection h with h; injection h with h1 h; subst h; subst h1
  refine ⟨wr_kept fun _=>zero_bd,?_⟩
  split
  ·exact (u64_B _).1
  ·exact h0.1
 ·split at h
  ·injection h with h; injection h with h1 h; subst h; subst h1
   exact ⟨wr_kept fun _=>h0,(bits_bd _ _ _).1⟩
  ·split at h
   ·cases h
   ·injection h with h; injection h with h1 h; subst h; subst h1
    exact ⟨wr_kept fun _=>ldE_bd _ (ldm_bd _ _ _),h0.1⟩
 ·split at h
  ·cases h
  ·injection h with h; injection h with h1 h; subst h; subst h1
   refine ⟨Kept.wr (r':={ r with mem:=memSet r.mem _ _ _ }) ⟨memSet_len _ _ _ _,rfl,rfl,rfl,⟨[],by simp⟩,by simp; omega,fun h=>h,fun h=>h⟩ _ fun _=>zero_bd,h0.1⟩
 ·injection h with h; injection h with h1 h; subst h; subst h1
  exact ⟨wr_kept fun hr=>two_bd _ (hreg _ hr).1 (hreg _ hr).2 (u64_B _).1 (u64_B _).2,h0.1⟩
 ·injection h with h; injection h with h1 h; subst h; subst h1
  exact ⟨wr_kept fun hr=>two_bd _ (hreg _ hr).1 (hreg _ hr).2 (u64_B _).1 (u64_B _).2,h0.1⟩
 ·injection h with h; injection h with h1 h; subst h; subst h1
  exact ⟨wr_kept fun hr=>two_bd _ (hreg _ hr).1 (hreg _ hr).2 (u64_B _).1 (u64_B _).2,h0.1⟩
 ·injection h with h; injection h with h1 h; subst h; subst h1
  exact ⟨wr_kept fun hr=>two_bd _ (hreg _ hr).1 (hreg _ hr).2 (hreg _ hr).1 (hreg _ hr).2,h0.1⟩
 ·injection h with h; injection h with h1 h; subst h; subst h1
  exact ⟨wr_kept fun _=>zero_bd,h0.1⟩
 ·split at h
  ·split at h
   ·rename_i ht
    injection h with h; injection h with h1 h; subst h; subst h1
    exact ⟨Kept.wr (r:=r) (r':={ r with told:=r.told ++ [r.regs.getD 10 0],done:=r.regs.getD 17 0 == 93 }) ⟨rfl,rfl,rfl,rfl,⟨[r.regs.getD 10 0],rfl⟩,by simp; omega,fun h=>h,fun h=>h⟩ _ fun _=>zero_bd,h0.1⟩
   ·cases h
  ·cases h
 ·cases h
theorem fetch_on {r:Rn} {i:Ins} {on:Int} (h:fetch r=some (i,on)) : 0≤on∧on < B64:=by
 unfold fetch at h
 split at h
 ·cases h
 ·split at h
  ·simp only at h
   split at h
   ·split at h
    ·simp only [Option.some.injEq,Prod.mk.injEq] at h
     rw [← h.2]; exact u64_B _
    ·cases h
   ·split at h
    ·cases h
    ·split at h
     ·simp only [Option.some.injEq,Prod.mk.injEq] at h
      rw [← h.2]; exact u64_B _
     ·cases h
  ·cases h
theorem step_kept {r r':Rn} (h:stepF r=some r') : Kept r r':=by
 unfold stepF at h
 split at h
 ·cases h
 ·split at h
  ·cases h
  ·rename_i i on hf
   split at h
   ·cases h
   ·rename_i to r1 hd
    injection h with h
    subst h
    obtain ⟨k,k0⟩:=doF_kept hd (fetch_on hf)
    exact ⟨k.mem,k.base,k.len,k.zero,k.told,k.most,fun _=>k0,k.regs⟩
end Go.Proofs.YtoehlmiadiiimaaGreatDoor
namespace Go.Proofs.YtoehlmiadiiimaaGreatDoor
open Go.ChangeShapes Go.WideShapes Go.RowKit Go.Proofs.YtoehlmiadiiimaaGreatDoor.Ex
theorem wpList_build0 {P:Program} {w:World} {ops:Array Oper} {rest:List Oper} {o:Oper} {a:Act} {Q:Exit→Act→World→Prop} (hg:o.guard=none) (t:TypeId) (ho:o.op=.build t #[]) (cells:Array Value)
  (hf:P.built t []=some cells) (h:wpList P ops Q rest (a.put o.dst (.agg cells)) w) : wpList P ops Q (o :: rest) a w:=by
 have e:P.built t (((#[] : Array (Nat×Operand)).map fun (i,x)=>(i,a.eval x)).toList)=some cells:=by simpa using hf
 exact wpList_build hg t #[] ho (by rw [e]; rfl) (by rw [e]; exact h)
def rn0:Rn:=⟨0,List.replicate 32 0,0,[],[],false,0,false⟩
def z27:Array Value:=(mcells rn0 (.slice none 0 0) (.slice none 0 0)).toArray
theorem built27:Tryz.prog.built 27 []=some z27:=by kernel_rfl
theorem z27_size:z27.size=37:=by kernel_rfl
theorem z27_one:z27.all (·.oneCell')=true:=by kernel_rfl
theorem MachO.mono {B C:Nat} {w:World} {v:Value} {r:Rn} (h:MachO B w v r) (hc:C≤B) : MachO C w v r:=by
 obtain ⟨mv,tv,hv,hm,ht⟩:=h.form
 exact ⟨h.len,mv,tv,hv,hm.mono hc,ht.mono hc⟩
theorem MachO.keep {B:Nat} {w w':World} {v:Value} {r:Rn} (h:MachO B w v r) (hb:Below w.heap.size w w') : MachO B w' v r:=by
 obtain ⟨mv,tv,hv,hm,ht⟩:=h.form
 exact ⟨h.len,mv,tv,hv,own_below hm hb,own_below ht hb⟩
theorem MachO.far {B g:Nat} {w:World} {v:Value} {r:Rn} (h:MachO B w v r) (hg:g < B) (cs:Array Value) : MachO B (w.setRow g cs) v r:=by
 obtain ⟨mv,tv,hv,hm,ht⟩:=h.form
 exact ⟨h.len,mv,tv,hv,own_setRow_far hm (fun e=>by have:=(hm.lt _ e).1; omega) _,own_setRow_far ht (fun e=>by have:=(ht.lt _ e).1; omega) _⟩
theorem mach_cells {B:Nat} {w:World} {v:Value} {r:Rn} (h:MachO B w v r) : ∃ cs:Array Value,v=.agg cs∧Hid (cs.size=37)∧cs.all (·.oneCell')=true:=by
 obtain ⟨mv,tv,hv,hm,ht⟩:=h.form
 exact ⟨_,hv,Lib.hid (mc_size h.len),mc_one (rds_one (RdS.of_own hm)) (rds_one (RdS.of_own ht))⟩
end Go.Proofs.YtoehlmiadiiimaaGreatDoor
namespace Go.Proofs.YtoehlmiadiiimaaGreatDoor
open Go.ChangeShapes Go.WideShapes Go.RowKit Go.Proofs.YtoehlmiadiiimaaGreatDoor.Ex
theorem conv_rd {w:World} {A:Option Addr} {n c:Nat} {l:List Int} (h:RdS w (.slice A n c) (l.map (.int .u8))) : (convert 24 9 (.slice A n c)).run Tryz.prog w=.ok (.string (strOfNums l)) w:=by
 obtain ⟨A',c',hv,hc,hA⟩:=h.form
 injection hv with h1 h2 h3
 subst h1; subst h2; subst h3
 simp only [List.length_map] at hA ⊢
 rcases Nat.eq_zero_or_pos l.length with h0 | h0
 ·have:l=[]:=List.eq_nil_of_length_eq_zero h0
  subst this
  cases A with
  | none=>exact run_convert_bytes_nil w 24 5 Tryz.underlying24 Tryz.underlying5 _ _ 9 Tryz.underlying9
  | some a =>
   show (convert 24 9 (.slice (some a) 0 c)).run Tryz.prog w=_
   rw [run_convert_bytes_string w 24 9 5 _ 0 c Tryz.underlying24 Tryz.underlying5 Tryz.underlying9]
   have hl:(loadCells a 0).run Tryz.prog w=.ok (([] : List Int).map (Value.int .u8)).toArray w:=run_loadCells_list w a [] (fun j v hj=>by simp at hj)
   exact run_bytesToString w a 0 c [] hl
 ·obtain ⟨a,rfl,_,hcell⟩:=hA h0
  have hl:(loadCells a l.length).run Tryz.prog w=.ok (l.map (Value.int .u8)).toArray w:=by
   have:=run_loadCells_list (P:=Tryz.prog) w a (l.map (Value.int .u8)) hcell
   simpa using this
  rw [run_convert_bytes_string w 24 9 5 _ l.length c Tryz.underlying24 Tryz.underlying5 Tryz.underlying9,run_bytesToString w a l.length c l hl,foldl_push_bytes]
  simp [strOfNums,ByteArray.empty,ByteArray.emptyWithCapacity]
  rfl
def greatB (r:Rn) : Bool:=decide (2000 < (r.mem.length:Int)) || decide (1500 < (r.told.length:Int))
set_option maxHeartbeats 1000000 in
theorem great_c (v:Value) (r:Rn) (w:World) (h:MachR w v r) : Calls Tryz.prog 11 #[v] w fun e w'=>e=.returned (.bool (greatB r))∧Below w.heap.size w w':=by
 obtain ⟨mv,tv,rfl,hmv,htv⟩:=h.form
 have hlen:=h.len
 obtain ⟨A1,q1,rfl,-,-⟩:=hmv.form
 obtain ⟨A2,q2,rfl,-,-⟩:=htv.form
 have c34:=mc34 (r:=r) (mv:=.slice A1 (r.mem.map (Value.int .u8)).length q1) (tv:=.slice A2 (r.told.map (Value.int .u64)).length q2) hlen
 have c35:=mc35 (r:=r) (mv:=.slice A1 (r.mem.map (Value.int .u8)).length q1) (tv:=.slice A2 (r.told.map (Value.int .u64)).length q2) hlen
 generalize (mcells r (.slice A1 (r.mem.map (Value.int .u8)).length q1) (.slice A2 (r.told.map (Value.int .u64)).length q2)).toArray=cs at *
 simp only [List.length_map] at c34 c35
 unfold greatB
 generalize r.mem.length=m at *
 generalize r.told.length=t at *
 clear hmv htv h hlen
 go_enter Tryz.func11,Tryz.ntmps11
 go_wp2
 all_goals go_ret
 all_goals refine ⟨?_,(Below.refl _ _).alloc (Nat.le_refl _) _⟩
 all_goals first
  | rfl
  | (simp; omega)
theorem rd_at {w:World} {A:Option Addr} {n c k:Nat} {l:List Int} {q:IntKind} (h:RdS w (.slice A n c) (l.map (.int q))) (hk:k < l.length) : ∃ ad,A=some ad∧w.cell? (ad.add k)=some (.int q (l.getD k 0)):=by
 obtain ⟨A',c',hv,hc,hA⟩:=h.form
 injection hv with h1 h2 h3
 subst h1
 obtain ⟨ad,rfl,_,hcell⟩:=hA (by simp; omega)
 exact ⟨ad,rfl,hcell k _ (by simp [List.getD,List.getElem?_eq_getElem hk])⟩
end Go.Proofs.YtoehlmiadiiimaaGreatDoor

set_option maxRecDepth 100000
namespace Go.Proofs.YtoehlmiadiiimaaGreatDoor
open Go.ChangeShapes Go.WideShapes Go.RowKit Go.Proofs.YtoehlmiadiiimaaGreatDoor.Ex
section
variable {H:Type} {enc:TypeId×Value→H} {w:World} {base:Nat} {spare:Nat→Bool} {held:Bool}
theorem cell_lt {w:World} {a:Addr} {v:Value} (h:w.cell? a=some v) : a.block < w.heap.size:=by
 rcases Nat.lt_or_ge a.block w.heap.size with h1 | h1
 ·exact h1
 ·unfold World.cell? at h
  rw [Array.getElem?_eq_none h1] at h
  simp at h
theorem rds_of_trod {t e fuel:Nat} {k:IntKind} {cs:List Value} {x:DataW H×List MemPlace} (ht:Tryz.prog.underlying t=some (.slice e)) (he:Tryz.prog.underlying e=some (.int k)) (hc:Tryz.prog.cellsOf e=1)
  (h:DataW.trod enc Tryz.prog w base spare held fuel t cs=some x) : ∃ (v:Value) (l:List Int),cs=[v]∧RdS w v (l.map (.int k))∧∀ z∈l,(Lit.int k z).wf=true:=by
 rcases Go.Deep.open_slice1 ht hc h with ⟨rfl,rfl⟩ | ⟨a,len,cap,m,n,V,D,Pl,rfl,_,hl,_,hm,_,hx⟩
 ·exact ⟨_,[],rfl,⟨none,0,rfl,Nat.le_refl _,fun h=>absurd h (by simp)⟩,by simp⟩
 ·have hm':len≤m:=by rw [hm]; split <;> omega
  have hz:∀ i,i < len→∃ z,V i=.int k z∧(Lit.int k z).wf=true:=by
   intro i hi
   obtain ⟨_,h2⟩:=hx i (by omega)
   obtain ⟨z,e1,_,w1⟩:=DataW.trod_int he h2
   injection e1 with e1
   exact ⟨z,e1,w1⟩
  obtain ⟨Z,hZ⟩:=Go.Deep.choose_lt (p:=fun i z=>V i=.int k z∧(Lit.int k z).wf=true) hz
  refine ⟨_,(List.range len).map Z,rfl,⟨some a,cap,by simp,by simpa using hl,fun h0=>⟨a,rfl,?_,fun j u hu=>?_⟩⟩,?_⟩
  ·have h0':0 < len:=by simpa using h0
   have:=cell_lt (hx 0 (by omega)).1
   have e:(a.add 0).block=a.block:=by unfold Addr.add; split <;> rfl
   rwa [e] at this
  ·have hj:j < len:=by
    rcases Nat.lt_or_ge j len with h1 | h1
    ·exact h1
    ·rw [List.getElem?_eq_none (by simpa using h1)] at hu; cases hu
   simp [hj] at hu
   rw [(hx j (by omega)).1,(hZ j hj).1,hu]
  ·intro z hz
   obtain ⟨i,hi,rfl⟩:=List.mem_map.1 hz
   exact (hZ i (List.mem_range.1 hi)).2
theorem cells22:Tryz.prog.cellsOf 22=1:=by kernel_rfl
theorem cells5:Tryz.prog.cellsOf 5=1:=by kernel_rfl
theorem cells4:Tryz.prog.cellsOf 4=1:=by kernel_rfl
theorem cells23:Tryz.prog.cellsOf 23=32:=by kernel_rfl
theorem cells24:Tryz.prog.cellsOf 24=1:=by kernel_rfl
theorem cells25:Tryz.prog.cellsOf 25=1:=by kernel_rfl
theorem cells27:Tryz.prog.cellsOf 27=37:=by kernel_rfl
theorem split37 (l:List Value) (h:l.length=37) : l=List.take 1 (List.drop 0 l) ++ (List.take 32 (List.drop 1 l) ++ (List.take 1 (List.drop 33 l) ++ (List.take 1 (List.drop 34 l) ++ (List.take 1 (List.drop 35 l) ++ List.take 1 (List.drop 36 l))))):=by
 have e:∀ a k,List.take k (List.drop a l) ++ List.drop (a+k) l=List.drop a l:=fun a k=>by
  rw [← List.drop_drop]; exact List.take_append_drop k _
 have e36:List.take 1 (List.drop 36 l)=List.drop 36 l:=List.take_of_length_le (by simp [h])
 rw [e36,e 35 1,e 34 1,e 33 1,e 1 32,e 0 1]
 rfl
structure Sound (r:Rn) : Prop where
 pc:0≤r.pc∧r.pc < B64
 regs:Regs64 r.regs
 base:0≤r.base∧r.base < B64
 mem:∀ x∈r.mem,0≤x∧x < 256
 told:Regs64 r.told
theorem mach_of_trod {b0:Nat} {rc:Reach} {v:Value} {y:DataW H} {ps:List MemPlace} (hv:Value.okWide Tryz.prog w rc b0 27 v) (h:DataW.Trod enc Tryz.prog w base spare held 27 v y ps) : ∃ r,MachR w v r∧Sound r:=by
 obtain ⟨⟨l⟩,rfl,hsz⟩:=okWide_struct Tryz.underlying27 hv
 obtain ⟨fuel,hf⟩:=h
 obtain ⟨xs,n,-,-,-,hlen,hg⟩:=DataW.trod_struct Tryz.underlying27 hf
 have hl:l.length=37:=hsz.trans cells27
 have hlen:xs.length=6:=hlen
 have gx:∀ (i:Nat),i < 6→∃ y,xs[i]?=some y:=fun i hi=>⟨xs[i],List.getElem?_eq_getElem (by omega)⟩
 obtain ⟨y0,k0⟩:=gx 0 (by omega)
 obtain ⟨y1,k1⟩:=gx 1 (by omega)
 obtain ⟨y2,k2⟩:=gx 2 (by omega)
 obtain ⟨y3,k3⟩:=gx 3 (by omega)
 obtain ⟨y4,k4⟩:=gx 4 (by omega)
 obtain ⟨y5,k5⟩:=gx 5 (by omega)
 have g0:DataW.trod enc Tryz.prog w base spare held n 22 (List.take (Tryz.prog.cellsOf 22) (List.drop 0 l))=some y0:=(hg 0 _ rfl).trans k0
 have g1:DataW.trod enc Tryz.prog w base spare held n 23 (List.take (Tryz.prog.cellsOf 23) (List.drop 1 l))=some y1:=(hg 1 _ rfl).trans k1
 have g2:DataW.trod enc Tryz.prog w base spare held n 22 (List.take (Tryz.prog.cellsOf 22) (List.drop 33 l))=some y2:=(hg 2 _ rfl).trans k2
 have g3:DataW.trod enc Tryz.prog w base spare held n 24 (List.take (Tryz.prog.cellsOf 24) (List.drop 34 l))=some y3:=(hg 3 _ rfl).trans k3
 have g4:DataW.trod enc Tryz.prog w base spare held n 25 (List.take (Tryz.prog.cellsOf 25) (List.drop 35 l))=some y4:=(hg 4 _ rfl).trans k4
 have g5:DataW.trod enc Tryz.prog w base spare held n 4 (List.take (Tryz.prog.cellsOf 4) (List.drop 36 l))=some y5:=(hg 5 _ rfl).trans k5
 rw [cells22] at g0 g2
 rw [cells23] at g1
 rw [cells24] at g3
 rw [cells25] at g4
 rw [cells4] at g5
 obtain ⟨pc,e0,-,w0⟩:=DataW.trod_int Tryz.underlying22 g0
 obtain ⟨ba,e2,-,w2⟩:=DataW.trod_int Tryz.underlying22 g2
 obtain ⟨mv,ml,e3,r3,w3⟩:=rds_of_trod Tryz.underlying24 Tryz.underlying5 cells5 g3
 obtain ⟨tv,tl,e4,r4,w4⟩:=rds_of_trod Tryz.underlying25 Tryz.underlying22 cells22 g4
 obtain ⟨dn,e5,-⟩:=DataW.trod_bool Tryz.underlying4 g5
 obtain ⟨zs,m,-,-,-,hzl,hel⟩:=DataW.trod_array Tryz.underlying23 g1
 rw [cells22] at hel
 have hz:∀ i,i < 32→∃ z,(List.take 32 (List.drop 1 l))[i]?=some (.int .u64 z)∧(Lit.int .u64 z).wf=true:=by
  intro i hi
  have h0:=hel i hi
  rw [Nat.mul_one,List.getElem?_eq_getElem (by omega:i < zs.length)] at h0
  obtain ⟨z,e1,-,w1⟩:=DataW.trod_int Tryz.underlying22 h0
  refine ⟨z,?_,w1⟩
  have:=congrArg (fun l=>l[0]?) e1
  simpa using this
 obtain ⟨Z,hZ⟩:=Go.Deep.choose_lt (p:=fun i z=>(List.take 32 (List.drop 1 l))[i]?=some (.int .u64 z)∧(Lit.int .u64 z).wf=true) hz
 have eR:List.take 32 (List.drop 1 l)=((List.range 32).map Z).map (Value.int .u64):=by
  apply List.ext_getElem?
  intro i
  rcases Nat.lt_or_ge i 32 with hi | hi
  ·rw [(hZ i hi).1]; simp [hi]
  ·rw [List.getElem?_eq_none (by simp; omega),List.getElem?_eq_none (by simp; omega)]
 have hspl:=split37 l hl
 rw [e0,eR,e2,e3,e4,e5] at hspl
 refine ⟨⟨pc,(List.range 32).map Z,ba,ml,tl,dn,0,false⟩,⟨by simp,mv,tv,?_,r3,r4⟩,⟨?_,?_,?_,?_,?_⟩⟩
 ·rw [hspl]; rfl
 ·have:=bounds_u64 w0; unfold B64; exact ⟨this.1,by show pc < _; omega⟩
 ·intro x hx
  obtain ⟨i,hi,rfl⟩:=List.mem_map.1 hx
  have:=bounds_u64 (hZ i (List.mem_range.1 hi)).2
  unfold B64; omega
 ·have:=bounds_u64 w2; unfold B64; exact ⟨this.1,by show ba < _; omega⟩
 ·intro x hx; have:=bounds_u8 (w3 x hx); omega
 ·intro x hx; have:=bounds_u64 (w4 x hx); unfold B64; omega
end
end Go.Proofs.YtoehlmiadiiimaaGreatDoor
namespace Go.Proofs.YtoehlmiadiiimaaGreatDoor
open Go.ChangeShapes Go.WideShapes Go.RowKit Go.Proofs.YtoehlmiadiiimaaGreatDoor.Ex
theorem checkE_or (r:Rn) : checkE r=0∨checkE r=8:=by
 unfold checkE checkF
 (repeat' split) <;> simp
theorem checkE_zero {r:Rn} (h:checkE r=0) : r.base≤2147483648∧r.mem.length≤65536∧r.regs.getD 0 0=0∧r.told.length≤1000:=by
 unfold checkE checkF at h
 split at h
 ·cases h
 ·split at h
  ·cases h
  ·split at h
   ·cases h
   ·split at h
    ·cases h
    ·omega
theorem rn0_own (B:Nat) (w:World) : MachO B w (.agg z27) rn0:=⟨rfl,_,_,rfl,World.ownsRow_nil w _ _ _,World.ownsRow_nil w _ _ _⟩
end Go.Proofs.YtoehlmiadiiimaaGreatDoor

