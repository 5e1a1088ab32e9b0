import Derived.Test.YtoehlmiadiiimaaGreatDoorProg
import Derived.WalkKit
import Derived.Lib.Hide
import Derived.Below
import Derived.Laws.OwnMore
import Derived.Laws.Rows
import Derived.Laws.Tables
import Derived.Deep.AppendLies
import Derived.Deep.Draws
import Derived.Deep.RegionHeld3
import Derived.WalkSpells
import Derived.StillTactics
import Derived.OwnWalk
import Derived.Laws.Pointers
import Derived.KernelRfl
import Derived.Deep.RegionLaw
import Derived.Laws.BitsAllLaws
import Derived.Deep.QuietTactic
import Derived.BigQuiet
set_option maxRecDepth 100000
set_option maxHeartbeats 3200000
namespace Go.Proofs.YtoehlmiadiiimaaGreatDoor
open Go.ChangeShapes Go.WideShapes Go.RowKit
def Blk (w:World) (g:Nat) (t:TypeId) (cs:Array Value) : Prop:=w.heap[g]?=some (.cells cs t (0,0))
theorem Blk.lt {w:World} {g:Nat} {t:TypeId} {cs:Array Value} (h:Blk w g t cs) : g < w.heap.size:=by
 rcases Nat.lt_or_ge g w.heap.size with hlt | hge
 ·exact hlt
 ·unfold Blk at h; rw [Array.getElem?_eq_none hge] at h; cases h
theorem Blk.cell {w:World} {g:Nat} {t:TypeId} {cs:Array Value} (h:Blk w g t cs) (i:Nat) : w.cell? ⟨g,i,none⟩=cs[i]?:=cell_of_row w g i cs t (0,0) h
theorem Blk.frozen {w:World} {g:Nat} {t:TypeId} {cs:Array Value} (h:Blk w g t cs) (i:Nat) : w.frozen? ⟨g,i,none⟩=false:=by
 unfold Blk at h
 simp [World.frozen?,h]
theorem at_in (g:Nat) (A:Addr) (n c:Nat) (base addr:Int) (k many:Nat) (w:World)
  (h33:w.cell? ⟨g,33,none⟩=some (.int .u64 base)) (h34:w.cell? ⟨g,34,none⟩=some (.slice (some A) n c))
  (hw:IntKind.u64.wrap (addr - base)=(k:Int))
  (h1:k+many≤n) (hm0:0 < many) (hm:many≤8) (hn:n≤c) (hc:n≤1000000) :
  Calls Tryz.prog 101 #[.pointer (some ⟨g,0,none⟩),.int .u64 addr,.int .i64 many] w fun e w'=>e=.returned (.slice (some (A.add k)) many (c - k))∧w=w':=by
 have d1:decide (n < k)=false:=by simp; omega
 have d2:decide (n - k < many)=false:=by simp; omega
 have d3:decide ((n:Int) - k < many)=false:=by simp; omega
 have d4:¬ c=k:=by omega
 go_enter Tryz.func101,Tryz.ntmps101
 go_wp2
 go_ret
 exact ⟨by show Ending.returned (.slice (some (A.add k)) (k+many - k) (c - k))=_; rw [Nat.add_sub_cancel_left],rfl⟩
theorem at_out (g:Nat) (A:Option Addr) (n c:Nat) (base addr:Int) (m:Int) (many:Nat) (s:Bool) (w:World)
  (h33:w.cell? ⟨g,33,none⟩=some (.int .u64 base)) (h34:w.cell? ⟨g,34,none⟩=some (.slice A n c))
  (h38:w.cell? ⟨g,38,none⟩=some (.bool s)) (hf:w.frozen? ⟨g,38,none⟩=false)
  (hw:IntKind.u64.wrap (addr - base)=m)
  (h1:n < m∨IntKind.u64.wrap (n - m) < many) (hm:many≤8) (_hn:n≤c) (hc:n≤1000000) :
  Calls Tryz.prog 101 #[.pointer (some ⟨g,0,none⟩),.int .u64 addr,.int .i64 many] w fun e w'=>e=.returned (.slice none 0 0)∧w.setCell ⟨g,38,none⟩ (.bool true)=w':=by
 by_cases h0:(n:Int) < m
 ·go_enter Tryz.func101,Tryz.ntmps101
  go_wp2
  go_ret
  exact ⟨rfl,rfl⟩
 ·have h2:IntKind.u64.wrap (n - m) < many:=by omega
  clear h1
  go_enter Tryz.func101,Tryz.ntmps101
  go_wp2
  go_ret
  exact ⟨rfl,rfl⟩
theorem Addr.add_add (a:Addr) (i j:Nat) : (a.add i).add j=a.add (i+j):=by
 unfold Addr.add
 by_cases hi:i=0 <;> by_cases hj:j=0 <;> simp [hi,hj,Nat.add_assoc]
def ldv (b:Nat→Int) : Nat→Int
 | 0=>0
 | j+1=>bits .or .u64 (ldv b j) (IntKind.u64.wrap (IntKind.u64.wrap (b j)*2 ^ (8*j)))
theorem load_in (g:Nat) (A:Addr) (n c:Nat) (base addr:Int) (k many:Nat) (b:Nat→Int) (w:World)
  (h33:w.cell? ⟨g,33,none⟩=some (.int .u64 base)) (h34:w.cell? ⟨g,34,none⟩=some (.slice (some A) n c))
  (hw:IntKind.u64.wrap (addr - base)=(k:Int))
  (hb:Hid (∀ j,j < many→w.cell? (A.add (k+j))=some (.int .u8 (b j))))
  (h1:k+many≤n) (hm0:0 < many) (hm:many≤8) (hn:n≤c) (hc:n≤1000000) :
  Calls Tryz.prog 63 #[.pointer (some ⟨g,0,none⟩),.int .u64 addr,.int .i64 many] w fun e w'=>e=.returned (.int .u64 (ldv b many))∧w=w':=by
 go_enter Tryz.func63,Tryz.ntmps63
 go_wp2_with (go_at_call 101; refine (at_in _ _ _ _ _ _ _ _ _ h33 h34 hw h1 hm0 hm hn hc).mono ?_; rintro e w' ⟨rfl,rfl⟩)
 go_loop [7,15] (fun x i=>∃ j:Nat,j≤many∧i=.int .i64 j∧x=.int .u64 (ldv b j)) (fun _ i=>many - (intOf i).toNat)
 case atStart=>exact ⟨0,Nat.zero_le _,rfl,rfl⟩
 case round =>
  obtain ⟨j,hk,rfl,rfl⟩:=hrel
  by_cases hlt:j < many
  ·have hcell:=hb.out j hlt
   rw [← Addr.add_add] at hcell
   go_wp2
   go_round
   case rel=>exact ⟨j+1,by omega,by go_num,rfl⟩
   case measure=>simp [intOf]; omega
  ·obtain rfl:j=many:=by omega
   go_wp2
   go_ret
   exact ⟨rfl,rfl⟩
theorem load_out (g:Nat) (A:Option Addr) (n c:Nat) (base addr:Int) (m:Int) (many:Nat) (s:Bool) (w:World)
  (h33:w.cell? ⟨g,33,none⟩=some (.int .u64 base)) (h34:w.cell? ⟨g,34,none⟩=some (.slice A n c))
  (h38:w.cell? ⟨g,38,none⟩=some (.bool s)) (hf:w.frozen? ⟨g,38,none⟩=false)
  (hw:IntKind.u64.wrap (addr - base)=m)
  (h1:Hid (n < m∨IntKind.u64.wrap (n - m) < many)) (hm:many≤8) (hn:n≤c) (hc:n≤1000000) :
  Calls Tryz.prog 63 #[.pointer (some ⟨g,0,none⟩),.int .u64 addr,.int .i64 many] w fun e w'=>e=.returned (.int .u64 0)∧w.setCell ⟨g,38,none⟩ (.bool true)=w':=by
 go_enter Tryz.func63,Tryz.ntmps63
 go_wp2_with (go_at_call 101; refine (at_out _ _ _ _ _ _ _ _ _ _ h33 h34 h38 hf hw h1.out hm hn hc).mono ?_; rintro e w' ⟨rfl,rfl⟩)
 go_loop [7,15] (fun x i=>i=.int .i64 0∧x=.int .u64 0) (fun _ i=>0)
 case atStart=>exact ⟨rfl,rfl⟩
 case round =>
  obtain ⟨rfl,rfl⟩:=hrel
  go_wp2
  go_ret
  exact ⟨rfl,rfl⟩
def stv (x:Int) (j:Nat) : Int:=IntKind.u8.wrap (x / 2 ^ (8*j))
def stW (w:World) (gm k:Nat) (x:Int) : Nat→World
 | 0=>w
 | j+1=>(stW w gm k x j).setCell ⟨gm,k+j,none⟩ (.int .u8 (stv x j))
theorem store_in (g:Nat) (gm:Nat) (n c:Nat) (base addr x:Int) (k many:Nat) (w:World)
  (h33:w.cell? ⟨g,33,none⟩=some (.int .u64 base)) (h34:w.cell? ⟨g,34,none⟩=some (.slice (some ⟨gm,0,none⟩) n c))
  (hw:IntKind.u64.wrap (addr - base)=(k:Int))
  (hb:Hid (∀ j,j < many→∃ u,(stW w gm k x j).cell? ⟨gm,k+j,none⟩=some u)) (hz:Hid (∀ j,j < many→(stW w gm k x j).frozen? ⟨gm,k+j,none⟩=false))
  (h1:k+many≤n) (hm0:0 < many) (hm:many≤8) (hn:n≤c) (hc:n≤1000000) :
  Calls Tryz.prog 70 #[.pointer (some ⟨g,0,none⟩),.int .u64 addr,.int .i64 many,.int .u64 x] w fun e w'=>e=.returned (.tuple #[])∧stW w gm k x many=w':=by
 go_enter Tryz.func70,Tryz.ntmps70
 go_wp2_with (go_at_call 101; refine (at_in _ _ _ _ _ _ _ _ _ h33 h34 hw h1 hm0 hm hn hc).mono ?_; rintro e w' ⟨rfl,rfl⟩)
 go_loopw [16] (fun i wr=>∃ j:Nat,j≤many∧i=.int .i64 j∧wr=stW w gm k x j) (fun i _=>many - (intOf i).toNat)
 case atStart=>exact ⟨0,Nat.zero_le _,rfl,rfl⟩
 case round =>
  obtain ⟨j,hk,rfl,rfl⟩:=hrel
  by_cases hlt:j < many
  ·obtain ⟨u,hcell⟩:=hb.out j hlt
   have hzz:=hz.out j hlt
   go_wp2
   go_roundw
   case rel=>exact ⟨j+1,by omega,by go_num,rfl⟩
   case measure=>simp [intOf]; omega
  ·obtain rfl:j=many:=by omega
   go_wp2
   go_end0
   exact ⟨rfl,rfl⟩
end Go.Proofs.YtoehlmiadiiimaaGreatDoor
namespace Go.Proofs.YtoehlmiadiiimaaGreatDoor
open Go.ChangeShapes Go.WideShapes Go.RowKit
theorem info22:(Tryz.prog.info? 22).map (fun i=>(i.zero,i.size,i.bytes))=some (some (.int .u64 0),1,8):=by kernel_rfl
theorem info5:(Tryz.prog.info? 5).map (fun i=>(i.zero,i.size,i.bytes))=some (some (.int .u8 0),1,1):=by kernel_rfl
theorem call_full (g:Nat) (T:Option Addr) (n c:Nat) (s:Bool) (w:World)
  (h35:w.cell? ⟨g,35,none⟩=some (.slice T n c))
  (h38:w.cell? ⟨g,38,none⟩=some (.bool s)) (hf:w.frozen? ⟨g,38,none⟩=false) (hn:1000≤n) (hn1:n≤1000000) :
  Calls Tryz.prog 72 #[.pointer (some ⟨g,0,none⟩)] w fun e w'=>e=.returned (.tuple #[])∧w.setCell ⟨g,38,none⟩ (.bool true)=w':=by
 have hd:decide (1000≤n)=true:=by simpa using hn
 have hd1:decide ((1000:Int)≤n)=true:=by simp; omega
 go_enter Tryz.func72,Tryz.ntmps72
 go_wp2
 exact bodyPost_ret (results_none rfl _ _ _) rfl ⟨rfl,rfl⟩
theorem grown_of_alloc {w w1:World} {o:Obj} {row:Option Nat} (h:(w.alloc o).drew.grownBy w1 row) : w.grownBy w1 row :=
 ⟨h.os,h.tape,h.output,Nat.le_trans (by simp) h.size,fun i hi hne=>(h.block i (by simp; omega) hne).trans (Below.heap_alloc w o i hi)⟩
def CallPost (w:World) (g B:Nat) (tv:Value) (n:Nat) (xs:List Value) (r10 r17:Int) (e:Ending) (w':World) : Prop :=
 e=.returned (.tuple #[])∧∃ gg cap w1,w1.ownsRow B 22 1 (.slice (some ⟨gg,0,none⟩) (n+1) cap) (n+1) (xs ++ [.int .u64 r10])∧w.grownBy w1 tv.ownBlock ∧
  (tv.ownBlock=some gg∨gg=w.heap.size+1)∧w'=(w1.setCell ⟨g,35,none⟩ (.slice (some ⟨gg,0,none⟩) (n+1) cap)).setCell ⟨g,36,none⟩ (.bool (r17 == 93))
theorem call_go (g B:Nat) (n:Nat) (c:Nat) (T:Option Addr) (xs:List Value) (r10 r17:Int) (d:Bool) (w:World)
  (h35:w.cell? ⟨g,35,none⟩=some (.slice T n c)) (h11:w.cell? ⟨g,11,none⟩=some (.int .u64 r10)) (h18:w.cell? ⟨g,18,none⟩=some (.int .u64 r17))
  (h36:w.cell? ⟨g,36,none⟩=some (.bool d)) (hf35:w.frozen? ⟨g,35,none⟩=false) (hf36:w.frozen? ⟨g,36,none⟩=false)
  (hown:w.ownsRow B 22 1 (.slice T n c) n xs) (hbase:B≤w.heap.size) (hn:n < 1000) (ag:(Value.slice T n c).ownBlock≠some g) :
  Calls Tryz.prog 72 #[.pointer (some ⟨g,0,none⟩)] w (CallPost w g B (.slice T n c) n xs r10 r17):=by
 obtain ⟨i0,hi0,hz0,hz1,hz2⟩:=info_parts info22
 have lg:=World.block_lt_of_cell? w _ h35
 have hd:decide (1000≤n)=false:=by simpa using hn
 have hd1:decide ((1000:Int)≤n)=false:=by simp; omega
 have hfa:(w.alloc (Obj.cells #[Value.int IntKind.u64 r10] 22)).frozen? ⟨g,35,none⟩=false:=by rw [World.frozen?_alloc_past _ _ _ lg]; exact hf35
 have hfb:(w.alloc (Obj.cells #[Value.int IntKind.u64 r10] 22)).frozen? ⟨g,36,none⟩=false:=by rw [World.frozen?_alloc_past _ _ _ lg]; exact hf36
 go_enter Tryz.func72,Tryz.ntmps72
 go_wp2
 go_region_law
  ((refine step_append_lies _ (by rfl) _ _ _ (by rfl) B 22 i0 _ 1 8 Tryz.underlying25 hi0 hz0 hz1 hz2 rfl (by omega) (.slice T n c) n xs (by rfl) ((hown.alloc _).drew)
      ⟨w.heap.size,0,none⟩ 1 1 [.int .u64 r10] (by rfl) (by rfl) (World.news_of_block (cs:=#[.int .u64 r10]) (t:=22) (fr:=(0,0)) (heap_alloc_new w _)) (by simp [Value.oneCell'])
      (by omega) (by unfold maxLen; omega) (by omega) (by simp; omega) (w.heap.size+1) (by simp) ?_
    intro gg cap w1 hown1 hgrow hat hlt
    have k35:w1.cell? ⟨g,35,none⟩=some (.slice T n c):=(hgrow.cell_far ⟨g,35,none⟩ (by simp; omega) (Ne.symm ag)).trans ((World.cell?_alloc_lt w _ ⟨g,35,none⟩ lg).trans h35)
    have k18:w1.cell? ⟨g,18,none⟩=some (.int .u64 r17):=(hgrow.cell_far ⟨g,18,none⟩ (by simp; omega) (Ne.symm ag)).trans ((World.cell?_alloc_lt w _ ⟨g,18,none⟩ lg).trans h18)
    have k36:w1.cell? ⟨g,36,none⟩=some (.bool d):=(hgrow.cell_far ⟨g,36,none⟩ (by simp; omega) (Ne.symm ag)).trans ((World.cell?_alloc_lt w _ ⟨g,36,none⟩ lg).trans h36)
    have f35:w1.frozen? ⟨g,35,none⟩=false:=(hgrow.frozen_far ⟨g,35,none⟩ (by simp; omega) (Ne.symm ag)).trans hfa
    have f36:w1.frozen? ⟨g,36,none⟩=false:=(hgrow.frozen_far ⟨g,36,none⟩ (by simp; omega) (Ne.symm ag)).trans hfb))
 go_wp2
 all_goals exact bodyPost_ret (results_none rfl _ _ _) rfl ⟨rfl,gg,cap,w1,hown1,grown_of_alloc hgrow,hat,rfl⟩
end Go.Proofs.YtoehlmiadiiimaaGreatDoor
namespace Go.Proofs.YtoehlmiadiiimaaGreatDoor
open Go.ChangeShapes Go.WideShapes Go.RowKit
section
variable {w w':World} {g:Nat} {t:TypeId} {cs:Array Value}
theorem Blk.new (w:World) (t:TypeId) (cs:Array Value) : Blk (w.alloc (.cells cs t)) w.heap.size t cs:=heap_alloc_new w _
theorem Blk.drew (h:Blk w g t cs) : Blk w.drew g t cs:=h
theorem Blk.drewN (h:Blk w g t cs) (n:Nat) : Blk (w.drewN n) g t cs:=h
theorem Blk.alloc (h:Blk w g t cs) (o:Obj) : Blk (w.alloc o) g t cs:=(Below.heap_alloc w o g h.lt).trans h
theorem Blk.set_ (h:Blk w g t cs) (i:Nat) (u:Value) : Blk (w.setCell ⟨g,i,none⟩ u) g t (cs.setIfInBounds i u):=by
 unfold Blk at h ⊢
 simp [World.setCell,Array.getElem?_modify,h]
theorem Blk.far (h:Blk w g t cs) {p:Addr} (hp:g≠p.block) (u:Value) : Blk (w.setCell p u) g t cs:=(Below.heap_setCell w p u g hp).trans h
theorem Blk.below {B:Nat} (h:Blk w g t cs) (hb:Below B w w') (hg:g < B) : Blk w' g t cs:=(hb.block g hg).trans h
theorem Blk.grown {row:Option Nat} (h:Blk w g t cs) (hb:w.grownBy w' row) (hg:some g≠row) : Blk w' g t cs:=(hb.block g h.lt hg).trans h
theorem own_blk_ne {base:Nat} {e:TypeId} {size n:Nat} {v:Value} {xs:List Value} (h:w.ownsRow base e size v n xs) (hg:Blk w g t cs) (hne:e≠t) : v.ownBlock≠some g:=by
 rcases h.2 with ⟨rfl,_⟩ | ⟨g',cap,cur,rfl,_,hh,_⟩
 ·simp [Value.ownBlock]
 ·intro he
  have:g'=g:=by simpa [Value.ownBlock] using he
  subst this
  unfold Blk at hg
  rw [hh] at hg
  injection hg with hg
  injection hg with _ ht
  exact hne ht
theorem own_own_ne {base base':Nat} {e e':TypeId} {size size' n n':Nat} {v v':Value} {xs xs':List Value} (h:w.ownsRow base e size v n xs) (h':w.ownsRow base' e' size' v' n' xs') (hne:e≠e') :
  v.ownBlock=none∨v.ownBlock≠v'.ownBlock:=by
 rcases h'.2 with ⟨rfl,_⟩ | ⟨g',cap,cur,rfl,_,hh,_⟩
 ·cases hv:v.ownBlock <;> simp [Value.ownBlock]
 ·exact .inr (own_blk_ne h hh hne)
theorem own_slice {base:Nat} {e:TypeId} {size n:Nat} {v:Value} {xs:List Value} (h:w.ownsRow base e size v n xs) : ∃ A c,v=.slice A n c∧n≤c∧(0 < n→∃ g,A=some ⟨g,0,none⟩∧base≤g∧g < w.heap.size):=by
 rcases h.2 with ⟨rfl,rfl⟩ | ⟨g',cap,cur,rfl,hb,hh,hc,_⟩
 ·exact ⟨none,0,rfl,Nat.le_refl _,fun h=>absurd h (by omega)⟩
 ·exact ⟨_,cap,rfl,hc,fun _=>⟨g',rfl,hb,(Array.getElem?_eq_some_iff.1 hh).1⟩⟩
theorem own_set_far {base:Nat} {e:TypeId} {size n:Nat} {v:Value} {xs:List Value} (h:w.ownsRow base e size v n xs) {p:Addr} (hp:v.ownBlock≠some p.block) (u:Value) : (w.setCell p u).ownsRow base e size v n xs :=
 h.kept (row:=some p.block) ⟨rfl,rfl,rfl,by simp,fun k _ hk=>Below.heap_setCell w p u k (fun e=>hk (by rw [e]))⟩ (.inr hp)
end
structure Rn where
 pc:Int
 regs:List Int
 base:Int
 mem:List Int
 told:List Int
 done:Bool
 on:Int
 stop:Bool
def rcells (r:Rn) (mv tv:Value) : List Value :=
 .int .u64 r.pc :: (r.regs.map (Value.int .u64) ++ [.int .u64 r.base,mv,tv,.bool r.done,.int .u64 r.on,.bool r.stop])
section
variable {r:Rn} {mv tv:Value}
theorem rc0:(rcells r mv tv).toArray[0]?=some (.int .u64 r.pc):=rfl
theorem rcR (h:r.regs.length=32) (i:Nat) (hi:i < 32) : (rcells r mv tv).toArray[1+i]?=some (.int .u64 (r.regs.getD i 0)):=by
 rw [Nat.add_comm]
 simp [rcells,List.getElem?_append,h,hi]
theorem rc33 (h:r.regs.length=32) : (rcells r mv tv).toArray[33]?=some (.int .u64 r.base):=by simp [rcells,h]
theorem rc34 (h:r.regs.length=32) : (rcells r mv tv).toArray[34]?=some mv:=by simp [rcells,h]
theorem rc35 (h:r.regs.length=32) : (rcells r mv tv).toArray[35]?=some tv:=by simp [rcells,h]
theorem rc36 (h:r.regs.length=32) : (rcells r mv tv).toArray[36]?=some (.bool r.done):=by simp [rcells,h]
theorem rc37 (h:r.regs.length=32) : (rcells r mv tv).toArray[37]?=some (.int .u64 r.on):=by simp [rcells,h]
theorem rc38 (h:r.regs.length=32) : (rcells r mv tv).toArray[38]?=some (.bool r.stop):=by simp [rcells,h]
theorem rs0 (x:Int) : (rcells r mv tv).toArray.setIfInBounds 0 (.int .u64 x)=(rcells { r with pc:=x } mv tv).toArray:=by simp [rcells]
theorem rs35 (h:r.regs.length=32) (tv':Value) (l:List Int) : (rcells r mv tv).toArray.setIfInBounds 35 tv'=(rcells { r with told:=l } mv tv').toArray:=by simp [rcells,h]
theorem rs36 (h:r.regs.length=32) (x:Bool) : (rcells r mv tv).toArray.setIfInBounds 36 (.bool x)=(rcells { r with done:=x } mv tv).toArray:=by simp [rcells,h]
theorem rs37 (h:r.regs.length=32) (x:Int) : (rcells r mv tv).toArray.setIfInBounds 37 (.int .u64 x)=(rcells { r with on:=x } mv tv).toArray:=by simp [rcells,h]
theorem rs38 (h:r.regs.length=32) (x:Bool) : (rcells r mv tv).toArray.setIfInBounds 38 (.bool x)=(rcells { r with stop:=x } mv tv).toArray:=by simp [rcells,h]
theorem rsR (h:r.regs.length=32) (i:Nat) (hi:i < 32) (x:Int) : (rcells r mv tv).toArray.setIfInBounds (1+i) (.int .u64 x)=(rcells { r with regs:=r.regs.set i x } mv tv).toArray:=by
 rw [Nat.add_comm]
 simp [rcells,h,hi,List.map_set]
end
structure RunW (B:Nat) (w:World) (g:Nat) (r:Rn) (mv tv:Value) : Prop where
 len:r.regs.length=32
 ge:B≤g
 blk:Blk w g 88 (rcells r mv tv).toArray
 mem:w.ownsRow B 5 1 mv r.mem.length (r.mem.map (.int .u8))
 told:w.ownsRow B 22 1 tv r.told.length (r.told.map (.int .u64))
namespace RunW
variable {B g:Nat} {w w':World} {r:Rn} {mv tv:Value}
theorem c0 (h:RunW B w g r mv tv) : w.cell? ⟨g,0,none⟩=some (.int .u64 r.pc):=(h.blk.cell 0).trans rc0
theorem cR (h:RunW B w g r mv tv) (i:Nat) (hi:i < 32) : w.cell? ⟨g,1+i,none⟩=some (.int .u64 (r.regs.getD i 0)):=(h.blk.cell _).trans (rcR h.len i hi)
theorem c33 (h:RunW B w g r mv tv) : w.cell? ⟨g,33,none⟩=some (.int .u64 r.base):=(h.blk.cell 33).trans (rc33 h.len)
theorem c34 (h:RunW B w g r mv tv) : w.cell? ⟨g,34,none⟩=some mv:=(h.blk.cell 34).trans (rc34 h.len)
theorem c35 (h:RunW B w g r mv tv) : w.cell? ⟨g,35,none⟩=some tv:=(h.blk.cell 35).trans (rc35 h.len)
theorem c36 (h:RunW B w g r mv tv) : w.cell? ⟨g,36,none⟩=some (.bool r.done):=(h.blk.cell 36).trans (rc36 h.len)
theorem c37 (h:RunW B w g r mv tv) : w.cell? ⟨g,37,none⟩=some (.int .u64 r.on):=(h.blk.cell 37).trans (rc37 h.len)
theorem c38 (h:RunW B w g r mv tv) : w.cell? ⟨g,38,none⟩=some (.bool r.stop):=(h.blk.cell 38).trans (rc38 h.len)
theorem fz (h:RunW B w g r mv tv) (i:Nat) : w.frozen? ⟨g,i,none⟩=false:=h.blk.frozen i
theorem mne (h:RunW B w g r mv tv) : mv.ownBlock≠some g:=own_blk_ne h.mem h.blk (by decide)
theorem tne (h:RunW B w g r mv tv) : tv.ownBlock≠some g:=own_blk_ne h.told h.blk (by decide)
theorem set_ (h:RunW B w g r mv tv) {i:Nat} {u:Value} {r':Rn} (e:(rcells r mv tv).toArray.setIfInBounds i u=(rcells r' mv tv).toArray) (hl:r'.regs.length=32) (hm:r'.mem=r.mem) (ht:r'.told=r.told) :
  RunW B (w.setCell ⟨g,i,none⟩ u) g r' mv tv where
 len:=hl
 ge:=h.ge
 blk:=by rw [← e]; exact h.blk.set_ i u
 mem:=by rw [hm]; exact own_set_far h.mem (p:=⟨g,i,none⟩) h.mne u
 told:=by rw [ht]; exact own_set_far h.told (p:=⟨g,i,none⟩) h.tne u
theorem pc_ (h:RunW B w g r mv tv) (x:Int) : RunW B (w.setCell ⟨g,0,none⟩ (.int .u64 x)) g { r with pc:=x } mv tv:=h.set_ (rs0 x) h.len rfl rfl
theorem done_ (h:RunW B w g r mv tv) (x:Bool) : RunW B (w.setCell ⟨g,36,none⟩ (.bool x)) g { r with done:=x } mv tv:=h.set_ (rs36 h.len x) h.len rfl rfl
theorem on_ (h:RunW B w g r mv tv) (x:Int) : RunW B (w.setCell ⟨g,37,none⟩ (.int .u64 x)) g { r with on:=x } mv tv:=h.set_ (rs37 h.len x) h.len rfl rfl
theorem stop_ (h:RunW B w g r mv tv) (x:Bool) : RunW B (w.setCell ⟨g,38,none⟩ (.bool x)) g { r with stop:=x } mv tv:=h.set_ (rs38 h.len x) h.len rfl rfl
theorem reg_ (h:RunW B w g r mv tv) (i:Nat) (hi:i < 32) (x:Int) : RunW B (w.setCell ⟨g,1+i,none⟩ (.int .u64 x)) g { r with regs:=r.regs.set i x } mv tv:=h.set_ (rsR h.len i hi x) (by simpa using h.len) rfl rfl
theorem alloc (h:RunW B w g r mv tv) (o:Obj) : RunW B (w.alloc o) g r mv tv:=⟨h.len,h.ge,h.blk.alloc o,h.mem.alloc o,h.told.alloc o⟩
theorem drew (h:RunW B w g r mv tv) : RunW B w.drew g r mv tv:=⟨h.len,h.ge,h.blk,h.mem,h.told⟩
theorem drewN (h:RunW B w g r mv tv) (n:Nat) : RunW B (w.drewN n) g r mv tv:=⟨h.len,h.ge,h.blk,h.mem,h.told⟩
theorem far (h:RunW B w g r mv tv) {p:Addr} (h0:g≠p.block) (h1:mv.ownBlock≠some p.block) (h2:tv.ownBlock≠some p.block) (u:Value) : RunW B (w.setCell p u) g r mv tv :=
 ⟨h.len,h.ge,h.blk.far h0 u,own_set_far h.mem h1 u,own_set_far h.told h2 u⟩
theorem below (h:RunW B w g r mv tv) (hb:Below w.heap.size w w') : RunW B w' g r mv tv:=by
 have hg:w.grownBy w' none:=⟨hb.os,hb.tape,hb.output,hb.size,fun k hk _=>hb.block k hk⟩
 exact ⟨h.len,h.ge,h.blk.grown hg (by simp),h.mem.kept hg (by cases hv:mv.ownBlock <;> simp),h.told.kept hg (by cases hv:tv.ownBlock <;> simp)⟩
theorem told_ (h:RunW B w g r mv tv) {x y:Int} {e:Ending} (hc:CallPost w g B tv r.told.length (r.told.map (.int .u64)) x y e w') :
  ∃ tv',RunW B w' g { r with told:=r.told ++ [x],done:=y == 93 } mv tv':=by
 obtain ⟨_,gg,cap,w1,hown,hgr,_,rfl⟩:=hc
 refine ⟨.slice (some ⟨gg,0,none⟩) (r.told.length+1) cap,?_⟩
 have hb1:Blk w1 g 88 (rcells r mv tv).toArray:=h.blk.grown hgr (Ne.symm h.tne)
 have hm1:w1.ownsRow B 5 1 mv r.mem.length (r.mem.map (.int .u8)):=h.mem.kept hgr (own_own_ne h.mem h.told (by decide))
 have hne:=own_blk_ne hown hb1 (by decide)
 have hne':=own_blk_ne hm1 hb1 (by decide)
 have step:RunW B (w1.setCell ⟨g,35,none⟩ (.slice (some ⟨gg,0,none⟩) (r.told.length+1) cap)) g { r with told:=r.told ++ [x] } mv (.slice (some ⟨gg,0,none⟩) (r.told.length+1) cap) :=
  ⟨h.len,h.ge,by have:=hb1.set_ 35 (.slice (some ⟨gg,0,none⟩) (r.told.length+1) cap); rwa [rs35 h.len _ (r.told ++ [x])] at this,own_set_far hm1 (p:=⟨g,35,none⟩) hne' _,
   by have:=own_set_far hown (p:=⟨g,35,none⟩) hne (.slice (some ⟨gg,0,none⟩) (r.told.length+1) cap); simpa using this⟩
 exact step.done_ (y == 93)
end RunW
def ldm (l:List Int) (k many:Nat) : Int:=ldv (fun j=>l.getD (k+j) 0) many
theorem RunW.bytes {B g gm n c:Nat} {w:World} {r:Rn} {tv:Value} (h:RunW B w g r (.slice (some ⟨gm,0,none⟩) n c) tv) (k many:Nat) (hk:k+many≤r.mem.length) :
  Hid (∀ j,j < many→w.cell? ((⟨gm,0,none⟩ : Addr).add (k+j))=some (.int .u8 (r.mem.getD (k+j) 0))):=Lib.hid fun j hj=>by
 refine h.mem.cells (g:=gm) rfl (k+j) _ ?_
 have:k+j < r.mem.length:=by omega
 simp [this]
def memSet (l:List Int) (k:Nat) (x:Int) : Nat→List Int
 | 0=>l
 | j+1=>(memSet l k x j).set (k+j) (stv x j)
theorem memSet_len (l:List Int) (k:Nat) (x:Int) : ∀ j,(memSet l k x j).length=l.length
 | 0=>rfl
 | j+1=>by simp [memSet,memSet_len l k x j]
theorem stW_run {B g gm c:Nat} {w:World} {r:Rn} {tv:Value} (h:RunW B w g r (.slice (some ⟨gm,0,none⟩) r.mem.length c) tv) (k:Nat) (x:Int) :
  ∀ j,RunW B (stW w gm k x j) g { r with mem:=memSet r.mem k x j } (.slice (some ⟨gm,0,none⟩) r.mem.length c) tv
 | 0=>h
 | j+1=>by
  have ih:=stW_run h k x j
  have hl:=memSet_len r.mem k x j
  have hm:=ih.mem
  simp only [hl] at hm
  have hne:=ih.mne
  have hmt:=own_own_ne ih.told hm (by decide)
  refine ⟨ih.len,ih.ge,ih.blk.far (p:=⟨gm,k+j,none⟩) (fun e=>hne (by rw [e]; rfl)) _,?_,?_⟩
  ·have:=(hm.stored (k+j) (.int .u8 (stv x j))).1
   simp only [memSet,List.length_set,hl,List.map_set]
   exact this
  ·refine own_set_far ih.told (p:=⟨gm,k+j,none⟩) ?_ _
   rcases hmt with h0 | h0
   ·rw [h0]; simp
   ·exact h0
theorem stW_below {B gm:Nat} {w:World} (hB:B≤gm) (k:Nat) (x:Int) : ∀ j,Below B w (stW w gm k x j)
 | 0=>Below.refl _ _
 | j+1=>(stW_below hB k x j).setCell (p:=⟨gm,k+j,none⟩) hB _
structure RunB (B:Nat) (w0 w:World) (g:Nat) (r:Rn) (mv tv:Value) : Prop where
 low:Below B w0 w
 size:B≤w.heap.size
 run:RunW B w g r mv tv
namespace RunB
variable {B g:Nat} {w0 w w':World} {r:Rn} {mv tv:Value}
theorem start (h:RunW B w g r mv tv) : RunB B w w g r mv tv:=⟨Below.refl _ _,by have:=h.blk.lt; have:=h.ge; omega,h⟩
theorem set_ (h:RunB B w0 w g r mv tv) {i:Nat} {u:Value} {r':Rn} (hr:RunW B (w.setCell ⟨g,i,none⟩ u) g r' mv tv) : RunB B w0 (w.setCell ⟨g,i,none⟩ u) g r' mv tv :=
 ⟨h.low.setCell (p:=⟨g,i,none⟩) h.run.ge u,by simpa using h.size,hr⟩
theorem pc_ (h:RunB B w0 w g r mv tv) (x:Int) : RunB B w0 (w.setCell ⟨g,0,none⟩ (.int .u64 x)) g { r with pc:=x } mv tv:=h.set_ (h.run.pc_ x)
theorem done_ (h:RunB B w0 w g r mv tv) (x:Bool) : RunB B w0 (w.setCell ⟨g,36,none⟩ (.bool x)) g { r with done:=x } mv tv:=h.set_ (h.run.done_ x)
theorem on_ (h:RunB B w0 w g r mv tv) (x:Int) : RunB B w0 (w.setCell ⟨g,37,none⟩ (.int .u64 x)) g { r with on:=x } mv tv:=h.set_ (h.run.on_ x)
theorem stop_ (h:RunB B w0 w g r mv tv) (x:Bool) : RunB B w0 (w.setCell ⟨g,38,none⟩ (.bool x)) g { r with stop:=x } mv tv:=h.set_ (h.run.stop_ x)
theorem reg_ (h:RunB B w0 w g r mv tv) (i:Nat) (hi:i < 32) (x:Int) : RunB B w0 (w.setCell ⟨g,1+i,none⟩ (.int .u64 x)) g { r with regs:=r.regs.set i x } mv tv:=h.set_ (h.run.reg_ i hi x)
theorem alloc (h:RunB B w0 w g r mv tv) (o:Obj) : RunB B w0 (w.alloc o) g r mv tv:=⟨h.low.alloc h.size o,by have:=h.size; simp; omega,h.run.alloc o⟩
theorem drew (h:RunB B w0 w g r mv tv) : RunB B w0 w.drew g r mv tv:=⟨h.low.drew,h.size,h.run.drew⟩
theorem drewN (h:RunB B w0 w g r mv tv) (n:Nat) : RunB B w0 (w.drewN n) g r mv tv:=⟨⟨h.low.os,h.low.tape,h.low.output,h.low.size,h.low.block⟩,h.size,h.run.drewN n⟩
theorem below (h:RunB B w0 w g r mv tv) (hb:Below w.heap.size w w') : RunB B w0 w' g r mv tv:=⟨h.low.trans (hb.mono h.size),Nat.le_trans h.size hb.size,h.run.below hb⟩
theorem far (h:RunB B w0 w g r mv tv) {p:Addr} (hp:B≤p.block) (h0:g≠p.block) (h1:mv.ownBlock≠some p.block) (h2:tv.ownBlock≠some p.block) (u:Value) : RunB B w0 (w.setCell p u) g r mv tv :=
 ⟨h.low.setCell hp u,by simpa using h.size,h.run.far h0 h1 h2 u⟩
theorem fresh (h:RunB B w0 w' g r mv tv) {r1:Rn} (h0:RunW B w g r1 mv tv) (x j:Nat) (hx:w.heap.size≤x) (u:Value) : RunB B w0 (w'.setCell ⟨x,j,none⟩ u) g r mv tv:=by
 have lg:=h0.blk.lt
 have ge:=h0.ge
 exact h.far (p:=⟨x,j,none⟩) (by show B≤x; omega) (by show g≠x; omega) (fun e=>by have:=(h0.mem.lt _ e).2; simp at this; omega) (fun e=>by have:=(h0.told.lt _ e).2; simp at this; omega) u
theorem told_ (h:RunB B w0 w g r mv tv) {x y:Int} {e:Ending} (hc:CallPost w g B tv r.told.length (r.told.map (.int .u64)) x y e w') :
  ∃ tv',RunB B w0 w' g { r with told:=r.told ++ [x],done:=y == 93 } mv tv':=by
 obtain ⟨tv',hr⟩:=h.run.told_ hc
 obtain ⟨_,gg,cap,w1,hown,hgr,_,rfl⟩:=hc
 refine ⟨tv',((h.low.grown hgr h.size fun k hk=>(h.run.told.lt k hk).1).setCell (p:=⟨g,35,none⟩) h.run.ge _).setCell (p:=⟨g,36,none⟩) h.run.ge _,?_,hr⟩
 have:=hgr.size
 have:=h.size
 simp
 omega
end RunB
theorem CallPost.far {w w':World} {g B n:Nat} {tv:Value} {xs:List Value} {x y:Int} {e:Ending} (hc:CallPost w g B tv n xs x y e w') {p:Addr} (hp:p.block < w.heap.size) (hg:p.block≠g) (ht:some p.block≠tv.ownBlock) :
  w'.cell? p=w.cell? p∧w'.frozen? p=w.frozen? p:=by
 obtain ⟨_,gg,cap,w1,hown,hgr,_,rfl⟩:=hc
 have hb:((w1.setCell ⟨g,35,none⟩ (.slice (some ⟨gg,0,none⟩) (n+1) cap)).setCell ⟨g,36,none⟩ (.bool (y == 93))).heap[p.block]?=w.heap[p.block]?:=by
  rw [Below.heap_setCell _ ⟨g,36,none⟩ _ _ hg,Below.heap_setCell _ ⟨g,35,none⟩ _ _ hg]
  exact hgr.block _ hp ht
 exact ⟨World.cell?_of_block hb,World.frozen?_of_block hb⟩
end Go.Proofs.YtoehlmiadiiimaaGreatDoor

set_option maxRecDepth 100000
set_option maxHeartbeats 2000000
namespace Go.Proofs.YtoehlmiadiiimaaGreatDoor
open Go.ChangeShapes Go.WideShapes Go.RowKit
def nar8 (x:Int) : Int:=IntKind.u64.wrap (wrap64 (IntKind.i8.wrap x))
def nar16 (x:Int) : Int:=IntKind.u64.wrap (wrap64 (IntKind.i16.wrap x))
def nar32 (x:Int) : Int:=IntKind.u64.wrap (wrap64 (wrap32 x))
theorem nar8_any (x:Int) (w:World) : Calls Tryz.prog 108 #[.int .u64 x] w fun e w'=>e=.returned (.int .u64 (nar8 x))∧w=w':=by
 go_enter Tryz.func108,Tryz.ntmps108
 go_wp2
 go_ret
 exact ⟨rfl,rfl⟩
theorem nar16_any (x:Int) (w:World) : Calls Tryz.prog 109 #[.int .u64 x] w fun e w'=>e=.returned (.int .u64 (nar16 x))∧w=w':=by
 go_enter Tryz.func109,Tryz.ntmps109
 go_wp2
 go_ret
 exact ⟨rfl,rfl⟩
theorem nar32_any (x:Int) (w:World) : Calls Tryz.prog 67 #[.int .u64 x] w fun e w'=>e=.returned (.int .u64 (nar32 x))∧w=w':=by
 go_enter Tryz.func67,Tryz.ntmps67
 go_wp2
 go_ret
 exact ⟨rfl,rfl⟩
theorem loaded_lb (p:Value) (addr v:Int) (w w1:World)
  (hc:Calls Tryz.prog 63 #[p,.int .u64 addr,.int .i64 1] w fun e w'=>e=.returned (.int .u64 v)∧w1=w') :
  Calls Tryz.prog 69 #[p,.string ⟨#[108,98]⟩,.int .u64 addr] w fun e w'=>e=.returned (.int .u64 (nar8 v))∧w1=w':=by
 go_enter Tryz.func69,Tryz.ntmps69
 go_wp2_with (first | (go_at_call 63; refine hc.mono ?_; rintro e w' ⟨rfl,rfl⟩) | (go_at_call 108; refine (nar8_any _ _).mono ?_; rintro e w' ⟨rfl,rfl⟩))
 go_ret
 exact ⟨rfl,rfl⟩
theorem loaded_lh (p:Value) (addr v:Int) (w w1:World)
  (hc:Calls Tryz.prog 63 #[p,.int .u64 addr,.int .i64 2] w fun e w'=>e=.returned (.int .u64 v)∧w1=w') :
  Calls Tryz.prog 69 #[p,.string ⟨#[108,104]⟩,.int .u64 addr] w fun e w'=>e=.returned (.int .u64 (nar16 v))∧w1=w':=by
 go_enter Tryz.func69,Tryz.ntmps69
 go_wp2_with (first | (go_at_call 63; refine hc.mono ?_; rintro e w' ⟨rfl,rfl⟩) | (go_at_call 109; refine (nar16_any _ _).mono ?_; rintro e w' ⟨rfl,rfl⟩))
 go_ret
 exact ⟨rfl,rfl⟩
theorem loaded_lw (p:Value) (addr v:Int) (w w1:World)
  (hc:Calls Tryz.prog 63 #[p,.int .u64 addr,.int .i64 4] w fun e w'=>e=.returned (.int .u64 v)∧w1=w') :
  Calls Tryz.prog 69 #[p,.string ⟨#[108,119]⟩,.int .u64 addr] w fun e w'=>e=.returned (.int .u64 (nar32 v))∧w1=w':=by
 go_enter Tryz.func69,Tryz.ntmps69
 go_wp2_with (first | (go_at_call 63; refine hc.mono ?_; rintro e w' ⟨rfl,rfl⟩) | (go_at_call 67; refine (nar32_any _ _).mono ?_; rintro e w' ⟨rfl,rfl⟩))
 go_ret
 exact ⟨rfl,rfl⟩
theorem loaded_lbu (p:Value) (addr v:Int) (w w1:World)
  (hc:Calls Tryz.prog 63 #[p,.int .u64 addr,.int .i64 1] w fun e w'=>e=.returned (.int .u64 v)∧w1=w') :
  Calls Tryz.prog 69 #[p,.string ⟨#[108,98,117]⟩,.int .u64 addr] w fun e w'=>e=.returned (.int .u64 (v))∧w1=w':=by
 go_enter Tryz.func69,Tryz.ntmps69
 go_wp2_with (go_at_call 63; refine hc.mono ?_; rintro e w' ⟨rfl,rfl⟩)
 go_ret
 exact ⟨rfl,rfl⟩
theorem loaded_lhu (p:Value) (addr v:Int) (w w1:World)
  (hc:Calls Tryz.prog 63 #[p,.int .u64 addr,.int .i64 2] w fun e w'=>e=.returned (.int .u64 v)∧w1=w') :
  Calls Tryz.prog 69 #[p,.string ⟨#[108,104,117]⟩,.int .u64 addr] w fun e w'=>e=.returned (.int .u64 (v))∧w1=w':=by
 go_enter Tryz.func69,Tryz.ntmps69
 go_wp2_with (go_at_call 63; refine hc.mono ?_; rintro e w' ⟨rfl,rfl⟩)
 go_ret
 exact ⟨rfl,rfl⟩
theorem loaded_lwu (p:Value) (addr v:Int) (w w1:World)
  (hc:Calls Tryz.prog 63 #[p,.int .u64 addr,.int .i64 4] w fun e w'=>e=.returned (.int .u64 v)∧w1=w') :
  Calls Tryz.prog 69 #[p,.string ⟨#[108,119,117]⟩,.int .u64 addr] w fun e w'=>e=.returned (.int .u64 (v))∧w1=w':=by
 go_enter Tryz.func69,Tryz.ntmps69
 go_wp2_with (go_at_call 63; refine hc.mono ?_; rintro e w' ⟨rfl,rfl⟩)
 go_ret
 exact ⟨rfl,rfl⟩
theorem loaded_ld (p:Value) (addr v:Int) (w w1:World)
  (hc:Calls Tryz.prog 63 #[p,.int .u64 addr,.int .i64 8] w fun e w'=>e=.returned (.int .u64 v)∧w1=w') :
  Calls Tryz.prog 69 #[p,.string ⟨#[108,100]⟩,.int .u64 addr] w fun e w'=>e=.returned (.int .u64 (v))∧w1=w':=by
 go_enter Tryz.func69,Tryz.ntmps69
 go_wp2_with (go_at_call 63; refine hc.mono ?_; rintro e w' ⟨rfl,rfl⟩)
 go_ret
 exact ⟨rfl,rfl⟩
end Go.Proofs.YtoehlmiadiiimaaGreatDoor
namespace Go.Proofs.YtoehlmiadiiimaaGreatDoor
open Go.ChangeShapes Go.WideShapes Go.RowKit
theorem size4 (h:Int) (w:World) (h3:(bits .and .u16 h 3 == 3)=true) : Calls Tryz.prog 64 #[.int .u16 h] w fun e w'=>e=.returned (.int .i64 4)∧w=w':=by
 go_enter Tryz.func64,Tryz.ntmps64
 go_wp2
 go_ret
 exact ⟨rfl,rfl⟩
theorem size2 (h:Int) (w:World) (h3:(bits .and .u16 h 3 == 3)=false) : Calls Tryz.prog 64 #[.int .u16 h] w fun e w'=>e=.returned (.int .i64 2)∧w=w':=by
 go_enter Tryz.func64,Tryz.ntmps64
 go_wp2
 go_ret
 exact ⟨rfl,rfl⟩
structure Ins where
 op:Nat
 rd:Nat
 s1:Nat
 s2:Nat
 imm:Int
abbrev Ins.v (i:Ins) : Value:=.agg #[.int .u8 i.op,.int .i64 i.rd,.int .i64 i.s1,.int .i64 i.s2,.int .i64 i.imm]
theorem bcell {B:Nat} {W w1:World} (hb:Below B W w1) : (∀ b o,b < B→w1.cell? ⟨b,o,none⟩=W.cell? ⟨b,o,none⟩)∧(∀ b o,b < B→w1.frozen? ⟨b,o,none⟩=W.frozen? ⟨b,o,none⟩) :=
 ⟨fun b o h=>hb.cell (p:=⟨b,o,none⟩) h,fun b o h=>hb.frozen (p:=⟨b,o,none⟩) h⟩
def NextPost (B:Nat) (w:World) (g:Nat) (r:Rn) (mv tv:Value) (o:Option (Ins×Int)) (e:Ending) (w':World) : Prop :=
 match o with
 | some (i,on)=>e=.returned i.v∧RunB B w w' g { r with on:=on,stop:=false } mv tv
 | none=>∃ (i:Ins) (on:Int),e=.returned i.v∧RunB B w w' g { r with on:=on,stop:=true } mv tv
theorem next_out (B g:Nat) (r:Rn) (A:Option Addr) (n c:Nat) (tv:Value) (w:World) (hr:RunW B w g r (.slice A n c) tv)
  (m:Int) (hw:IntKind.u64.wrap (r.pc - r.base)=m)
  (h1:Hid (n < m∨IntKind.u64.wrap (n - m) < 2)) (hn:n≤c) (hc:n≤1000000) :
  Calls Tryz.prog 44 #[.pointer (some ⟨g,0,none⟩)] w (NextPost B w g r (.slice A n c) tv none):=by
 have lg:=hr.blk.lt
 have k0:=hr.c0
 have k33:=hr.c33
 have k34:=hr.c34
 have k38:=hr.c38
 have f38:=hr.fz 38
 go_enter Tryz.func44,Tryz.ntmps44
 go_wp2_with fail
 refine (load_out g A n c r.base r.pc m 2 r.stop _ (by go_simp) (by go_simp) (by go_simp) (by go_simp) hw h1 (by omega) hn hc).mono ?_
 rintro e w' ⟨rfl,rfl⟩
 go_wp2
 refine bodyPost_ret (v:=.agg #[.int .u8 0,.int .i64 0,.int .i64 0,.int .i64 0,.int .i64 0]) (by simp [results,Tryz.results44,go_sem]) rfl ?_
 exact ⟨⟨0,0,0,0,0⟩,r.on,rfl,(((RunB.start hr).stop_ true).stop_ true).alloc _⟩
theorem next_odd (B g:Nat) (r:Rn) (gm c:Nat) (tv:Value) (w:World) (hr:RunW B w g r (.slice (some ⟨gm,0,none⟩) r.mem.length c) tv)
  (k:Nat) (hw:IntKind.u64.wrap (r.pc - r.base)=(k:Int)) (hs:r.stop=false)
  (h1:k+2≤r.mem.length) (hn:r.mem.length≤c) (hc:r.mem.length≤1000000) (hodd:¬ r.pc % 2=0) (h0:0≤r.pc) :
  Calls Tryz.prog 44 #[.pointer (some ⟨g,0,none⟩)] w (NextPost B w g r (.slice (some ⟨gm,0,none⟩) r.mem.length c) tv none):=by
 have lg:=hr.blk.lt
 have k0:=hr.c0
 have k33:=hr.c33
 have k34:=hr.c34
 have k38:=hr.c38
 rw [hs] at k38
 have f38:=hr.fz 38
 have hmod:(r.pc % 2 == 0)=false:=by simpa using hodd
 clear hs
 go_enter Tryz.func44,Tryz.ntmps44
 go_wp2_with fail
 refine (load_in g ⟨gm,0,none⟩ r.mem.length c r.base r.pc k 2 _ _ (by go_simp) (by go_simp) hw ((hr.alloc _).bytes k 2 h1) h1 (by omega) (by omega) hn hc).mono ?_
 rintro e w' ⟨rfl,rfl⟩
 go_wp2
 refine bodyPost_ret (v:=.agg #[.int .u8 0,.int .i64 0,.int .i64 0,.int .i64 0,.int .i64 0]) (by simp [results,Tryz.results44,go_sem]) rfl ?_
 exact ⟨⟨0,0,0,0,0⟩,r.on,rfl,((RunB.start hr).stop_ true).alloc _⟩
def NextRaw (B:Nat) (w:World) (g:Nat) (r:Rn) (mv tv:Value) (i:Ins) (on:Int) (stop:Bool) (e:Ending) (w':World) : Prop :=
 e=.returned i.v∧RunB B w w' g { r with on:=on,stop:=stop } mv tv
theorem NextRaw.post {B:Nat} {w:World} {g:Nat} {r:Rn} {mv tv:Value} {i:Ins} {on:Int} {stop:Bool} {e:Ending} {w':World} (h:NextRaw B w g r mv tv i on stop e w') :
  NextPost B w g r mv tv (match stop with | true=>none | false=>some (i,on)) e w':=by
 cases stop
 ·exact h
 ·exact ⟨_,on,h.1,h.2⟩
theorem next_2 (B g:Nat) (r:Rn) (gm c:Nat) (tv:Value) (w:World) (hr:RunW B w g r (.slice (some ⟨gm,0,none⟩) r.mem.length c) tv)
  (k:Nat) (hw:IntKind.u64.wrap (r.pc - r.base)=(k:Int)) (hs:r.stop=false)
  (h1:k+2≤r.mem.length) (hn:r.mem.length≤c) (hc:r.mem.length≤1000000) (hodd:r.pc % 2=0) (h0:0≤r.pc)
  (h:Int) (hh:IntKind.u16.wrap (ldm r.mem k 2)=h) (h3:(bits .and .u16 h 3 == 3)=false)
  (ic:Ins) (ec:Int) (hcd:∀ W,Below B w W→Calls Tryz.prog 65 #[.int .u16 h] W fun e w'=>e=.returned (.tuple #[ic.v,.int .i64 ec])∧Below W.heap.size W w') :
  Calls Tryz.prog 44 #[.pointer (some ⟨g,0,none⟩)] w (NextRaw B w g r (.slice (some ⟨gm,0,none⟩) r.mem.length c) tv ic (IntKind.u64.wrap (r.pc+2)) (ec != 0)):=by
 have lg:=hr.blk.lt
 have k0:=hr.c0
 have k33:=hr.c33
 have k34:=hr.c34
 have k37:=hr.c37
 have k38:=hr.c38
 rw [hs] at k38
 have f37:=hr.fz 37
 have f38:=hr.fz 38
 have hmod:(r.pc % 2 == 0)=true:=by simpa using hodd
 have HCD:=Lib.hid hcd
 have HS:=Lib.hid hs
 clear hs hcd
 go_enter Tryz.func44,Tryz.ntmps44
 go_wp2_with fail
 refine (load_in g ⟨gm,0,none⟩ r.mem.length c r.base r.pc k 2 _ _ (by go_simp) (by go_simp) hw ((hr.alloc _).bytes k 2 (by omega)) (by omega) (by omega) (by omega) hn hc).mono ?_
 rw [show ldv (fun j=>r.mem.getD (k+j) 0) 2=ldm r.mem k 2 from rfl]
 rintro e w' ⟨rfl,rfl⟩
 go_wp2_with (go_at_call 64; refine (size2 _ _ h3).mono ?_; rintro e w' ⟨rfl,rfl⟩)
 refine (HCD.out _ (((RunB.start hr).on_ _).alloc _).low).mono ?_
 rintro e w1 ⟨rfl,hb1⟩
 have R1:=(((RunB.start hr).on_ (IntKind.u64.wrap (r.pc+2))).alloc _).below hb1
 have q38:w1.cell? ⟨g,38,none⟩=some (.bool false):=by rw [R1.run.c38]; exact congrArg (fun x=>some (Value.bool x)) HS.out
 have f38':=R1.run.fz 38
 have lg1:=R1.run.blk.lt
 have hz:w.heap.size < w1.heap.size:=by have:=hb1.size; simp at this; omega
 obtain ⟨hc1,hf1⟩:=bcell hb1
 have F:∀ {W:World} {r':Rn} (_:RunB B w W g r' (.slice (some ⟨gm,0,none⟩) r.mem.length c) tv) (j:Nat) (u:Value),RunB B w (W.setCell ⟨w.heap.size,j,none⟩ u) g r' (.slice (some ⟨gm,0,none⟩) r.mem.length c) tv:=fun R j u=>R.fresh hr _ j (Nat.le_refl _) u
 go_wp2
 refine bodyPost_ret (v:=ic.v) (by simp [results,Tryz.results44,go_sem,hc1,hz]) rfl ?_
 exact ⟨rfl,(F (F (F (F (F (R1.stop_ (ec != 0)) 0 _) 1 _) 2 _) 3 _) 4 _).alloc _⟩
theorem next_4 (B g:Nat) (r:Rn) (gm c:Nat) (tv:Value) (w:World) (hr:RunW B w g r (.slice (some ⟨gm,0,none⟩) r.mem.length c) tv)
  (k:Nat) (hw:IntKind.u64.wrap (r.pc - r.base)=(k:Int)) (hs:r.stop=false)
  (h1:k+4≤r.mem.length) (hn:r.mem.length≤c) (hc:r.mem.length≤1000000) (hodd:r.pc % 2=0) (h0:0≤r.pc)
  (h:Int) (hh:IntKind.u16.wrap (ldm r.mem k 2)=h) (h3:(bits .and .u16 h 3 == 3)=true)
  (ic:Ins) (ec:Int) (hcd:∀ W,Below B w W→Calls Tryz.prog 65 #[.int .u16 h] W fun e w'=>e=.returned (.tuple #[ic.v,.int .i64 ec])∧Below W.heap.size W w')
  (wd:Int) (hwd:IntKind.u32.wrap (ldm r.mem k 4)=wd) (id:Ins) (ed:Int) (hdd:∀ W,Below B w W→Calls Tryz.prog 66 #[.int .u32 wd] W fun e w'=>e=.returned (.tuple #[id.v,.int .i64 ed])∧Below W.heap.size W w') :
  Calls Tryz.prog 44 #[.pointer (some ⟨g,0,none⟩)] w (NextRaw B w g r (.slice (some ⟨gm,0,none⟩) r.mem.length c) tv id (IntKind.u64.wrap (r.pc+4)) (ed != 0)):=by
 have lg:=hr.blk.lt
 have k0:=hr.c0
 have k33:=hr.c33
 have k34:=hr.c34
 have k37:=hr.c37
 have k38:=hr.c38
 rw [hs] at k38
 have f37:=hr.fz 37
 have f38:=hr.fz 38
 have hmod:(r.pc % 2 == 0)=true:=by simpa using hodd
 have HCD:=Lib.hid hcd
 have HS:=Lib.hid hs
 have HDD:=Lib.hid hdd
 clear hdd
 clear hs hcd
 go_enter Tryz.func44,Tryz.ntmps44
 go_wp2_with fail
 refine (load_in g ⟨gm,0,none⟩ r.mem.length c r.base r.pc k 2 _ _ (by go_simp) (by go_simp) hw ((hr.alloc _).bytes k 2 (by omega)) (by omega) (by omega) (by omega) hn hc).mono ?_
 rw [show ldv (fun j=>r.mem.getD (k+j) 0) 2=ldm r.mem k 2 from rfl]
 rintro e w' ⟨rfl,rfl⟩
 go_wp2_with (go_at_call 64; refine (size4 _ _ h3).mono ?_; rintro e w' ⟨rfl,rfl⟩)
 refine (HCD.out _ (((RunB.start hr).on_ _).alloc _).low).mono ?_
 rintro e w1 ⟨rfl,hb1⟩
 have R1:=(((RunB.start hr).on_ (IntKind.u64.wrap (r.pc+4))).alloc _).below hb1
 have q38:w1.cell? ⟨g,38,none⟩=some (.bool false):=by rw [R1.run.c38]; exact congrArg (fun x=>some (Value.bool x)) HS.out
 have f38':=R1.run.fz 38
 have lg1:=R1.run.blk.lt
 have hz:w.heap.size < w1.heap.size:=by have:=hb1.size; simp at this; omega
 obtain ⟨hc1,hf1⟩:=bcell hb1
 have F:∀ {W:World} {r':Rn} (_:RunB B w W g r' (.slice (some ⟨gm,0,none⟩) r.mem.length c) tv) (j:Nat) (u:Value),RunB B w (W.setCell ⟨w.heap.size,j,none⟩ u) g r' (.slice (some ⟨gm,0,none⟩) r.mem.length c) tv:=fun R j u=>R.fresh hr _ j (Nat.le_refl _) u
 go_wp2_with fail
 have R2:=R1.alloc (.cells #[.int .u8 ic.op,.int .i64 ic.rd,.int .i64 ic.s1,.int .i64 ic.s2,.int .i64 ic.imm] 57)
 have q33:(w1.alloc (.cells #[.int .u8 ic.op,.int .i64 ic.rd,.int .i64 ic.s1,.int .i64 ic.s2,.int .i64 ic.imm] 57)).cell? ⟨g,33,none⟩=some (.int .u64 r.base):=R2.run.c33
 have q34:(w1.alloc (.cells #[.int .u8 ic.op,.int .i64 ic.rd,.int .i64 ic.s1,.int .i64 ic.s2,.int .i64 ic.imm] 57)).cell? ⟨g,34,none⟩=some (.slice (some ⟨gm,0,none⟩) r.mem.length c):=R2.run.c34
 have qb:Hid (∀ j,j < 4→(w1.alloc (.cells #[.int .u8 ic.op,.int .i64 ic.rd,.int .i64 ic.s1,.int .i64 ic.s2,.int .i64 ic.imm] 57)).cell? ((⟨gm,0,none⟩ : Addr).add (k+j))=some (.int .u8 (r.mem.getD (k+j) 0))):=R2.run.bytes k 4 h1
 refine (load_in g ⟨gm,0,none⟩ r.mem.length c r.base r.pc k 4 (fun j=>r.mem.getD (k+j) 0) _ q33 q34 hw qb h1 (by omega) (by omega) hn hc).mono ?_
 rw [show ldv (fun j=>r.mem.getD (k+j) 0) 4=ldm r.mem k 4 from rfl]
 rintro e w' ⟨rfl,rfl⟩
 clear q33 q34 qb
 go_wp2_with fail
 refine (HDD.out _ R2.low).mono ?_
 rintro e w2 ⟨rfl,hb2⟩
 have R3:=R2.below hb2
 have q38':w2.cell? ⟨g,38,none⟩=some (.bool false):=by rw [R3.run.c38]; exact congrArg (fun x=>some (Value.bool x)) HS.out
 have f38'':=R3.run.fz 38
 have lg2:=R3.run.blk.lt
 have hz2:w1.heap.size < w2.heap.size:=by have:=hb2.size; simp at this; omega
 obtain ⟨hc2,hf2⟩:=bcell hb2
 clear R1 R2 q38 f38'
 go_wp2
 have z0:Blk ((w.setCell ⟨g,37,none⟩ (.int .u64 (IntKind.u64.wrap (r.pc+4)))).alloc (.cells #[.int .u8 0,.int .i64 0,.int .i64 0,.int .i64 0,.int .i64 0] 57)) w.heap.size 57 #[.int .u8 0,.int .i64 0,.int .i64 0,.int .i64 0,.int .i64 0]:=by
  have:=Blk.new (w.setCell ⟨g,37,none⟩ (.int .u64 (IntKind.u64.wrap (r.pc+4)))) 57 #[.int .u8 0,.int .i64 0,.int .i64 0,.int .i64 0,.int .i64 0]
  simpa using this
 have z1:=((z0.below hb1 (by simp)).alloc (.cells #[.int .u8 ic.op,.int .i64 ic.rd,.int .i64 ic.s1,.int .i64 ic.s2,.int .i64 ic.imm] 57)).below hb2 (by simp; omega)
 have n1:w.heap.size≠w1.heap.size:=by omega
 have n2:w.heap.size≠g:=by omega
 have z2:=((((((z1.far (p:=⟨w1.heap.size,0,none⟩) n1 (.int .u8 id.op)).far (p:=⟨w1.heap.size,1,none⟩) n1 (.int .i64 id.rd)).far (p:=⟨w1.heap.size,2,none⟩) n1 (.int .i64 id.s1)).far (p:=⟨w1.heap.size,3,none⟩) n1 (.int .i64 id.s2)).far (p:=⟨w1.heap.size,4,none⟩) n1 (.int .i64 id.imm)).far (p:=⟨g,38,none⟩) n2 (.bool (ed != 0)))
 have z3:=((((z2.set_ 0 (.int .u8 id.op)).set_ 1 (.int .i64 id.rd)).set_ 2 (.int .i64 id.s1)).set_ 3 (.int .i64 id.s2)).set_ 4 (.int .i64 id.imm)
 refine bodyPost_ret (results_cell_row rfl _ _ w.heap.size 57 _ (0,0) _ rfl z3 Tryz.underlying57 rfl (by kernel_rfl)) rfl ?_
 have G:∀ {W:World} {r':Rn} (_:RunB B w W g r' (.slice (some ⟨gm,0,none⟩) r.mem.length c) tv) (j:Nat) (u:Value),RunB B w (W.setCell ⟨w1.heap.size,j,none⟩ u) g r' (.slice (some ⟨gm,0,none⟩) r.mem.length c) tv:=fun R j u=>R.fresh hr _ j (Nat.le_of_lt hz) u
 exact ⟨rfl,F (F (F (F (F ((G (G (G (G (G R3 0 _) 1 _) 2 _) 3 _) 4 _).stop_ (ed != 0)) 0 _) 1 _) 2 _) 3 _) 4 _⟩
theorem next_4x (B g:Nat) (r:Rn) (gm c:Nat) (tv:Value) (w:World) (hr:RunW B w g r (.slice (some ⟨gm,0,none⟩) r.mem.length c) tv)
  (k:Nat) (hw:IntKind.u64.wrap (r.pc - r.base)=(k:Int)) (hs:r.stop=false)
  (h1:k+2≤r.mem.length) (hx:Hid ((r.mem.length:Int) < (k:Int)∨IntKind.u64.wrap ((r.mem.length:Int) - (k:Int)) < (4:Nat))) (hn:r.mem.length≤c) (hc:r.mem.length≤1000000) (hodd:r.pc % 2=0) (h0:0≤r.pc)
  (h:Int) (hh:IntKind.u16.wrap (ldm r.mem k 2)=h) (h3:(bits .and .u16 h 3 == 3)=true)
  (ic:Ins) (ec:Int) (hcd:∀ W,Below B w W→Calls Tryz.prog 65 #[.int .u16 h] W fun e w'=>e=.returned (.tuple #[ic.v,.int .i64 ec])∧Below W.heap.size W w')
  (wd:Int) (hwd:IntKind.u32.wrap 0=wd) (id:Ins) (ed:Int) (hdd:∀ W,Below B w W→Calls Tryz.prog 66 #[.int .u32 wd] W fun e w'=>e=.returned (.tuple #[id.v,.int .i64 ed])∧Below W.heap.size W w') :
  Calls Tryz.prog 44 #[.pointer (some ⟨g,0,none⟩)] w (NextRaw B w g r (.slice (some ⟨gm,0,none⟩) r.mem.length c) tv id (IntKind.u64.wrap (r.pc+4)) true):=by
 have lg:=hr.blk.lt
 have k0:=hr.c0
 have k33:=hr.c33
 have k34:=hr.c34
 have k37:=hr.c37
 have k38:=hr.c38
 rw [hs] at k38
 have f37:=hr.fz 37
 have f38:=hr.fz 38
 have hmod:(r.pc % 2 == 0)=true:=by simpa using hodd
 have HCD:=Lib.hid hcd
 have HS:=Lib.hid hs
 have HDD:=Lib.hid hdd
 clear hdd
 clear hs hcd
 go_enter Tryz.func44,Tryz.ntmps44
 go_wp2_with fail
 refine (load_in g ⟨gm,0,none⟩ r.mem.length c r.base r.pc k 2 _ _ (by go_simp) (by go_simp) hw ((hr.alloc _).bytes k 2 (by omega)) (by omega) (by omega) (by omega) hn hc).mono ?_
 rw [show ldv (fun j=>r.mem.getD (k+j) 0) 2=ldm r.mem k 2 from rfl]
 rintro e w' ⟨rfl,rfl⟩
 go_wp2_with (go_at_call 64; refine (size4 _ _ h3).mono ?_; rintro e w' ⟨rfl,rfl⟩)
 refine (HCD.out _ (((RunB.start hr).on_ _).alloc _).low).mono ?_
 rintro e w1 ⟨rfl,hb1⟩
 have R1:=(((RunB.start hr).on_ (IntKind.u64.wrap (r.pc+4))).alloc _).below hb1
 have q38:w1.cell? ⟨g,38,none⟩=some (.bool false):=by rw [R1.run.c38]; exact congrArg (fun x=>some (Value.bool x)) HS.out
 have f38':=R1.run.fz 38
 have lg1:=R1.run.blk.lt
 have hz:w.heap.size < w1.heap.size:=by have:=hb1.size; simp at this; omega
 obtain ⟨hc1,hf1⟩:=bcell hb1
 have F:∀ {W:World} {r':Rn} (_:RunB B w W g r' (.slice (some ⟨gm,0,none⟩) r.mem.length c) tv) (j:Nat) (u:Value),RunB B w (W.setCell ⟨w.heap.size,j,none⟩ u) g r' (.slice (some ⟨gm,0,none⟩) r.mem.length c) tv:=fun R j u=>R.fresh hr _ j (Nat.le_refl _) u
 go_wp2_with fail
 have R2:=R1.alloc (.cells #[.int .u8 ic.op,.int .i64 ic.rd,.int .i64 ic.s1,.int .i64 ic.s2,.int .i64 ic.imm] 57)
 have q33:(w1.alloc (.cells #[.int .u8 ic.op,.int .i64 ic.rd,.int .i64 ic.s1,.int .i64 ic.s2,.int .i64 ic.imm] 57)).cell? ⟨g,33,none⟩=some (.int .u64 r.base):=R2.run.c33
 have q34:(w1.alloc (.cells #[.int .u8 ic.op,.int .i64 ic.rd,.int .i64 ic.s1,.int .i64 ic.s2,.int .i64 ic.imm] 57)).cell? ⟨g,34,none⟩=some (.slice (some ⟨gm,0,none⟩) r.mem.length c):=R2.run.c34
 have q38:(w1.alloc (.cells #[.int .u8 ic.op,.int .i64 ic.rd,.int .i64 ic.s1,.int .i64 ic.s2,.int .i64 ic.imm] 57)).cell? ⟨g,38,none⟩=some (.bool r.stop):=R2.run.c38
 refine (load_out g (some ⟨gm,0,none⟩) r.mem.length c r.base r.pc k 4 r.stop _ q33 q34 q38 (R2.run.fz 38) hw hx (by omega) hn hc).mono ?_
 rintro e w' ⟨rfl,rfl⟩
 clear q33 q34
 go_wp2_with fail
 refine (HDD.out _ ((R1.stop_ true).alloc _).low).mono ?_
 rintro e w2 ⟨rfl,hb2⟩
 have R3:=((R1.stop_ true).alloc _).below hb2
 have q38':w2.cell? ⟨g,38,none⟩=some (.bool true):=R3.run.c38
 have f38'':=R3.run.fz 38
 have lg2:=R3.run.blk.lt
 have hz2:w1.heap.size < w2.heap.size:=by have:=hb2.size; simp at this; omega
 obtain ⟨hc2,hf2⟩:=bcell hb2
 clear R1 R2 q38 f38'
 go_wp2
 have z0:Blk ((w.setCell ⟨g,37,none⟩ (.int .u64 (IntKind.u64.wrap (r.pc+4)))).alloc (.cells #[.int .u8 0,.int .i64 0,.int .i64 0,.int .i64 0,.int .i64 0] 57)) w.heap.size 57 #[.int .u8 0,.int .i64 0,.int .i64 0,.int .i64 0,.int .i64 0]:=by
  have:=Blk.new (w.setCell ⟨g,37,none⟩ (.int .u64 (IntKind.u64.wrap (r.pc+4)))) 57 #[.int .u8 0,.int .i64 0,.int .i64 0,.int .i64 0,.int .i64 0]
  simpa using this
 have n2:w.heap.size≠g:=by omega
 have z1:=(((z0.below hb1 (by simp)).far (p:=⟨g,38,none⟩) n2 (.bool true)).alloc (.cells #[.int .u8 ic.op,.int .i64 ic.rd,.int .i64 ic.s1,.int .i64 ic.s2,.int .i64 ic.imm] 57)).below hb2 (by simp; omega)
 have n1:w.heap.size≠w1.heap.size:=by omega
 have z2:=((((((z1.far (p:=⟨w1.heap.size,0,none⟩) n1 (.int .u8 id.op)).far (p:=⟨w1.heap.size,1,none⟩) n1 (.int .i64 id.rd)).far (p:=⟨w1.heap.size,2,none⟩) n1 (.int .i64 id.s1)).far (p:=⟨w1.heap.size,3,none⟩) n1 (.int .i64 id.s2)).far (p:=⟨w1.heap.size,4,none⟩) n1 (.int .i64 id.imm)).far (p:=⟨g,38,none⟩) n2 (.bool true))
 have z3:=((((z2.set_ 0 (.int .u8 id.op)).set_ 1 (.int .i64 id.rd)).set_ 2 (.int .i64 id.s1)).set_ 3 (.int .i64 id.s2)).set_ 4 (.int .i64 id.imm)
 refine bodyPost_ret (results_cell_row rfl _ _ w.heap.size 57 _ (0,0) _ rfl z3 Tryz.underlying57 rfl (by kernel_rfl)) rfl ?_
 have G:∀ {W:World} {r':Rn} (_:RunB B w W g r' (.slice (some ⟨gm,0,none⟩) r.mem.length c) tv) (j:Nat) (u:Value),RunB B w (W.setCell ⟨w1.heap.size,j,none⟩ u) g r' (.slice (some ⟨gm,0,none⟩) r.mem.length c) tv:=fun R j u=>R.fresh hr _ j (Nat.le_of_lt hz) u
 exact ⟨rfl,F (F (F (F (F ((G (G (G (G (G R3 0 _) 1 _) 2 _) 3 _) 4 _).stop_ true) 0 _) 1 _) 2 _) 3 _) 4 _⟩
end Go.Proofs.YtoehlmiadiiimaaGreatDoor
namespace Go.Proofs.YtoehlmiadiiimaaGreatDoor
open Go.ChangeShapes Go.WideShapes Go.RowKit
def Rn.wr (r:Rn) (rd:Nat) (x:Int) : Rn:={ r with regs:=if rd=0 then r.regs else r.regs.set rd x }
def DoPost (B:Nat) (w:World) (g:Nat) (mv tv:Value) (to:Int) (r':Rn) (e:Ending) (w':World) : Prop :=
 e=.returned (.int .u64 to)∧RunB B w w' g r' mv tv
theorem wr_zero {r:Rn} {rd:Nat} (hs:r.stop=false) (hrd:rd=0) (x:Int) : { r with stop:=false }=r.wr rd x:=by
 cases r; simp_all [Rn.wr]
theorem wr_some {r:Rn} {rd:Nat} (hs:r.stop=false) (hrd:¬ rd=0) (x:Int) : { r with stop:=false,regs:=r.regs.set rd x }=r.wr rd x:=by
 cases r; simp_all [Rn.wr]
theorem RunB.fin0 {B g rd:Nat} {w W:World} {r:Rn} {mv tv:Value} (R:RunB B w W g r mv tv) (hs:r.stop=false) (hrd:rd=0) (x:Int) : RunB B w (W.setCell ⟨g,38,none⟩ (.bool false)) g (r.wr rd x) mv tv:=by
 rw [← wr_zero hs hrd]; exact R.stop_ false
theorem RunB.fin1 {B g rd:Nat} {w W:World} {r:Rn} {mv tv:Value} (R:RunB B w W g r mv tv) (hs:r.stop=false) (hrd:¬ rd=0) (h3:rd < 32) (x:Int) :
  RunB B w ((W.setCell ⟨g,38,none⟩ (.bool false)).setCell ⟨g,1+rd,none⟩ (.int .u64 x)).drew g (r.wr rd x) mv tv:=by
 rw [← wr_some hs hrd]; exact ((R.stop_ false).reg_ rd h3 x).drew
theorem do_J (B g:Nat) (r:Rn) (mv tv:Value) (w:World) (hr:RunW B w g r mv tv) (i:Ins) (h1:i.s1 < 32) (h2:i.s2 < 32) (h3:i.rd < 32) (hs:r.stop=false)
  (nm:ByteArray) (hname:∀ W,Below B w W→Calls Tryz.prog 30 #[.int .u8 i.op] W fun e w'=>e=.returned (.tuple #[.string nm,.int .i64 0])∧Below W.heap.size W w')
  (hform:∀ W,Below B w W→Calls Tryz.prog 31 #[.int .u8 i.op] W fun e w'=>e=.returned (.tuple #[.int .u8 74,.int .i64 0])∧Below W.heap.size W w') :
  Calls Tryz.prog 45 #[.pointer (some ⟨g,0,none⟩),i.v] w (DoPost B w g mv tv (IntKind.u64.wrap (r.pc+IntKind.u64.wrap i.imm)) (r.wr i.rd r.on)):=by
 have HN:=Lib.hid hname
 have HF:=Lib.hid hform
 have lg:=hr.blk.lt
 have HS:=Lib.hid hs
 clear hname hform hs
 go_enter Tryz.func45,Tryz.ntmps45
 go_wp2_with fail
 refine (HN.out _ ((RunB.start hr).alloc _).low).mono ?_
 rintro e w1 ⟨rfl,hb1⟩
 have R1:=((RunB.start hr).alloc (.cells #[.int .u8 i.op,.int .i64 i.rd,.int .i64 i.s1,.int .i64 i.s2,.int .i64 i.imm] 57)).below hb1
 obtain ⟨hc1,hf1⟩:=bcell hb1
 have hz:w.heap.size < w1.heap.size:=by have:=hb1.size; simp at this; omega
 go_wp2_with fail
 refine (HF.out _ R1.low).mono ?_
 rintro e w2 ⟨rfl,hb2⟩
 have R2:=R1.below hb2
 obtain ⟨hc2,hf2⟩:=bcell hb2
 have k1:=R2.run.cR i.s1 h1
 have k2:=R2.run.cR i.s2 h2
 have i10:(0:Int)≤(i.s1:Int):=Int.natCast_nonneg _
 have i11:(i.s1:Int) < 32:=by omega
 have i20:(0:Int)≤(i.s2:Int):=Int.natCast_nonneg _
 have i21:(i.s2:Int) < 32:=by omega
 have k0:=R2.run.c0
 have k37:=R2.run.c37
 have k38:w2.cell? ⟨g,38,none⟩=some (.bool false):=by rw [R2.run.c38]; exact congrArg (fun x=>some (Value.bool x)) HS.out
 have f38:=R2.run.fz 38
 have lg2:=R2.run.blk.lt
 have hz2:w.heap.size < w2.heap.size:=by have:=hb2.size; omega
 go_wp2
 go_quiet (fail)
 go_wp2
 go_quiet (fail)
 by_cases hrd:i.rd=0
 ·have hd:((i.rd:Int) == 0)=true:=by simpa using hrd
  go_wp2
  go_ret
  exact ⟨rfl,(R2.drewN _).fin0 HS.out hrd _⟩
 ·have hd:((i.rd:Int) == 0)=false:=by simpa using hrd
  have k3:=R2.run.cR i.rd h3
  have f3:=R2.run.fz (1+i.rd)
  have i30:(0:Int)≤(i.rd:Int):=Int.natCast_nonneg _
  have i31:(i.rd:Int) < 32:=by omega
  go_wp2
  go_region
  go_wp2
  go_ret
  exact ⟨rfl,(R2.drewN _).fin1 HS.out hrd h3 _⟩
theorem do_F (B g:Nat) (r:Rn) (mv tv:Value) (w:World) (hr:RunW B w g r mv tv) (i:Ins) (h1:i.s1 < 32) (h2:i.s2 < 32) (h3:i.rd < 32) (hs:r.stop=false)
  (nm:ByteArray) (hname:∀ W,Below B w W→Calls Tryz.prog 30 #[.int .u8 i.op] W fun e w'=>e=.returned (.tuple #[.string nm,.int .i64 0])∧Below W.heap.size W w')
  (hform:∀ W,Below B w W→Calls Tryz.prog 31 #[.int .u8 i.op] W fun e w'=>e=.returned (.tuple #[.int .u8 70,.int .i64 0])∧Below W.heap.size W w') :
  Calls Tryz.prog 45 #[.pointer (some ⟨g,0,none⟩),i.v] w (DoPost B w g mv tv r.on (r.wr i.rd 0)):=by
 have HN:=Lib.hid hname
 have HF:=Lib.hid hform
 have lg:=hr.blk.lt
 have HS:=Lib.hid hs
 clear hname hform hs
 go_enter Tryz.func45,Tryz.ntmps45
 go_wp2_with fail
 refine (HN.out _ ((RunB.start hr).alloc _).low).mono ?_
 rintro e w1 ⟨rfl,hb1⟩
 have R1:=((RunB.start hr).alloc (.cells #[.int .u8 i.op,.int .i64 i.rd,.int .i64 i.s1,.int .i64 i.s2,.int .i64 i.imm] 57)).below hb1
 obtain ⟨hc1,hf1⟩:=bcell hb1
 have hz:w.heap.size < w1.heap.size:=by have:=hb1.size; simp at this; omega
 go_wp2_with fail
 refine (HF.out _ R1.low).mono ?_
 rintro e w2 ⟨rfl,hb2⟩
 have R2:=R1.below hb2
 obtain ⟨hc2,hf2⟩:=bcell hb2
 have k1:=R2.run.cR i.s1 h1
 have k2:=R2.run.cR i.s2 h2
 have i10:(0:Int)≤(i.s1:Int):=Int.natCast_nonneg _
 have i11:(i.s1:Int) < 32:=by omega
 have i20:(0:Int)≤(i.s2:Int):=Int.natCast_nonneg _
 have i21:(i.s2:Int) < 32:=by omega
 have k0:=R2.run.c0
 have k37:=R2.run.c37
 have k38:w2.cell? ⟨g,38,none⟩=some (.bool false):=by rw [R2.run.c38]; exact congrArg (fun x=>some (Value.bool x)) HS.out
 have f38:=R2.run.fz 38
 have lg2:=R2.run.blk.lt
 have hz2:w.heap.size < w2.heap.size:=by have:=hb2.size; omega
 go_wp2
 go_quiet (fail)
 by_cases hrd:i.rd=0
 ·have hd:((i.rd:Int) == 0)=true:=by simpa using hrd
  go_wp2
  go_ret
  exact ⟨rfl,(R2.drewN _).fin0 HS.out hrd _⟩
 ·have hd:((i.rd:Int) == 0)=false:=by simpa using hrd
  have k3:=R2.run.cR i.rd h3
  have f3:=R2.run.fz (1+i.rd)
  have i30:(0:Int)≤(i.rd:Int):=Int.natCast_nonneg _
  have i31:(i.rd:Int) < 32:=by omega
  go_wp2
  go_region
  go_wp2
  go_ret
  exact ⟨rfl,(R2.drewN _).fin1 HS.out hrd h3 _⟩
end Go.Proofs.YtoehlmiadiiimaaGreatDoor

