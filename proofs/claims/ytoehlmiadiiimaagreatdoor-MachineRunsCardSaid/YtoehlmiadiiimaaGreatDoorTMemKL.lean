import Derived.Test.YtoehlmiadiiimaaGreatDoorTMemR5
import Derived.Test.YtoehlmiadiiimaaGreatDoorTMemKJ
import Derived.Deep.MidRow
import Derived.Deep.Cut
/-
  The machine: New.
-/
namespace Go.Proofs.YtoehlmiadiiimaaGreatDoor
open Go.ChangeShapes Go.WideShapes Go.RowKit Go.Proofs.YtoehlmiadiiimaaGreatDoor.Ex
def rnN (base pc:Int) (l:List Int) : Rn:=⟨pc,List.replicate 32 0,base,l,[],false,0,false⟩
theorem built27n:(fun (pc base:Int) (A:Option Addr) (n c:Nat)=>Tryz.prog.built 27 [(0,.int .u64 pc),(2,.int .u64 base),(3,.slice A n c)])=fun pc base A n c=>some (mcells (rnN base pc []) (.slice A n c) (.slice none 0 0)).toArray:=by kernel_rfl
theorem wpList_build3 {P:Program} {w:World} {ops:Array Oper} {rest:List Oper} {o:Oper} {a:Act} {Q:Exit→Act→World→Prop} (hg:o.guard=none) (t:TypeId) (k1 k2 k3:Nat) (x1 x2 x3:Operand) (ho:o.op=.build t #[(k1,x1),(k2,x2),(k3,x3)]) (v1 v2 v3:Value) (h1:a.eval x1=v1) (h2:a.eval x2=v2) (h3:a.eval x3=v3) (cells:Array Value)
  (hf:P.built t [(k1,v1),(k2,v2),(k3,v3)]=some cells) (h:wpList P ops Q rest (a.put o.dst (.agg cells)) w) : wpList P ops Q (o :: rest) a w:=by
 have e:P.built t ((#[(k1,x1),(k2,x2),(k3,x3)].map fun (i,x)=>(i,a.eval x)).toList)=some cells:=by simpa [h1,h2,h3] using hf
 exact wpList_build hg t #[(k1,x1),(k2,x2),(k3,x3)] ho (by rw [e]; rfl) (by rw [e]; exact h)
def NewPost (w:World) (r:Rn) (e:Ending) (w':World) : Prop:=∃ v,e=.returned (.tuple #[v,.int .i64 0])∧MachO w.heap.size w' v r∧Below w.heap.size w w'
set_option maxRecDepth 100000 in
set_option maxHeartbeats 1000000 in
theorem new_in (base pc:Int) (mv:Value) (l:List Int) (w:World) (h:RdS w mv (l.map (.int .u8))) (hb:¬ 2147483648 < base) (hl:l.length≤65536) :
  Calls Tryz.prog 21 #[.int .u64 base,mv,.int .u64 pc] w (NewPost w (rnN base pc l)):=by
 have CM:∀ W,Below w.heap.size w W→Calls Tryz.prog 36 #[mv] W (ClonePost W 5 (l.map (.int .u8))):=fun W hb=>clone8_c mv _ W (h.keep hb) (bytes_one _) (by simp; omega)
 have HM:=Lib.hid CM
 obtain ⟨A,c,rfl,hc,-⟩:=h.form
 have hl':¬ (65536:Int) < (l.length:Int):=by omega
 rw [List.length_map] at HM ⊢
 have hz:(Tryz.prog.info? 27).map (·.size)=some z27.size:=by rw [z27_size]; exact info27
 clear CM h hc
 go_enter Tryz.func21,Tryz.ntmps21
 go_wp2_with fail
 refine (HM.out _ ((Below.refl _ _).alloc (Nat.le_refl _) _)).mono ?_
 intro e w1 hcp
 obtain ⟨v1,rfl,ho1,hb1⟩:=hcp
 rw [List.length_map] at ho1
 obtain ⟨A1,q1,rfl,-,-⟩:=own_slice ho1
 have E1:=(hb1.block w.heap.size (by simp)).trans (heap_alloc_new w _)
 have hw1:=Lib.hid (((Below.refl _ _).alloc (Nat.le_refl _) _).trans (hb1.mono (by simp)) : Below w.heap.size w w1)
 have HO:=Lib.hid ho1
 have hB:=congrFun (congrFun (congrFun (congrFun (congrFun built27n pc) base) (A1:Option Addr)) l.length) q1
 have hsz:(Tryz.prog.info? 27).map (·.size)=some (mcells (rnN base pc []) (.slice A1 l.length q1) (.slice none 0 0)).toArray.size:=by rw [mc_size rfl]; exact info27
 have hall:(mcells (rnN base pc []) (.slice A1 l.length q1) (.slice none 0 0)).toArray.all (·.oneCell')=true:=mc_one rfl rfl
 have hlen:(mcells (rnN base pc []) (.slice A1 l.length q1) (.slice none 0 0)).toArray.size=37:=mc_size rfl
 go_wp2_with (first
  | (refine wpList_build3 rfl 27 0 2 3 _ _ _ rfl _ _ _ rfl rfl rfl _ hB ?_)
  | (refine wpList_store_row rfl 27 (.tmp 6) (.tmp 21) rfl w.heap.size (mcells (rnN base pc []) (.slice A1 l.length q1) (.slice none 0 0)).toArray rfl rfl 27 _ E1 hsz (by rw [hlen]; rfl) hall ?_))
 refine bodyPost_ret (results_cell_tmp rfl _ _ w.heap.size 27 _ (0,0) _ rfl (setRow_heap _ _ _ _ _ _ E1) Tryz.underlying27 rfl hsz) rfl ?_
 refine ⟨_,rfl,⟨rfl,_,_,rfl,?_,World.ownsRow_nil _ _ _ _⟩,below_setRow hw1.out (Nat.le_refl _) _⟩
 have h0:w1.ownsRow (w.heap.size+1) 5 1 (.slice A1 l.length q1) l.length (l.map (Value.int .u8)):=by simpa using HO.out
 exact (own_setRow_far h0 (fun e=>by have:=(h0.lt _ e).1; omega) _).mono (by omega)
end Go.Proofs.YtoehlmiadiiimaaGreatDoor

/-
  The machine's laws: small words.
-/
namespace Go.Proofs.YtoehlmiadiiimaaGreatDoor
open Go.ChangeShapes Go.WideShapes Go.RowKit Go.Proofs.YtoehlmiadiiimaaGreatDoor.Ex
theorem wpList_load_row_w {P:Program} {w:World} {ops:Array Oper} {rest:List Oper} {o:Oper} {a:Act} {Q:Exit→Act→World→Prop} (hw:Region.wanted o (yielded ops a.tmps)=true) (ty:TypeId) (x:Operand) (ho:o.op=.load ty x)
  (g:Nat) (hx:a.eval x=.pointer (some ⟨g,0,none⟩)) (t:TypeId) (cs:Array Value) (fr:Nat×Nat) (d:TypeDesc) (hg:w.heap[g]?=some (.cells cs t fr))
  (hu:P.underlying ty=some d) (hd:(match d with | .struct _ | .array _ _=>true | _=>false)=true) (hi:(P.info? ty).map (·.size)=some cs.size)
  (h:wpList P ops Q rest (a.put o.dst (.agg cs)) w) : wpList P ops Q (o :: rest) a w :=
 wpList_step fun K hK=>by rw [if_pos hw]; exact wp_load_row ty x ho g hx t cs fr d hg hu hd hi (hK _ _ h)
def GoodPost (w:World) (e:Ending) (w':World) : Prop:=e=.returned (.bool true)∧Below w.heap.size w w'
end Go.Proofs.YtoehlmiadiiimaaGreatDoor

/-
  The machine, as the document has it: New; words for rows in the midst.
-/
set_option maxRecDepth 100000
set_option maxHeartbeats 1000000
namespace Go.Proofs.YtoehlmiadiiimaaGreatDoor
open Go.ChangeShapes Go.WideShapes Go.RowKit Go.Proofs.YtoehlmiadiiimaaGreatDoor.Ex
def putL (cs:Array Value) : Nat→List Value→Array Value
 | _,[]=>cs
 | o,v :: r=>putL (cs.setIfInBounds o v) (o+1) r
theorem Blk.setCells {g:Nat} {t:TypeId} : ∀ (l:List Value) (o:Nat) (w:World) (cs:Array Value),Blk w g t cs→Blk (w.setCells g o l) g t (putL cs o l)
 | [],_,_,_,h=>h
 | v :: r,o,_,_,h=>Blk.setCells r (o+1) _ _ (h.set_ o v)
theorem size_setCells {b:Nat} : ∀ (l:List Value) (o:Nat) (w:World),(w.setCells b o l).heap.size=w.heap.size
 | [],_,_=>rfl
 | v :: r,o,w=>(size_setCells r (o+1) _).trans (by simp)
theorem putL_list:∀ (l:List Value) (a x b:List Value),x.length=l.length→putL (a ++ x ++ b).toArray a.length l=(a ++ l ++ b).toArray
 | [],a,x,b,h=>by
  have:x=[]:=List.eq_nil_of_length_eq_zero h
  subst this; rfl
 | v :: r,a,[],b,h=>by simp at h
 | v :: r,a,y :: x,b,h=>by
  have e:(a ++ y :: x ++ b).toArray.setIfInBounds a.length v=((a ++ [v]) ++ x ++ b).toArray:=by simp
  rw [putL,e]
  have:=putL_list r (a ++ [v]) x b (by simpa using h)
  rw [List.length_append] at this
  rw [show a.length+1=a.length + [v].length from rfl,this]
  simp
theorem putL_mcells {r:Rn} {mv tv:Value} (h:r.regs.length=32) (regs:List Int) (h':regs.length=32) : putL (mcells r mv tv).toArray 1 (regs.map (Value.int .u64))=(mcells { r with regs:=regs } mv tv).toArray:=by
 have:=putL_list (regs.map (Value.int .u64)) [.int .u64 r.pc] (r.regs.map (Value.int .u64)) [.int .u64 r.base,mv,tv,.bool r.done] (by simp [h,h'])
 simpa [mcells] using this
theorem there_blk {w:World} {g:Nat} {t:TypeId} {cs:Array Value} (h:Blk w g t cs) (o n:Nat) (hs:o+n≤cs.size) : w.there g o n:=fun j hj=>⟨by rw [h.cell,Option.isSome_iff_exists]; exact ⟨cs[o+j],Array.getElem?_eq_getElem (by omega)⟩,h.frozen _⟩
theorem grown_setCells {b:Nat} : ∀ (l:List Value) (o:Nat) (w:World),w.grownBy (w.setCells b o l) (some b)
 | [],_,_=>⟨rfl,rfl,rfl,Nat.le_refl _,fun _ _ _=>rfl⟩
 | v :: r,o,w=>by
  have h:=grown_setCells (b:=b) r (o+1) (w.setCell ⟨b,o,none⟩ v)
  exact ⟨h.os,h.tape,h.output,Nat.le_trans (by simp) h.size,fun k hk hne=>(h.block k (by simpa using hk) hne).trans (Below.heap_setCell w ⟨b,o,none⟩ v k (fun e=>hne (by rw [e])))⟩
theorem own_through {w w':World} {B b:Nat} {e:TypeId} {v:Value} {n:Nat} {xs:List Value} {cs:Array Value} (h:w.ownsRow B e 1 v n xs) (he:e≠27) (hb:Blk w b 27 cs) (hg:w.grownBy w' (some b)) : w'.ownsRow B e 1 v n xs :=
 h.kept hg (.inr (own_blk_ne h hb he))
theorem blk_through {w w':World} {b k:Nat} {t:TypeId} {cs:Array Value} (h:Blk w k t cs) (hg:w.grownBy w' (some b)) (hne:k≠b) : Blk w' k t cs:=(hg.block k h.lt (by simpa using hne)).trans h
theorem info23:(Tryz.prog.info? 23).map (·.size)=some 32:=by kernel_rfl
def newR (base pc:Int) (l:List Int) : Rn×Int:=if 2147483648 < base then (rn0,2) else if 65536 < l.length then (rn0,3) else (rnN base pc l,0)
def PairAll (w:World) (x:Rn×Int) (e:Ending) (w':World) : Prop:=Below w.heap.size w w'∧∃ v,e=.returned (.tuple #[v,.int .i64 x.2])∧MachO w.heap.size w' v x.1
theorem newP_base (base pc:Int) (A:Option Addr) (n c:Nat) (w:World) (hb:2147483648 < base) : Calls Tryz.prog 21 #[.int .u64 base,.slice A n c,.int .u64 pc] w (PairAll w (rn0,2)):=by
 have hz:(Tryz.prog.info? 27).map (·.size)=some z27.size:=by rw [z27_size]; exact info27
 go_enter Tryz.func21,Tryz.ntmps21
 go_wp2_with (first
  | (refine wpList_build0 rfl 27 rfl z27 built27 ?_)
  | (refine wpList_store_row rfl 27 (.tmp 6) (.tmp 11) rfl w.heap.size z27 rfl rfl 27 _ (heap_alloc_new w _) hz (by rw [z27_size]; rfl) z27_one ?_))
 refine bodyPost_ret (results_cell_tmp rfl _ _ w.heap.size 27 z27 (0,0) _ rfl (setRow_heap _ _ _ _ _ _ (heap_alloc_new w _)) Tryz.underlying27 rfl hz) rfl ?_
 exact ⟨below_setRow ((Below.refl _ _).alloc (Nat.le_refl _) _) (Nat.le_refl _) _,_,rfl,rn0_own _ _⟩
theorem newP_long (base pc:Int) (A:Option Addr) (n c:Nat) (w:World) (hb:¬ 2147483648 < base) (hn:(65536:Int) < n) : Calls Tryz.prog 21 #[.int .u64 base,.slice A n c,.int .u64 pc] w (PairAll w (rn0,3)):=by
 have hn':decide (65536 < n)=true:=decide_eq_true (by omega)
 have hz:(Tryz.prog.info? 27).map (·.size)=some z27.size:=by rw [z27_size]; exact info27
 go_enter Tryz.func21,Tryz.ntmps21
 go_wp2_with (first
  | (refine wpList_build0 rfl 27 rfl z27 built27 ?_)
  | (refine wpList_store_row rfl 27 (.tmp 6) (.tmp 16) rfl w.heap.size z27 rfl rfl 27 _ (heap_alloc_new w _) hz (by rw [z27_size]; rfl) z27_one ?_))
 refine bodyPost_ret (results_cell_tmp rfl _ _ w.heap.size 27 z27 (0,0) _ rfl (setRow_heap _ _ _ _ _ _ (heap_alloc_new w _)) Tryz.underlying27 rfl hz) rfl ?_
 exact ⟨below_setRow ((Below.refl _ _).alloc (Nat.le_refl _) _) (Nat.le_refl _) _,_,rfl,rn0_own _ _⟩
theorem newD_base (base pc:Int) (A:Option Addr) (n c:Nat) (w:World) (hb:2147483648 < base) : Calls Tryz.prog 22 #[.int .u64 base,.slice A n c,.int .u64 pc] w (PairAll w (rn0,2)):=by
 have hz:(Tryz.prog.info? 27).map (·.size)=some z27.size:=by rw [z27_size]; exact info27
 go_enter Tryz.func22,Tryz.ntmps22
 go_wp2_with (first
  | (refine wpList_build0 rfl 27 rfl z27 built27 ?_)
  | (refine wpList_store_row rfl 27 (.tmp 6) (.tmp 10) rfl w.heap.size z27 rfl rfl 27 _ (heap_alloc_new w _) hz (by rw [z27_size]; rfl) z27_one ?_))
 refine bodyPost_ret (results_cell_tmp rfl _ _ w.heap.size 27 z27 (0,0) _ rfl (setRow_heap _ _ _ _ _ _ (heap_alloc_new w _)) Tryz.underlying27 rfl hz) rfl ?_
 exact ⟨below_setRow ((Below.refl _ _).alloc (Nat.le_refl _) _) (Nat.le_refl _) _,_,rfl,rn0_own _ _⟩
theorem newD_long (base pc:Int) (A:Option Addr) (n c:Nat) (w:World) (hb:¬ 2147483648 < base) (hn:(65536:Int) < n) : Calls Tryz.prog 22 #[.int .u64 base,.slice A n c,.int .u64 pc] w (PairAll w (rn0,3)):=by
 have hn':decide (65536 < n)=true:=decide_eq_true (by omega)
 have hz:(Tryz.prog.info? 27).map (·.size)=some z27.size:=by rw [z27_size]; exact info27
 go_enter Tryz.func22,Tryz.ntmps22
 go_wp2_with (first
  | (refine wpList_build0 rfl 27 rfl z27 built27 ?_)
  | (refine wpList_store_row rfl 27 (.tmp 6) (.tmp 14) rfl w.heap.size z27 rfl rfl 27 _ (heap_alloc_new w _) hz (by rw [z27_size]; rfl) z27_one ?_))
 refine bodyPost_ret (results_cell_tmp rfl _ _ w.heap.size 27 z27 (0,0) _ rfl (setRow_heap _ _ _ _ _ _ (heap_alloc_new w _)) Tryz.underlying27 rfl hz) rfl ?_
 exact ⟨below_setRow ((Below.refl _ _).alloc (Nat.le_refl _) _) (Nat.le_refl _) _,_,rfl,rn0_own _ _⟩
theorem newD_in (base pc:Int) (mv:Value) (l:List Int) (w:World) (h:RdS w mv (l.map (.int .u8))) (hb:¬ 2147483648 < base) (hl:l.length≤65536) :
  Calls Tryz.prog 22 #[.int .u64 base,mv,.int .u64 pc] w (PairAll w (rnN base pc l,0)):=by
 obtain ⟨A,c,rfl,hc,hA⟩:=h.form
 rw [List.length_map] at h
 have hm:MachR w (.agg (mcells (rnN base pc l) (.slice A l.length c) (.slice none 0 0)).toArray) (rnN base pc l):=⟨rfl,_,_,rfl,h,⟨none,0,rfl,Nat.le_refl _,fun h=>absurd h (by simp [rnN])⟩⟩
 have H12:Hid (∀ W,Below w.heap.size w W→Calls Tryz.prog 12 #[.agg (mcells (rnN base pc []) (.slice A l.length c) (.slice none 0 0)).toArray] W (TwinPost W (rnN base pc l))):=Lib.hid fun W hb=>twinD _ (rnN base pc l) W (hm.keep hb) (by show l.length≤_; omega) (by show 0≤_; omega)
 have hl':¬ (65536:Int) < (l.length:Int):=by omega
 have hB:=congrFun (congrFun (congrFun (congrFun (congrFun built27n pc) base) (A:Option Addr)) l.length) c
 rw [List.length_map]
 clear h hc hA hm
 go_enter Tryz.func22,Tryz.ntmps22
 go_wp2_with (refine wpList_build3 rfl 27 0 2 3 _ _ _ rfl _ _ _ rfl rfl rfl _ hB ?_)
 refine (H12.out _ ((Below.refl _ _).alloc (Nat.le_refl _) _)).mono ?_
 intro e w1 htp
 obtain ⟨v1,rfl,ho1,hb1⟩:=htp
 obtain ⟨c1,rfl,hs1,hall1⟩:=mach_cells ho1
 have E1:∃ Z,w1.heap[w.heap.size]?=some (.cells Z 27 (0,0))∧Hid (Z.size=37):=⟨_,(hb1.block w.heap.size (by simp)).trans (heap_alloc_new w _),Lib.hid rfl⟩
 obtain ⟨Z,E1,hZ⟩:=E1
 have hw1:=Lib.hid (((Below.refl _ _).alloc (Nat.le_refl _) _).trans (hb1.mono (by simp)) : Below w.heap.size w w1)
 have HO:=Lib.hid ho1
 have hsz:(Tryz.prog.info? 27).map (·.size)=some c1.size:=by rw [hs1.out]; exact info27
 clear hb1 ho1
 go_wp2_with (refine wpList_store_row rfl 27 (.tmp 6) (.tmp 19) rfl w.heap.size c1 rfl rfl 27 _ E1 hsz (by rw [hs1.out,hZ.out]) hall1 ?_)
 refine bodyPost_ret (results_cell_tmp rfl _ _ w.heap.size 27 _ (0,0) _ rfl (setRow_heap _ _ _ _ _ _ E1) Tryz.underlying27 rfl hsz) rfl ?_
 exact ⟨below_setRow hw1.out (Nat.le_refl _) _,_,rfl,(HO.out.far (by simp) _).mono (by simp)⟩
theorem newP (base pc:Int) (mv:Value) (l:List Int) (w:World) (h:RdS w mv (l.map (.int .u8))) : Calls Tryz.prog 21 #[.int .u64 base,mv,.int .u64 pc] w (PairAll w (newR base pc l)):=by
 unfold newR
 by_cases hb:2147483648 < base
 ·rw [if_pos hb]
  obtain ⟨A,c,rfl,_,_⟩:=h.form
  exact newP_base base pc A _ c w hb
 ·rw [if_neg hb]
  by_cases hl:65536 < l.length
  ·rw [if_pos hl]
   obtain ⟨A,c,rfl,_,_⟩:=h.form
   rw [List.length_map]
   exact newP_long base pc A _ c w hb (by omega)
  ·rw [if_neg hl]
   exact (new_in base pc mv l w h hb (by omega)).mono fun e w' ⟨v,h1,h2,h3⟩=>⟨h3,v,h1,h2⟩
theorem newD (base pc:Int) (mv:Value) (l:List Int) (w:World) (h:RdS w mv (l.map (.int .u8))) : Calls Tryz.prog 22 #[.int .u64 base,mv,.int .u64 pc] w (PairAll w (newR base pc l)):=by
 unfold newR
 by_cases hb:2147483648 < base
 ·rw [if_pos hb]
  obtain ⟨A,c,rfl,_,_⟩:=h.form
  exact newD_base base pc A _ c w hb
 ·rw [if_neg hb]
  by_cases hl:65536 < l.length
  ·rw [if_pos hl]
   obtain ⟨A,c,rfl,_,_⟩:=h.form
   rw [List.length_map]
   exact newD_long base pc A _ c w hb (by omega)
  ·rw [if_neg hl]
   exact newD_in base pc mv l w h hb (by omega)
def runI (n:Int) (r:Rn) : Rn×Nat×Bool×Int:=if checkE r=0 then (if 0≤n∧n≤1000 then ((goF n.toNat r).1,(goF n.toNat r).2,(stepF (goF n.toNat r).1).isNone,0) else (rn0,0,false,2)) else (rn0,0,false,8)
theorem runP_all (v:Value) (r:Rn) (n:Int) (w:World) (h:MachR w v r) (F:Fit r) (hL:LG w) (h13:3≤w.heap.size) : Calls Tryz.prog 23 #[v,.int .i64 n] w (RunAll w (runI n r)):=by
 unfold runI
 rcases checkE_or r with hc | hc
 ·rw [if_pos hc]
  by_cases hn:0≤n∧n≤1000
  ·rw [if_pos hn]
   have:=run_c v r n.toNat w h ⟨F.pc.1,F.regs,F.len,F.told⟩ hL h13 (by omega) hc
   rw [Int.toNat_of_nonneg hn.1] at this
   exact this
  ·rw [if_neg hn]
   exact runP_bad v r n w h hc (by omega)
 ·rw [if_neg (by rw [hc]; decide)]
  exact run_err v r n w h hc
theorem runD_all (v:Value) (r:Rn) (n:Int) (w:World) (h:MachR w v r) (F:Fit r) (hL:LG w) (h13:3≤w.heap.size) : Calls Tryz.prog 24 #[v,.int .i64 n] w (RunAll w (runI n r)):=by
 unfold runI
 rcases checkE_or r with hc | hc
 ·rw [if_pos hc]
  by_cases hn:0≤n∧n≤1000
  ·rw [if_pos hn]
   have:=runD_c v r n.toNat w h F hL h13 (by omega) hc
   rw [Int.toNat_of_nonneg hn.1] at this
   exact this
  ·rw [if_neg hn]
   exact runD_bad v r n w h hc (by omega)
 ·rw [if_neg (by rw [hc]; decide)]
  exact runD_err v r n w h hc
end Go.Proofs.YtoehlmiadiiimaaGreatDoor

/-
  The law MachineRuns: its walk.
-/
set_option maxRecDepth 100000
set_option maxHeartbeats 8000000
namespace Go.Proofs.YtoehlmiadiiimaaGreatDoor
open Go.ChangeShapes Go.WideShapes Go.RowKit Go.Proofs.YtoehlmiadiiimaaGreatDoor.Ex
def withR (x:Rn) (regs:List Int) : Rn:={ x with regs:=regs }
theorem new_fit (base pc:Int) (l regs:List Int) (hb:0≤base) (hp:0≤pc∧pc < B64) (hl:∀ x∈l,0≤x∧x < 256) (hr:Regs64 regs) : Fit (withR (newR base pc l).1 regs)∧(newR base pc l).1.regs.length=32∧(newR base pc l).1.mem.length≤65536∧(newR base pc l).1.told.length=0:=by
 unfold newR
 split
 ·exact ⟨⟨⟨Int.le_refl _,show (0:Int) < B64 by decide⟩,⟨Int.le_refl _,show (0:Int)≤2147483648 by decide⟩,Nat.zero_le _,(fun x hx=>by cases hx),hr,Nat.zero_le _⟩,rfl,Nat.zero_le _,rfl⟩
 ·split
  ·exact ⟨⟨⟨Int.le_refl _,show (0:Int) < B64 by decide⟩,⟨Int.le_refl _,show (0:Int)≤2147483648 by decide⟩,Nat.zero_le _,(fun x hx=>by cases hx),hr,Nat.zero_le _⟩,rfl,Nat.zero_le _,rfl⟩
  ·rename_i h1 h2
   exact ⟨⟨hp,⟨hb,by show base≤_; omega⟩,by show l.length≤_; omega,hl,hr,by show 0≤_; omega⟩,rfl,by show l.length≤_; omega,rfl⟩
theorem putL_size:∀ (l:List Value) (o:Nat) (c:Array Value),(putL c o l).size=c.size
 | [],_,_=>rfl
 | v :: r,o,c=>(putL_size r (o+1) _).trans (by simp)
def AtB (B:Nat) (w:World) (g:Nat) (cs:Array Value) (r:Rn) : Prop:=∃ mv tv,cs=(mcells r mv tv).toArray∧OutW B w g r mv tv
namespace AtB
variable {B g:Nat} {w w':World} {cs:Array Value} {r:Rn}
theorem blk (h:AtB B w g cs r) : Blk w g 27 cs:=by obtain ⟨mv,tv,rfl,O⟩:=h; exact O.blk
theorem below (h:AtB B w g cs r) (hb:Below w.heap.size w w') : AtB B w' g cs r:=by obtain ⟨mv,tv,e,O⟩:=h; exact ⟨mv,tv,e,O.below hb⟩
theorem reads (h:AtB B w g cs r) : MachR w (.agg cs) r:=by obtain ⟨mv,tv,rfl,O⟩:=h; exact (O.out (Nat.le_refl _)).reads
theorem through (h:AtB B w g cs r) {b:Nat} {c0:Array Value} (hb:Blk w b 27 c0) (hne:g≠b) (hg:w.grownBy w' (some b)) : AtB B w' g cs r:=by
 obtain ⟨mv,tv,e,O⟩:=h
 exact ⟨mv,tv,e,O.len,O.ge,blk_through O.blk hg hne,own_through O.mem (by decide) hb hg,own_through O.told (by decide) hb hg⟩
theorem regs_ (h:AtB B w g cs r) (regs:List Int) (h':regs.length=32) : AtB B (w.setCells g 1 (regs.map (Value.int .u64))) g (putL cs 1 (regs.map (Value.int .u64))) (withR r regs):=by
 obtain ⟨mv,tv,rfl,O⟩:=h
 have e:=putL_mcells (mv:=mv) (tv:=tv) O.len regs h'
 refine ⟨mv,tv,e,h',O.ge,?_,?_,?_⟩
 ·have:=Blk.setCells (regs.map (Value.int .u64)) 1 _ _ O.blk
  rw [e] at this
  exact this
 ·exact own_through O.mem (by decide) O.blk (grown_setCells _ _ _)
 ·exact own_through O.told (by decide) O.blk (grown_setCells _ _ _)
theorem made {B':Nat} {v:Value} (h:MachO B' w v r) (hB:B≤B') (hB2:B≤w.heap.size) : ∃ cs,v=.agg cs∧(Tryz.prog.info? 27).map (·.size)=some cs.size∧Hid (cs.size=37)∧cs.all (·.oneCell')=true ∧
  Hid (∀ Z,AtB B ((w.alloc (.cells Z 27)).setRow w.heap.size cs) w.heap.size cs r):=by
 obtain ⟨mv,tv,rfl,hm,ht⟩:=h.form
 refine ⟨_,rfl,by rw [mc_size h.len]; exact info27,Lib.hid (mc_size h.len),mc_one (rds_one (RdS.of_own hm)) (rds_one (RdS.of_own ht)),Lib.hid fun Z=>⟨mv,tv,rfl,?_⟩⟩
 exact OutW.made (h.mono hB) (hm.mono hB) (ht.mono hB) hB2
end AtB
theorem runI_small (n:Int) (r:Rn) : (runI n r).1.mem.length≤1000000∧(runI n r).1.told.length≤1000000:=by
 unfold runI
 split
 ·rename_i hc
  split
  ·have:=checkE_zero (check_kept (goF_kept n.toNat r) hc)
   exact ⟨by show (goF _ r).1.mem.length≤_; omega,by show (goF _ r).1.told.length≤_; omega⟩
  ·exact ⟨by decide,by decide⟩
 ·exact ⟨by decide,by decide⟩
theorem runs_out (base pc steps:Int) (A:Option Addr) (n c:Nat) (rg:Array Value) (w:World) (h:(2000 < n∧n≤65536)∨70000 < n∨(200 < steps∧steps≤1000)) :
  Calls Tryz.prog 4 #[.int .u64 base,.slice A n c,.int .u64 pc,.agg rg,.int .i64 steps] w (GoodPost w):=by
 have HH:=Lib.hid h
 clear h
 go_enter Tryz.func4,Tryz.ntmps4
 go_wp2_with fail
 all_goals first
  | (go_ret; exact ⟨rfl,(Below.refl _ _).alloc (Nat.le_refl _) _⟩)
  | (exfalso; rcases HH.out with h | h | h <;> omega)
theorem runs_in (base pc steps:Int) (A:Option Addr) (n c:Nat) (l regs:List Int) (w:World) (hr:RdS w (.slice A n c) (l.map (.int .u8))) (hl:∀ x∈l,0≤x∧x < 256) (h32:regs.length=32) (hR:Regs64 regs) (hb:0≤base) (hp:0≤pc∧pc < B64)
  (hL:LG w) (h13:3≤w.heap.size) (h:¬ ((2000 < n∧n≤65536)∨70000 < n∨(200 < steps∧steps≤1000))) :
  Calls Tryz.prog 4 #[.int .u64 base,.slice A n c,.int .u64 pc,.agg (regs.map (Value.int .u64)).toArray,.int .i64 steps] w (GoodPost w):=by
 obtain ⟨hF,h32x,hmx,htx⟩:=new_fit base pc l regs hb hp hl hR
 have H21:Hid (∀ W,Below w.heap.size w W→Calls Tryz.prog 21 #[.int .u64 base,.slice A n c,.int .u64 pc] W (PairAll W (newR base pc l))):=Lib.hid fun W hb=>newP base pc _ l W (hr.keep hb)
 have H22:Hid (∀ W,Below w.heap.size w W→Calls Tryz.prog 22 #[.int .u64 base,.slice A n c,.int .u64 pc] W (PairAll W (newR base pc l))):=Lib.hid fun W hb=>newD base pc _ l W (hr.keep hb)
 have H16:Hid (∀ W v1 v2 r,MachR W v1 r→MachR W v2 r→r.mem.length≤1000000∧r.told.length≤1000000→Calls Tryz.prog 16 #[v1,v2] W (GoodPost W)):=Lib.hid fun W v1 v2 r h1 h2 hs=>same_c v1 v2 r W h1 h2 hs.1 hs.2
 have H23:Hid (∀ W v r,Below w.heap.size w W→MachR W v r→Fit r→Calls Tryz.prog 23 #[v,.int .i64 steps] W (RunAll W (runI steps r))):=Lib.hid fun W v r hb hm hf=>runP_all v r steps W hm hf (laidG_below hL (hb.mono h13)) (Nat.le_trans h13 hb.size)
 have H24:Hid (∀ W v r,Below w.heap.size w W→MachR W v r→Fit r→Calls Tryz.prog 24 #[v,.int .i64 steps] W (RunAll W (runI steps r))):=Lib.hid fun W v r hb hm hf=>runD_all v r steps W hm hf (laidG_below hL (hb.mono h13)) (Nat.le_trans h13 hb.size)
 have HC:Hid (∀ W,Below w.heap.size w W→(convert 24 9 (.slice A n c)).run Tryz.prog W=.ok (.string (strOfNums l)) W):=Lib.hid fun W hb=>conv_rd (hr.keep hb)
 have K0:=HC.out (w.alloc (.cells (regs.map (Value.int .u64)).toArray 23)) ((Below.refl _ _).alloc (Nat.le_refl _) _)
 have hk0:Below w.heap.size w (w.alloc (.cells (regs.map (Value.int .u64)).toArray 23)):=(Below.refl _ _).alloc (Nat.le_refl _) _
 have HX:Hid (Fit (withR (newR base pc l).1 regs)∧(newR base pc l).1.mem.length≤1000000∧(newR base pc l).1.told.length≤1000000):=Lib.hid ⟨hF,by omega,by omega⟩
 have HZ:=Lib.hid (runI_small steps (withR (newR base pc l).1 regs))
 have HRG:=Lib.hid h32
 have hrow:(Tryz.prog.info? 23).map (·.size)=some (regs.map (Value.int .u64)).toArray.size:=by rw [show (regs.map (Value.int .u64)).toArray.size=32 from by simpa using h32]; exact info23
 have hrall:(regs.map (Value.int .u64)).toArray.all (·.oneCell')=true:=by simp [Value.oneCell']
 have h1:¬ (2000 < n∧n≤65536):=fun q=>h (.inl q)
 have h2:¬ 70000 < n:=fun q=>h (.inr (.inl q))
 have h3:¬ (200 < steps∧steps≤1000):=fun q=>h (.inr (.inr q))
 clear hr hl h32 hR hb hp hL h13 h hF h32x hmx htx
 generalize hrg:(regs.map (Value.int .u64)).toArray=rg at *
 have HRE:=Lib.hid hrg
 clear hrg
 generalize strOfNums l=str at *
 generalize newR base pc l=X at *
 obtain ⟨x,E⟩:=X
 generalize hY:runI steps (withR x regs)=Y at *
 obtain ⟨y,cn,fl,E2⟩:=Y
 have HY:=Lib.hid hY
 have HG:Hid (¬ (2000 < n∧n≤65536)∧¬ 70000 < n∧¬ (200 < steps∧steps≤1000)):=Lib.hid ⟨h1,h2,h3⟩
 clear h1 h2 h3 hY
 go_enter Tryz.func4,Tryz.ntmps4
 go_upto_region 1 with fail
 go_cut [44] from 24 (fun s44 wc=>s44=.bool false∧wc=w.alloc (.cells rg 23))
 case first =>
  go_wp2_with fail
  all_goals first
   | (exfalso; have:=HG.out; omega)
   | (have hg:=HG.out; go_meet; case rel=>exact ⟨by first | rfl | (congr 1; simp; omega),rfl⟩)
 case rest =>
  obtain ⟨rfl,rfl⟩:=hcut
  go_wp2_with fail
  refine (H21.out _ hk0).mono ?_
  rintro e w1 ⟨hb1,v1,rfl,ho1⟩
  have hz1:w.heap.size+1≤w1.heap.size:=by have:=hb1.size; simpa using this
  obtain ⟨c1,rfl,hsz1,hs1,hall1,hA1⟩:=AtB.made (B:=w.heap.size) ho1 (by simp) (by omega)
  have D1:=(Blk.new w 23 rg).below hb1 (by simp)
  have HW1:=Lib.hid (hk0.trans (hb1.mono (by simp)))
  clear hb1 ho1 hk0 K0
  have hk2:∀ Z:Array Value,Below w1.heap.size w1 ((w1.alloc (.cells Z 27)).setRow w1.heap.size c1):=fun Z=>below_setRow ((Below.refl w1.heap.size w1).alloc (Nat.le_refl _) _) (Nat.le_refl _) c1
  go_wp2_with (refine wpList_store_row rfl 27 (.tmp 12) (.tmp 52) rfl w1.heap.size c1 rfl rfl 27 _ (heap_alloc_new w1 _) hsz1 (by rw [hs1.out]; rfl) hall1 ?_)
  refine (H22.out _ (HW1.out.trans ((hk2 _).mono (by omega)))).mono ?_
  rintro e w2 ⟨hb2,v2,rfl,ho2⟩
  have hz2:w1.heap.size+1≤w2.heap.size:=by have:=hb2.size; simpa using this
  obtain ⟨c2,rfl,hsz2,hs2,hall2,hA2⟩:=AtB.made (B:=w.heap.size) ho2 (by simp; omega) (by omega)
  have E1:AtB w.heap.size w2 w1.heap.size c1 x:=(hA1.out _).below hb2
  have E0:=D1.below ((hk2 _).trans (hb2.mono (by simp))) D1.lt
  have HW2:=Lib.hid (HW1.out.trans (((hk2 _).trans (hb2.mono (by simp))).mono (by omega)))
  clear hb2 ho2 hA1 hk2 D1 HW1
  have hk3:∀ Z:Array Value,Below w2.heap.size w2 ((w2.alloc (.cells Z 27)).setRow w2.heap.size c2):=fun Z=>below_setRow ((Below.refl w2.heap.size w2).alloc (Nat.le_refl _) _) (Nat.le_refl _) c2
  go_upto_region 6 with (refine wpList_store_row rfl 27 (.tmp 14) (.tmp 59) rfl w2.heap.size c2 rfl rfl 27 _ (heap_alloc_new w2 _) hsz2 (by rw [hs2.out]; rfl) hall2 ?_)
  refine (fun (h:∀ w3:World,w3.heap.size=w2.heap.size+1→Hid (Below w.heap.size w w3)→Blk w3 w.heap.size 23 rg→AtB w.heap.size w3 w1.heap.size c1 x→AtB w.heap.size w3 w2.heap.size c2 x→Code.wp Tryz.prog _ _ _ w3)=>h _ (by simp) (Lib.hid (HW2.out.trans ((hk3 _).mono (by omega)))) (E0.below (hk3 _) E0.lt) (E1.below (hk3 _)) (hA2.out _)) ?_
  clear HW2 E0 E1 hA2 hk3
  intro w3 hz3 HW3 F0 F1 F2
  have G1:=F1.blk
  have G2:=F2.blk
  go_wp2_with (first
   | (refine wpList_load_row rfl 27 (.tmp 12) rfl w1.heap.size rfl 27 c1 (0,0) _ G1 Tryz.underlying27 rfl hsz1 ?_)
   | (refine wpList_load_row rfl 27 (.tmp 14) rfl w2.heap.size rfl 27 c2 (0,0) _ G2 Tryz.underlying27 rfl hsz2 ?_))
  refine (H16.out _ _ _ x F1.reads F2.reads HX.out.2).mono ?_
  rintro e w4 ⟨rfl,hb4⟩
  have I0:=F0.below hb4 F0.lt
  have I1:=F1.below hb4
  have I2:=F2.below hb4
  have HW4:=Lib.hid (HW3.out.trans (hb4.mono (by omega)))
  have hz4:w2.heap.size+1≤w4.heap.size:=by have:=hb4.size; omega
  have K4:=HC.out w4 HW4.out
  clear F0 F1 F2 G1 G2 hb4 HW3 hz3
  go_upto_region 8 with fail
  clear K4
  have J1:=there_blk I1.blk 1 rg.size (by rw [hs1.out,← HRE.out]; simp; have:=HRG.out; omega)
  go_upto_region 9 with (first
   | (refine wpList_load_row rfl 23 (.tmp 8) rfl w.heap.size rfl 23 rg (0,0) _ I0 Tryz.underlying23 rfl hrow ?_)
   | (refine wpList_store_mid rfl 23 (.tmp 77) (.tmp 76) rfl w1.heap.size 1 rg rfl rfl J1 hrow hrall ?_))
  refine (fun (h:∀ w5:World,w5.heap.size=w4.heap.size→w4.grownBy w5 (some w1.heap.size)→AtB w.heap.size w5 w1.heap.size (putL c1 1 rg.toList) (withR x regs)→Code.wp Tryz.prog _ _ _ w5)=>h _ (size_setCells _ _ _) (grown_setCells _ _ _) (by rw [← HRE.out]; exact I1.regs_ regs HRG.out)) ?_
  intro w5 hz5 hg5 L1
  have L0:=blk_through I0 hg5 (by omega)
  have L2:=I2.through I1.blk (by omega) hg5
  have HW5:=Lib.hid (HW4.out.grown hg5 (by omega) (fun k hk=>by injection hk with hk; omega))
  clear I0 I1 I2 J1 hg5 HW4
  have J2:=there_blk L2.blk 1 rg.size (by rw [hs2.out,← HRE.out]; simp; have:=HRG.out; omega)
  go_upto_region 10 with (first
   | (refine wpList_load_row rfl 23 (.tmp 8) rfl w.heap.size rfl 23 rg (0,0) _ L0 Tryz.underlying23 rfl hrow ?_)
   | (refine wpList_store_mid rfl 23 (.tmp 79) (.tmp 78) rfl w2.heap.size 1 rg rfl rfl J2 hrow hrall ?_))
  refine (fun (h:∀ w6:World,w6.heap.size=w5.heap.size→w5.grownBy w6 (some w2.heap.size)→AtB w.heap.size w6 w2.heap.size (putL c2 1 rg.toList) (withR x regs)→Code.wp Tryz.prog _ _ _ w6)=>h _ (size_setCells _ _ _) (grown_setCells _ _ _) (by rw [← HRE.out]; exact L2.regs_ regs HRG.out)) ?_
  intro w6 hz6 hg6 M2
  have M1:=L1.through L2.blk (by omega) hg6
  have HW6:=Lib.hid (HW5.out.grown hg6 (by omega) (fun k hk=>by injection hk with hk; omega))
  have hd1:(Tryz.prog.info? 27).map (·.size)=some (putL c1 1 rg.toList).size:=by rw [putL_size]; exact hsz1
  have hd2:(Tryz.prog.info? 27).map (·.size)=some (putL c2 1 rg.toList).size:=by rw [putL_size]; exact hsz2
  clear L0 L1 L2 J2 hg6 HW5 hrow hrall hsz1 hsz2 hs1 hs2 hall1 hall2 HRE
  generalize putL c1 1 rg.toList=d1 at *
  generalize putL c2 1 rg.toList=d2 at *
  generalize withR x regs=r at *
  have G1:=M1.blk
  go_wp2_with (refine wpList_load_row rfl 27 (.tmp 12) rfl w1.heap.size rfl 27 d1 (0,0) _ G1 Tryz.underlying27 rfl hd1 ?_)
  refine (H23.out _ _ r HW6.out M1.reads HX.out.1).mono ?_
  rw [HY.out]
  rintro e w7 ⟨hb7,v3,rfl,ho3⟩
  have hz7:w2.heap.size+1≤w7.heap.size:=by have:=hb7.size; omega
  obtain ⟨c3,rfl,hsz3,hs3,hall3,hA3⟩:=AtB.made (B:=w.heap.size) ho3 (by omega) (by omega)
  have N1:=M1.below hb7
  have N2:=M2.below hb7
  have HW7:=Lib.hid (HW6.out.trans (hb7.mono (by omega)))
  clear hb7 ho3 M1 M2 G1 HW6
  go_upto_region 11 with (refine wpList_store_row rfl 27 (.tmp 16) (.tmp 84) rfl w7.heap.size c3 rfl rfl 27 _ (heap_alloc_new w7 _) hsz3 (by rw [hs3.out]; rfl) hall3 ?_)
  have hk8:∀ Z:Array Value,Below w7.heap.size w7 ((w7.alloc (.cells Z 27)).setRow w7.heap.size c3):=fun Z=>below_setRow ((Below.refl w7.heap.size w7).alloc (Nat.le_refl _) _) (Nat.le_refl _) c3
  refine (fun (h:∀ w8:World,w8.heap.size=w7.heap.size+1→Hid (Below w.heap.size w w8)→AtB w.heap.size w8 w1.heap.size d1 r→AtB w.heap.size w8 w2.heap.size d2 r→AtB w.heap.size w8 w7.heap.size c3 y→Code.wp Tryz.prog _ _ _ w8)=>h _ (by simp) (Lib.hid (HW7.out.trans ((hk8 _).mono (by omega)))) (N1.below (hk8 _)) (N2.below (hk8 _)) (hA3.out _)) ?_
  clear HW7 N1 N2 hA3 hk8
  intro w8 hz8 HW8 N1 N2 N3
  have G2:=N2.blk
  go_wp2_with (refine wpList_load_row rfl 27 (.tmp 14) rfl w2.heap.size rfl 27 d2 (0,0) _ G2 Tryz.underlying27 rfl hd2 ?_)
  refine (H24.out _ _ r HW8.out N2.reads HX.out.1).mono ?_
  rw [HY.out]
  rintro e w9 ⟨hb9,v4,rfl,ho4⟩
  have hz9:w7.heap.size+1≤w9.heap.size:=by have:=hb9.size; omega
  obtain ⟨c4,rfl,hsz4,hs4,hall4,hA4⟩:=AtB.made (B:=w.heap.size) ho4 (by omega) (by omega)
  have O1:=N1.below hb9
  have O2:=N2.below hb9
  have O3:=N3.below hb9
  have HW9:=Lib.hid (HW8.out.trans (hb9.mono (by omega)))
  clear hb9 ho4 N1 N2 N3 G2 HW8
  go_upto_region 12 with (refine wpList_store_row rfl 27 (.tmp 20) (.tmp 92) rfl w9.heap.size c4 rfl rfl 27 _ (heap_alloc_new w9 _) hsz4 (by rw [hs4.out]; rfl) hall4 ?_)
  have hk10:∀ Z:Array Value,Below w9.heap.size w9 ((w9.alloc (.cells Z 27)).setRow w9.heap.size c4):=fun Z=>below_setRow ((Below.refl w9.heap.size w9).alloc (Nat.le_refl _) _) (Nat.le_refl _) c4
  refine (fun (h:∀ w10:World,w10.heap.size=w9.heap.size+1→Hid (Below w.heap.size w w10)→AtB w.heap.size w10 w1.heap.size d1 r→AtB w.heap.size w10 w2.heap.size d2 r→AtB w.heap.size w10 w7.heap.size c3 y→AtB w.heap.size w10 w9.heap.size c4 y→Code.wp Tryz.prog _ _ _ w10)=>h _ (by simp) (Lib.hid (HW9.out.trans ((hk10 _).mono (by omega)))) (O1.below (hk10 _)) (O2.below (hk10 _)) (O3.below (hk10 _)) (hA4.out _)) ?_
  clear HW9 O1 O2 O3 hA4 hk10
  intro w10 hz10 HW10 O1 O2 O3 O4
  have G3:=O3.blk
  have G4:=O4.blk
  go_wp2_with (first
   | (refine wpList_load_row rfl 27 (.tmp 16) rfl w7.heap.size rfl 27 c3 (0,0) _ G3 Tryz.underlying27 rfl hsz3 ?_)
   | (refine wpList_load_row rfl 27 (.tmp 20) rfl w9.heap.size rfl 27 c4 (0,0) _ G4 Tryz.underlying27 rfl hsz4 ?_))
  refine (H16.out _ _ _ y O3.reads O4.reads HZ.out).mono ?_
  rintro e w11 ⟨rfl,hb11⟩
  have P1:=O1.below hb11
  have P2:=O2.below hb11
  have HW11:=Lib.hid (HW10.out.trans (hb11.mono (by omega)))
  clear hb11 O1 O2 O3 O4 G3 G4 HW10
  have G1:=P1.blk
  have G2:=P2.blk
  go_wp2_with (first
   | (refine wpList_load_row_w (by rfl) 27 (.tmp 12) rfl w1.heap.size rfl 27 d1 (0,0) _ G1 Tryz.underlying27 rfl hd1 ?_)
   | (refine wpList_load_row_w (by rfl) 27 (.tmp 14) rfl w2.heap.size rfl 27 d2 (0,0) _ G2 Tryz.underlying27 rfl hd2 ?_))
  refine (H16.out _ _ _ r P1.reads P2.reads ⟨by have:=HX.out.1.len; omega,HX.out.1.told⟩).mono ?_
  rintro e w12 ⟨rfl,hb12⟩
  have HW12:=Lib.hid (HW11.out.trans (hb12.mono HW11.out.size))
  clear hb12 P1 P2 G1 G2 HW11
  go_wp2
  go_ret
  exact ⟨rfl,HW12.out⟩
theorem runs_c (base pc steps:Int) (A:Option Addr) (n c:Nat) (l regs:List Int) (w:World) (hr:RdS w (.slice A n c) (l.map (.int .u8))) (hl:∀ x∈l,0≤x∧x < 256) (h32:regs.length=32) (hR:Regs64 regs) (hb:0≤base) (hp:0≤pc∧pc < B64)
  (hL:LG w) (h13:3≤w.heap.size) :
  Calls Tryz.prog 4 #[.int .u64 base,.slice A n c,.int .u64 pc,.agg (regs.map (Value.int .u64)).toArray,.int .i64 steps] w (GoodPost w):=by
 by_cases h:(2000 < n∧n≤65536)∨70000 < n∨(200 < steps∧steps≤1000)
 ·exact runs_out base pc steps A n c _ w h
 ·exact runs_in base pc steps A n c l regs w hr hl h32 hR hb hp hL h13 h
end Go.Proofs.YtoehlmiadiiimaaGreatDoor

