import Derived.Test.YtoehlmiadiiimaaGreatDoorTMemJ7
import Derived.Test.YtoehlmiadiiimaaGreatDoorTMemJ4
import Derived.Test.YtoehlmiadiiimaaGreatDoorTMemU2
import Derived.Deep.Cut
/-
  The machine, as the document has it: what an instruction leaves behind.
-/
namespace Go.Proofs.YtoehlmiadiiimaaGreatDoor
open Go.ChangeShapes Go.WideShapes Go.RowKit Go.Proofs.YtoehlmiadiiimaaGreatDoor.Ex
theorem own_one {w:World} {B:Nat} {e:TypeId} {size n:Nat} {v:Value} {xs:List Value} (h:w.ownsRow B e size v n xs) : v.oneCell'=true:=by
 obtain ⟨A,c,rfl,_⟩:=own_slice h
 rfl
theorem OutW.cells {B g:Nat} {W:World} {r:Rn} {mv tv:Value} (O:OutW B W g r mv tv) : ∃ co,Blk W g 27 co∧(Tryz.prog.info? 27).map (·.size)=some co.size∧Hid (co.size=37)∧co.all (·.oneCell')=true∧Hid ((mcells r mv tv).toArray=co) :=
 ⟨_,O.blk,by rw [mc_size O.len]; exact info27,Lib.hid (mc_size O.len),mc_one (own_one O.mem) (own_one O.told),Lib.hid rfl⟩
theorem fin_some {w W:World} {B g b1:Nat} {r':Rn} {mv tv v:Value} {co:Array Value} (O:OutW B W g r' mv tv) (hco:Hid ((mcells r' mv tv).toArray=co)) (hB:Below w.heap.size w W) (h:b1 < B) (hb1:w.heap.size≤b1) :
  StepPost w v (some r') (.returned (.tuple #[.agg co,.bool true])) (W.setRow b1 co) :=
 ⟨below_setRow hB hb1 co,_,rfl,by rw [← hco.out]; exact (O.row h _).out (by omega)⟩
theorem fin_none {w W:World} {b1:Nat} {cs:Array Value} (hB:Below w.heap.size w W) (hb1:w.heap.size≤b1) : StepPost w (.agg cs) none (.returned (.tuple #[.agg cs,.bool false])) (W.setRow b1 cs) :=
 ⟨below_setRow hB hb1 cs,rfl⟩
theorem wr_0 {r:Rn} {rd:Nat} (h:rd=0) (x:Int) : r.wr rd x=r:=by unfold Rn.wr; rw [if_pos h]
theorem wr_s {r:Rn} {rd:Nat} (h:¬ rd=0) (x:Int) : r.wr rd x = { r with regs:=r.regs.set rd x }:=by unfold Rn.wr; rw [if_neg h]
end Go.Proofs.YtoehlmiadiiimaaGreatDoor

namespace Go.Proofs.YtoehlmiadiiimaaGreatDoor
open Go.ChangeShapes Go.WideShapes Go.RowKit Go.Proofs.YtoehlmiadiiimaaGreatDoor.Ex
noncomputable def rest35:Code:=sndC (sndC (sndC (sndC (sndC (sndC (Tryz.f35.body.getD .skip))))))
structure GoH (cs:Array Value) (r:Rn) (w:World) (i:Ins) (x y:Int) (nm:ByteArray) (n:Nat) (f:Int) : Prop where
 hn:n≤4
 h1:i.s1 < 32
 h2:i.s2 < 32
 h3:i.rd < 32
 hs:Hid (cs.size=37)
 HC:Hid (∃ mv tv,cs=(mcells r mv tv).toArray∧True)
 hall:cs.all (·.oneCell')=true
 h0:cs[0]?=some (.int .u64 r.pc)
 h36:cs[36]?=some (.bool false)
 hx:cs[1+i.s1]?=some (.int .u64 x)
 hy:cs[1+i.s2]?=some (.int .u64 y)
 H46:∀ W,Below w.heap.size w W→Hid (Calls Tryz.prog 46 #[.agg cs] W (NextD W i n true))
 H12:∀ W,Below w.heap.size w W→Hid (Calls Tryz.prog 12 #[.agg cs] W (TwinPost W r))
 H47:∀ W,Hid (Calls Tryz.prog 47 #[.int .u8 i.op] W fun e W'=>e=.returned (.tuple #[.string nm,.int .i64 0])∧Below W.heap.size W W')
 H48:∀ W,Hid (Calls Tryz.prog 48 #[.int .u8 i.op] W fun e W'=>e=.returned (.tuple #[.int .u8 f,.int .i64 0])∧Below W.heap.size W W')
theorem GoH.sz {cs:Array Value} {r:Rn} {w:World} {i:Ins} {x y:Int} {nm:ByteArray} {n:Nat} {f:Int} (G:GoH cs r w i x y nm n f) : (Tryz.prog.info? 27).map (·.size)=some cs.size:=by rw [G.hs.out]; exact info27
set_option maxRecDepth 100000 in
set_option maxHeartbeats 4000000 in
theorem goD_pre {cs:Array Value} {r:Rn} {w:World} {i:Ins} {x y:Int} {nm:ByteArray} {n:Nat} {f:Int} {Q:Ending→World→Prop} (G:GoH cs r w i x y nm n f)
  (rest:∀ (w5:World) (b1 b2:Nat) (mv2 tv2:Value) (Z ca:Array Value) (K:Act→World→Prop),(∀ a W,(sndC rest35).wp Tryz.prog (bodyPost Tryz.prog Tryz.f35 Q) a W→K a W) →
    r.regs.length=32→OutW (b1+1) w5 b2 r mv2 tv2→Hid ((mcells r mv2 tv2).toArray=ca)→Blk w5 w.heap.size 27 cs→Blk w5 (w.heap.size+1) 27 Z→Hid (Z.size=37)→Blk w5 b1 57 #[.int .u8 i.op,.int .i64 i.rd,.int .i64 i.s1,.int .i64 i.s2,.int .i64 i.imm]→Hid (Below w.heap.size w w5)→w.heap.size+2≤b1→b1+1≤b2→b2 < w5.heap.size →
    ¬ w.heap.size=b2→¬ b1=b2→¬ b2=w.heap.size→¬ b2=b1 →
    w5.cell? ⟨b1,1,none⟩=some (.int .i64 i.rd)→w5.cell? ⟨b1,2,none⟩=some (.int .i64 i.s1)→w5.cell? ⟨b1,3,none⟩=some (.int .i64 i.s2)→w5.cell? ⟨b1,4,none⟩=some (.int .i64 i.imm) →
    w5.cell? ⟨w.heap.size,0,none⟩=some (.int .u64 r.pc)→w5.cell? ⟨w.heap.size,1+i.s1,none⟩=some (.int .u64 x)→w5.cell? ⟨w.heap.size,1+i.s2,none⟩=some (.int .u64 y)→w5.cell? ⟨b2,0,none⟩=some (.int .u64 r.pc)→w5.frozen? ⟨b2,0,none⟩=false →
    (fstC rest35).wp Tryz.prog (Exit.then K (bodyPost Tryz.prog Tryz.f35 Q)) { tmps:=#[.agg cs,.pointer (some ⟨w.heap.size,0,none⟩),.pointer (some ⟨w.heap.size+1,0,none⟩),.bool false,.pointer (some ⟨b1,0,none⟩),.int .i64 n,.bool true,.pointer (some ⟨b2,0,none⟩),.string nm,.int .i64 0,.int .u8 f,.int .i64 0,undef,undef,undef,undef,undef,undef,undef,undef,undef,.tuple #[i.v,.int .i64 n,.bool true],.agg cs,.tuple #[i.v,.int .i64 n,.bool true],i.v,.int .i64 n,.bool true,.bool true,.bool false,.bool false,.pointer (some ⟨w.heap.size,36,none⟩),.bool false,.bool false,undef,.agg cs,.agg ca,.tuple #[.string nm,.int .i64 0],.pointer (some ⟨b1,0,none⟩),.int .u8 i.op,.tuple #[.string nm,.int .i64 0],.string nm,.int .i64 0,.tuple #[.int .u8 f,.int .i64 0],.pointer (some ⟨b1,0,none⟩),.int .u8 i.op,.tuple #[.int .u8 f,.int .i64 0],.int .u8 f,.int .i64 0,undef,undef,undef,undef,undef,undef,undef,undef,undef,undef,undef,undef,undef,undef,undef,undef,undef,undef,undef,undef,undef,undef,undef,undef,undef,undef,undef,undef,undef,undef,undef,undef,undef,undef,undef,undef,undef,undef,undef,undef,undef,undef,undef,undef,undef,undef,undef,undef,undef,undef,undef,undef,undef,undef,undef,undef,undef,undef,undef,undef,undef,undef,undef,undef,undef,undef,undef,undef,undef,undef,undef,undef,undef,undef,undef,undef,undef,undef,undef,undef,undef,undef,undef,undef,undef,undef,undef,undef,undef,undef,undef,undef,undef,undef,undef,undef,undef,undef,undef,undef,undef,undef,undef,undef,undef,undef,undef,undef,undef,undef,undef,undef,undef,undef,undef,undef,undef,undef,undef,undef,undef,undef,undef,undef,undef,undef,undef,undef,undef,undef,undef,undef,undef,undef,undef,undef,undef,undef,undef,undef,undef,undef,undef,undef,undef,undef,undef,undef,undef,undef,undef,undef,undef,undef,undef,undef,undef,undef,undef,undef,undef,undef,undef,undef,undef,undef,undef,undef,undef,undef,undef,undef,undef,undef,undef],defers:=[] } w5) : Calls Tryz.prog 35 #[.agg cs] w Q:=by
 have h0:=G.h0
 have h36:=G.h36
 have hx:=G.hx
 have hy:=G.hy
 have hs:=G.hs
 have HR:=Lib.hid rest
 have HXY:=Lib.hid (And.intro h0 (And.intro hx hy))
 clear rest h0 hx hy
 obtain ⟨mv,tv,hcs,hown⟩:=G.HC.out
 have hsz:(Tryz.prog.info? 27).map (·.size)=some cs.size:=by rw [hs.out]; exact info27
 clear hcs hown
 go_enter Tryz.func35,Tryz.ntmps35
 go_wp2_with (refine wpList_load_row rfl 27 (.tmp 1) rfl w.heap.size rfl 27 cs (0,0) _ (heap_alloc2_old w _ _) Tryz.underlying27 rfl hsz ?_)
 refine (G.H46 _ (((Below.refl _ _).alloc (Nat.le_refl _) _).alloc (by simp) _)).out.mono ?_
 rintro e w1 ⟨rfl,hb1⟩
 have D1:=(show Blk _ _ _ _ from heap_alloc2_old w _ _).below hb1 (by simp; omega)
 have E1:∃ Z,Blk w1 (w.heap.size+1) 27 Z∧Hid (Z.size=37):=⟨_,(show Blk _ _ _ _ from heap_alloc2_new w _ _).below hb1 (by simp),Lib.hid rfl⟩
 obtain ⟨Z,E1,hZ⟩:=E1
 have HB1:=Lib.hid ((((Below.refl _ _).alloc (Nat.le_refl _) _).alloc (by simp) _).trans (hb1.mono (by simp; omega)) : Below w.heap.size w w1)
 have hz1:w.heap.size+2≤w1.heap.size:=by have:=hb1.size; simpa using this
 clear hb1
 have J1:=Blk.new w1 57 #[.int .u8 i.op,.int .i64 i.rd,.int .i64 i.s1,.int .i64 i.s2,.int .i64 i.imm]
 have D2:=D1.alloc (.cells #[.int .u8 i.op,.int .i64 i.rd,.int .i64 i.s1,.int .i64 i.s2,.int .i64 i.imm] 57)
 have E2:=E1.alloc (.cells #[.int .u8 i.op,.int .i64 i.rd,.int .i64 i.s1,.int .i64 i.s2,.int .i64 i.imm] 57)
 have d36:=(D2.cell 36).trans h36
 clear D1 E1
 go_wp2_with (refine wpList_load_row rfl 27 (.tmp 1) rfl w.heap.size rfl 27 cs (0,0) _ D2 Tryz.underlying27 rfl hsz ?_)
 refine (G.H12 _ (HB1.out.alloc (by omega) _)).out.mono ?_
 intro e w2 htp
 obtain ⟨v2,rfl,ho2,hb2⟩:=htp
 have hz2:w1.heap.size+1≤w2.heap.size:=by have:=hb2.size; simpa using this
 obtain ⟨mv2,tv2,rfl,hm2,ht2⟩:=ho2.form
 have hm2:w2.ownsRow (w1.heap.size+1) 5 1 mv2 r.mem.length (r.mem.map (.int .u8)):=by simpa using hm2
 have ht2:w2.ownsRow (w1.heap.size+1) 22 1 tv2 r.told.length (r.told.map (.int .u64)):=by simpa using ht2
 have ho2:MachO (w1.heap.size+1) w2 (.agg (mcells r mv2 tv2).toArray) r:=⟨ho2.len,mv2,tv2,rfl,hm2,ht2⟩
 have hlen:=ho2.len
 have h2sz:(Tryz.prog.info? 27).map (·.size)=some (mcells r mv2 tv2).toArray.size:=by rw [mc_size hlen]; exact info27
 have h2s:=Lib.hid (mc_size (r:=r) (mv:=mv2) (tv:=tv2) hlen)
 have h2one:=mc_one (r:=r) (own_one hm2) (own_one ht2)
 have D3:=D2.below hb2 D2.lt
 have E3:=E2.below hb2 E2.lt
 have J3:=J1.below hb2 J1.lt
 have HB2:=Lib.hid ((HB1.out.alloc (by omega) _).trans (hb2.mono (by simp; omega)) : Below w.heap.size w w2)
 clear hb2 D2 E2 J1 d36 HB1
 have O3:=fun z=>OutW.made (z:=z) ho2 hm2 ht2 hz2
 clear ho2 hm2 ht2
 generalize hca:(mcells r mv2 tv2).toArray=ca at *
 have HCA:=Lib.hid hca
 clear hca
 go_wp2_with (first
  | (refine wpList_store_row rfl 27 (.tmp 7) (.tmp 35) rfl w2.heap.size ca rfl rfl 27 _ (heap_alloc_new w2 _) h2sz (by rw [h2s.out]; rfl) h2one ?_
     generalize hW:World.setRow _ _ _=w3
     have O4:OutW (w1.heap.size+1) w3 w2.heap.size r mv2 tv2:=by rw [← hW]; exact O3 _
     have D4:Blk w3 w.heap.size 27 cs:=by rw [← hW]; exact (setRow_other _ _ _ _ (by omega)).trans (D3.alloc _)
     have E4:Blk w3 (w.heap.size+1) 27 Z:=by rw [← hW]; exact (setRow_other _ _ _ _ (by omega)).trans (E3.alloc _)
     have J4:Blk w3 w1.heap.size 57 #[.int .u8 i.op,.int .i64 i.rd,.int .i64 i.s1,.int .i64 i.s2,.int .i64 i.imm]:=by rw [← hW]; exact (setRow_other _ _ _ _ (by omega)).trans (J3.alloc _)
     have HB3:Hid (Below w.heap.size w w3):=Lib.hid (by rw [← hW]; exact below_setRow (HB2.out.alloc (by omega) _) (by omega) _)
     have hz3:w2.heap.size < w3.heap.size:=O4.blk.lt
     have j0:=J4.cell 0
     clear hW O3 D3 E3 J3 HB2))
 refine (G.H47 _).out.mono ?_
 rintro e w4 ⟨rfl,hb4⟩
 have O5:=O4.below hb4
 have D5:=D4.below hb4 D4.lt
 have E5:=E4.below hb4 E4.lt
 have J5:=J4.below hb4 J4.lt
 have HB4:=Lib.hid (HB3.out.trans (hb4.mono HB3.out.size))
 have j0':=J5.cell 0
 clear hb4 O4 D4 E4 J4 HB3 j0
 go_wp2_with fail
 refine (G.H48 _).out.mono ?_
 rintro e w5 ⟨rfl,hb5⟩
 have O6:=O5.below hb5
 have D6:=D5.below hb5 D5.lt
 have E6:=E5.below hb5 E5.lt
 have J6:=J5.below hb5 J5.lt
 have HB5:=Lib.hid (HB4.out.trans (hb5.mono HB4.out.size))
 have lg:w2.heap.size < w5.heap.size:=O6.blk.lt
 go_upto_region 7 with fail
 exact HR.out w5 w1.heap.size w2.heap.size mv2 tv2 Z ca _ (by assumption) hlen O6 HCA D6 E6 hZ J6 HB5 hz1 hz2 lg (by omega) (by omega) (by omega) (by omega) (J6.cell 1) (J6.cell 2) (J6.cell 3) (J6.cell 4) ((D6.cell 0).trans HXY.out.1) ((D6.cell (1+i.s1)).trans HXY.out.2.1) ((D6.cell (1+i.s2)).trans HXY.out.2.2) (O6.blk.cell 0) (O6.fz 0)
end Go.Proofs.YtoehlmiadiiimaaGreatDoor

