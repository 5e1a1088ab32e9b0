/-
  The machine, as the document has it: the next instruction: the walks.
-/
import Derived.Test.YtoehlmiadiiimaaGreatDoorTMemR5
set_option maxRecDepth 100000
set_option maxHeartbeats 2000000
namespace Go.Proofs.YtoehlmiadiiimaaGreatDoor
open Go.ChangeShapes Go.WideShapes Go.RowKit Go.Proofs.YtoehlmiadiiimaaGreatDoor.Ex
def NextD (w:World) (i:Ins) (n:Int) (b:Bool) (e:Ending) (w':World) : Prop:=e=.returned (.tuple #[i.v,.int .i64 n,.bool b])∧Below w.heap.size w w'
abbrev i0:Ins:=⟨0,0,0,0,0⟩
def z57:Array Value:=#[.int .u8 0,.int .i64 0,.int .i64 0,.int .i64 0,.int .i64 0]
theorem below_set5 {n b:Nat} {w w':World} (h:Below n w w') (hb:n≤b) {x0 x1 x2 x3 x4:Value} : Below n w (((((w'.setCell ⟨b,0,none⟩ x0).setCell ⟨b,1,none⟩ x1).setCell ⟨b,2,none⟩ x2).setCell ⟨b,3,none⟩ x3).setCell ⟨b,4,none⟩ x4) :=
 ((((h.setCell (p:=⟨b,0,none⟩) hb _).setCell (p:=⟨b,1,none⟩) hb _).setCell (p:=⟨b,2,none⟩) hb _).setCell (p:=⟨b,3,none⟩) hb _).setCell (p:=⟨b,4,none⟩) hb _
section
variable (cs:Array Value) (w:World) (pc:Int) (hs:Hid (cs.size=37)) (h0:cs[0]?=some (.int .u64 pc))
include hs h0
theorem nextD_off (H51:∀ W,Hid (Calls Tryz.prog 51 #[.agg cs,.int .u64 pc,.int .i64 2] W fun e W'=>e=.returned (.int .i64 (-1))∧Below W.heap.size W W')) : Calls Tryz.prog 46 #[.agg cs] w (NextD w i0 0 false):=by
 have hsz:(Tryz.prog.info? 27).map (·.size)=some cs.size:=by rw [hs.out]; exact info27
 have D1:=heap_alloc2_old w (.cells cs 27) (.cells z57 57)
 have E1:=heap_alloc2_new w (.cells cs 27) (.cells z57 57)
 have c0:=((show Blk ((w.alloc (.cells cs 27)).alloc (.cells z57 57)) w.heap.size 27 cs from D1).cell 0).trans h0
 clear h0
 unfold z57 at *
 go_enter Tryz.func46,Tryz.ntmps46
 go_wp2_with (refine wpList_load_row rfl 27 (.tmp 1) rfl w.heap.size rfl 27 cs (0,0) _ D1 Tryz.underlying27 rfl hsz ?_)
 refine (H51 _).out.mono ?_
 rintro e w1 ⟨rfl,hb1⟩
 have E2:=(show Blk _ _ _ _ from E1).below hb1 (by simp)
 have c2:∀ i,w1.cell? ⟨w.heap.size+1,i,none⟩=(#[.int .u8 0,.int .i64 0,.int .i64 0,.int .i64 0,.int .i64 0] : Array Value)[i]?:=E2.cell
 have f2:∀ i,w1.frozen? ⟨w.heap.size+1,i,none⟩=false:=E2.frozen
 have HB:=Lib.hid ((((Below.refl _ _).alloc (Nat.le_refl _) _).alloc (by simp) _).trans (hb1.mono (by simp; omega)) : Below w.heap.size w w1)
 clear hb1 E2 D1 E1 c0
 go_wp2
 try rw [Exit.noGoto_ret]
 refine bodyPost_ret (v:=.tuple #[.agg #[.int .u8 0,.int .i64 0,.int .i64 0,.int .i64 0,.int .i64 0],.int .i64 0,.bool false]) (by simp [results,Tryz.results46,go_sem,c2]) rfl ?_
 refine ⟨rfl,?_⟩
 refine below_set5 HB.out ?_
 omega
theorem nextD_odd (k:Nat) (_hk:k≤65536) (_hp:0≤pc) (hodd:(pc % 2 == 1)=true) (H51:∀ W,Hid (Calls Tryz.prog 51 #[.agg cs,.int .u64 pc,.int .i64 2] W fun e W'=>e=.returned (.int .i64 k)∧Below W.heap.size W W')) : Calls Tryz.prog 46 #[.agg cs] w (NextD w i0 0 false):=by
 have hsz:(Tryz.prog.info? 27).map (·.size)=some cs.size:=by rw [hs.out]; exact info27
 have D1:=heap_alloc2_old w (.cells cs 27) (.cells z57 57)
 have E1:=heap_alloc2_new w (.cells cs 27) (.cells z57 57)
 have c0:=((show Blk ((w.alloc (.cells cs 27)).alloc (.cells z57 57)) w.heap.size 27 cs from D1).cell 0).trans h0
 unfold z57 at *
 go_enter Tryz.func46,Tryz.ntmps46
 go_wp2_with (refine wpList_load_row rfl 27 (.tmp 1) rfl w.heap.size rfl 27 cs (0,0) _ D1 Tryz.underlying27 rfl hsz ?_)
 refine (H51 _).out.mono ?_
 rintro e w1 ⟨rfl,hb1⟩
 have D2:=(show Blk _ _ _ _ from D1).below hb1 (by simp; omega)
 have E2:=(show Blk _ _ _ _ from E1).below hb1 (by simp)
 have d0:w1.cell? ⟨w.heap.size,0,none⟩=some (.int .u64 pc):=(D2.cell 0).trans h0
 have HB1:=Lib.hid ((((Below.refl _ _).alloc (Nat.le_refl _) _).alloc (by simp) _).trans (hb1.mono (by simp; omega)) : Below w.heap.size w w1)
 have hz1:w.heap.size+2≤w1.heap.size:=by have:=hb1.size; simpa using this
 clear hb1 D1 E1 c0
 have c2:∀ i,w1.cell? ⟨w.heap.size+1,i,none⟩=(#[.int .u8 0,.int .i64 0,.int .i64 0,.int .i64 0,.int .i64 0] : Array Value)[i]?:=E2.cell
 have fc2:∀ i,w1.frozen? ⟨w.heap.size+1,i,none⟩=false:=E2.frozen
 clear E2 D2
 go_wp2
 try rw [Exit.noGoto_ret]
 refine bodyPost_ret (v:=.tuple #[.agg #[.int .u8 0,.int .i64 0,.int .i64 0,.int .i64 0,.int .i64 0],.int .i64 0,.bool false]) (by simp [results,Tryz.results46,go_sem,c2]) rfl ?_
 refine ⟨rfl,?_⟩
 refine below_set5 HB1.out ?_
 omega
theorem nextD_two (k:Nat) (_hk:k≤65536) (_hp:0≤pc) (hodd:(pc % 2 == 1)=false) (N:Int) (i:Ins) (er:Int) (H51:∀ W,Hid (Calls Tryz.prog 51 #[.agg cs,.int .u64 pc,.int .i64 2] W fun e W'=>e=.returned (.int .i64 k)∧Below W.heap.size W W')) (H53:∀ W,Below w.heap.size w W→Hid (Calls Tryz.prog 53 #[.agg cs,.int .i64 k,.int .i64 2] W fun e W'=>e=.returned (.int .u64 N)∧Below W.heap.size W W')) (H73:∀ W,Hid (Calls Tryz.prog 73 #[.int .u16 (IntKind.u16.wrap N)] W fun e W'=>e=.returned (.int .i64 2)∧W=W'))
  (H74:∀ W,Below w.heap.size w W→Hid (Calls Tryz.prog 74 #[.int .u16 (IntKind.u16.wrap N)] W fun e W'=>e=.returned (.tuple #[i.v,.int .i64 er])∧Below W.heap.size W W')) : Calls Tryz.prog 46 #[.agg cs] w (NextD w i 2 (er == 0)):=by
 have hsz:(Tryz.prog.info? 27).map (·.size)=some cs.size:=by rw [hs.out]; exact info27
 have D1:=heap_alloc2_old w (.cells cs 27) (.cells z57 57)
 have E1:=heap_alloc2_new w (.cells cs 27) (.cells z57 57)
 have c0:=((show Blk ((w.alloc (.cells cs 27)).alloc (.cells z57 57)) w.heap.size 27 cs from D1).cell 0).trans h0
 unfold z57 at *
 go_enter Tryz.func46,Tryz.ntmps46
 go_wp2_with (refine wpList_load_row rfl 27 (.tmp 1) rfl w.heap.size rfl 27 cs (0,0) _ D1 Tryz.underlying27 rfl hsz ?_)
 refine (H51 _).out.mono ?_
 rintro e w1 ⟨rfl,hb1⟩
 have D2:=(show Blk _ _ _ _ from D1).below hb1 (by simp; omega)
 have E2:=(show Blk _ _ _ _ from E1).below hb1 (by simp)
 have d0:w1.cell? ⟨w.heap.size,0,none⟩=some (.int .u64 pc):=(D2.cell 0).trans h0
 have HB1:=Lib.hid ((((Below.refl _ _).alloc (Nat.le_refl _) _).alloc (by simp) _).trans (hb1.mono (by simp; omega)) : Below w.heap.size w w1)
 have hz1:w.heap.size+2≤w1.heap.size:=by have:=hb1.size; simpa using this
 clear hb1 D1 E1 c0
 go_wp2_with (refine wpList_load_row rfl 27 (.tmp 1) rfl w.heap.size rfl 27 cs (0,0) _ D2 Tryz.underlying27 rfl hsz ?_)
 refine (H53 _ HB1.out).out.mono ?_
 rintro e w2 ⟨rfl,hb2⟩
 have D3:=D2.below hb2 (by omega)
 have E3:=E2.below hb2 (by omega)
 have e0:w2.cell? ⟨w.heap.size,0,none⟩=some (.int .u64 pc):=(D3.cell 0).trans h0
 have HB2:=Lib.hid (HB1.out.trans (hb2.mono (by omega)))
 have hz2:w.heap.size+2≤w2.heap.size:=by have:=hb2.size; omega
 clear hb2 D2 E2 d0 HB1 hz1
 go_wp2_with (go_at_call 73; refine (H73 _).out.mono ?_; rintro e w' ⟨rfl,rfl⟩)
 refine (H74 _ HB2.out).out.mono ?_
 rintro e w3 ⟨rfl,hb3⟩
 have E4:=E3.below hb3 (by omega)
 have HB3:=Lib.hid (HB2.out.trans (hb3.mono (by omega)))
 have hz3:w.heap.size+2≤w3.heap.size:=by have:=hb3.size; omega
 have c2:∀ i,w3.cell? ⟨w.heap.size+1,i,none⟩=(#[.int .u8 0,.int .i64 0,.int .i64 0,.int .i64 0,.int .i64 0] : Array Value)[i]?:=E4.cell
 have fc2:∀ i,w3.frozen? ⟨w.heap.size+1,i,none⟩=false:=E4.frozen
 have k2:∀ o i,(w3.alloc o).cell? ⟨w.heap.size+1,i,none⟩=(#[.int .u8 0,.int .i64 0,.int .i64 0,.int .i64 0,.int .i64 0] : Array Value)[i]?:=fun o i=>(World.cell?_alloc_lt w3 o _ (by show w.heap.size+1 < _; omega)).trans (c2 i)
 have k3:∀ o i,(w3.alloc o).frozen? ⟨w.heap.size+1,i,none⟩=false:=fun o i=>(World.frozen?_alloc_past _ _ _ (by show w.heap.size+1 < _; omega)).trans (fc2 i)
 have hn1:¬ w.heap.size+1=w3.heap.size:=by omega
 have hn2:¬ w3.heap.size=w.heap.size+1:=by omega
 clear hb3 E3 E4 D3 e0 hz2 HB2
 go_wp2
 try rw [Exit.noGoto_ret]
 refine bodyPost_ret (v:=.tuple #[i.v,.int .i64 2,.bool (er == 0)]) (by simp [results,Tryz.results46,go_sem,k2]) rfl ?_
 exact ⟨rfl,below_set5 (HB3.out.alloc (by omega) _) (by omega)⟩
theorem nextD_short (k:Nat) (_hk:k≤65536) (_hp:0≤pc) (hodd:(pc % 2 == 1)=false) (N:Int) (H51:∀ W,Hid (Calls Tryz.prog 51 #[.agg cs,.int .u64 pc,.int .i64 2] W fun e W'=>e=.returned (.int .i64 k)∧Below W.heap.size W W')) (H53:∀ W,Below w.heap.size w W→Hid (Calls Tryz.prog 53 #[.agg cs,.int .i64 k,.int .i64 2] W fun e W'=>e=.returned (.int .u64 N)∧Below W.heap.size W W')) (H73:∀ W,Hid (Calls Tryz.prog 73 #[.int .u16 (IntKind.u16.wrap N)] W fun e W'=>e=.returned (.int .i64 4)∧W=W')) (H51b:∀ W,Hid (Calls Tryz.prog 51 #[.agg cs,.int .u64 pc,.int .i64 4] W fun e W'=>e=.returned (.int .i64 (-1))∧Below W.heap.size W W')) : Calls Tryz.prog 46 #[.agg cs] w (NextD w i0 0 false):=by
 have hsz:(Tryz.prog.info? 27).map (·.size)=some cs.size:=by rw [hs.out]; exact info27
 have D1:=heap_alloc2_old w (.cells cs 27) (.cells z57 57)
 have E1:=heap_alloc2_new w (.cells cs 27) (.cells z57 57)
 have c0:=((show Blk ((w.alloc (.cells cs 27)).alloc (.cells z57 57)) w.heap.size 27 cs from D1).cell 0).trans h0
 unfold z57 at *
 go_enter Tryz.func46,Tryz.ntmps46
 go_wp2_with (refine wpList_load_row rfl 27 (.tmp 1) rfl w.heap.size rfl 27 cs (0,0) _ D1 Tryz.underlying27 rfl hsz ?_)
 refine (H51 _).out.mono ?_
 rintro e w1 ⟨rfl,hb1⟩
 have D2:=(show Blk _ _ _ _ from D1).below hb1 (by simp; omega)
 have E2:=(show Blk _ _ _ _ from E1).below hb1 (by simp)
 have d0:w1.cell? ⟨w.heap.size,0,none⟩=some (.int .u64 pc):=(D2.cell 0).trans h0
 have HB1:=Lib.hid ((((Below.refl _ _).alloc (Nat.le_refl _) _).alloc (by simp) _).trans (hb1.mono (by simp; omega)) : Below w.heap.size w w1)
 have hz1:w.heap.size+2≤w1.heap.size:=by have:=hb1.size; simpa using this
 clear hb1 D1 E1 c0
 go_wp2_with (refine wpList_load_row rfl 27 (.tmp 1) rfl w.heap.size rfl 27 cs (0,0) _ D2 Tryz.underlying27 rfl hsz ?_)
 refine (H53 _ HB1.out).out.mono ?_
 rintro e w2 ⟨rfl,hb2⟩
 have D3:=D2.below hb2 (by omega)
 have E3:=E2.below hb2 (by omega)
 have e0:w2.cell? ⟨w.heap.size,0,none⟩=some (.int .u64 pc):=(D3.cell 0).trans h0
 have HB2:=Lib.hid (HB1.out.trans (hb2.mono (by omega)))
 have hz2:w.heap.size+2≤w2.heap.size:=by have:=hb2.size; omega
 clear hb2 D2 E2 d0 HB1 hz1
 go_wp2_with (first
  | (go_at_call 73; refine (H73 _).out.mono ?_; rintro e w' ⟨rfl,rfl⟩)
  | (refine wpList_load_row rfl 27 (.tmp 1) rfl w.heap.size rfl 27 cs (0,0) _ D3 Tryz.underlying27 rfl hsz ?_))
 refine (H51b _).out.mono ?_
 rintro e w3 ⟨rfl,hb3⟩
 have D4:=D3.below hb3 (by omega)
 have E4:=E3.below hb3 (by omega)
 have HB3:=Lib.hid (HB2.out.trans (hb3.mono (by omega)))
 have hz3:w.heap.size+2≤w3.heap.size:=by have:=hb3.size; omega
 clear hb3 D3 E3 e0 hz2 HB2
 have c2:∀ i,w3.cell? ⟨w.heap.size+1,i,none⟩=(#[.int .u8 0,.int .i64 0,.int .i64 0,.int .i64 0,.int .i64 0] : Array Value)[i]?:=E4.cell
 have fc2:∀ i,w3.frozen? ⟨w.heap.size+1,i,none⟩=false:=E4.frozen
 clear D4 E4
 go_wp2
 try rw [Exit.noGoto_ret]
 refine bodyPost_ret (v:=.tuple #[.agg #[.int .u8 0,.int .i64 0,.int .i64 0,.int .i64 0,.int .i64 0],.int .i64 0,.bool false]) (by simp [results,Tryz.results46,go_sem,c2]) rfl ?_
 refine ⟨rfl,?_⟩
 refine below_set5 HB3.out ?_
 omega
theorem nextD_four (k:Nat) (_hk:k≤65536) (_hp:0≤pc) (hodd:(pc % 2 == 1)=false) (N:Int) (N4:Int) (i:Ins) (er:Int) (H51:∀ W,Hid (Calls Tryz.prog 51 #[.agg cs,.int .u64 pc,.int .i64 2] W fun e W'=>e=.returned (.int .i64 k)∧Below W.heap.size W W')) (H53:∀ W,Below w.heap.size w W→Hid (Calls Tryz.prog 53 #[.agg cs,.int .i64 k,.int .i64 2] W fun e W'=>e=.returned (.int .u64 N)∧Below W.heap.size W W')) (H73:∀ W,Hid (Calls Tryz.prog 73 #[.int .u16 (IntKind.u16.wrap N)] W fun e W'=>e=.returned (.int .i64 4)∧W=W')) (H51b:∀ W,Hid (Calls Tryz.prog 51 #[.agg cs,.int .u64 pc,.int .i64 4] W fun e W'=>e=.returned (.int .i64 k)∧Below W.heap.size W W')) (H53b:∀ W,Below w.heap.size w W→Hid (Calls Tryz.prog 53 #[.agg cs,.int .i64 k,.int .i64 4] W fun e W'=>e=.returned (.int .u64 N4)∧Below W.heap.size W W'))
  (H75:∀ W,Hid (Calls Tryz.prog 75 #[.int .u32 (IntKind.u32.wrap N4)] W fun e W'=>e=.returned (.tuple #[i.v,.int .i64 er])∧Below W.heap.size W W')) : Calls Tryz.prog 46 #[.agg cs] w (NextD w i 4 (er == 0)):=by
 have hsz:(Tryz.prog.info? 27).map (·.size)=some cs.size:=by rw [hs.out]; exact info27
 have D1:=heap_alloc2_old w (.cells cs 27) (.cells z57 57)
 have E1:=heap_alloc2_new w (.cells cs 27) (.cells z57 57)
 have c0:=((show Blk ((w.alloc (.cells cs 27)).alloc (.cells z57 57)) w.heap.size 27 cs from D1).cell 0).trans h0
 unfold z57 at *
 go_enter Tryz.func46,Tryz.ntmps46
 go_wp2_with (refine wpList_load_row rfl 27 (.tmp 1) rfl w.heap.size rfl 27 cs (0,0) _ D1 Tryz.underlying27 rfl hsz ?_)
 refine (H51 _).out.mono ?_
 rintro e w1 ⟨rfl,hb1⟩
 have D2:=(show Blk _ _ _ _ from D1).below hb1 (by simp; omega)
 have E2:=(show Blk _ _ _ _ from E1).below hb1 (by simp)
 have d0:w1.cell? ⟨w.heap.size,0,none⟩=some (.int .u64 pc):=(D2.cell 0).trans h0
 have HB1:=Lib.hid ((((Below.refl _ _).alloc (Nat.le_refl _) _).alloc (by simp) _).trans (hb1.mono (by simp; omega)) : Below w.heap.size w w1)
 have hz1:w.heap.size+2≤w1.heap.size:=by have:=hb1.size; simpa using this
 clear hb1 D1 E1 c0
 go_wp2_with (refine wpList_load_row rfl 27 (.tmp 1) rfl w.heap.size rfl 27 cs (0,0) _ D2 Tryz.underlying27 rfl hsz ?_)
 refine (H53 _ HB1.out).out.mono ?_
 rintro e w2 ⟨rfl,hb2⟩
 have D3:=D2.below hb2 (by omega)
 have E3:=E2.below hb2 (by omega)
 have e0:w2.cell? ⟨w.heap.size,0,none⟩=some (.int .u64 pc):=(D3.cell 0).trans h0
 have HB2:=Lib.hid (HB1.out.trans (hb2.mono (by omega)))
 have hz2:w.heap.size+2≤w2.heap.size:=by have:=hb2.size; omega
 clear hb2 D2 E2 d0 HB1 hz1
 go_wp2_with (first
  | (go_at_call 73; refine (H73 _).out.mono ?_; rintro e w' ⟨rfl,rfl⟩)
  | (refine wpList_load_row rfl 27 (.tmp 1) rfl w.heap.size rfl 27 cs (0,0) _ D3 Tryz.underlying27 rfl hsz ?_))
 refine (H51b _).out.mono ?_
 rintro e w3 ⟨rfl,hb3⟩
 have D4:=D3.below hb3 (by omega)
 have E4:=E3.below hb3 (by omega)
 have HB3:=Lib.hid (HB2.out.trans (hb3.mono (by omega)))
 have hz3:w.heap.size+2≤w3.heap.size:=by have:=hb3.size; omega
 clear hb3 D3 E3 e0 hz2 HB2
 go_wp2_with (refine wpList_load_row rfl 27 (.tmp 1) rfl w.heap.size rfl 27 cs (0,0) _ D4 Tryz.underlying27 rfl hsz ?_)
 refine (H53b _ HB3.out).out.mono ?_
 rintro e w4 ⟨rfl,hb4⟩
 have E5:=E4.below hb4 (by omega)
 have HB4:=Lib.hid (HB3.out.trans (hb4.mono (by omega)))
 have hz4:w.heap.size+2≤w4.heap.size:=by have:=hb4.size; omega
 clear hb4 D4 E4 hz3 HB3
 go_wp2_with fail
 refine (H75 _).out.mono ?_
 rintro e w5 ⟨rfl,hb5⟩
 have E6:=E5.below hb5 (by omega)
 have HB5:=Lib.hid (HB4.out.trans (hb5.mono (by omega)))
 have hz5:w.heap.size+2≤w5.heap.size:=by have:=hb5.size; omega
 have c2:∀ i,w5.cell? ⟨w.heap.size+1,i,none⟩=(#[.int .u8 0,.int .i64 0,.int .i64 0,.int .i64 0,.int .i64 0] : Array Value)[i]?:=E6.cell
 have fc2:∀ i,w5.frozen? ⟨w.heap.size+1,i,none⟩=false:=E6.frozen
 have k2:∀ o i,(w5.alloc o).cell? ⟨w.heap.size+1,i,none⟩=(#[.int .u8 0,.int .i64 0,.int .i64 0,.int .i64 0,.int .i64 0] : Array Value)[i]?:=fun o i=>(World.cell?_alloc_lt w5 o _ (by show w.heap.size+1 < _; omega)).trans (c2 i)
 have k3:∀ o i,(w5.alloc o).frozen? ⟨w.heap.size+1,i,none⟩=false:=fun o i=>(World.frozen?_alloc_past _ _ _ (by show w.heap.size+1 < _; omega)).trans (fc2 i)
 have hn1:¬ w.heap.size+1=w5.heap.size:=by omega
 have hn2:¬ w5.heap.size=w.heap.size+1:=by omega
 clear hb5 E5 E6 hz4 HB4
 go_wp2
 try rw [Exit.noGoto_ret]
 refine bodyPost_ret (v:=.tuple #[i.v,.int .i64 4,.bool (er == 0)]) (by simp [results,Tryz.results46,go_sem,k2]) rfl ?_
 exact ⟨rfl,below_set5 (HB5.out.alloc (by omega) _) (by omega)⟩
end
end Go.Proofs.YtoehlmiadiiimaaGreatDoor
