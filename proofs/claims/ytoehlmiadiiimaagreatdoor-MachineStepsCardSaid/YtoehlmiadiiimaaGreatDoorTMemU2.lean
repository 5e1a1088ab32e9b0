import Derived.Test.YtoehlmiadiiimaaGreatDoorTMemU1
import Derived.Deep.Cut
/-
  The machine, as the document has it: the way to what plain makes of two numbers.
-/
namespace Go.Proofs.YtoehlmiadiiimaaGreatDoor
open Go.ChangeShapes Go.WideShapes Go.RowKit
def fstC:Code→Code
 | .seq a _=>a
 | c=>c
def sndC:Code→Code
 | .seq _ b=>b
 | c=>c
noncomputable def rest54:Code:=sndC (sndC (sndC (sndC (sndC (Tryz.f54.body.getD .skip)))))
theorem nar32_bd (x:Int) : 0≤nar32 x∧nar32 x < B64:=by
 unfold nar32 B64
 rw [IntKind.wrap_u64]
 omega
set_option maxRecDepth 100000 in
set_option maxHeartbeats 1000000 in
theorem plainP (nm:ByteArray) (x y:Int) (w:World) (hx:0≤x) (hx1:x < B64) (hy:0≤y) (hy1:y < B64) (Q:Ending→World→Prop)
  (rest:∀ (W:World) (K1 K:Act→World→Prop),(∀ a W,(sndC rest54).wp Tryz.prog (bodyPost Tryz.prog Tryz.f54 Q) a W→K1 a W)→(∀ a W,(sndC (fstC rest54)).wp Tryz.prog (Exit.then K1 (bodyPost Tryz.prog Tryz.f54 Q)) a W→K a W)→Below w.heap.size w W →
    (fstC (fstC rest54)).wp Tryz.prog (Exit.then K (Exit.then K1 (bodyPost Tryz.prog Tryz.f54 Q))) { tmps:=#[.string nm,.int .u64 x,.int .u64 y,undef,undef,undef,.int .u64 0,.bool false,.int .u64 (divS x y).1,.int .u64 (divS x y).2,.int .u64 (divU x y).1,.int .u64 (divU x y).2,.int .u64 (divS (nar32 x) (nar32 y)).1,.int .u64 (divS (nar32 x) (nar32 y)).2,.int .u64 (divU (x % 4294967296) (y % 4294967296)).1,.int .u64 (divU (x % 4294967296) (y % 4294967296)).2,undef,undef,.tuple #[.int .u64 (divS x y).1,.int .u64 (divS x y).2],.int .u64 x,.int .u64 y,.tuple #[.int .u64 (divS x y).1,.int .u64 (divS x y).2],.int .u64 (divS x y).1,.int .u64 (divS x y).2,.tuple #[.int .u64 (divU x y).1,.int .u64 (divU x y).2],.int .u64 x,.int .u64 y,.tuple #[.int .u64 (divU x y).1,.int .u64 (divU x y).2],.int .u64 (divU x y).1,.int .u64 (divU x y).2,.tuple #[.int .u64 (divS (nar32 x) (nar32 y)).1,.int .u64 (divS (nar32 x) (nar32 y)).2],.int .u64 x,.int .u64 (nar32 x),.int .u64 y,.int .u64 (nar32 y),.tuple #[.int .u64 (divS (nar32 x) (nar32 y)).1,.int .u64 (divS (nar32 x) (nar32 y)).2],.int .u64 (divS (nar32 x) (nar32 y)).1,.int .u64 (divS (nar32 x) (nar32 y)).2,.tuple #[.int .u64 (divU (x % 4294967296) (y % 4294967296)).1,.int .u64 (divU (x % 4294967296) (y % 4294967296)).2],.int .u64 x,.int .u64 (x % 4294967296),.int .u64 y,.int .u64 (y % 4294967296),.tuple #[.int .u64 (divU (x % 4294967296) (y % 4294967296)).1,.int .u64 (divU (x % 4294967296) (y % 4294967296)).2],.int .u64 (divU (x % 4294967296) (y % 4294967296)).1,.int .u64 (divU (x % 4294967296) (y % 4294967296)).2,undef,undef,undef,undef,undef,undef,undef,undef,undef,undef,undef,undef,undef,undef,undef,undef,undef,undef,undef,undef,undef,undef,undef,undef,undef,undef,undef,undef,undef,undef,undef,undef,undef,undef,undef,undef,undef,undef,undef,undef,undef,undef,undef,undef,undef,undef,undef,undef,undef,undef,undef,undef,undef,undef,undef,undef,undef,undef,undef,undef,undef,undef,undef,undef,undef,undef,undef,undef,undef,undef,undef,undef,undef,undef,undef,undef,undef,undef,undef,undef,undef,undef,undef,undef,undef,undef,undef,undef,undef,undef,undef,undef,undef,undef,undef,undef,undef,undef,undef,undef,undef,undef,undef,undef,undef,undef,undef,undef,undef,undef,undef,undef,undef,undef,undef,undef,undef,undef,undef,undef,undef,undef,undef,undef,undef,undef,undef,undef,undef,undef,undef,undef,undef,undef,undef,undef,undef,undef,undef,undef,undef,undef,undef,undef,undef,undef,undef,undef,undef,undef,undef,undef,undef],defers:=[] } W) : Calls Tryz.prog 54 #[.string nm,.int .u64 x,.int .u64 y] w Q:=by
 have HR:=Lib.hid rest
 clear rest
 obtain ⟨nx,nx1⟩:=nar32_bd x
 obtain ⟨ny,ny1⟩:=nar32_bd y
 have D1:=divs_c x y hx hx1 hy hy1
 have D2:=divu_c x y hx hx1 hy
 have D3:=divs_c (nar32 x) (nar32 y) nx nx1 ny ny1
 have D4:=divu_c (x % 4294967296) (y % 4294967296) (by omega) (by unfold B64; omega) (by omega)
 have X1:=cut32_c x hx
 have Y1:=cut32_c y hy
 have hb:=Below.refl w.heap.size w
 go_enter Tryz.func54,Tryz.ntmps54
 go_wp2_with fail
 refine (D1 _).mono ?_
 rintro e w0 ⟨rfl,hb1⟩
 replace hb:=hb.trans (hb1.mono hb.size); clear hb1 D1
 go_wp2_with fail
 refine (D2 _).mono ?_
 rintro e w1 ⟨rfl,hb1⟩
 replace hb:=hb.trans (hb1.mono hb.size); clear hb1 D2
 go_wp2_with fail
 refine (X1 _).mono ?_
 rintro e w2 ⟨rfl,rfl⟩
 go_wp2_with fail
 refine (Y1 _).mono ?_
 rintro e w3 ⟨rfl,rfl⟩
 go_wp2_with fail
 refine (D3 _).mono ?_
 rintro e w4 ⟨rfl,hb1⟩
 replace hb:=hb.trans (hb1.mono hb.size); clear hb1 D3
 go_wp2_with fail
 refine (D4 _).mono ?_
 rintro e w5 ⟨rfl,hb1⟩
 replace hb:=hb.trans (hb1.mono hb.size); clear hb1 D4
 go_upto_region 5 with fail
 exact HR.out _ _ _ (by assumption) (by assumption) hb
end Go.Proofs.YtoehlmiadiiimaaGreatDoor

/-
  The machine, as the document has it: what plain makes of two numbers, name by name.
-/
set_option maxRecDepth 100000
set_option maxHeartbeats 1000000
namespace Go.Proofs.YtoehlmiadiiimaaGreatDoor
open Go.ChangeShapes Go.WideShapes Go.RowKit
theorem plainP_add (x y:Int) (w:World) (hx:0≤x) (hx1:x < B64) (hy:0≤y) (hy1:y < B64) : Calls Tryz.prog 54 #[.string ⟨#[97,100,100]⟩,.int .u64 x,.int .u64 y] w (TwoPost (IntKind.u64.wrap (x+y)) w):=by
 refine plainP _ x y w hx hx1 hy hy1 _ fun W K1 K hK1 hK hb=>?_
 change Code.wp _ (.region 5 _ _) _ _ _
 change ∀ a W,Code.wp _ _ _ _ _→_ at hK1
 change ∀ a W,Code.wp _ (.block _ _) _ _ _→_ at hK
 go_wp2_with fail
 go_ret2
 exact ⟨rfl,hb⟩
theorem plainP_sub (x y:Int) (w:World) (hx:0≤x) (hx1:x < B64) (hy:0≤y) (hy1:y < B64) : Calls Tryz.prog 54 #[.string ⟨#[115,117,98]⟩,.int .u64 x,.int .u64 y] w (TwoPost (IntKind.u64.wrap (x - y)) w):=by
 refine plainP _ x y w hx hx1 hy hy1 _ fun W K1 K hK1 hK hb=>?_
 change Code.wp _ (.region 5 _ _) _ _ _
 change ∀ a W,Code.wp _ _ _ _ _→_ at hK1
 change ∀ a W,Code.wp _ (.block _ _) _ _ _→_ at hK
 go_wp2_with fail
 go_ret2
 exact ⟨rfl,hb⟩
theorem plainP_sll (x y:Int) (w:World) (hx:0≤x) (hx1:x < B64) (hy:0≤y) (hy1:y < B64) : Calls Tryz.prog 54 #[.string ⟨#[115,108,108]⟩,.int .u64 x,.int .u64 y] w (TwoPost (IntKind.u64.wrap (x*2 ^ (y.toNat % 64))) w):=by
 have hs:y % 64=((y.toNat % 64:Nat) : Int):=by omega
 have hs1:y.toNat % 64≤63:=by omega
 generalize y.toNat % 64=sh at *
 refine plainP _ x y w hx hx1 hy hy1 _ fun W K1 K hK1 hK hb=>?_
 change Code.wp _ (.region 5 _ _) _ _ _
 change ∀ a W,Code.wp _ _ _ _ _→_ at hK1
 change ∀ a W,Code.wp _ (.block _ _) _ _ _→_ at hK
 go_wp2_with fail
 go_ret2
 exact ⟨rfl,hb⟩
theorem plainP_slt (x y:Int) (w:World) (hx:0≤x) (hx1:x < B64) (hy:0≤y) (hy1:y < B64) : Calls Tryz.prog 54 #[.string ⟨#[115,108,116]⟩,.int .u64 x,.int .u64 y] w (TwoPost (if wrap64 x < wrap64 y then 1 else 0) w):=by
 have X1:=cut32_c x hx
 have Y1:=cut32_c y hy
 have L:=less_raw x y
 rw [less_eq] at L
 by_cases h:wrap64 x < wrap64 y
 ·rw [if_pos h]
  have hd:decide (wrap64 x < wrap64 y)=true:=decide_eq_true h
  rw [hd] at L
  clear h
  refine plainP _ x y w hx hx1 hy hy1 _ fun W K1 K hK1 hK hb=>?_
  change Code.wp _ (.region 5 _ _) _ _ _
  change ∀ a W,Code.wp _ _ _ _ _→_ at hK1
  change ∀ a W,Code.wp _ (.block _ _) _ _ _→_ at hK
  go_wp2_with (first | (go_at_call 79; refine (truthR _ _).mono ?_; rintro e w' ⟨rfl,rfl⟩) | (go_at_call 77; refine (L _).mono ?_; rintro e w' ⟨rfl,rfl⟩))
  go_ret2
  exact ⟨rfl,hb⟩
 ·rw [if_neg h]
  have hd:decide (wrap64 x < wrap64 y)=false:=decide_eq_false h
  rw [hd] at L
  clear h
  refine plainP _ x y w hx hx1 hy hy1 _ fun W K1 K hK1 hK hb=>?_
  change Code.wp _ (.region 5 _ _) _ _ _
  change ∀ a W,Code.wp _ _ _ _ _→_ at hK1
  change ∀ a W,Code.wp _ (.block _ _) _ _ _→_ at hK
  go_wp2_with (first | (go_at_call 79; refine (truthR _ _).mono ?_; rintro e w' ⟨rfl,rfl⟩) | (go_at_call 77; refine (L _).mono ?_; rintro e w' ⟨rfl,rfl⟩))
  go_ret2
  exact ⟨rfl,hb⟩
theorem plainP_sltu (x y:Int) (w:World) (hx:0≤x) (hx1:x < B64) (hy:0≤y) (hy1:y < B64) : Calls Tryz.prog 54 #[.string ⟨#[115,108,116,117]⟩,.int .u64 x,.int .u64 y] w (TwoPost (if x < y then 1 else 0) w):=by
 have X1:=cut32_c x hx
 have Y1:=cut32_c y hy
 by_cases h:x < y
 ·rw [if_pos h]
  have hd:decide (x < y)=true:=decide_eq_true h
  clear h
  refine plainP _ x y w hx hx1 hy hy1 _ fun W K1 K hK1 hK hb=>?_
  change Code.wp _ (.region 5 _ _) _ _ _
  change ∀ a W,Code.wp _ _ _ _ _→_ at hK1
  change ∀ a W,Code.wp _ (.block _ _) _ _ _→_ at hK
  go_wp2_with (first | (go_at_call 79; refine (truthR _ _).mono ?_; rintro e w' ⟨rfl,rfl⟩))
  go_ret2
  exact ⟨rfl,hb⟩
 ·rw [if_neg h]
  have hd:decide (x < y)=false:=decide_eq_false h
  refine plainP _ x y w hx hx1 hy hy1 _ fun W K1 K hK1 hK hb=>?_
  change Code.wp _ (.region 5 _ _) _ _ _
  change ∀ a W,Code.wp _ _ _ _ _→_ at hK1
  change ∀ a W,Code.wp _ (.block _ _) _ _ _→_ at hK
  go_wp2_with (first | (go_at_call 79; refine (truthR _ _).mono ?_; rintro e w' ⟨rfl,rfl⟩))
  go_ret2
  exact ⟨rfl,hb⟩
theorem plainP_xor (x y:Int) (w:World) (hx:0≤x) (hx1:x < B64) (hy:0≤y) (hy1:y < B64) : Calls Tryz.prog 54 #[.string ⟨#[120,111,114]⟩,.int .u64 x,.int .u64 y] w (TwoPost (IntKind.u64.wrap (bits .or .u64 x y - bits .and .u64 x y)) w):=by
 refine plainP _ x y w hx hx1 hy hy1 _ fun W K1 K hK1 hK hb=>?_
 change Code.wp _ (.region 5 _ _) _ _ _
 change ∀ a W,Code.wp _ _ _ _ _→_ at hK1
 change ∀ a W,Code.wp _ (.block _ _) _ _ _→_ at hK
 go_wp2_with fail
 go_ret2
 exact ⟨rfl,hb⟩
theorem plainP_srl (x y:Int) (w:World) (hx:0≤x) (hx1:x < B64) (hy:0≤y) (hy1:y < B64) : Calls Tryz.prog 54 #[.string ⟨#[115,114,108]⟩,.int .u64 x,.int .u64 y] w (TwoPost (x / 2 ^ (y.toNat % 64)) w):=by
 have hs:y % 64=((y.toNat % 64:Nat) : Int):=by omega
 have hs1:y.toNat % 64≤63:=by omega
 generalize y.toNat % 64=sh at *
 refine plainP _ x y w hx hx1 hy hy1 _ fun W K1 K hK1 hK hb=>?_
 change Code.wp _ (.region 5 _ _) _ _ _
 change ∀ a W,Code.wp _ _ _ _ _→_ at hK1
 change ∀ a W,Code.wp _ (.block _ _) _ _ _→_ at hK
 go_wp2_with fail
 go_ret2
 exact ⟨rfl,hb⟩
theorem plainP_sra (x y:Int) (w:World) (hx:0≤x) (hx1:x < B64) (hy:0≤y) (hy1:y < B64) : Calls Tryz.prog 54 #[.string ⟨#[115,114,97]⟩,.int .u64 x,.int .u64 y] w (TwoPost (shiftF (y.toNat % 64) x) w):=by
 have hs:y % 64=((y.toNat % 64:Nat) : Int):=by omega
 have hs1:y.toNat % 64≤63:=by omega
 have SH:=shift_c x (y.toNat % 64) hx hx1 (by omega)
 generalize y.toNat % 64=sh at *
 refine plainP _ x y w hx hx1 hy hy1 _ fun W K1 K hK1 hK hb=>?_
 change Code.wp _ (.region 5 _ _) _ _ _
 change ∀ a W,Code.wp _ _ _ _ _→_ at hK1
 change ∀ a W,Code.wp _ (.block _ _) _ _ _→_ at hK
 go_wp2_with (first | (go_at_call 80; refine (SH _).mono ?_; rintro e w' ⟨rfl,rfl⟩))
 go_ret2
 exact ⟨rfl,hb⟩
theorem plainP_or (x y:Int) (w:World) (hx:0≤x) (hx1:x < B64) (hy:0≤y) (hy1:y < B64) : Calls Tryz.prog 54 #[.string ⟨#[111,114]⟩,.int .u64 x,.int .u64 y] w (TwoPost (bits .or .u64 x y) w):=by
 refine plainP _ x y w hx hx1 hy hy1 _ fun W K1 K hK1 hK hb=>?_
 change Code.wp _ (.region 5 _ _) _ _ _
 change ∀ a W,Code.wp _ _ _ _ _→_ at hK1
 change ∀ a W,Code.wp _ (.block _ _) _ _ _→_ at hK
 go_wp2_with fail
 go_ret2
 exact ⟨rfl,hb⟩
theorem plainP_and (x y:Int) (w:World) (hx:0≤x) (hx1:x < B64) (hy:0≤y) (hy1:y < B64) : Calls Tryz.prog 54 #[.string ⟨#[97,110,100]⟩,.int .u64 x,.int .u64 y] w (TwoPost (bits .and .u64 x y) w):=by
 refine plainP _ x y w hx hx1 hy hy1 _ fun W K1 K hK1 hK hb=>?_
 change Code.wp _ (.region 5 _ _) _ _ _
 change ∀ a W,Code.wp _ _ _ _ _→_ at hK1
 change ∀ a W,Code.wp _ (.block _ _) _ _ _→_ at hK
 go_wp2_with fail
 go_ret2
 exact ⟨rfl,hb⟩
theorem plainP_addw (x y:Int) (w:World) (hx:0≤x) (hx1:x < B64) (hy:0≤y) (hy1:y < B64) : Calls Tryz.prog 54 #[.string ⟨#[97,100,100,119]⟩,.int .u64 x,.int .u64 y] w (TwoPost (nar32 (IntKind.u64.wrap (x+y))) w):=by
 have C1:=cut32_c (IntKind.u64.wrap (x+y)) (u64_wrap_bd _).1
 refine plainP _ x y w hx hx1 hy hy1 _ fun W K1 K hK1 hK hb=>?_
 change Code.wp _ (.region 5 _ _) _ _ _
 change ∀ a W,Code.wp _ _ _ _ _→_ at hK1
 change ∀ a W,Code.wp _ (.block _ _) _ _ _→_ at hK
 go_wp2_with (first | (go_at_call 49; refine (C1 _).mono ?_; rintro e w' ⟨rfl,rfl⟩))
 go_ret2
 exact ⟨rfl,hb⟩
theorem plainP_subw (x y:Int) (w:World) (hx:0≤x) (hx1:x < B64) (hy:0≤y) (hy1:y < B64) : Calls Tryz.prog 54 #[.string ⟨#[115,117,98,119]⟩,.int .u64 x,.int .u64 y] w (TwoPost (nar32 (IntKind.u64.wrap (x - y))) w):=by
 have C1:=cut32_c (IntKind.u64.wrap (x - y)) (u64_wrap_bd _).1
 refine plainP _ x y w hx hx1 hy hy1 _ fun W K1 K hK1 hK hb=>?_
 change Code.wp _ (.region 5 _ _) _ _ _
 change ∀ a W,Code.wp _ _ _ _ _→_ at hK1
 change ∀ a W,Code.wp _ (.block _ _) _ _ _→_ at hK
 go_wp2_with (first | (go_at_call 49; refine (C1 _).mono ?_; rintro e w' ⟨rfl,rfl⟩))
 go_ret2
 exact ⟨rfl,hb⟩
theorem plainP_sllw (x y:Int) (w:World) (hx:0≤x) (hx1:x < B64) (hy:0≤y) (hy1:y < B64) : Calls Tryz.prog 54 #[.string ⟨#[115,108,108,119]⟩,.int .u64 x,.int .u64 y] w (TwoPost (nar32 (IntKind.u64.wrap (x*2 ^ (y.toNat % 32)))) w):=by
 have hs:y % 32=((y.toNat % 32:Nat) : Int):=by omega
 have hs1:y.toNat % 32≤31:=by omega
 have C1:=cut32_c (IntKind.u64.wrap (x*2 ^ (y.toNat % 32))) (u64_wrap_bd _).1
 generalize y.toNat % 32=sh at *
 refine plainP _ x y w hx hx1 hy hy1 _ fun W K1 K hK1 hK hb=>?_
 change Code.wp _ (.region 5 _ _) _ _ _
 change ∀ a W,Code.wp _ _ _ _ _→_ at hK1
 change ∀ a W,Code.wp _ (.block _ _) _ _ _→_ at hK
 go_wp2_with (first | (go_at_call 49; refine (C1 _).mono ?_; rintro e w' ⟨rfl,rfl⟩))
 go_ret2
 exact ⟨rfl,hb⟩
theorem plainP_srlw (x y:Int) (w:World) (hx:0≤x) (hx1:x < B64) (hy:0≤y) (hy1:y < B64) : Calls Tryz.prog 54 #[.string ⟨#[115,114,108,119]⟩,.int .u64 x,.int .u64 y] w (TwoPost (nar32 (x % 4294967296 / 2 ^ (y.toNat % 32))) w):=by
 have hs:y % 32=((y.toNat % 32:Nat) : Int):=by omega
 have hs1:y.toNat % 32≤31:=by omega
 have hq:0≤x % 4294967296 / 2 ^ (y.toNat % 32):=Int.ediv_nonneg (by omega) (Int.le_of_lt (Int.pow_pos (by decide)))
 have C1:=cut32_c _ hq
 generalize y.toNat % 32=sh at *
 refine plainP _ x y w hx hx1 hy hy1 _ fun W K1 K hK1 hK hb=>?_
 change Code.wp _ (.region 5 _ _) _ _ _
 change ∀ a W,Code.wp _ _ _ _ _→_ at hK1
 change ∀ a W,Code.wp _ (.block _ _) _ _ _→_ at hK
 go_wp2_with (first | (go_at_call 49; refine (C1 _).mono ?_; rintro e w' ⟨rfl,rfl⟩))
 go_ret2
 exact ⟨rfl,hb⟩
theorem plainP_sraw (x y:Int) (w:World) (hx:0≤x) (hx1:x < B64) (hy:0≤y) (hy1:y < B64) : Calls Tryz.prog 54 #[.string ⟨#[115,114,97,119]⟩,.int .u64 x,.int .u64 y] w (TwoPost (nar32 (shiftF (y.toNat % 32) (nar32 x))) w):=by
 obtain ⟨nx,nx1⟩:=nar32_bd x
 have X1:=cut32_c x hx
 have hs:y % 32=((y.toNat % 32:Nat) : Int):=by omega
 have hs1:y.toNat % 32≤31:=by omega
 have SH:=shift_c (nar32 x) (y.toNat % 32) nx nx1 (by omega)
 have C1:=cut32_c (shiftF (y.toNat % 32) (nar32 x)) (shiftF_bd _ nx nx1 _).1
 generalize y.toNat % 32=sh at *
 refine plainP _ x y w hx hx1 hy hy1 _ fun W K1 K hK1 hK hb=>?_
 change Code.wp _ (.region 5 _ _) _ _ _
 change ∀ a W,Code.wp _ _ _ _ _→_ at hK1
 change ∀ a W,Code.wp _ (.block _ _) _ _ _→_ at hK
 go_wp2_with fail
 refine (X1 _).mono ?_
 rintro e w6 ⟨rfl,rfl⟩
 go_wp2_with fail
 refine (SH _).mono ?_
 rintro e w6 ⟨rfl,rfl⟩
 go_wp2_with fail
 refine (C1 _).mono ?_
 rintro e w6 ⟨rfl,rfl⟩
 go_wp2_with fail
 go_ret2
 exact ⟨rfl,hb⟩
theorem plainP_mul (x y:Int) (w:World) (hx:0≤x) (hx1:x < B64) (hy:0≤y) (hy1:y < B64) : Calls Tryz.prog 54 #[.string ⟨#[109,117,108]⟩,.int .u64 x,.int .u64 y] w (TwoPost (IntKind.u64.wrap (x*y)) w):=by
 have U:=fun w=>times_c x y w hx hx1 hy hy1
 refine plainP _ x y w hx hx1 hy hy1 _ fun W K1 K hK1 hK hb=>?_
 change Code.wp _ (.region 5 _ _) _ _ _
 change ∀ a W,Code.wp _ _ _ _ _→_ at hK1
 change ∀ a W,Code.wp _ (.block _ _) _ _ _→_ at hK
 go_wp2_with (first | (go_at_call 81; refine (U _).mono ?_; rintro e w' ⟨rfl,rfl⟩))
 go_ret2
 exact ⟨rfl,hb⟩
theorem plainP_mulh (x y:Int) (w:World) (hx:0≤x) (hx1:x < B64) (hy:0≤y) (hy1:y < B64) : Calls Tryz.prog 54 #[.string ⟨#[109,117,108,104]⟩,.int .u64 x,.int .u64 y] w (TwoPost (upperF true true x y) w):=by
 have U:=upper_c true true (by simp) x y hx hx1 hy hy1
 refine plainP _ x y w hx hx1 hy hy1 _ fun W K1 K hK1 hK hb=>?_
 change Code.wp _ (.region 5 _ _) _ _ _
 change ∀ a W,Code.wp _ _ _ _ _→_ at hK1
 change ∀ a W,Code.wp _ (.block _ _) _ _ _→_ at hK
 go_wp2_with (first | (go_at_call 82; refine (U _).mono ?_; rintro e w' ⟨rfl,rfl⟩))
 go_ret2
 exact ⟨rfl,hb⟩
theorem plainP_mulhsu (x y:Int) (w:World) (hx:0≤x) (hx1:x < B64) (hy:0≤y) (hy1:y < B64) : Calls Tryz.prog 54 #[.string ⟨#[109,117,108,104,115,117]⟩,.int .u64 x,.int .u64 y] w (TwoPost (upperF true false x y) w):=by
 have U:=upper_c true false (by simp) x y hx hx1 hy hy1
 refine plainP _ x y w hx hx1 hy hy1 _ fun W K1 K hK1 hK hb=>?_
 change Code.wp _ (.region 5 _ _) _ _ _
 change ∀ a W,Code.wp _ _ _ _ _→_ at hK1
 change ∀ a W,Code.wp _ (.block _ _) _ _ _→_ at hK
 go_wp2_with (first | (go_at_call 82; refine (U _).mono ?_; rintro e w' ⟨rfl,rfl⟩))
 go_ret2
 exact ⟨rfl,hb⟩
theorem plainP_mulhu (x y:Int) (w:World) (hx:0≤x) (hx1:x < B64) (hy:0≤y) (hy1:y < B64) : Calls Tryz.prog 54 #[.string ⟨#[109,117,108,104,117]⟩,.int .u64 x,.int .u64 y] w (TwoPost (upperF false false x y) w):=by
 have U:=upper_c false false (by simp) x y hx hx1 hy hy1
 refine plainP _ x y w hx hx1 hy hy1 _ fun W K1 K hK1 hK hb=>?_
 change Code.wp _ (.region 5 _ _) _ _ _
 change ∀ a W,Code.wp _ _ _ _ _→_ at hK1
 change ∀ a W,Code.wp _ (.block _ _) _ _ _→_ at hK
 go_wp2_with (first | (go_at_call 82; refine (U _).mono ?_; rintro e w' ⟨rfl,rfl⟩))
 go_ret2
 exact ⟨rfl,hb⟩
theorem plainP_div (x y:Int) (w:World) (hx:0≤x) (hx1:x < B64) (hy:0≤y) (hy1:y < B64) : Calls Tryz.prog 54 #[.string ⟨#[100,105,118]⟩,.int .u64 x,.int .u64 y] w (TwoPost ((divS x y).1) w):=by
 refine plainP _ x y w hx hx1 hy hy1 _ fun W K1 K hK1 hK hb=>?_
 change Code.wp _ (.region 5 _ _) _ _ _
 change ∀ a W,Code.wp _ _ _ _ _→_ at hK1
 change ∀ a W,Code.wp _ (.block _ _) _ _ _→_ at hK
 go_wp2_with fail
 go_ret2
 exact ⟨rfl,hb⟩
theorem plainP_divu (x y:Int) (w:World) (hx:0≤x) (hx1:x < B64) (hy:0≤y) (hy1:y < B64) : Calls Tryz.prog 54 #[.string ⟨#[100,105,118,117]⟩,.int .u64 x,.int .u64 y] w (TwoPost ((divU x y).1) w):=by
 refine plainP _ x y w hx hx1 hy hy1 _ fun W K1 K hK1 hK hb=>?_
 change Code.wp _ (.region 5 _ _) _ _ _
 change ∀ a W,Code.wp _ _ _ _ _→_ at hK1
 change ∀ a W,Code.wp _ (.block _ _) _ _ _→_ at hK
 go_wp2_with fail
 go_ret2
 exact ⟨rfl,hb⟩
theorem plainP_rem (x y:Int) (w:World) (hx:0≤x) (hx1:x < B64) (hy:0≤y) (hy1:y < B64) : Calls Tryz.prog 54 #[.string ⟨#[114,101,109]⟩,.int .u64 x,.int .u64 y] w (TwoPost ((divS x y).2) w):=by
 refine plainP _ x y w hx hx1 hy hy1 _ fun W K1 K hK1 hK hb=>?_
 change Code.wp _ (.region 5 _ _) _ _ _
 change ∀ a W,Code.wp _ _ _ _ _→_ at hK1
 change ∀ a W,Code.wp _ (.block _ _) _ _ _→_ at hK
 go_wp2_with fail
 go_ret2
 exact ⟨rfl,hb⟩
theorem plainP_remu (x y:Int) (w:World) (hx:0≤x) (hx1:x < B64) (hy:0≤y) (hy1:y < B64) : Calls Tryz.prog 54 #[.string ⟨#[114,101,109,117]⟩,.int .u64 x,.int .u64 y] w (TwoPost ((divU x y).2) w):=by
 refine plainP _ x y w hx hx1 hy hy1 _ fun W K1 K hK1 hK hb=>?_
 change Code.wp _ (.region 5 _ _) _ _ _
 change ∀ a W,Code.wp _ _ _ _ _→_ at hK1
 change ∀ a W,Code.wp _ (.block _ _) _ _ _→_ at hK
 go_wp2_with fail
 go_ret2
 exact ⟨rfl,hb⟩
theorem plainP_mulw (x y:Int) (w:World) (hx:0≤x) (hx1:x < B64) (hy:0≤y) (hy1:y < B64) : Calls Tryz.prog 54 #[.string ⟨#[109,117,108,119]⟩,.int .u64 x,.int .u64 y] w (TwoPost (nar32 (IntKind.u64.wrap (x*y))) w):=by
 have C1:=cut32_c (IntKind.u64.wrap (x*y)) (u64_wrap_bd _).1
 refine plainP _ x y w hx hx1 hy hy1 _ fun W K1 K hK1 hK hb=>?_
 change Code.wp _ (.region 5 _ _) _ _ _
 change ∀ a W,Code.wp _ _ _ _ _→_ at hK1
 change ∀ a W,Code.wp _ (.block _ _) _ _ _→_ at hK
 go_wp2_with (first | (go_at_call 49; refine (C1 _).mono ?_; rintro e w' ⟨rfl,rfl⟩))
 go_ret2
 exact ⟨rfl,hb⟩
theorem plainP_divw (x y:Int) (w:World) (hx:0≤x) (hx1:x < B64) (hy:0≤y) (hy1:y < B64) : Calls Tryz.prog 54 #[.string ⟨#[100,105,118,119]⟩,.int .u64 x,.int .u64 y] w (TwoPost (nar32 (divS (nar32 x) (nar32 y)).1) w):=by
 obtain ⟨nx,nx1⟩:=nar32_bd x
 obtain ⟨ny,ny1⟩:=nar32_bd y
 have C1:=cut32_c (divS (nar32 x) (nar32 y)).1 (divS_bd _ _ nx nx1 ny ny1).1
 refine plainP _ x y w hx hx1 hy hy1 _ fun W K1 K hK1 hK hb=>?_
 change Code.wp _ (.region 5 _ _) _ _ _
 change ∀ a W,Code.wp _ _ _ _ _→_ at hK1
 change ∀ a W,Code.wp _ (.block _ _) _ _ _→_ at hK
 go_wp2_with (first | (go_at_call 49; refine (C1 _).mono ?_; rintro e w' ⟨rfl,rfl⟩))
 go_ret2
 exact ⟨rfl,hb⟩
theorem plainP_divuw (x y:Int) (w:World) (hx:0≤x) (hx1:x < B64) (hy:0≤y) (hy1:y < B64) : Calls Tryz.prog 54 #[.string ⟨#[100,105,118,117,119]⟩,.int .u64 x,.int .u64 y] w (TwoPost (nar32 (divU (x % 4294967296) (y % 4294967296)).1) w):=by
 have C1:=cut32_c (divU (x % 4294967296) (y % 4294967296)).1 (divU_bd (x % 4294967296) (y % 4294967296) (by omega) (by omega)).1
 refine plainP _ x y w hx hx1 hy hy1 _ fun W K1 K hK1 hK hb=>?_
 change Code.wp _ (.region 5 _ _) _ _ _
 change ∀ a W,Code.wp _ _ _ _ _→_ at hK1
 change ∀ a W,Code.wp _ (.block _ _) _ _ _→_ at hK
 go_wp2_with (first | (go_at_call 49; refine (C1 _).mono ?_; rintro e w' ⟨rfl,rfl⟩))
 go_ret2
 exact ⟨rfl,hb⟩
theorem plainP_remw (x y:Int) (w:World) (hx:0≤x) (hx1:x < B64) (hy:0≤y) (hy1:y < B64) : Calls Tryz.prog 54 #[.string ⟨#[114,101,109,119]⟩,.int .u64 x,.int .u64 y] w (TwoPost (nar32 (divS (nar32 x) (nar32 y)).2) w):=by
 obtain ⟨nx,nx1⟩:=nar32_bd x
 obtain ⟨ny,ny1⟩:=nar32_bd y
 have C1:=cut32_c (divS (nar32 x) (nar32 y)).2 (divS_bd _ _ nx nx1 ny ny1).2
 refine plainP _ x y w hx hx1 hy hy1 _ fun W K1 K hK1 hK hb=>?_
 change Code.wp _ (.region 5 _ _) _ _ _
 change ∀ a W,Code.wp _ _ _ _ _→_ at hK1
 change ∀ a W,Code.wp _ (.block _ _) _ _ _→_ at hK
 go_wp2_with (first | (go_at_call 49; refine (C1 _).mono ?_; rintro e w' ⟨rfl,rfl⟩))
 go_ret2
 exact ⟨rfl,hb⟩
theorem plainP_remuw (x y:Int) (w:World) (hx:0≤x) (hx1:x < B64) (hy:0≤y) (hy1:y < B64) : Calls Tryz.prog 54 #[.string ⟨#[114,101,109,117,119]⟩,.int .u64 x,.int .u64 y] w (TwoPost (nar32 (divU (x % 4294967296) (y % 4294967296)).2) w):=by
 have C1:=cut32_c (divU (x % 4294967296) (y % 4294967296)).2 (divU_bd (x % 4294967296) (y % 4294967296) (by omega) (by omega)).2
 refine plainP _ x y w hx hx1 hy hy1 _ fun W K1 K hK1 hK hb=>?_
 change Code.wp _ (.region 5 _ _) _ _ _
 change ∀ a W,Code.wp _ _ _ _ _→_ at hK1
 change ∀ a W,Code.wp _ (.block _ _) _ _ _→_ at hK
 go_wp2_with (first | (go_at_call 49; refine (C1 _).mono ?_; rintro e w' ⟨rfl,rfl⟩))
 go_ret2
 exact ⟨rfl,hb⟩
end Go.Proofs.YtoehlmiadiiimaaGreatDoor

