/-
  The machine, as the document has it: small functions on numbers.
-/
import Derived.Test.YtoehlmiadiiimaaGreatDoorTMemS
set_option maxRecDepth 100000
set_option maxHeartbeats 2000000
namespace Go.Proofs.YtoehlmiadiiimaaGreatDoor
open Go.ChangeShapes Go.WideShapes Go.RowKit
theorem u64_wrap_bd (x:Int) : 0≤IntKind.u64.wrap x∧IntKind.u64.wrap x < B64:=by
 unfold B64; rw [IntKind.wrap_u64]; omega
theorem less_raw (x y:Int) (w:World) : Calls Tryz.prog 77 #[.int .u64 x,.int .u64 y] w fun e w'=>e=.returned (.bool (decide (IntKind.u64.wrap (x+9223372036854775808) < IntKind.u64.wrap (y+9223372036854775808))))∧w=w':=by
 go_enter Tryz.func77,Tryz.ntmps77
 go_wp2
 go_ret
 exact ⟨rfl,rfl⟩
theorem less_eq (x y:Int) : decide (IntKind.u64.wrap (x+9223372036854775808) < IntKind.u64.wrap (y+9223372036854775808))=decide (wrap64 x < wrap64 y):=by
 rw [IntKind.wrap_u64,IntKind.wrap_u64]
 unfold wrap64
 exact decide_eq_decide.2 (by omega)
theorem truthR (b:Bool) (w:World) : Calls Tryz.prog 79 #[.bool b] w fun e w'=>e=.returned (.int .u64 (if b=true then 1 else 0))∧w=w':=by
 cases b
 ·go_enter Tryz.func79,Tryz.ntmps79
  go_wp2
  go_ret
  exact ⟨rfl,rfl⟩
 ·go_enter Tryz.func79,Tryz.ntmps79
  go_wp2
  go_ret
  exact ⟨rfl,rfl⟩
theorem below_c (x:Int) (w:World) : Calls Tryz.prog 119 #[.int .u64 x] w fun e w'=>e=.returned (.bool (decide (9223372036854775808≤x)))∧w=w':=by
 go_enter Tryz.func119,Tryz.ntmps119
 go_wp2
 go_ret
 exact ⟨rfl,rfl⟩
def sizeF (x:Int) : Int:=if 9223372036854775808≤x then IntKind.u64.wrap (-x) else x
theorem size_c (x:Int) (w:World) : Calls Tryz.prog 118 #[.int .u64 x] w fun e w'=>e=.returned (.int .u64 (sizeF x))∧w=w':=by
 unfold sizeF
 by_cases h:9223372036854775808≤x
 ·rw [if_pos h]
  have hb:=below_c x
  rw [decide_eq_true h] at hb
  have HB:=fun w=>Lib.hid (hb w)
  clear hb h
  go_enter Tryz.func118,Tryz.ntmps118
  go_wp2_with (go_at_call 119; refine (HB _).out.mono ?_; rintro e w' ⟨rfl,rfl⟩)
  go_ret
  exact ⟨rfl,rfl⟩
 ·rw [if_neg h]
  have hb:=below_c x
  rw [decide_eq_false h] at hb
  have HB:=fun w=>Lib.hid (hb w)
  clear hb h
  go_enter Tryz.func118,Tryz.ntmps118
  go_wp2_with (go_at_call 119; refine (HB _).out.mono ?_; rintro e w' ⟨rfl,rfl⟩)
  go_ret
  exact ⟨rfl,rfl⟩
def minusF (h l:Int) : Int×Int:=if l=0 then (IntKind.u64.wrap (-h),0) else (IntKind.u64.wrap (IntKind.u64.wrap (-h) - 1),IntKind.u64.wrap (-l))
theorem minus_c (h l:Int) (w:World) : Calls Tryz.prog 120 #[.int .u64 h,.int .u64 l] w fun e w'=>e=.returned (.tuple #[.int .u64 (minusF h l).1,.int .u64 (minusF h l).2])∧w=w':=by
 unfold minusF
 by_cases h0:l=0
 ·rw [if_pos h0]
  subst h0
  go_enter Tryz.func120,Tryz.ntmps120
  go_wp2
  go_ret2
  exact ⟨rfl,rfl⟩
 ·rw [if_neg h0]
  have h1:(l == 0)=false:=by simpa using h0
  clear h0
  go_enter Tryz.func120,Tryz.ntmps120
  go_wp2
  go_ret2
  exact ⟨rfl,rfl⟩
theorem wrap_i8' (x:Int) : IntKind.i8.wrap x=(x+128) % 256 - 128:=by
 simp only [IntKind.wrap,IntKind.signed,IntKind.bits]
 simp
 split <;> omega
theorem wrap_i16' (x:Int) : IntKind.i16.wrap x=(x+32768) % 65536 - 32768:=by
 simp only [IntKind.wrap,IntKind.signed,IntKind.bits]
 simp
 split <;> omega
theorem cut8_lo (x:Int) (_hx:0≤x) (h:x % 256 < 128) (w:World) : Calls Tryz.prog 49 #[.int .u64 x,.int .i64 8] w fun e w'=>e=.returned (.int .u64 (x % 256))∧w=w':=by
 go_enter Tryz.func49,Tryz.ntmps49
 go_wp2
 go_ret
 exact ⟨rfl,rfl⟩
theorem cut8_hi (x:Int) (_hx:0≤x) (h:¬ x % 256 < 128) (w:World) : Calls Tryz.prog 49 #[.int .u64 x,.int .i64 8] w fun e w'=>e=.returned (.int .u64 (IntKind.u64.wrap (x % 256 - 256)))∧w=w':=by
 go_enter Tryz.func49,Tryz.ntmps49
 go_wp2
 go_ret
 exact ⟨rfl,rfl⟩
theorem cut8_c (x:Int) (hx:0≤x) (w:World) : Calls Tryz.prog 49 #[.int .u64 x,.int .i64 8] w fun e w'=>e=.returned (.int .u64 (nar8 x))∧w=w':=by
 by_cases h:x % 256 < 128
 ·have e:nar8 x=x % 256:=by unfold nar8; simp only [IntKind.wrap_u64,wrap_i8']; unfold wrap64; omega
  rw [e]; exact cut8_lo x hx h w
 ·have e:nar8 x=IntKind.u64.wrap (x % 256 - 256):=by unfold nar8; simp only [IntKind.wrap_u64,wrap_i8']; unfold wrap64; omega
  rw [e]; exact cut8_hi x hx h w
theorem cut16_lo (x:Int) (_hx:0≤x) (h:x % 65536 < 32768) (w:World) : Calls Tryz.prog 49 #[.int .u64 x,.int .i64 16] w fun e w'=>e=.returned (.int .u64 (x % 65536))∧w=w':=by
 go_enter Tryz.func49,Tryz.ntmps49
 go_wp2
 go_ret
 exact ⟨rfl,rfl⟩
theorem cut16_hi (x:Int) (_hx:0≤x) (h:¬ x % 65536 < 32768) (w:World) : Calls Tryz.prog 49 #[.int .u64 x,.int .i64 16] w fun e w'=>e=.returned (.int .u64 (IntKind.u64.wrap (x % 65536 - 65536)))∧w=w':=by
 go_enter Tryz.func49,Tryz.ntmps49
 go_wp2
 go_ret
 exact ⟨rfl,rfl⟩
theorem cut16_c (x:Int) (hx:0≤x) (w:World) : Calls Tryz.prog 49 #[.int .u64 x,.int .i64 16] w fun e w'=>e=.returned (.int .u64 (nar16 x))∧w=w':=by
 by_cases h:x % 65536 < 32768
 ·have e:nar16 x=x % 65536:=by unfold nar16; simp only [IntKind.wrap_u64,wrap_i16']; unfold wrap64; omega
  rw [e]; exact cut16_lo x hx h w
 ·have e:nar16 x=IntKind.u64.wrap (x % 65536 - 65536):=by unfold nar16; simp only [IntKind.wrap_u64,wrap_i16']; unfold wrap64; omega
  rw [e]; exact cut16_hi x hx h w
theorem cut32_lo (x:Int) (_hx:0≤x) (h:x % 4294967296 < 2147483648) (w:World) : Calls Tryz.prog 49 #[.int .u64 x,.int .i64 32] w fun e w'=>e=.returned (.int .u64 (x % 4294967296))∧w=w':=by
 go_enter Tryz.func49,Tryz.ntmps49
 go_wp2
 go_ret
 exact ⟨rfl,rfl⟩
theorem cut32_hi (x:Int) (_hx:0≤x) (h:¬ x % 4294967296 < 2147483648) (w:World) : Calls Tryz.prog 49 #[.int .u64 x,.int .i64 32] w fun e w'=>e=.returned (.int .u64 (IntKind.u64.wrap (x % 4294967296 - 4294967296)))∧w=w':=by
 go_enter Tryz.func49,Tryz.ntmps49
 go_wp2
 go_ret
 exact ⟨rfl,rfl⟩
theorem cut32_c (x:Int) (hx:0≤x) (w:World) : Calls Tryz.prog 49 #[.int .u64 x,.int .i64 32] w fun e w'=>e=.returned (.int .u64 (nar32 x))∧w=w':=by
 by_cases h:x % 4294967296 < 2147483648
 ·have e:nar32 x=x % 4294967296:=by unfold nar32; simp only [IntKind.wrap_u64]; unfold wrap64 wrap32; omega
  rw [e]; exact cut32_lo x hx h w
 ·have e:nar32 x=IntKind.u64.wrap (x % 4294967296 - 4294967296):=by unfold nar32; simp only [IntKind.wrap_u64]; unfold wrap64 wrap32; omega
  rw [e]; exact cut32_hi x hx h w
theorem cut64_c (x:Int) (w:World) : Calls Tryz.prog 49 #[.int .u64 x,.int .i64 64] w fun e w'=>e=.returned (.int .u64 x)∧w=w':=by
 go_enter Tryz.func49,Tryz.ntmps49
 go_wp2
 go_ret
 exact ⟨rfl,rfl⟩
theorem times_raw (x y a b c d:Int) (w:World) (h1:IntKind.u64.wrap (x.tdiv 4294967296)=a) (h2:x % 4294967296=b) (h3:IntKind.u64.wrap (y.tdiv 4294967296)=c) (h4:y % 4294967296=d) (l m o p:Int) (k1:IntKind.u64.wrap (b*d)=l)
  (k2:IntKind.u64.wrap (a*d)=m) (k3:IntKind.u64.wrap (b*c)=o) (k4:IntKind.u64.wrap (a*c)=p) (l1 mid m1 oth o1:Int) (kl:IntKind.u64.wrap (l.tdiv 4294967296)=l1) (k5:IntKind.u64.wrap (m+l1)=mid) (km:IntKind.u64.wrap (mid.tdiv 4294967296)=m1)
  (k6:IntKind.u64.wrap (o+mid % 4294967296)=oth) (ko:IntKind.u64.wrap (oth.tdiv 4294967296)=o1)
  (_hx:0≤x) (_hy:0≤y) (_h5:0≤l) (_h6:0≤mid) (_h7:0≤oth) : Calls Tryz.prog 81 #[.int .u64 x,.int .u64 y] w fun e w'=>e=.returned (.tuple #[.int .u64 (IntKind.u64.wrap (IntKind.u64.wrap (p+m1)+o1)),.int .u64 (oth % 4294967296*4294967296+l % 4294967296)])∧w=w':=by
 go_enter Tryz.func81,Tryz.ntmps81
 go_wp2
 go_ret2
 exact ⟨rfl,rfl⟩
theorem tdiv_nn (x:Int) (hx:0≤x) (h:x < B64) (k:Int) (hk:0 < k) : IntKind.u64.wrap (x.tdiv k)=x / k:=by
 rw [Int.tdiv_eq_ediv_of_nonneg hx]
 refine wrap_lt _ (Int.ediv_nonneg hx (by omega)) ?_
 have:=Int.ediv_le_self k hx
 unfold B64 at h
 omega
theorem times_c (x y:Int) (w:World) (hx:0≤x) (hx1:x < B64) (hy:0≤y) (hy1:y < B64) :
  Calls Tryz.prog 81 #[.int .u64 x,.int .u64 y] w fun e w'=>e=.returned (.tuple #[.int .u64 (x*y / B64),.int .u64 (IntKind.u64.wrap (x*y))])∧w=w':=by
 have hm:=mul_parts x y
 have q1:=tdiv_nn x hx hx1 4294967296 (by decide)
 have q2:=tdiv_nn y hy hy1 4294967296 (by decide)
 unfold B64 at *
 obtain ⟨p10,p11⟩:=mul_bd (x % 4294967296) (y % 4294967296) (by omega) (by omega) (by omega) (by omega)
 obtain ⟨p20,p21⟩:=mul_bd (x / 4294967296) (y % 4294967296) (by omega) (by omega) (by omega) (by omega)
 obtain ⟨p30,p31⟩:=mul_bd (x % 4294967296) (y / 4294967296) (by omega) (by omega) (by omega) (by omega)
 obtain ⟨p40,p41⟩:=mul_bd (x / 4294967296) (y / 4294967296) (by omega) (by omega) (by omega) (by omega)
 have key:=times_raw x y _ _ _ _ w q1 rfl q2 rfl _ _ _ _ (wrap_lt _ p10 (by omega)) (wrap_lt _ p20 (by omega)) (wrap_lt _ p30 (by omega)) (wrap_lt _ p40 (by omega)) _ _ _ _ _ (tdiv_nn _ p10 (by unfold B64; omega) 4294967296 (by decide)) (wrap_lt _ (by omega) (by omega))
  (tdiv_nn _ (by omega) (by unfold B64; omega) 4294967296 (by decide)) (wrap_lt _ (by omega) (by omega)) (tdiv_nn _ (by omega) (by unfold B64; omega) 4294967296 (by decide)) hx hy p10 (by omega) (by omega)
 generalize hp1:x % 4294967296*(y % 4294967296)=p1 at *
 generalize hp2:x / 4294967296*(y % 4294967296)=p2 at *
 generalize hp3:x % 4294967296*(y / 4294967296)=p3 at *
 generalize hp4:x / 4294967296*(y / 4294967296)=p4 at *
 generalize x*y=q at *
 have e1:IntKind.u64.wrap (IntKind.u64.wrap (p4+(p2+p1 / 4294967296) / 4294967296)+(p3+(p2+p1 / 4294967296) % 4294967296) / 4294967296)=q / 18446744073709551616:=by
  rw [wrap_lt (p4+_) (by omega) (by omega),wrap_lt _ (by omega) (by omega)]; omega
 have e2:(p3+(p2+p1 / 4294967296) % 4294967296) % 4294967296*4294967296+p1 % 4294967296=IntKind.u64.wrap q:=by
  simp only [IntKind.wrap_u64]; omega
 rw [e1,e2] at key
 exact key
def divS (x y:Int) : Int×Int:=if y=0 then (18446744073709551615,x) else
 (if decide (9223372036854775808≤x)=decide (9223372036854775808≤y) then sizeF x / sizeF y else IntKind.u64.wrap (-(sizeF x / sizeF y)),if 9223372036854775808≤x then IntKind.u64.wrap (-(sizeF x % sizeF y)) else sizeF x % sizeF y)
def divU (x y:Int) : Int×Int:=if y=0 then (18446744073709551615,x) else (x / y,x % y)
theorem div_0 (x y:Int) (s:Bool) (h:y=0) (w:World) : Calls Tryz.prog 78 #[.int .u64 x,.int .u64 y,.bool s] w fun e w'=>e=.returned (.tuple #[.int .u64 18446744073709551615,.int .u64 x])∧Below w.heap.size w w':=by
 subst h
 go_enter Tryz.func78,Tryz.ntmps78
 go_wp2
 go_ret2
 exact ⟨rfl,Below.refl _ _⟩
theorem div_u (x y:Int) (hn:¬ y=0) (h0:(y == 0)=false) (hx:0≤x) (_hy:0≤y) (w:World) : Calls Tryz.prog 78 #[.int .u64 x,.int .u64 y,.bool false] w fun e w'=>e=.returned (.tuple #[.int .u64 (IntKind.u64.wrap (x.tdiv y)),.int .u64 (x % y)])∧Below w.heap.size w w':=by
 go_enter Tryz.func78,Tryz.ntmps78
 go_wp2
 go_quiet (fail)
 go_wp2
 go_ret2
 exact ⟨rfl,drewN_below _ rfl⟩
theorem div_s (x y a b q l:Int) (hn:¬ b=0) (h0:(y == 0)=false) (ha:sizeF x=a) (hb:sizeF y=b) (_ha0:0≤a) (_hb0:0≤b) (bx bz:Bool) (hbx:decide (9223372036854775808≤x)=bx) (hby:decide (9223372036854775808≤y)=bz) (hq:IntKind.u64.wrap (a.tdiv b)=q) (hl:a % b=l) (w:World) :
  Calls Tryz.prog 78 #[.int .u64 x,.int .u64 y,.bool true] w fun e w'=>e=.returned (.tuple #[.int .u64 (if bx=bz then q else IntKind.u64.wrap (-q)),.int .u64 (if bx=true then IntKind.u64.wrap (-l) else l)])∧Below w.heap.size w w':=by
 have HX:=fun w=>Lib.hid (below_c x w)
 have HY:=fun w=>Lib.hid (below_c y w)
 have SX:=fun w=>Lib.hid (size_c x w)
 have SY:=fun w=>Lib.hid (size_c y w)
 rw [hbx] at HX
 rw [hby] at HY
 rw [ha] at SX
 rw [hb] at SY
 clear hbx hby ha hb
 cases bx <;> cases bz
 all_goals
  go_enter Tryz.func78,Tryz.ntmps78
  go_wp2_with (first
   | (go_at_call 118; first | (refine (SX _).out.mono ?_; rintro e w' ⟨rfl,rfl⟩) | (refine (SY _).out.mono ?_; rintro e w' ⟨rfl,rfl⟩))
   | (go_at_call 119; first | (refine (HX _).out.mono ?_; rintro e w' ⟨rfl,rfl⟩) | (refine (HY _).out.mono ?_; rintro e w' ⟨rfl,rfl⟩)))
  go_ret2
  exact ⟨rfl,Below.refl _ _⟩
theorem size_bd (x:Int) (hx:0≤x) (hx1:x < B64) : 0≤sizeF x∧sizeF x≤9223372036854775808∧(x≠0→sizeF x≠0):=by
 unfold sizeF B64 at *
 rw [IntKind.wrap_u64]
 split <;> omega
theorem divs_c (x y:Int) (hx:0≤x) (hx1:x < B64) (hy:0≤y) (hy1:y < B64) (w:World) : Calls Tryz.prog 78 #[.int .u64 x,.int .u64 y,.bool true] w fun e w'=>e=.returned (.tuple #[.int .u64 (divS x y).1,.int .u64 (divS x y).2])∧Below w.heap.size w w':=by
 unfold divS
 by_cases h:y=0
 ·rw [if_pos h]; exact div_0 x y true h w
 ·rw [if_neg h]
  obtain ⟨a1,a2,_⟩:=size_bd x hx hx1
  obtain ⟨b1,b2,b3⟩:=size_bd y hy hy1
  have q:IntKind.u64.wrap ((sizeF x).tdiv (sizeF y))=sizeF x / sizeF y:=tdiv_nn _ a1 (by unfold B64; omega) _ (by have:=b3 h; omega)
  have key:=div_s x y _ _ _ _ (b3 h) (by simpa using h) rfl rfl a1 b1 _ _ rfl rfl q rfl w
  refine key.mono ?_
  rintro e w' ⟨rfl,hb⟩
  refine ⟨?_,hb⟩
  simp only [decide_eq_true_eq]
theorem divu_c (x y:Int) (hx:0≤x) (hx1:x < B64) (hy:0≤y) (w:World) : Calls Tryz.prog 78 #[.int .u64 x,.int .u64 y,.bool false] w fun e w'=>e=.returned (.tuple #[.int .u64 (divU x y).1,.int .u64 (divU x y).2])∧Below w.heap.size w w':=by
 unfold divU
 by_cases h:y=0
 ·rw [if_pos h]; exact div_0 x y false h w
 ·rw [if_neg h]
  have key:=div_u x y h (by simpa using h) hx hy w
  rw [tdiv_nn x hx hx1 y (by omega)] at key
  exact key
def upperF (sx sy:Bool) (x y:Int) : Int :=
 let X:=if sx=true∧9223372036854775808≤x then IntKind.u64.wrap (-x) else x
 let Y:=if sy=true∧9223372036854775808≤y then IntKind.u64.wrap (-y) else y
 if (decide (sx=true∧9223372036854775808≤x))=(decide (sy=true∧9223372036854775808≤y)) then X*Y / B64 else (minusF (X*Y / B64) (IntKind.u64.wrap (X*Y))).1
theorem upper_tt (x y X Y h l:Int) (bx bz:Bool) (hbx:decide (9223372036854775808≤x)=bx) (hby:decide (9223372036854775808≤y)=bz) (eX:(if bx=true then IntKind.u64.wrap (-x) else x)=X) (eY:(if bz=true then IntKind.u64.wrap (-y) else y)=Y) (w:World)
  (ht:Calls Tryz.prog 81 #[.int .u64 X,.int .u64 Y] w fun e w'=>e=.returned (.tuple #[.int .u64 h,.int .u64 l])∧w=w') :
  Calls Tryz.prog 82 #[.int .u64 x,.int .u64 y,.bool true,.bool true] w fun e w'=>e=.returned (.int .u64 (if bx=bz then h else (minusF h l).1))∧w=w':=by
 have HX:=fun w=>Lib.hid (below_c x w)
 have HY:=fun w=>Lib.hid (below_c y w)
 have HT:=Lib.hid ht
 have HM:=fun w=>Lib.hid (minus_c h l w)
 rw [hbx] at HX
 rw [hby] at HY
 clear hbx hby ht
 subst eX eY
 generalize minusF h l=mm at *
 cases bx <;> cases bz
 all_goals
  simp only [if_true,if_false,Bool.false_eq_true,reduceCtorEq] at HT ⊢
  go_enter Tryz.func82,Tryz.ntmps82
  go_wp2_with (first
   | (go_at_call 119; first | (refine (HX _).out.mono ?_; rintro e w' ⟨rfl,rfl⟩) | (refine (HY _).out.mono ?_; rintro e w' ⟨rfl,rfl⟩))
   | (go_at_call 81; refine HT.out.mono ?_; rintro e w' ⟨rfl,rfl⟩)
   | (go_at_call 120; refine (HM _).out.mono ?_; rintro e w' ⟨rfl,rfl⟩))
  go_ret
  exact ⟨rfl,rfl⟩
theorem upper_tf (x y X h l:Int) (bx:Bool) (hbx:decide (9223372036854775808≤x)=bx) (eX:(if bx=true then IntKind.u64.wrap (-x) else x)=X) (w:World)
  (ht:Calls Tryz.prog 81 #[.int .u64 X,.int .u64 y] w fun e w'=>e=.returned (.tuple #[.int .u64 h,.int .u64 l])∧w=w') :
  Calls Tryz.prog 82 #[.int .u64 x,.int .u64 y,.bool true,.bool false] w fun e w'=>e=.returned (.int .u64 (if bx=false then h else (minusF h l).1))∧w=w':=by
 have HX:=fun w=>Lib.hid (below_c x w)
 have HT:=Lib.hid ht
 have HM:=fun w=>Lib.hid (minus_c h l w)
 rw [hbx] at HX
 clear hbx ht
 subst eX
 generalize minusF h l=mm at *
 cases bx
 all_goals
  simp only [if_true,if_false,Bool.false_eq_true,reduceCtorEq] at HT ⊢
  go_enter Tryz.func82,Tryz.ntmps82
  go_wp2_with (first
   | (go_at_call 119; refine (HX _).out.mono ?_; rintro e w' ⟨rfl,rfl⟩)
   | (go_at_call 81; refine HT.out.mono ?_; rintro e w' ⟨rfl,rfl⟩)
   | (go_at_call 120; refine (HM _).out.mono ?_; rintro e w' ⟨rfl,rfl⟩))
  go_ret
  exact ⟨rfl,rfl⟩
theorem upper_ff (x y h l:Int) (w:World) (ht:Calls Tryz.prog 81 #[.int .u64 x,.int .u64 y] w fun e w'=>e=.returned (.tuple #[.int .u64 h,.int .u64 l])∧w=w') :
  Calls Tryz.prog 82 #[.int .u64 x,.int .u64 y,.bool false,.bool false] w fun e w'=>e=.returned (.int .u64 h)∧w=w':=by
 have HT:=Lib.hid ht
 clear ht
 go_enter Tryz.func82,Tryz.ntmps82
 go_wp2_with (go_at_call 81; refine HT.out.mono ?_; rintro e w' ⟨rfl,rfl⟩)
 go_ret
 exact ⟨rfl,rfl⟩
theorem neg_if (x:Int) (hx:0≤x) (hx1:x < B64) (b:Bool) : 0≤(if b=true then IntKind.u64.wrap (-x) else x)∧(if b=true then IntKind.u64.wrap (-x) else x) < B64:=by
 unfold B64 at *
 rw [IntKind.wrap_u64]
 cases b
 ·simp only [Bool.false_eq_true,if_false]; omega
 ·simp only [if_true]; omega
theorem upper_c (sx sy:Bool) (hs:sx=true∨sy=false) (x y:Int) (hx:0≤x) (hx1:x < B64) (hy:0≤y) (hy1:y < B64) (w:World) :
  Calls Tryz.prog 82 #[.int .u64 x,.int .u64 y,.bool sx,.bool sy] w fun e w'=>e=.returned (.int .u64 (upperF sx sy x y))∧w=w':=by
 unfold upperF
 obtain ⟨x1,x2⟩:=neg_if x hx hx1 (decide (9223372036854775808≤x))
 obtain ⟨y1,y2⟩:=neg_if y hy hy1 (decide (9223372036854775808≤y))
 cases sx <;> cases sy
 ·simp only [Bool.false_eq_true,false_and,if_false,decide_false,if_true]
  exact upper_ff x y _ _ w (times_c x y w hx hx1 hy hy1)
 ·rcases hs with h | h <;> cases h
 ·simp only [Bool.false_eq_true,false_and,if_false,decide_false,true_and]
  have key:=upper_tf x y _ _ _ _ rfl rfl w (times_c _ y w x1 x2 hy hy1)
  simp only [decide_eq_true_eq] at key
  exact key
 ·simp only [true_and]
  have key:=upper_tt x y _ _ _ _ _ _ rfl rfl rfl rfl w (times_c _ _ w x1 x2 y1 y2)
  simp only [decide_eq_true_eq] at key
  exact key
def halfF (x:Int) : Int:=x / 2+x / 9223372036854775808*9223372036854775808
def shiftF:Nat→Int→Int
 | 0,x=>x
 | k+1,x=>halfF (shiftF k x)
theorem halfF_bd (x:Int) (hx:0≤x) (hx1:x < B64) : 0≤halfF x∧halfF x < B64:=by
 unfold halfF B64 at *; omega
theorem shiftF_bd (x:Int) (hx:0≤x) (hx1:x < B64) : ∀ k,0≤shiftF k x∧shiftF k x < B64
 | 0=>⟨hx,hx1⟩
 | k+1=>halfF_bd _ (shiftF_bd x hx hx1 k).1 (shiftF_bd x hx hx1 k).2
theorem shiftF_eq (x:Int) (hx:0≤x) (hx1:x < B64) : ∀ k,shiftF k x=IntKind.u64.wrap (wrap64 x / 2 ^ k)
 | 0=>by
  rw [shiftF,IntKind.wrap_u64]
  unfold wrap64 B64 at *
  simp only [Int.pow_zero,Int.ediv_one]
  omega
 | k+1=>by
  rw [shiftF,shiftF_eq x hx hx1 k,Int.pow_succ,← Int.ediv_ediv_of_nonneg (by have:(0:Int) < 2 ^ k:=Int.pow_pos (by decide); omega)]
  have hb : -9223372036854775808≤wrap64 x / 2 ^ k∧wrap64 x / 2 ^ k≤9223372036854775807:=by
   have h1 : -9223372036854775808≤wrap64 x∧wrap64 x≤9223372036854775807:=by unfold wrap64; omega
   have hp:(0:Int) < 2 ^ k:=Int.pow_pos (by decide)
   generalize (2:Int) ^ k=p at *
   constructor
   ·exact (Int.le_ediv_iff_mul_le hp).2 (by have:=Int.mul_le_mul_of_nonneg_left (show (1:Int)≤p by omega) (show (0:Int)≤9223372036854775808 by decide); omega)
   ·exact Int.le_of_lt_add_one (Int.ediv_lt_of_lt_mul hp (by have:=Int.mul_le_mul_of_nonneg_left (show (1:Int)≤p by omega) (show (0:Int)≤9223372036854775808 by decide); omega))
  generalize wrap64 x / 2 ^ k=q at *
  unfold halfF
  simp only [IntKind.wrap_u64]
  omega
theorem shift_c (x:Int) (n:Nat) (hx:0≤x) (hx1:x < B64) (hn:n≤64) (w:World) : Calls Tryz.prog 80 #[.int .u64 x,.int .u64 n] w fun e w'=>e=.returned (.int .u64 (shiftF n x))∧w=w':=by
 go_enter Tryz.func80,Tryz.ntmps80
 go_wp2
 go_loop [0,5] (fun v i=>∃ k:Nat,∃ u:Int,k≤n∧i=.int .u64 k∧v=.int .u64 u∧0≤u∧u < 18446744073709551616∧Hid (u=shiftF k x)) (fun _ i=>n - (intOf i).toNat)
 case atStart=>exact ⟨0,x,Nat.zero_le _,rfl,rfl,hx,hx1,Lib.hid rfl⟩
 case round =>
  obtain ⟨k,u,hk,rfl,rfl,hu0,hu1,hu⟩:=hrel
  by_cases hlt:k < n
  ·have hq:IntKind.u64.wrap (u.tdiv 9223372036854775808)=u / 9223372036854775808:=tdiv_nn u hu0 hu1 _ (by decide)
   have hq2:IntKind.u64.wrap (u.tdiv 2)=u / 2:=tdiv_nn u hu0 hu1 _ (by decide)
   have hb:=halfF_bd u hu0 hu1
   have hs:Hid (halfF u=shiftF (k+1) x):=Lib.hid (by rw [shiftF,hu.out])
   unfold halfF B64 at *
   go_wp2
   go_round
   case rel=>exact ⟨k+1,u / 2+u / 9223372036854775808*9223372036854775808,by omega,by go_num,by go_num,hb.1,hb.2,hs⟩
   case measure=>simp [intOf]; omega
  ·go_wp2
   go_ret
   obtain rfl:k=n:=by omega
   exact ⟨by show Ending.returned (Value.int IntKind.u64 u)=_; rw [hu.out],rfl⟩
theorem divU_bd (x y:Int) (hx:0≤x) (hy:0≤y) : 0≤(divU x y).1∧0≤(divU x y).2:=by
 unfold divU
 split
 ·exact ⟨show (0:Int)≤18446744073709551615 by decide,hx⟩
 ·exact ⟨Int.ediv_nonneg hx hy,Int.emod_nonneg _ ‹_›⟩
theorem divS_bd (x y:Int) (hx:0≤x) (hx1:x < B64) (hy:0≤y) (hy1:y < B64) : 0≤(divS x y).1∧0≤(divS x y).2:=by
 obtain ⟨a1,_,_⟩:=size_bd x hx hx1
 obtain ⟨b1,_,b3⟩:=size_bd y hy hy1
 unfold divS
 split
 ·exact ⟨show (0:Int)≤18446744073709551615 by decide,hx⟩
 ·rename_i h
  refine ⟨?_,?_⟩
  ·show (0:Int)≤if _ then _ else _
   split
   ·exact Int.ediv_nonneg a1 b1
   ·exact (u64_wrap_bd _).1
  ·show (0:Int)≤if _ then _ else _
   split
   ·exact (u64_wrap_bd _).1
   ·exact Int.emod_nonneg _ (b3 h)
end Go.Proofs.YtoehlmiadiiimaaGreatDoor
