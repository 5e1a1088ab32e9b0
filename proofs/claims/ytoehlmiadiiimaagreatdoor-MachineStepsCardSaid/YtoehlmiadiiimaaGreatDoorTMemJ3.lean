import Derived.Test.YtoehlmiadiiimaaGreatDoorTMemU2
import Derived.Test.YtoehlmiadiiimaaGreatDoorTMemO1
/-
  The machine, as the document has it: what its operations make of two numbers is what the program's make.
-/
namespace Go.Proofs.YtoehlmiadiiimaaGreatDoor
open Go.ChangeShapes Go.WideShapes Go.RowKit
theorem wrap_wrap64 (q:Int) : IntKind.u64.wrap (wrap64 q)=IntKind.u64.wrap q:=by
 simp only [IntKind.wrap_u64]; unfold wrap64; omega
theorem nar32_wrap (q:Int) : nar32 (IntKind.u64.wrap q)=nar32 q:=by
 unfold nar32
 simp only [IntKind.wrap_u64]; unfold wrap64 wrap32; omega
theorem nar32_small (q:Int) (h : -2147483648≤q∧q≤2147483647) : nar32 q=IntKind.u64.wrap q:=by
 unfold nar32
 simp only [IntKind.wrap_u64]; unfold wrap64 wrap32; omega
theorem wrap64_nar (x:Int) : wrap64 (nar32 x)=wrap32 x:=by
 unfold nar32
 simp only [IntKind.wrap_u64]; unfold wrap64 wrap32; omega
theorem wrap32_bd (x:Int) : -2147483648≤wrap32 x∧wrap32 x≤2147483647:=by unfold wrap32; omega
theorem sgn_of (x:Int) (hx:0≤x) (hx1:x < B64) : (decide (9223372036854775808≤x)=false∧wrap64 x=sizeF x)∨(decide (9223372036854775808≤x)=true∧wrap64 x = -sizeF x):=by
 unfold sizeF B64 at *
 simp only [IntKind.wrap_u64]
 unfold wrap64
 by_cases h:9223372036854775808≤x
 ·rw [decide_eq_true h,if_pos h]; right; exact ⟨rfl,by omega⟩
 ·rw [decide_eq_false h,if_neg h]; left; exact ⟨rfl,by omega⟩
theorem divS_spec (x y:Int) (hx:0≤x) (hx1:x < B64) (hy:0≤y) (hy1:y < B64) (h:y≠0) :
  (divS x y).1=IntKind.u64.wrap ((wrap64 x).tdiv (wrap64 y))∧(divS x y).2=IntKind.u64.wrap ((wrap64 x).tmod (wrap64 y)):=by
 obtain ⟨a1,a2,_⟩:=size_bd x hx hx1
 obtain ⟨b1,b2,b3⟩:=size_bd y hy hy1
 have b3:=b3 h
 unfold divS
 rw [if_neg h]
 have e1:∀ q:Int,0≤q→q≤9223372036854775808→IntKind.u64.wrap q=q:=fun q h1 h2=>by rw [IntKind.wrap_u64]; omega
 have q1:0≤sizeF x / sizeF y:=Int.ediv_nonneg a1 b1
 have q2:sizeF x / sizeF y≤9223372036854775808:=Int.le_trans (Int.ediv_le_self _ a1) a2
 have m1:0≤sizeF x % sizeF y:=Int.emod_nonneg _ b3
 have m2:sizeF x % sizeF y≤9223372036854775808:=by have:=Int.emod_lt_of_pos (sizeF x) (show 0 < sizeF y by omega); omega
 rcases sgn_of x hx hx1 with ⟨k1,k2⟩ | ⟨k1,k2⟩ <;> rcases sgn_of y hy hy1 with ⟨l1,l2⟩ | ⟨l1,l2⟩ <;> rw [k1,l1,k2,l2]
 ·rw [Int.tdiv_eq_ediv_of_nonneg a1,Int.tmod_eq_emod_of_nonneg a1]
  have:=of_decide_eq_false k1
  exact ⟨by rw [e1 _ q1 q2]; rfl,by rw [if_neg this,e1 _ m1 m2]⟩
 ·rw [Int.tdiv_neg,Int.tmod_neg,Int.tdiv_eq_ediv_of_nonneg a1,Int.tmod_eq_emod_of_nonneg a1]
  have:=of_decide_eq_false k1
  exact ⟨rfl,by rw [if_neg this,e1 _ m1 m2]⟩
 ·rw [Int.neg_tdiv,Int.neg_tmod,Int.tdiv_eq_ediv_of_nonneg a1,Int.tmod_eq_emod_of_nonneg a1]
  have:=of_decide_eq_true k1
  exact ⟨rfl,by rw [if_pos this]⟩
 ·rw [Int.neg_tdiv,Int.neg_tmod,Int.tdiv_neg,Int.tmod_neg,Int.neg_neg,Int.tdiv_eq_ediv_of_nonneg a1,Int.tmod_eq_emod_of_nonneg a1]
  have:=of_decide_eq_true k1
  exact ⟨by rw [e1 _ q1 q2]; rfl,by rw [if_pos this]⟩
theorem quoS_spec (wr:Int→Int) (X Y:Int) (h:Y≠0) : (quoS wr X Y).1=wr (X.tdiv Y)∧(quoS wr X Y).2=X.tmod Y:=by
 unfold quoS
 rw [if_neg h]
 split
 ·rename_i h1
  subst h1
  have e1:X.tdiv (-1) = -X:=by rw [Int.tdiv_neg,Int.tdiv_one]
  have e2:X.tmod (-1)=0:=by rw [Int.tmod_neg,Int.tmod_one]
  rw [e1,e2]
  exact ⟨rfl,rfl⟩
 ·exact ⟨rfl,rfl⟩
theorem wrap64_zero (y:Int) (hy:0≤y) (hy1:y < B64) : wrap64 y=0↔y=0:=by unfold wrap64 B64 at *; omega
theorem eq_div (x y:Int) (hx:0≤x) (hx1:x < B64) (hy:0≤y) (hy1:y < B64) :
  IntKind.u64.wrap (quoS wrap64 (wrap64 x) (wrap64 y)).1=(divS x y).1∧IntKind.u64.wrap (quoS wrap64 (wrap64 x) (wrap64 y)).2=(divS x y).2:=by
 by_cases h:y=0
 ·have e:=(wrap64_zero y hy hy1).2 h
  unfold quoS divS
  rw [if_pos e,if_pos h]
  exact ⟨by show IntKind.u64.wrap (-1)=18446744073709551615; decide,by rw [wrap_wrap64,wrap_lt x hx hx1]⟩
 ·have e:wrap64 y≠0:=fun k=>h ((wrap64_zero y hy hy1).1 k)
  obtain ⟨a,b⟩:=divS_spec x y hx hx1 hy hy1 h
  obtain ⟨c,d⟩:=quoS_spec wrap64 (wrap64 x) (wrap64 y) e
  rw [a,b,c,d,wrap_wrap64]
  exact ⟨rfl,rfl⟩
theorem tmod_bd (X Y:Int) (hX : -2147483648≤X∧X≤2147483647) : -2147483648≤X.tmod Y∧X.tmod Y≤2147483647:=by
 have h:=Int.natAbs_tmod X Y
 have hle:X.natAbs % Y.natAbs≤X.natAbs:=Nat.mod_le _ _
 rcases Int.le_total 0 X with hx | hx
 ·have:=Int.tmod_nonneg Y hx
  omega
 ·have:X.tmod Y≤0:=by
   have h2:=Int.tmod_nonneg Y (show 0≤-X by omega)
   rw [Int.neg_tmod] at h2
   omega
  omega
theorem eq_divw (x y:Int) :
  IntKind.u64.wrap (wrap64 (quoS wrap32 (wrap32 x) (wrap32 y)).1)=nar32 (divS (nar32 x) (nar32 y)).1∧IntKind.u64.wrap (wrap64 (quoS wrap32 (wrap32 x) (wrap32 y)).2)=nar32 (divS (nar32 x) (nar32 y)).2:=by
 obtain ⟨x1,x2⟩:=nar32_bd x
 obtain ⟨y1,y2⟩:=nar32_bd y
 have hX:=wrap64_nar x
 have hY:=wrap64_nar y
 have hz:=wrap64_zero (nar32 y) y1 y2
 rw [hY] at hz
 rw [wrap_wrap64,wrap_wrap64]
 by_cases h:wrap32 y=0
 ·have e:=hz.1 h
  unfold quoS divS
  rw [if_pos h,if_pos e]
  refine ⟨by show IntKind.u64.wrap (-1)=nar32 18446744073709551615; unfold nar32; simp only [IntKind.wrap_u64]; unfold wrap64 wrap32; omega,?_⟩
  show IntKind.u64.wrap (wrap32 x)=nar32 (nar32 x)
  unfold nar32
  simp only [IntKind.wrap_u64]; unfold wrap64 wrap32; omega
 ·have e:nar32 y≠0:=fun k=>h (hz.2 k)
  obtain ⟨a,b⟩:=divS_spec _ _ x1 x2 y1 y2 e
  obtain ⟨c,d⟩:=quoS_spec wrap32 (wrap32 x) (wrap32 y) h
  rw [a,b,c,d,hX,hY,nar32_wrap,nar32_wrap,nar32_small _ (tmod_bd _ _ (wrap32_bd x))]
  refine ⟨?_,rfl⟩
  unfold nar32
  rw [wrap_wrap64]
theorem eq_divu (x y:Int) (hx:0≤x) (hx1:x < B64) (hy:0≤y) : (quo64 x y).1=(divU x y).1∧(quo64 x y).2=(divU x y).2:=by
 unfold quo64 divU
 by_cases h:y=0
 ·rw [if_pos h,if_pos h]; exact ⟨by show IntKind.u64.wrap (-1)=18446744073709551615; decide,rfl⟩
 ·rw [if_neg h,if_neg h]; exact ⟨tdiv_nn x hx hx1 y (by omega),rfl⟩
theorem eq_divuw (x y:Int) (hx:0≤x) (_hx1:x < 4294967296) : nar32 (IntKind.u64.wrap (quo32 x y).1)=nar32 (divU x y).1∧nar32 (IntKind.u64.wrap (quo32 x y).2)=nar32 (divU x y).2:=by
 unfold quo32 divU
 rw [nar32_wrap,nar32_wrap]
 by_cases h:y=0
 ·rw [if_pos h,if_pos h]; exact ⟨by show nar32 (-1 % 4294967296)=nar32 18446744073709551615; unfold nar32; simp only [IntKind.wrap_u64]; unfold wrap64 wrap32; omega,rfl⟩
 ·rw [if_neg h,if_neg h]
  refine ⟨?_,rfl⟩
  rw [Int.tdiv_eq_ediv_of_nonneg hx]
  show nar32 (x / y % 4294967296)=nar32 (x / y)
  unfold nar32
  simp only [IntKind.wrap_u64]; unfold wrap64 wrap32; omega
theorem high_eq (sx sy:Bool) (x y:Int) (hx:0≤x) (hx1:x < B64) (hy:0≤y) (hy1:y < B64) : highF sx sy x y=upperF sx sy x y:=by
 unfold highF upperF minusF
 have w1:wrap64 x < 0↔9223372036854775808≤x:=by unfold wrap64 B64 at *; omega
 have w2:wrap64 y < 0↔9223372036854775808≤y:=by unfold wrap64 B64 at *; omega
 simp only [w1,w2]
 have p0:0≤x*y:=Int.mul_nonneg hx hy
 have p1:x*y / B64 < B64:=Int.ediv_lt_of_lt_mul (by decide) (Int.lt_of_le_of_lt (Int.mul_le_mul_of_nonneg_right (Int.le_of_lt hx1) hy) (Int.mul_lt_mul_of_pos_left hy1 (by decide)))
 unfold B64 at *
 have n1:9223372036854775808≤x→IntKind.u64.wrap (-x)=18446744073709551616 - x:=fun h=>by rw [IntKind.wrap_u64]; omega
 have n2:9223372036854775808≤y→IntKind.u64.wrap (-y)=18446744073709551616 - y:=fun h=>by rw [IntKind.wrap_u64]; omega
 have e1:(18446744073709551616 - x)*y=18446744073709551616*y - x*y:=Int.sub_mul _ _ _
 have e2:x*(18446744073709551616 - y)=18446744073709551616*x - x*y:=by rw [Int.mul_sub,Int.mul_comm x 18446744073709551616]
 have e3:(18446744073709551616 - x)*(18446744073709551616 - y)=340282366920938463463374607431768211456 - 18446744073709551616*x - 18446744073709551616*y+x*y:=by
  rw [Int.sub_mul,Int.mul_sub,Int.mul_sub,Int.mul_comm x 18446744073709551616]; omega
 by_cases c1:sx=true∧9223372036854775808≤x <;> by_cases c2:sy=true∧9223372036854775808≤y
 ·have m:=n1 c1.2
  have m':=n2 c2.2
  have q0:0≤(18446744073709551616 - x)*(18446744073709551616 - y):=Int.mul_nonneg (by omega) (by omega)
  have q1:(18446744073709551616 - x)*(18446744073709551616 - y)≤9223372036854775808*9223372036854775808:=Int.le_trans (Int.mul_le_mul_of_nonneg_right (show 18446744073709551616 - x≤9223372036854775808 by omega) (by omega)) (Int.mul_le_mul_of_nonneg_left (by omega) (by decide))
  rw [e3] at q0 q1
  have e3':=e3
  clear e1 e2 e3 n1 n2
  simp only [c1,c2,and_self,if_true,decide_true,m,m',e3']
  generalize x*y=p at *
  simp only [IntKind.wrap_u64]
  omega
 ·have m:=n1 c1.2
  simp only [c1,c2,and_self,if_true,if_false,decide_true,decide_false,m,e1,reduceCtorEq]
  generalize x*y=p at *
  simp only [IntKind.wrap_u64]
  split <;> omega
 ·have m':=n2 c2.2
  simp only [c1,c2,and_self,if_true,if_false,decide_true,decide_false,m',e2,reduceCtorEq]
  generalize x*y=p at *
  simp only [IntKind.wrap_u64]
  split <;> omega
 ·simp only [c1,c2,if_false,decide_false,if_true]
end Go.Proofs.YtoehlmiadiiimaaGreatDoor

/-
  The machine, as the document has it: what a name makes of two numbers, all names.
-/
namespace Go.Proofs.YtoehlmiadiiimaaGreatDoor
open Go.ChangeShapes Go.WideShapes Go.RowKit Go.Proofs.YtoehlmiadiiimaaGreatDoor.Ex
theorem xor_eq (x y:Int) (hx:0≤x) (hx1:x < B64) (hy:0≤y) (hy1:y < B64) : IntKind.u64.wrap (bits .or .u64 x y - bits .and .u64 x y)=bits .xor .u64 x y:=by
 obtain ⟨a,rfl⟩:=Int.eq_ofNat_of_zero_le hx
 obtain ⟨b,rfl⟩:=Int.eq_ofNat_of_zero_le hy
 unfold B64 at *
 have hk:kmax .u64=18446744073709551615:=rfl
 have e1:bits .or .u64 (a:Int) (b:Int)=((Nat.lor a b:Nat) : Int):=or_nat .u64 a b (by omega) (by omega)
 have e2:bits .and .u64 (a:Int) (b:Int)=((Nat.land a b:Nat) : Int):=and_nat .u64 a b (by omega) (by omega)
 have e3:bits .xor .u64 (a:Int) (b:Int)=((Nat.xor a b:Nat) : Int):=by
  have e:bits .xor .u64 (a:Int) (b:Int)=IntKind.u64.wrap (BitVec.ofInt 64 (a:Int) ^^^ BitVec.ofInt 64 (b:Int)).toNat:=rfl
  have q1:=ofInt_nat .u64 a (by omega)
  have q2:=ofInt_nat .u64 b (by omega)
  have q1:(BitVec.ofInt 64 (a:Int)).toNat=a:=q1
  have q2:(BitVec.ofInt 64 (b:Int)).toNat=b:=q2
  rw [e,BitVec.toNat_xor,q1,q2,IntKind.wrap_u64]
  have:=Nat.xor_lt_two_pow (n:=64) (x:=a) (y:=b) (by omega) (by omega)
  show ((a ^^^ b:Nat) : Int) % _=((a ^^^ b:Nat) : Int)
  omega
 have hs:Nat.lor a b=Nat.xor a b+Nat.land a b:=by
  show a ||| b=(a ^^^ b)+(a &&& b)
  rw [add_or _ _ (and_none fun k h1 h2=>?_)]
  ·refine Nat.eq_of_testBit_eq fun k=>?_
   rw [Nat.testBit_or,Nat.testBit_or,Nat.testBit_xor,Nat.testBit_and]
   cases a.testBit k <;> cases b.testBit k <;> rfl
  ·rw [Nat.testBit_xor] at h1
   rw [Nat.testBit_and] at h2
   revert h1 h2
   cases a.testBit k <;> cases b.testBit k <;> simp
 have hl:Nat.lor a b < 18446744073709551616:=Nat.or_lt_two_pow (n:=64) (by omega) (by omega)
 rw [e1,e2,e3,hs,IntKind.wrap_u64]
 rw [hs] at hl
 omega
theorem plain_all (op:Nat) (h:(31≤op∧op≤40)∨(45≤op∧op≤62)) (x y:Int) (w:World) (hx:0≤x) (hx1:x < B64) (hy:0≤y) (hy1:y < B64) :
  Calls Tryz.prog 54 #[.string (nameB op),.int .u64 x,.int .u64 y] w (TwoPost (twoF op x y) w):=by
 have b32:∀ z:Int,0≤z % 4294967296∧z % 4294967296 < 4294967296:=fun z=>by omega
 have hop:op=31∨op=32∨op=33∨op=34∨op=35∨op=36∨op=37∨op=38∨op=39∨op=40∨op=45∨op=46∨op=47∨op=48∨op=49∨op=50∨op=51∨op=52∨op=53∨op=54∨op=55∨op=56∨op=57∨op=58∨op=59∨op=60∨op=61∨op=62:=by omega
 clear h
 rcases hop with rfl | rfl | rfl | rfl | rfl | rfl | rfl | rfl | rfl | rfl | rfl | rfl | rfl | rfl | rfl | rfl | rfl | rfl | rfl | rfl | rfl | rfl | rfl | rfl | rfl | rfl | rfl | rfl
 ·exact plainP_add x y w hx hx1 hy hy1
 ·exact plainP_sub x y w hx hx1 hy hy1
 ·exact plainP_sll x y w hx hx1 hy hy1
 ·exact plainP_slt x y w hx hx1 hy hy1
 ·exact plainP_sltu x y w hx hx1 hy hy1
 ·have k:=plainP_xor x y w hx hx1 hy hy1
  rw [xor_eq x y hx hx1 hy hy1] at k
  exact k
 ·exact plainP_srl x y w hx hx1 hy hy1
 ·have k:=plainP_sra x y w hx hx1 hy hy1
  rw [shiftF_eq x hx hx1] at k
  exact k
 ·exact plainP_or x y w hx hx1 hy hy1
 ·exact plainP_and x y w hx hx1 hy hy1
 ·exact plainP_addw x y w hx hx1 hy hy1
 ·exact plainP_subw x y w hx hx1 hy hy1
 ·exact plainP_sllw x y w hx hx1 hy hy1
 ·have k:=plainP_srlw x y w hx hx1 hy hy1
  rw [← nar32_wrap] at k
  exact k
 ·have k:=plainP_sraw x y w hx hx1 hy hy1
  obtain ⟨n1,n2⟩:=nar32_bd x
  rw [shiftF_eq _ n1 n2,wrap64_nar,nar32_wrap] at k
  have hb:=wrap32_bd x
  have hq : -2147483648≤wrap32 x / 2 ^ (y.toNat % 32)∧wrap32 x / 2 ^ (y.toNat % 32)≤2147483647:=by
   have hp:(0:Int) < 2 ^ (y.toNat % 32):=Int.pow_pos (by decide)
   generalize (2:Int) ^ (y.toNat % 32)=q at *
   constructor
   ·exact (Int.le_ediv_iff_mul_le hp).2 (by
     have : -2147483648*q≤-2147483648*1:=Int.mul_le_mul_of_nonpos_left (by omega) (by omega)
     omega)
   ·exact Int.le_trans (Int.ediv_le_ediv hp hb.2) (Int.ediv_le_self _ (by decide))
  rw [nar32_small _ hq,← wrap_wrap64] at k
  exact k
 ·exact plainP_mul x y w hx hx1 hy hy1
 ·have k:=plainP_mulh x y w hx hx1 hy hy1
  rw [← high_eq true true x y hx hx1 hy hy1] at k
  exact k
 ·have k:=plainP_mulhsu x y w hx hx1 hy hy1
  rw [← high_eq true false x y hx hx1 hy hy1] at k
  exact k
 ·have k:=plainP_mulhu x y w hx hx1 hy hy1
  rw [← high_eq false false x y hx hx1 hy hy1] at k
  exact k
 ·have k:=plainP_div x y w hx hx1 hy hy1
  rw [← (eq_div x y hx hx1 hy hy1).1] at k
  exact k
 ·have k:=plainP_divu x y w hx hx1 hy hy1
  rw [← (eq_divu x y hx hx1 hy).1] at k
  exact k
 ·have k:=plainP_rem x y w hx hx1 hy hy1
  rw [← (eq_div x y hx hx1 hy hy1).2] at k
  exact k
 ·have k:=plainP_remu x y w hx hx1 hy hy1
  rw [← (eq_divu x y hx hx1 hy).2] at k
  exact k
 ·exact plainP_mulw x y w hx hx1 hy hy1
 ·have k:=plainP_divw x y w hx hx1 hy hy1
  rw [← (eq_divw x y).1] at k
  exact k
 ·have k:=plainP_divuw x y w hx hx1 hy hy1
  rw [← (eq_divuw _ (y % 4294967296) (b32 x).1 (b32 x).2).1] at k
  exact k
 ·have k:=plainP_remw x y w hx hx1 hy hy1
  rw [← (eq_divw x y).2] at k
  exact k
 ·have k:=plainP_remuw x y w hx hx1 hy hy1
  rw [← (eq_divuw _ (y % 4294967296) (b32 x).1 (b32 x).2).2] at k
  exact k
end Go.Proofs.YtoehlmiadiiimaaGreatDoor

