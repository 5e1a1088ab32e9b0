import Derived.Test.YtoehlmiadiiimaaGreatDoorTMemKC0
/-
  The machine, as the document has it: it goes on as the program's: forms.
-/
set_option maxHeartbeats 2000000
namespace Go.Proofs.YtoehlmiadiiimaaGreatDoor
open Go.ChangeShapes Go.WideShapes Go.RowKit Go.Proofs.YtoehlmiadiiimaaGreatDoor.Ex
section
variable {cs:Array Value} {r:Rn} {w:World} {i:Ins} {n:Nat} {T:Option Addr} {cT:Nat}
theorem goF_85 (G:GoCtx cs r w i n T cT) (hf:formB i.op=85) : Calls Tryz.prog 35 #[.agg cs] w (StepPost w (.agg cs) (stepG i n r)):=by
 obtain ⟨F,hn4,hm,ho1,ho2,h1,h2,h3,hs,HC,hall,m0,m35,m36,mR,hreg,H46,H12,H51,H53⟩:=G
 have H47:∀ W,Hid (Calls Tryz.prog 47 #[.int .u8 i.op] W fun e W'=>e=.returned (.tuple #[.string (nameB i.op),.int .i64 0])∧Below W.heap.size W W'):=fun W=>Lib.hid (nameD i.op ho1 ho2 W)
 have H48:∀ W,Hid (Calls Tryz.prog 48 #[.int .u8 i.op] W fun e W'=>e=.returned (.tuple #[.int .u8 (formB i.op),.int .i64 0])∧Below W.heap.size W W'):=fun W=>Lib.hid (formD i.op ho1 ho2 W)
 have hx:=mR i.s1 h1
 have hy:=mR i.s2 h2
 have hX:=hreg i.s1 h1
 have hY:=hreg i.s2 h2
 have hops:=ops_of i.op ho1 ho2
 have hrd:=rd_zero hm ho1 ho2
 have gx:r.regs[i.s1]?.getD 0=r.regs.getD i.s1 0:=rfl
 have gy:r.regs[i.s2]?.getD 0=r.regs.getD i.s2 0:=rfl
 unfold stepG doF
 unfold opsOf at hops
 rw [hf] at H48 hops hrd
 rw [hf]
 simp only at hops ⊢
 have HC49:∀ W,Hid (Calls Tryz.prog 49 #[.int .u64 (IntKind.u64.wrap (IntKind.u64.wrap i.imm*4096)),.int .i64 32] W fun e W'=>e=.returned (.int .u64 (nar32 (IntKind.u64.wrap (IntKind.u64.wrap i.imm*4096))))∧W=W'):=fun W=>Lib.hid (cut32_c _ (u64_wrap_bd _).1 W)
 by_cases h2':i.op=2
 ·rw [if_pos h2']
  exact (goD_auipc ⟨hn4,h1,h2,h3,hs,HC,hall,m0,m36,hx,hy,H46,H12,H47,H48⟩ HC49 (by rw [h2']; simp [nameB])).mono fun _ _ k=>by refine StepPost.same ?_ ?_ ?_ ?_ ?_ ?_ k <;> rfl
 ·have h1':i.op=1:=by
   simp only [Bool.or_eq_true,beq_iff_eq] at hops
   omega
  rw [if_neg h2']
  exact (goD_lui ⟨hn4,h1,h2,h3,hs,HC,hall,m0,m36,hx,hy,H46,H12,H47,H48⟩ HC49 (by rw [h1']; simp [nameB])).mono fun _ _ k=>by refine StepPost.same ?_ ?_ ?_ ?_ ?_ ?_ k <;> rfl
theorem goF_74 (G:GoCtx cs r w i n T cT) (hf:formB i.op=74) : Calls Tryz.prog 35 #[.agg cs] w (StepPost w (.agg cs) (stepG i n r)):=by
 obtain ⟨F,hn4,hm,ho1,ho2,h1,h2,h3,hs,HC,hall,m0,m35,m36,mR,hreg,H46,H12,H51,H53⟩:=G
 have H47:∀ W,Hid (Calls Tryz.prog 47 #[.int .u8 i.op] W fun e W'=>e=.returned (.tuple #[.string (nameB i.op),.int .i64 0])∧Below W.heap.size W W'):=fun W=>Lib.hid (nameD i.op ho1 ho2 W)
 have H48:∀ W,Hid (Calls Tryz.prog 48 #[.int .u8 i.op] W fun e W'=>e=.returned (.tuple #[.int .u8 (formB i.op),.int .i64 0])∧Below W.heap.size W W'):=fun W=>Lib.hid (formD i.op ho1 ho2 W)
 have hx:=mR i.s1 h1
 have hy:=mR i.s2 h2
 have hX:=hreg i.s1 h1
 have hY:=hreg i.s2 h2
 have hops:=ops_of i.op ho1 ho2
 have hrd:=rd_zero hm ho1 ho2
 have gx:r.regs[i.s1]?.getD 0=r.regs.getD i.s1 0:=rfl
 have gy:r.regs[i.s2]?.getD 0=r.regs.getD i.s2 0:=rfl
 unfold stepG doF
 unfold opsOf at hops
 rw [hf] at H48 hops hrd
 rw [hf]
 simp only at hops ⊢
 exact (goD_J ⟨hn4,h1,h2,h3,hs,HC,hall,m0,m36,hx,hy,H46,H12,H47,H48⟩).mono fun _ _ k=>by refine StepPost.same ?_ ?_ ?_ ?_ ?_ ?_ k <;> rfl
theorem goF_66 (G:GoCtx cs r w i n T cT) (hf:formB i.op=66) : Calls Tryz.prog 35 #[.agg cs] w (StepPost w (.agg cs) (stepG i n r)):=by
 obtain ⟨F,hn4,hm,ho1,ho2,h1,h2,h3,hs,HC,hall,m0,m35,m36,mR,hreg,H46,H12,H51,H53⟩:=G
 have H47:∀ W,Hid (Calls Tryz.prog 47 #[.int .u8 i.op] W fun e W'=>e=.returned (.tuple #[.string (nameB i.op),.int .i64 0])∧Below W.heap.size W W'):=fun W=>Lib.hid (nameD i.op ho1 ho2 W)
 have H48:∀ W,Hid (Calls Tryz.prog 48 #[.int .u8 i.op] W fun e W'=>e=.returned (.tuple #[.int .u8 (formB i.op),.int .i64 0])∧Below W.heap.size W W'):=fun W=>Lib.hid (formD i.op ho1 ho2 W)
 have hx:=mR i.s1 h1
 have hy:=mR i.s2 h2
 have hX:=hreg i.s1 h1
 have hY:=hreg i.s2 h2
 have hops:=ops_of i.op ho1 ho2
 have hrd:=rd_zero hm ho1 ho2
 have gx:r.regs[i.s1]?.getD 0=r.regs.getD i.s1 0:=rfl
 have gy:r.regs[i.s2]?.getD 0=r.regs.getD i.s2 0:=rfl
 unfold stepG doF
 unfold opsOf at hops
 rw [hf] at H48 hops hrd
 rw [hf]
 simp only at hops ⊢
 have hb:=of_decide_eq_true hops
 have H50:=fun W=>Lib.hid (taken_all i.op hb.1 hb.2 (r.regs.getD i.s1 0) (r.regs.getD i.s2 0) W)
 rw [gx,gy]
 cases hbr:brF i.op (r.regs.getD i.s1 0) (r.regs.getD i.s2 0) with
 | true =>
  rw [hbr] at H50
  rw [if_pos rfl]
  exact (goD_Bt ⟨hn4,h1,h2,h3,hs,HC,hall,m0,m36,hx,hy,H46,H12,H47,H48⟩ H50).mono fun _ _ k=>by
   refine StepPost.same ?_ ?_ ?_ ?_ ?_ ?_ k
   all_goals first | rfl | (show r.regs=(Rn.wr _ _ _).regs; rw [wr_0 (hrd rfl)])
 | false =>
  rw [hbr] at H50
  rw [if_neg (by decide)]
  exact (goD_Bf ⟨hn4,h1,h2,h3,hs,HC,hall,m0,m36,hx,hy,H46,H12,H47,H48⟩ H50).mono fun _ _ k=>by
   refine StepPost.same ?_ ?_ ?_ ?_ ?_ ?_ k
   all_goals first | rfl | (show r.regs=(Rn.wr _ _ _).regs; rw [wr_0 (hrd rfl)])
theorem goF_70 (G:GoCtx cs r w i n T cT) (hf:formB i.op=70) : Calls Tryz.prog 35 #[.agg cs] w (StepPost w (.agg cs) (stepG i n r)):=by
 obtain ⟨F,hn4,hm,ho1,ho2,h1,h2,h3,hs,HC,hall,m0,m35,m36,mR,hreg,H46,H12,H51,H53⟩:=G
 have H47:∀ W,Hid (Calls Tryz.prog 47 #[.int .u8 i.op] W fun e W'=>e=.returned (.tuple #[.string (nameB i.op),.int .i64 0])∧Below W.heap.size W W'):=fun W=>Lib.hid (nameD i.op ho1 ho2 W)
 have H48:∀ W,Hid (Calls Tryz.prog 48 #[.int .u8 i.op] W fun e W'=>e=.returned (.tuple #[.int .u8 (formB i.op),.int .i64 0])∧Below W.heap.size W W'):=fun W=>Lib.hid (formD i.op ho1 ho2 W)
 have hx:=mR i.s1 h1
 have hy:=mR i.s2 h2
 have hX:=hreg i.s1 h1
 have hY:=hreg i.s2 h2
 have hops:=ops_of i.op ho1 ho2
 have hrd:=rd_zero hm ho1 ho2
 have gx:r.regs[i.s1]?.getD 0=r.regs.getD i.s1 0:=rfl
 have gy:r.regs[i.s2]?.getD 0=r.regs.getD i.s2 0:=rfl
 unfold stepG doF
 unfold opsOf at hops
 rw [hf] at H48 hops hrd
 rw [hf]
 simp only at hops ⊢
 exact (goD_F ⟨hn4,h1,h2,h3,hs,HC,hall,m0,m36,hx,hy,H46,H12,H47,H48⟩).mono fun _ _ k=>by
  refine StepPost.same ?_ ?_ ?_ ?_ ?_ ?_ k
  all_goals first | rfl | (show r.regs=(Rn.wr _ _ _).regs; rw [wr_0 (hrd rfl)])
end
end Go.Proofs.YtoehlmiadiiimaaGreatDoor

/-
  The machine, as the document has it: it goes on as the program's: forms.
-/
set_option maxHeartbeats 2000000
namespace Go.Proofs.YtoehlmiadiiimaaGreatDoor
open Go.ChangeShapes Go.WideShapes Go.RowKit Go.Proofs.YtoehlmiadiiimaaGreatDoor.Ex
section
variable {cs:Array Value} {r:Rn} {w:World} {i:Ins} {n:Nat} {T:Option Addr} {cT:Nat}
theorem place_on (r:Rn) (o:Int) (s:Bool) (a:Int) (m:Nat) : place ({ r with on:=o,stop:=s } : Rn) a m=place r a m:=by
 unfold place
 rfl
theorem goF_jalr (G:GoCtx cs r w i n T cT) (hf:formB i.op=76) (h4:i.op=4) : Calls Tryz.prog 35 #[.agg cs] w (StepPost w (.agg cs) (some ({ r with pc:=(IntKind.u64.wrap (r.regs.getD i.s1 0+IntKind.u64.wrap i.imm)) / 2*2 }.wr i.rd (IntKind.u64.wrap (r.pc+n))))):=by
 obtain ⟨F,hn4,hm,ho1,ho2,h1,h2,h3,hs,HC,hall,m0,m35,m36,mR,hreg,H46,H12,H51,H53⟩:=G
 have H47:∀ W,Hid (Calls Tryz.prog 47 #[.int .u8 i.op] W fun e W'=>e=.returned (.tuple #[.string (nameB i.op),.int .i64 0])∧Below W.heap.size W W'):=fun W=>Lib.hid (nameD i.op ho1 ho2 W)
 have H48:∀ W,Hid (Calls Tryz.prog 48 #[.int .u8 i.op] W fun e W'=>e=.returned (.tuple #[.int .u8 (formB i.op),.int .i64 0])∧Below W.heap.size W W'):=fun W=>Lib.hid (formD i.op ho1 ho2 W)
 have hx:=mR i.s1 h1
 have hy:=mR i.s2 h2
 have hX:=hreg i.s1 h1
 have hY:=hreg i.s2 h2
 have hops:=ops_of i.op ho1 ho2
 have hrd:=rd_zero hm ho1 ho2
 have gx:r.regs[i.s1]?.getD 0=r.regs.getD i.s1 0:=rfl
 have gy:r.regs[i.s2]?.getD 0=r.regs.getD i.s2 0:=rfl
 rw [hf] at H48
 have hnm:((nameB i.op).toList == [106,97,108,114])=true:=by rw [h4]; simp [nameB]
 exact goD_jalr ⟨hn4,h1,h2,h3,hs,HC,hall,m0,m36,hx,hy,H46,H12,H47,H48⟩ hnm
theorem goF_Lx (G:GoCtx cs r w i n T cT) (hf:formB i.op=76) (h4:¬ i.op=4) (hp:place r (IntKind.u64.wrap (r.regs.getD i.s1 0+IntKind.u64.wrap i.imm)) (ldN i.op)=none) : Calls Tryz.prog 35 #[.agg cs] w (StepPost w (.agg cs) (none)):=by
 obtain ⟨F,hn4,hm,ho1,ho2,h1,h2,h3,hs,HC,hall,m0,m35,m36,mR,hreg,H46,H12,H51,H53⟩:=G
 have H47:∀ W,Hid (Calls Tryz.prog 47 #[.int .u8 i.op] W fun e W'=>e=.returned (.tuple #[.string (nameB i.op),.int .i64 0])∧Below W.heap.size W W'):=fun W=>Lib.hid (nameD i.op ho1 ho2 W)
 have H48:∀ W,Hid (Calls Tryz.prog 48 #[.int .u8 i.op] W fun e W'=>e=.returned (.tuple #[.int .u8 (formB i.op),.int .i64 0])∧Below W.heap.size W W'):=fun W=>Lib.hid (formD i.op ho1 ho2 W)
 have hx:=mR i.s1 h1
 have hy:=mR i.s2 h2
 have hX:=hreg i.s1 h1
 have hY:=hreg i.s2 h2
 have hops:=ops_of i.op ho1 ho2
 have hrd:=rd_zero hm ho1 ho2
 have gx:r.regs[i.s1]?.getD 0=r.regs.getD i.s1 0:=rfl
 have gy:r.regs[i.s2]?.getD 0=r.regs.getD i.s2 0:=rfl
 rw [hf] at H48
 have hb:11≤i.op∧i.op≤17:=by
  unfold opsOf at hops
  rw [hf] at hops
  simp only [Bool.or_eq_true,beq_iff_eq,decide_eq_true_eq] at hops
  omega
 have H52:=fun W=>Lib.hid (manyQ i.op hb.1 (by omega) W)
 have hls:lsN i.op=ldN i.op:=by unfold lsN; rw [if_pos (by omega)]
 rw [hls] at H52
 have hN:0 < ldN i.op∧ldN i.op≤8:=by unfold ldN; split <;> omega
 have hA:0≤(IntKind.u64.wrap (r.regs.getD i.s1 0+IntKind.u64.wrap i.imm))∧(IntKind.u64.wrap (r.regs.getD i.s1 0+IntKind.u64.wrap i.imm)) < B64:=u64_wrap_bd _
 have H51':=fun W=>H51 W _ hA (ldN i.op) hN.1 hN.2
 have hnm:((nameB i.op).toList == [106,97,108,114])=false:=by
  obtain h | h | h | h | h | h | h:i.op=11∨i.op=12∨i.op=13∨i.op=14∨i.op=15∨i.op=16∨i.op=17:=by omega
  all_goals (rw [h]; simp [nameB])
 have e:thereF r (IntKind.u64.wrap (r.regs.getD i.s1 0+IntKind.u64.wrap i.imm)) (ldN i.op) = -1:=by unfold thereF; rw [hp]
 rw [e] at H51'
 exact goD_Lx ⟨hn4,h1,h2,h3,hs,HC,hall,m0,m36,hx,hy,H46,H12,H47,H48⟩ (ldN i.op) H52 (fun W=>Lib.hid (H51' W)) hnm
theorem cutD (op:Nat) (h:op=11∨op=12∨op=13∨op=14) (l:List Int) (p:Nat) (W:World) : Calls Tryz.prog 49 #[.int .u64 (ldm l p (ldN op)),.int .i64 (8*(ldN op:Int))] W fun e W'=>e=.returned (.int .u64 (ldE op (ldm l p (ldN op))))∧W=W':=by
 have hb:=fun k=>(ldm_bd l p k).1
 have n1:ldN 11=1:=rfl
 have n2:ldN 12=2:=rfl
 have n3:ldN 13=4:=rfl
 have n4:ldN 14=8:=rfl
 have m1:(8:Int)*((1:Nat) : Int)=8:=rfl
 have m2:(8:Int)*((2:Nat) : Int)=16:=rfl
 have m3:(8:Int)*((4:Nat) : Int)=32:=rfl
 have m4:(8:Int)*((8:Nat) : Int)=64:=rfl
 have e1:∀ x,ldE 11 x=nar8 x:=fun _=>rfl
 have e2:∀ x,ldE 12 x=nar16 x:=fun _=>rfl
 have e3:∀ x,ldE 13 x=nar32 x:=fun _=>rfl
 have e4:∀ x,ldE 14 x=x:=fun _=>rfl
 rcases h with rfl | rfl | rfl | rfl
 ·rw [n1,m1,e1]; exact cut8_c _ (hb 1) W
 ·rw [n2,m2,e2]; exact cut16_c _ (hb 2) W
 ·rw [n3,m3,e3]; exact cut32_c _ (hb 4) W
 ·rw [n4,m4,e4]; exact cut64_c _ W
theorem two_letters (op:Nat) (h:op=11∨op=12∨op=13∨op=14) : ((((nameB op).size:Int) == 2)=true)∧(((nameB op).size == 2)=true):=by
 rcases h with rfl | rfl | rfl | rfl <;> decide
theorem three_letters (op:Nat) (h:op=15∨op=16∨op=17) : ((((nameB op).size:Int) == 2)=false)∧(((nameB op).size == 2)=false):=by
 rcases h with rfl | rfl | rfl <;> decide
theorem goF_Lc (G:GoCtx cs r w i n T cT) (hf:formB i.op=76) (h4:¬ i.op=4) (p:Nat) (hp:place r (IntKind.u64.wrap (r.regs.getD i.s1 0+IntKind.u64.wrap i.imm)) (ldN i.op)=some p) (h14:i.op≤14) : Calls Tryz.prog 35 #[.agg cs] w (StepPost w (.agg cs) (some ({ r with pc:=IntKind.u64.wrap (r.pc+n) }.wr i.rd (ldE i.op (ldm r.mem p (ldN i.op)))))):=by
 obtain ⟨F,hn4,hm,ho1,ho2,h1,h2,h3,hs,HC,hall,m0,m35,m36,mR,hreg,H46,H12,H51,H53⟩:=G
 have H47:∀ W,Hid (Calls Tryz.prog 47 #[.int .u8 i.op] W fun e W'=>e=.returned (.tuple #[.string (nameB i.op),.int .i64 0])∧Below W.heap.size W W'):=fun W=>Lib.hid (nameD i.op ho1 ho2 W)
 have H48:∀ W,Hid (Calls Tryz.prog 48 #[.int .u8 i.op] W fun e W'=>e=.returned (.tuple #[.int .u8 (formB i.op),.int .i64 0])∧Below W.heap.size W W'):=fun W=>Lib.hid (formD i.op ho1 ho2 W)
 have hx:=mR i.s1 h1
 have hy:=mR i.s2 h2
 have hX:=hreg i.s1 h1
 have hY:=hreg i.s2 h2
 have hops:=ops_of i.op ho1 ho2
 have hrd:=rd_zero hm ho1 ho2
 have gx:r.regs[i.s1]?.getD 0=r.regs.getD i.s1 0:=rfl
 have gy:r.regs[i.s2]?.getD 0=r.regs.getD i.s2 0:=rfl
 rw [hf] at H48
 have hb:11≤i.op∧i.op≤17:=by
  unfold opsOf at hops
  rw [hf] at hops
  simp only [Bool.or_eq_true,beq_iff_eq,decide_eq_true_eq] at hops
  omega
 have H52:=fun W=>Lib.hid (manyQ i.op hb.1 (by omega) W)
 have hls:lsN i.op=ldN i.op:=by unfold lsN; rw [if_pos (by omega)]
 rw [hls] at H52
 have hN:0 < ldN i.op∧ldN i.op≤8:=by unfold ldN; split <;> omega
 have hA:0≤(IntKind.u64.wrap (r.regs.getD i.s1 0+IntKind.u64.wrap i.imm))∧(IntKind.u64.wrap (r.regs.getD i.s1 0+IntKind.u64.wrap i.imm)) < B64:=u64_wrap_bd _
 have H51':=fun W=>H51 W _ hA (ldN i.op) hN.1 hN.2
 have hnm:((nameB i.op).toList == [106,97,108,114])=false:=by
  obtain h | h | h | h | h | h | h:i.op=11∨i.op=12∨i.op=13∨i.op=14∨i.op=15∨i.op=16∨i.op=17:=by omega
  all_goals (rw [h]; simp [nameB])
 obtain ⟨_,hpk⟩:=place_some hp
 have e:thereF r (IntKind.u64.wrap (r.regs.getD i.s1 0+IntKind.u64.wrap i.imm)) (ldN i.op)=(p:Int):=by unfold thereF; rw [hp]
 rw [e] at H51'
 have H53':=fun W hb=>Lib.hid (H53 W hb p (ldN i.op) hpk hN.1 hN.2)
 have hop:i.op=11∨i.op=12∨i.op=13∨i.op=14:=by omega
 have hl:=two_letters i.op hop
 exact goD_Lc ⟨hn4,h1,h2,h3,hs,HC,hall,m0,m36,hx,hy,H46,H12,H47,H48⟩ (ldN i.op) p H52 (fun W=>Lib.hid (H51' W)) hnm (ldm r.mem p (ldN i.op)) H53' hl.1 hl.2 hN.2 _ (fun W=>Lib.hid (cutD i.op hop r.mem p W))
theorem goF_Lu (G:GoCtx cs r w i n T cT) (hf:formB i.op=76) (_h4:¬ i.op=4) (p:Nat) (hp:place r (IntKind.u64.wrap (r.regs.getD i.s1 0+IntKind.u64.wrap i.imm)) (ldN i.op)=some p) (h14:¬ i.op≤14) : Calls Tryz.prog 35 #[.agg cs] w (StepPost w (.agg cs) (some ({ r with pc:=IntKind.u64.wrap (r.pc+n) }.wr i.rd (ldE i.op (ldm r.mem p (ldN i.op)))))):=by
 obtain ⟨F,hn4,hm,ho1,ho2,h1,h2,h3,hs,HC,hall,m0,m35,m36,mR,hreg,H46,H12,H51,H53⟩:=G
 have H47:∀ W,Hid (Calls Tryz.prog 47 #[.int .u8 i.op] W fun e W'=>e=.returned (.tuple #[.string (nameB i.op),.int .i64 0])∧Below W.heap.size W W'):=fun W=>Lib.hid (nameD i.op ho1 ho2 W)
 have H48:∀ W,Hid (Calls Tryz.prog 48 #[.int .u8 i.op] W fun e W'=>e=.returned (.tuple #[.int .u8 (formB i.op),.int .i64 0])∧Below W.heap.size W W'):=fun W=>Lib.hid (formD i.op ho1 ho2 W)
 have hx:=mR i.s1 h1
 have hy:=mR i.s2 h2
 have hX:=hreg i.s1 h1
 have hY:=hreg i.s2 h2
 have hops:=ops_of i.op ho1 ho2
 have hrd:=rd_zero hm ho1 ho2
 have gx:r.regs[i.s1]?.getD 0=r.regs.getD i.s1 0:=rfl
 have gy:r.regs[i.s2]?.getD 0=r.regs.getD i.s2 0:=rfl
 rw [hf] at H48
 have hb:11≤i.op∧i.op≤17:=by
  unfold opsOf at hops
  rw [hf] at hops
  simp only [Bool.or_eq_true,beq_iff_eq,decide_eq_true_eq] at hops
  omega
 have H52:=fun W=>Lib.hid (manyQ i.op hb.1 (by omega) W)
 have hls:lsN i.op=ldN i.op:=by unfold lsN; rw [if_pos (by omega)]
 rw [hls] at H52
 have hN:0 < ldN i.op∧ldN i.op≤8:=by unfold ldN; split <;> omega
 have hA:0≤(IntKind.u64.wrap (r.regs.getD i.s1 0+IntKind.u64.wrap i.imm))∧(IntKind.u64.wrap (r.regs.getD i.s1 0+IntKind.u64.wrap i.imm)) < B64:=u64_wrap_bd _
 have H51':=fun W=>H51 W _ hA (ldN i.op) hN.1 hN.2
 have hnm:((nameB i.op).toList == [106,97,108,114])=false:=by
  obtain h | h | h | h | h | h | h:i.op=11∨i.op=12∨i.op=13∨i.op=14∨i.op=15∨i.op=16∨i.op=17:=by omega
  all_goals (rw [h]; simp [nameB])
 obtain ⟨_,hpk⟩:=place_some hp
 have e:thereF r (IntKind.u64.wrap (r.regs.getD i.s1 0+IntKind.u64.wrap i.imm)) (ldN i.op)=(p:Int):=by unfold thereF; rw [hp]
 rw [e] at H51'
 have H53':=fun W hb=>Lib.hid (H53 W hb p (ldN i.op) hpk hN.1 hN.2)
 have hop:i.op=15∨i.op=16∨i.op=17:=by omega
 have hl:=three_letters i.op hop
 have hE:ldE i.op (ldm r.mem p (ldN i.op))=ldm r.mem p (ldN i.op):=by
  generalize ldm r.mem p (ldN i.op)=x
  rcases hop with h | h | h <;> (rw [h]; rfl)
 rw [hE]
 exact goD_Lu ⟨hn4,h1,h2,h3,hs,HC,hall,m0,m36,hx,hy,H46,H12,H47,H48⟩ (ldN i.op) p H52 (fun W=>Lib.hid (H51' W)) hnm (ldm r.mem p (ldN i.op)) H53' hl.1 hl.2
theorem goF_76 (G:GoCtx cs r w i n T cT) (hf:formB i.op=76) : Calls Tryz.prog 35 #[.agg cs] w (StepPost w (.agg cs) (stepG i n r)):=by
 have gx:r.regs[i.s1]?.getD 0=r.regs.getD i.s1 0:=rfl
 unfold stepG doF
 rw [hf]
 simp only
 rw [gx]
 by_cases h4:i.op=4
 ·obtain ⟨jb0,jb1⟩:=half2 (r.regs.getD i.s1 0+IntKind.u64.wrap i.imm)
  have ea:=andNot1 _ jb0 (by omega)
  rw [if_pos h4,ea]
  exact (goF_jalr G hf h4).mono fun _ _ k=>by refine StepPost.same ?_ ?_ ?_ ?_ ?_ ?_ k <;> rfl
 ·rw [if_neg h4,place_on]
  cases hp:place r (IntKind.u64.wrap (r.regs.getD i.s1 0+IntKind.u64.wrap i.imm)) (ldN i.op) with
  | none=>exact goF_Lx G hf h4 hp
  | some p =>
   by_cases h14:i.op≤14
   ·exact (goF_Lc G hf h4 p hp h14).mono fun _ _ k=>by refine StepPost.same ?_ ?_ ?_ ?_ ?_ ?_ k <;> rfl
   ·exact (goF_Lu G hf h4 p hp h14).mono fun _ _ k=>by refine StepPost.same ?_ ?_ ?_ ?_ ?_ ?_ k <;> rfl
end
end Go.Proofs.YtoehlmiadiiimaaGreatDoor

