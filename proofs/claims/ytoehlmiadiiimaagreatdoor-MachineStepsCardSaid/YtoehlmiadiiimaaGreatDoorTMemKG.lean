import Derived.Test.YtoehlmiadiiimaaGreatDoorTMemKC0
import Derived.Test.YtoehlmiadiiimaaGreatDoorTMemKD
/-
  The machine, as the document has it: it goes on as the program's: forms.
-/
set_option maxHeartbeats 2000000
namespace Go.Proofs.YtoehlmiadiiimaaGreatDoor
open Go.ChangeShapes Go.WideShapes Go.RowKit Go.Proofs.YtoehlmiadiiimaaGreatDoor.Ex
section
variable {cs:Array Value} {r:Rn} {w:World} {i:Ins} {n:Nat} {T:Option Addr} {cT:Nat}
theorem goF_83 (G:GoCtx cs r w i n T cT) (hf:formB i.op=83) : Calls Tryz.prog 35 #[.agg cs] w (StepPost w (.agg cs) (stepG i n r)):=by
 obtain ⟨F,hn4,hm,ho1,ho2,h1,h2,h3,hs,HC,hall,m0,m35,m36,mR,hreg,H46,H12,H51,H53⟩:=G
 have H47:∀ W,Hid (Calls Tryz.prog 47 #[.int .u8 i.op] W fun e W'=>e=.returned (.tuple #[.string (nameB i.op),.int .i64 0])∧Below W.heap.size W W'):=fun W=>Lib.hid (nameD i.op ho1 ho2 W)
 have H48:∀ W,Hid (Calls Tryz.prog 48 #[.int .u8 i.op] W fun e W'=>e=.returned (.tuple #[.int .u8 (formB i.op),.int .i64 0])∧Below W.heap.size W W'):=fun W=>Lib.hid (formD i.op ho1 ho2 W)
 have hx:=mR i.s1 h1
 have hy:=mR i.s2 h2
 have hX:=hreg i.s1 h1
 have hY:=hreg i.s2 h2
 have hops:=ops_of i.op ho1 ho2
 have hrd:=rd_zero hm ho1 ho2
 have gx:r.regs[i.s1]?.getD 0=r.regs.getD i.s1 0:=rfl
 have gy:r.regs[i.s2]?.getD 0=r.regs.getD i.s2 0:=rfl
 unfold stepG doF
 unfold opsOf at hops
 rw [hf] at H48 hops hrd
 rw [hf]
 simp only at hops ⊢
 have hb:=of_decide_eq_true hops
 rw [gx,gy]
 have H52:=fun W=>Lib.hid (manyQ i.op (by omega) (by omega) W)
 have hls:lsN i.op=stN i.op:=by unfold lsN; rw [if_neg (by omega)]
 rw [hls] at H52
 have hN:0 < stN i.op∧stN i.op≤8:=by unfold stN; split <;> omega
 have hA:0≤IntKind.u64.wrap (r.regs.getD i.s1 0+IntKind.u64.wrap i.imm)∧IntKind.u64.wrap (r.regs.getD i.s1 0+IntKind.u64.wrap i.imm) < B64:=u64_wrap_bd _
 have H51':=fun W=>H51 W _ hA (stN i.op) hN.1 hN.2
 have hpl:∀ o s,place ({ r with on:=o,stop:=s } : Rn) (IntKind.u64.wrap (r.regs.getD i.s1 0+IntKind.u64.wrap i.imm)) (stN i.op)=place r (IntKind.u64.wrap (r.regs.getD i.s1 0+IntKind.u64.wrap i.imm)) (stN i.op):=fun _ _=>rfl
 rw [hpl]
 cases hp:place r (IntKind.u64.wrap (r.regs.getD i.s1 0+IntKind.u64.wrap i.imm)) (stN i.op) with
 | none =>
  have e:thereF r (IntKind.u64.wrap (r.regs.getD i.s1 0+IntKind.u64.wrap i.imm)) (stN i.op) = -1:=by unfold thereF; rw [hp]
  rw [e] at H51'
  exact goD_Sx ⟨hn4,h1,h2,h3,hs,HC,hall,m0,m36,hx,hy,H46,H12,H47,H48⟩ (stN i.op) H52 (fun W=>Lib.hid (H51' W))
 | some p =>
  obtain ⟨_,hpk⟩:=place_some hp
  have e:thereF r (IntKind.u64.wrap (r.regs.getD i.s1 0+IntKind.u64.wrap i.imm)) (stN i.op)=(p:Int):=by unfold thereF; rw [hp]
  rw [e] at H51'
  exact (goD_S ⟨hn4,h1,h2,h3,hs,HC,hall,m0,m36,hx,hy,H46,H12,H47,H48⟩ (stN i.op) p H52 (fun W=>Lib.hid (H51' W)) hN.2 hpk hN.1 F.len hY.1 hY.2).mono fun _ _ k=>by
   refine StepPost.same ?_ ?_ ?_ ?_ ?_ ?_ k
   all_goals first | rfl | (show r.regs=(Rn.wr _ _ _).regs; rw [wr_0 (hrd rfl)])
theorem goF_73 (G:GoCtx cs r w i n T cT) (hf:formB i.op=73) : Calls Tryz.prog 35 #[.agg cs] w (StepPost w (.agg cs) (stepG i n r)):=by
 obtain ⟨F,hn4,hm,ho1,ho2,h1,h2,h3,hs,HC,hall,m0,m35,m36,mR,hreg,H46,H12,H51,H53⟩:=G
 have H47:∀ W,Hid (Calls Tryz.prog 47 #[.int .u8 i.op] W fun e W'=>e=.returned (.tuple #[.string (nameB i.op),.int .i64 0])∧Below W.heap.size W W'):=fun W=>Lib.hid (nameD i.op ho1 ho2 W)
 have H48:∀ W,Hid (Calls Tryz.prog 48 #[.int .u8 i.op] W fun e W'=>e=.returned (.tuple #[.int .u8 (formB i.op),.int .i64 0])∧Below W.heap.size W W'):=fun W=>Lib.hid (formD i.op ho1 ho2 W)
 have hx:=mR i.s1 h1
 have hy:=mR i.s2 h2
 have hX:=hreg i.s1 h1
 have hY:=hreg i.s2 h2
 have hops:=ops_of i.op ho1 ho2
 have hrd:=rd_zero hm ho1 ho2
 have gx:r.regs[i.s1]?.getD 0=r.regs.getD i.s1 0:=rfl
 have gy:r.regs[i.s2]?.getD 0=r.regs.getD i.s2 0:=rfl
 unfold stepG doF
 unfold opsOf at hops
 rw [hf] at H48 hops hrd
 rw [hf]
 simp only at hops ⊢
 have hr:i.op∈rootL:=by simpa using hops
 rw [gx]
 obtain ⟨e2,e3⟩:=root_two i.op hr (r.regs.getD i.s1 0) (IntKind.u64.wrap i.imm)
 have H55:=fun W=>Lib.hid (rootD i.op hr W)
 have hI:=u64_wrap_bd i.imm
 have H54:=fun W=>Lib.hid (plain_all (rootO i.op) e3 (r.regs.getD i.s1 0) (IntKind.u64.wrap i.imm) W hX.1 hX.2 hI.1 hI.2)
 rw [e2] at H54
 exact (goD_II ⟨hn4,h1,h2,h3,hs,HC,hall,m0,m36,hx,hy,H46,H12,H47,H48⟩ (nameB (rootO i.op)) H55 _ H54).mono fun _ _ k=>by refine StepPost.same ?_ ?_ ?_ ?_ ?_ ?_ k <;> rfl
theorem goF_54 (G:GoCtx cs r w i n T cT) (hf:formB i.op=54) : Calls Tryz.prog 35 #[.agg cs] w (StepPost w (.agg cs) (stepG i n r)):=by
 obtain ⟨F,hn4,hm,ho1,ho2,h1,h2,h3,hs,HC,hall,m0,m35,m36,mR,hreg,H46,H12,H51,H53⟩:=G
 have H47:∀ W,Hid (Calls Tryz.prog 47 #[.int .u8 i.op] W fun e W'=>e=.returned (.tuple #[.string (nameB i.op),.int .i64 0])∧Below W.heap.size W W'):=fun W=>Lib.hid (nameD i.op ho1 ho2 W)
 have H48:∀ W,Hid (Calls Tryz.prog 48 #[.int .u8 i.op] W fun e W'=>e=.returned (.tuple #[.int .u8 (formB i.op),.int .i64 0])∧Below W.heap.size W W'):=fun W=>Lib.hid (formD i.op ho1 ho2 W)
 have hx:=mR i.s1 h1
 have hy:=mR i.s2 h2
 have hX:=hreg i.s1 h1
 have hY:=hreg i.s2 h2
 have hops:=ops_of i.op ho1 ho2
 have hrd:=rd_zero hm ho1 ho2
 have gx:r.regs[i.s1]?.getD 0=r.regs.getD i.s1 0:=rfl
 have gy:r.regs[i.s2]?.getD 0=r.regs.getD i.s2 0:=rfl
 unfold stepG doF
 unfold opsOf at hops
 rw [hf] at H48 hops hrd
 rw [hf]
 simp only at hops ⊢
 have hr:i.op∈rootL:=by simpa using hops
 rw [gx]
 obtain ⟨e2,e3⟩:=root_two i.op hr (r.regs.getD i.s1 0) (IntKind.u64.wrap i.imm)
 have H55:=fun W=>Lib.hid (rootD i.op hr W)
 have hI:=u64_wrap_bd i.imm
 have H54:=fun W=>Lib.hid (plain_all (rootO i.op) e3 (r.regs.getD i.s1 0) (IntKind.u64.wrap i.imm) W hX.1 hX.2 hI.1 hI.2)
 rw [e2] at H54
 exact (goD_I6 ⟨hn4,h1,h2,h3,hs,HC,hall,m0,m36,hx,hy,H46,H12,H47,H48⟩ (nameB (rootO i.op)) H55 _ H54).mono fun _ _ k=>by refine StepPost.same ?_ ?_ ?_ ?_ ?_ ?_ k <;> rfl
theorem goF_53 (G:GoCtx cs r w i n T cT) (hf:formB i.op=53) : Calls Tryz.prog 35 #[.agg cs] w (StepPost w (.agg cs) (stepG i n r)):=by
 obtain ⟨F,hn4,hm,ho1,ho2,h1,h2,h3,hs,HC,hall,m0,m35,m36,mR,hreg,H46,H12,H51,H53⟩:=G
 have H47:∀ W,Hid (Calls Tryz.prog 47 #[.int .u8 i.op] W fun e W'=>e=.returned (.tuple #[.string (nameB i.op),.int .i64 0])∧Below W.heap.size W W'):=fun W=>Lib.hid (nameD i.op ho1 ho2 W)
 have H48:∀ W,Hid (Calls Tryz.prog 48 #[.int .u8 i.op] W fun e W'=>e=.returned (.tuple #[.int .u8 (formB i.op),.int .i64 0])∧Below W.heap.size W W'):=fun W=>Lib.hid (formD i.op ho1 ho2 W)
 have hx:=mR i.s1 h1
 have hy:=mR i.s2 h2
 have hX:=hreg i.s1 h1
 have hY:=hreg i.s2 h2
 have hops:=ops_of i.op ho1 ho2
 have hrd:=rd_zero hm ho1 ho2
 have gx:r.regs[i.s1]?.getD 0=r.regs.getD i.s1 0:=rfl
 have gy:r.regs[i.s2]?.getD 0=r.regs.getD i.s2 0:=rfl
 unfold stepG doF
 unfold opsOf at hops
 rw [hf] at H48 hops hrd
 rw [hf]
 simp only at hops ⊢
 have hr:i.op∈rootL:=by simpa using hops
 rw [gx]
 obtain ⟨e2,e3⟩:=root_two i.op hr (r.regs.getD i.s1 0) (IntKind.u64.wrap i.imm)
 have H55:=fun W=>Lib.hid (rootD i.op hr W)
 have hI:=u64_wrap_bd i.imm
 have H54:=fun W=>Lib.hid (plain_all (rootO i.op) e3 (r.regs.getD i.s1 0) (IntKind.u64.wrap i.imm) W hX.1 hX.2 hI.1 hI.2)
 rw [e2] at H54
 exact (goD_I5 ⟨hn4,h1,h2,h3,hs,HC,hall,m0,m36,hx,hy,H46,H12,H47,H48⟩ (nameB (rootO i.op)) H55 _ H54).mono fun _ _ k=>by refine StepPost.same ?_ ?_ ?_ ?_ ?_ ?_ k <;> rfl
theorem goF_82 (G:GoCtx cs r w i n T cT) (hf:formB i.op=82) : Calls Tryz.prog 35 #[.agg cs] w (StepPost w (.agg cs) (stepG i n r)):=by
 obtain ⟨F,hn4,hm,ho1,ho2,h1,h2,h3,hs,HC,hall,m0,m35,m36,mR,hreg,H46,H12,H51,H53⟩:=G
 have H47:∀ W,Hid (Calls Tryz.prog 47 #[.int .u8 i.op] W fun e W'=>e=.returned (.tuple #[.string (nameB i.op),.int .i64 0])∧Below W.heap.size W W'):=fun W=>Lib.hid (nameD i.op ho1 ho2 W)
 have H48:∀ W,Hid (Calls Tryz.prog 48 #[.int .u8 i.op] W fun e W'=>e=.returned (.tuple #[.int .u8 (formB i.op),.int .i64 0])∧Below W.heap.size W W'):=fun W=>Lib.hid (formD i.op ho1 ho2 W)
 have hx:=mR i.s1 h1
 have hy:=mR i.s2 h2
 have hX:=hreg i.s1 h1
 have hY:=hreg i.s2 h2
 have hops:=ops_of i.op ho1 ho2
 have hrd:=rd_zero hm ho1 ho2
 have gx:r.regs[i.s1]?.getD 0=r.regs.getD i.s1 0:=rfl
 have gy:r.regs[i.s2]?.getD 0=r.regs.getD i.s2 0:=rfl
 unfold stepG doF
 unfold opsOf at hops
 rw [hf] at H48 hops hrd
 rw [hf]
 simp only at hops ⊢
 have hb:=of_decide_eq_true hops
 rw [gx,gy]
 have H54:=fun W=>Lib.hid (plain_all i.op hb (r.regs.getD i.s1 0) (r.regs.getD i.s2 0) W hX.1 hX.2 hY.1 hY.2)
 exact (goD_R ⟨hn4,h1,h2,h3,hs,HC,hall,m0,m36,hx,hy,H46,H12,H47,H48⟩ _ H54).mono fun _ _ k=>by refine StepPost.same ?_ ?_ ?_ ?_ ?_ ?_ k <;> rfl
end
end Go.Proofs.YtoehlmiadiiimaaGreatDoor

/-
  The machine, as the document has it: it goes on as the program's: forms.
-/
set_option maxHeartbeats 2000000
namespace Go.Proofs.YtoehlmiadiiimaaGreatDoor
open Go.ChangeShapes Go.WideShapes Go.RowKit Go.Proofs.YtoehlmiadiiimaaGreatDoor.Ex
section
variable {cs:Array Value} {r:Rn} {w:World} {i:Ins} {n:Nat} {T:Option Addr} {cT:Nat}
theorem goF_78 (G:GoCtx cs r w i n T cT) (hf:formB i.op=78) : Calls Tryz.prog 35 #[.agg cs] w (StepPost w (.agg cs) (stepG i n r)):=by
 obtain ⟨F,hn4,hm,ho1,ho2,h1,h2,h3,hs,HC,hall,m0,m35,m36,mR,hreg,H46,H12,H51,H53⟩:=G
 have H47:∀ W,Hid (Calls Tryz.prog 47 #[.int .u8 i.op] W fun e W'=>e=.returned (.tuple #[.string (nameB i.op),.int .i64 0])∧Below W.heap.size W W'):=fun W=>Lib.hid (nameD i.op ho1 ho2 W)
 have H48:∀ W,Hid (Calls Tryz.prog 48 #[.int .u8 i.op] W fun e W'=>e=.returned (.tuple #[.int .u8 (formB i.op),.int .i64 0])∧Below W.heap.size W W'):=fun W=>Lib.hid (formD i.op ho1 ho2 W)
 have hx:=mR i.s1 h1
 have hy:=mR i.s2 h2
 have hX:=hreg i.s1 h1
 have hY:=hreg i.s2 h2
 have hops:=ops_of i.op ho1 ho2
 have hrd:=rd_zero hm ho1 ho2
 have gx:r.regs[i.s1]?.getD 0=r.regs.getD i.s1 0:=rfl
 have gy:r.regs[i.s2]?.getD 0=r.regs.getD i.s2 0:=rfl
 unfold stepG doF
 unfold opsOf at hops
 rw [hf] at H48 hops hrd
 rw [hf]
 simp only at hops ⊢
 have hb:=of_decide_eq_true hops
 by_cases h65:i.op=65
 ·rw [if_pos h65]
  have hnm:((nameB i.op).toList == [101,99,97,108,108])=true:=by rw [h65]; simp [nameB]
  have etl:({ r with on:=IntKind.u64.wrap (r.pc+n),stop:=false } : Rn).told.length=r.told.length:=rfl
  by_cases htl:r.told.length < 1000
  ·rw [if_pos (by rw [etl]; exact htl)]
   exact (goD_Nok ⟨hn4,h1,h2,h3,hs,HC,hall,m0,m36,hx,hy,H46,H12,H47,H48⟩ (r.regs.getD 10 0) (r.regs.getD 17 0) T cT (mR 10 (by omega)) (mR 17 (by omega)) m35 F.told hnm (decide_eq_true (by omega)) (decide_eq_true htl)).mono fun _ _ k=>by
    refine StepPost.same ?_ ?_ ?_ ?_ ?_ ?_ k
    all_goals first | rfl | (show r.regs=(Rn.wr _ _ _).regs; rw [wr_0 (hrd rfl)])
  ·rw [if_neg (by rw [etl]; exact htl)]
   exact goD_Nfull ⟨hn4,h1,h2,h3,hs,HC,hall,m0,m36,hx,hy,H46,H12,H47,H48⟩ (r.regs.getD 10 0) (r.regs.getD 17 0) T cT (mR 10 (by omega)) (mR 17 (by omega)) m35 F.told hnm (decide_eq_false (by omega)) (decide_eq_false htl)
 ·rw [if_neg h65]
  have hnm:((nameB i.op).toList == [101,99,97,108,108])=false:=by
   obtain h | h:i.op=64∨i.op=66:=by omega
   all_goals (rw [h]; simp [nameB])
  exact goD_Nx ⟨hn4,h1,h2,h3,hs,HC,hall,m0,m36,hx,hy,H46,H12,H47,H48⟩ (r.regs.getD 10 0) (r.regs.getD 17 0) T cT (mR 10 (by omega)) (mR 17 (by omega)) m35 F.told hnm
theorem goF_67 (G:GoCtx cs r w i n T cT) (hf:formB i.op=67) : Calls Tryz.prog 35 #[.agg cs] w (StepPost w (.agg cs) (stepG i n r)):=by
 obtain ⟨F,hn4,hm,ho1,ho2,h1,h2,h3,hs,HC,hall,m0,m35,m36,mR,hreg,H46,H12,H51,H53⟩:=G
 have H47:∀ W,Hid (Calls Tryz.prog 47 #[.int .u8 i.op] W fun e W'=>e=.returned (.tuple #[.string (nameB i.op),.int .i64 0])∧Below W.heap.size W W'):=fun W=>Lib.hid (nameD i.op ho1 ho2 W)
 have H48:∀ W,Hid (Calls Tryz.prog 48 #[.int .u8 i.op] W fun e W'=>e=.returned (.tuple #[.int .u8 (formB i.op),.int .i64 0])∧Below W.heap.size W W'):=fun W=>Lib.hid (formD i.op ho1 ho2 W)
 have hx:=mR i.s1 h1
 have hy:=mR i.s2 h2
 have hX:=hreg i.s1 h1
 have hY:=hreg i.s2 h2
 have hops:=ops_of i.op ho1 ho2
 have hrd:=rd_zero hm ho1 ho2
 have gx:r.regs[i.s1]?.getD 0=r.regs.getD i.s1 0:=rfl
 have gy:r.regs[i.s2]?.getD 0=r.regs.getD i.s2 0:=rfl
 unfold stepG doF
 unfold opsOf at hops
 rw [hf] at H48 hops hrd
 rw [hf]
 simp only at hops ⊢
 exact goD_noC ⟨hn4,h1,h2,h3,hs,HC,hall,m0,m36,hx,hy,H46,H12,H47,H48⟩
theorem goF_90 (G:GoCtx cs r w i n T cT) (hf:formB i.op=90) : Calls Tryz.prog 35 #[.agg cs] w (StepPost w (.agg cs) (stepG i n r)):=by
 obtain ⟨F,hn4,hm,ho1,ho2,h1,h2,h3,hs,HC,hall,m0,m35,m36,mR,hreg,H46,H12,H51,H53⟩:=G
 have H47:∀ W,Hid (Calls Tryz.prog 47 #[.int .u8 i.op] W fun e W'=>e=.returned (.tuple #[.string (nameB i.op),.int .i64 0])∧Below W.heap.size W W'):=fun W=>Lib.hid (nameD i.op ho1 ho2 W)
 have H48:∀ W,Hid (Calls Tryz.prog 48 #[.int .u8 i.op] W fun e W'=>e=.returned (.tuple #[.int .u8 (formB i.op),.int .i64 0])∧Below W.heap.size W W'):=fun W=>Lib.hid (formD i.op ho1 ho2 W)
 have hx:=mR i.s1 h1
 have hy:=mR i.s2 h2
 have hX:=hreg i.s1 h1
 have hY:=hreg i.s2 h2
 have hops:=ops_of i.op ho1 ho2
 have hrd:=rd_zero hm ho1 ho2
 have gx:r.regs[i.s1]?.getD 0=r.regs.getD i.s1 0:=rfl
 have gy:r.regs[i.s2]?.getD 0=r.regs.getD i.s2 0:=rfl
 unfold stepG doF
 unfold opsOf at hops
 rw [hf] at H48 hops hrd
 rw [hf]
 simp only at hops ⊢
 exact goD_noZ ⟨hn4,h1,h2,h3,hs,HC,hall,m0,m36,hx,hy,H46,H12,H47,H48⟩
theorem goF_108 (G:GoCtx cs r w i n T cT) (hf:formB i.op=108) : Calls Tryz.prog 35 #[.agg cs] w (StepPost w (.agg cs) (stepG i n r)):=by
 obtain ⟨F,hn4,hm,ho1,ho2,h1,h2,h3,hs,HC,hall,m0,m35,m36,mR,hreg,H46,H12,H51,H53⟩:=G
 have H47:∀ W,Hid (Calls Tryz.prog 47 #[.int .u8 i.op] W fun e W'=>e=.returned (.tuple #[.string (nameB i.op),.int .i64 0])∧Below W.heap.size W W'):=fun W=>Lib.hid (nameD i.op ho1 ho2 W)
 have H48:∀ W,Hid (Calls Tryz.prog 48 #[.int .u8 i.op] W fun e W'=>e=.returned (.tuple #[.int .u8 (formB i.op),.int .i64 0])∧Below W.heap.size W W'):=fun W=>Lib.hid (formD i.op ho1 ho2 W)
 have hx:=mR i.s1 h1
 have hy:=mR i.s2 h2
 have hX:=hreg i.s1 h1
 have hY:=hreg i.s2 h2
 have hops:=ops_of i.op ho1 ho2
 have hrd:=rd_zero hm ho1 ho2
 have gx:r.regs[i.s1]?.getD 0=r.regs.getD i.s1 0:=rfl
 have gy:r.regs[i.s2]?.getD 0=r.regs.getD i.s2 0:=rfl
 unfold stepG doF
 unfold opsOf at hops
 rw [hf] at H48 hops hrd
 rw [hf]
 simp only at hops ⊢
 exact goD_nol ⟨hn4,h1,h2,h3,hs,HC,hall,m0,m36,hx,hy,H46,H12,H47,H48⟩
theorem goF_65 (G:GoCtx cs r w i n T cT) (hf:formB i.op=65) : Calls Tryz.prog 35 #[.agg cs] w (StepPost w (.agg cs) (stepG i n r)):=by
 obtain ⟨F,hn4,hm,ho1,ho2,h1,h2,h3,hs,HC,hall,m0,m35,m36,mR,hreg,H46,H12,H51,H53⟩:=G
 have H47:∀ W,Hid (Calls Tryz.prog 47 #[.int .u8 i.op] W fun e W'=>e=.returned (.tuple #[.string (nameB i.op),.int .i64 0])∧Below W.heap.size W W'):=fun W=>Lib.hid (nameD i.op ho1 ho2 W)
 have H48:∀ W,Hid (Calls Tryz.prog 48 #[.int .u8 i.op] W fun e W'=>e=.returned (.tuple #[.int .u8 (formB i.op),.int .i64 0])∧Below W.heap.size W W'):=fun W=>Lib.hid (formD i.op ho1 ho2 W)
 have hx:=mR i.s1 h1
 have hy:=mR i.s2 h2
 have hX:=hreg i.s1 h1
 have hY:=hreg i.s2 h2
 have hops:=ops_of i.op ho1 ho2
 have hrd:=rd_zero hm ho1 ho2
 have gx:r.regs[i.s1]?.getD 0=r.regs.getD i.s1 0:=rfl
 have gy:r.regs[i.s2]?.getD 0=r.regs.getD i.s2 0:=rfl
 unfold stepG doF
 unfold opsOf at hops
 rw [hf] at H48 hops hrd
 rw [hf]
 simp only at hops ⊢
 exact goD_noA ⟨hn4,h1,h2,h3,hs,HC,hall,m0,m36,hx,hy,H46,H12,H47,H48⟩
end
end Go.Proofs.YtoehlmiadiiimaaGreatDoor

/-
  The machine, as the document has it: it goes on as the program's: all.
-/
namespace Go.Proofs.YtoehlmiadiiimaaGreatDoor
open Go.ChangeShapes Go.WideShapes Go.RowKit Go.Proofs.YtoehlmiadiiimaaGreatDoor.Ex
set_option maxHeartbeats 2000000 in
theorem go_D (v:Value) (r:Rn) (w:World) (h:MachR w v r) (F:Fit r) (hL:LG w) (h13:3≤w.heap.size) : Calls Tryz.prog 35 #[v] w (StepPost w v (stepF r)):=by
 obtain ⟨mv,tv,hv,hmv,htv⟩:=h.form
 obtain ⟨A,q,rfl,_,_⟩:=hmv.form
 obtain ⟨T,cT,rfl,_,_⟩:=htv.form
 rw [List.length_map] at hmv hv
 rw [List.length_map] at htv hv
 subst hv
 have hlen:=h.len
 have hs:=Lib.hid (mc_size (r:=r) (mv:=.slice A r.mem.length q) (tv:=.slice T r.told.length cT) hlen)
 have hall:=mc_one (r:=r) (mv:=.slice A r.mem.length q) (tv:=.slice T r.told.length cT) rfl rfl
 have m0:=mc0 (r:=r) (mv:=.slice A r.mem.length q) (tv:=.slice T r.told.length cT)
 have m35:=mc35 (r:=r) (mv:=.slice A r.mem.length q) (tv:=.slice T r.told.length cT) hlen
 have m36:=mc36 (r:=r) (mv:=.slice A r.mem.length q) (tv:=.slice T r.told.length cT) hlen
 have mR:=fun i hi=>mcR (r:=r) (mv:=.slice A r.mem.length q) (tv:=.slice T r.told.length cT) hlen i hi
 have H46:∀ W,Below w.heap.size w W→Hid (Calls Tryz.prog 46 #[.agg (mcells r (.slice A r.mem.length q) (.slice T r.told.length cT)).toArray] W (NextD W (nextV r).1 (nextV r).2.1 (nextV r).2.2)) :=
  fun W hb=>Lib.hid (next_D _ r W (h.keep hb) F (laidG_below hL (hb.mono h13)) (Nat.le_trans h13 hb.size))
 have H12:∀ W,Below w.heap.size w W→Hid (Calls Tryz.prog 12 #[.agg (mcells r (.slice A r.mem.length q) (.slice T r.told.length cT)).toArray] W (TwinPost W r)):=fun W hb=>Lib.hid (twinD _ r W (h.keep hb) (by have:=F.len; omega) F.told)
 have H51:=fun W addr ha many h0 h1=>thereM (.slice A r.mem.length q) (.slice T r.told.length cT) r W hlen ⟨A,q,rfl⟩ F addr ha many h0 h1
 have H53:=fun W (hb:Below w.heap.size w W) k many=>readM _ r W (h.keep hb) F k many
 have HC:Hid (∃ mv tv,(mcells r (.slice A r.mem.length q) (.slice T r.told.length cT)).toArray=(mcells r mv tv).toArray∧True):=Lib.hid ⟨_,_,rfl,trivial⟩
 obtain ⟨hft,hn4⟩:=fetch_next r
 have hmay:=next_may r
 generalize hcs:(mcells r (.slice A r.mem.length q) (.slice T r.told.length cT)).toArray=cs at *
 generalize nextV r=nv at *
 obtain ⟨i,n,b⟩:=nv
 simp only at H46 hft hn4 hmay
 cases b with
 | false =>
  have e:stepF r=none:=step_none hft
  rw [e]
  exact goD_off1 cs w i n r.done hs hall m36 H46
 | true =>
  cases hd:r.done with
  | true =>
   have e:stepF r=none:=by unfold stepF; rw [hd]
   rw [e]
   rw [hd] at m36
   exact goD_off2 cs w i n hs hall m36 H46
  | false =>
   rw [hd] at m36
   have hm:=hmay rfl
   obtain ⟨ho,h3,h1,h2⟩:=may_ok hm
   have ho1:1≤i.op:=by omega
   have ho2:i.op≤94:=by omega
   have h3:i.rd < 32:=by omega
   have h1:i.s1 < 32:=by omega
   have h2:i.s2 < 32:=by omega
   have hreg:∀ k,k < 32→0≤r.regs.getD k 0∧r.regs.getD k 0 < B64:=fun k hk=>by
    have hk':k < r.regs.length:=by omega
    rw [List.getD_eq_getElem?_getD,List.getElem?_eq_getElem hk']
    exact F.regs _ (List.getElem_mem hk')
   rw [show stepF r=stepG i n r from step_some hd hft]
   have G:GoCtx cs r w i n T cT:=⟨F,hn4,hm,ho1,ho2,h1,h2,h3,hs,HC,hall,m0,m35,m36,mR,hreg,H46,H12,H51,H53⟩
   have hfm:=formB_mem i.op ho1 ho2
   simp only [formsAll,List.mem_cons,List.not_mem_nil,or_false] at hfm
   rcases hfm with hf | hf | hf | hf | hf | hf | hf | hf | hf | hf | hf | hf | hf | hf | hf
   ·exact goF_85 G hf
   ·exact goF_74 G hf
   ·exact goF_66 G hf
   ·exact goF_76 G hf
   ·exact goF_83 G hf
   ·exact goF_73 G hf
   ·exact goF_54 G hf
   ·exact goF_53 G hf
   ·exact goF_82 G hf
   ·exact goF_70 G hf
   ·exact goF_78 G hf
   ·exact goF_67 G hf
   ·exact goF_90 G hf
   ·exact goF_108 G hf
   ·exact goF_65 G hf
end Go.Proofs.YtoehlmiadiiimaaGreatDoor

