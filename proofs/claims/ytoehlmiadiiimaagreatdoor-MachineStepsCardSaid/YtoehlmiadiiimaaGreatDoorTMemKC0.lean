import Derived.Test.YtoehlmiadiiimaaGreatDoorTMemJP
import Derived.Test.YtoehlmiadiiimaaGreatDoorTMemJ8
import Derived.Test.YtoehlmiadiiimaaGreatDoorTMemJ3
import Derived.Test.YtoehlmiadiiimaaGreatDoorTMemK1
import Derived.Test.YtoehlmiadiiimaaGreatDoorTMemK2
import Derived.Test.YtoehlmiadiiimaaGreatDoorTMemK6
import Derived.Test.YtoehlmiadiiimaaGreatDoorTMemK9
/-
  The machine, as the document has it: what an instruction does: one that can't go on.
-/
set_option maxRecDepth 100000
set_option maxHeartbeats 4000000
namespace Go.Proofs.YtoehlmiadiiimaaGreatDoor
open Go.ChangeShapes Go.WideShapes Go.RowKit Go.Proofs.YtoehlmiadiiimaaGreatDoor.Ex
theorem goD_off1 (cs:Array Value) (w:World) (i:Ins) (n:Int) (d:Bool) (hs:Hid (cs.size=37)) (hall:cs.all (·.oneCell')=true) (h36:cs[36]?=some (.bool d))
  (H46:∀ W,Below w.heap.size w W→Hid (Calls Tryz.prog 46 #[.agg cs] W (NextD W i n false))) : Calls Tryz.prog 35 #[.agg cs] w (StepPost w (.agg cs) none):=by
 have hsz:(Tryz.prog.info? 27).map (·.size)=some cs.size:=by rw [hs.out]; exact info27
 go_enter Tryz.func35,Tryz.ntmps35
 go_wp2_with (refine wpList_load_row rfl 27 (.tmp 1) rfl w.heap.size rfl 27 cs (0,0) _ (heap_alloc2_old w _ _) Tryz.underlying27 rfl hsz ?_)
 refine (H46 _ (((Below.refl _ _).alloc (Nat.le_refl _) _).alloc (by simp) _)).out.mono ?_
 rintro e w1 ⟨rfl,hb1⟩
 have D1:=(show Blk _ _ _ _ from heap_alloc2_old w _ _).below hb1 (by simp; omega)
 have E1:∃ Z,Blk w1 (w.heap.size+1) 27 Z∧Hid (Z.size=37):=⟨_,(show Blk _ _ _ _ from heap_alloc2_new w _ _).below hb1 (by simp),Lib.hid rfl⟩
 obtain ⟨Z,E1,hZ⟩:=E1
 have HB1:=Lib.hid ((((Below.refl _ _).alloc (Nat.le_refl _) _).alloc (by simp) _).trans (hb1.mono (by simp; omega)) : Below w.heap.size w w1)
 have hz1:w.heap.size+2≤w1.heap.size:=by have:=hb1.size; simpa using this
 clear hb1
 have D2:=D1.alloc (.cells #[.int .u8 i.op,.int .i64 i.rd,.int .i64 i.s1,.int .i64 i.s2,.int .i64 i.imm] 57)
 have E2:=E1.alloc (.cells #[.int .u8 i.op,.int .i64 i.rd,.int .i64 i.s1,.int .i64 i.s2,.int .i64 i.imm] 57)
 have B2:=Lib.hid (HB1.out.alloc (by omega) (.cells #[.int .u8 i.op,.int .i64 i.rd,.int .i64 i.s1,.int .i64 i.s2,.int .i64 i.imm] 57))
 have d36:=(D2.cell 36).trans h36
 clear D1 E1
 go_wp2_with (first
  | (refine wpList_load_row rfl 27 (.tmp 1) rfl w.heap.size rfl 27 cs (0,0) _ D2 Tryz.underlying27 rfl hsz ?_)
  | (refine wpList_store_row rfl 27 (.tmp 2) (.tmp 33) rfl (w.heap.size+1) cs rfl rfl 27 _ E2 hsz (by rw [hs.out,hZ.out]) hall ?_))
 refine bodyPost_ret (results_cell_tmp rfl _ _ (w.heap.size+1) 27 cs (0,0) _ rfl (setRow_heap _ _ _ _ _ _ E2) Tryz.underlying27 rfl hsz) rfl ?_
 exact fin_none B2.out (by omega)
theorem goD_off2 (cs:Array Value) (w:World) (i:Ins) (n:Int) (hs:Hid (cs.size=37)) (hall:cs.all (·.oneCell')=true) (h36:cs[36]?=some (.bool true))
  (H46:∀ W,Below w.heap.size w W→Hid (Calls Tryz.prog 46 #[.agg cs] W (NextD W i n true))) : Calls Tryz.prog 35 #[.agg cs] w (StepPost w (.agg cs) none):=by
 have hsz:(Tryz.prog.info? 27).map (·.size)=some cs.size:=by rw [hs.out]; exact info27
 go_enter Tryz.func35,Tryz.ntmps35
 go_wp2_with (refine wpList_load_row rfl 27 (.tmp 1) rfl w.heap.size rfl 27 cs (0,0) _ (heap_alloc2_old w _ _) Tryz.underlying27 rfl hsz ?_)
 refine (H46 _ (((Below.refl _ _).alloc (Nat.le_refl _) _).alloc (by simp) _)).out.mono ?_
 rintro e w1 ⟨rfl,hb1⟩
 have D1:=(show Blk _ _ _ _ from heap_alloc2_old w _ _).below hb1 (by simp; omega)
 have E1:∃ Z,Blk w1 (w.heap.size+1) 27 Z∧Hid (Z.size=37):=⟨_,(show Blk _ _ _ _ from heap_alloc2_new w _ _).below hb1 (by simp),Lib.hid rfl⟩
 obtain ⟨Z,E1,hZ⟩:=E1
 have HB1:=Lib.hid ((((Below.refl _ _).alloc (Nat.le_refl _) _).alloc (by simp) _).trans (hb1.mono (by simp; omega)) : Below w.heap.size w w1)
 have hz1:w.heap.size+2≤w1.heap.size:=by have:=hb1.size; simpa using this
 clear hb1
 have D2:=D1.alloc (.cells #[.int .u8 i.op,.int .i64 i.rd,.int .i64 i.s1,.int .i64 i.s2,.int .i64 i.imm] 57)
 have E2:=E1.alloc (.cells #[.int .u8 i.op,.int .i64 i.rd,.int .i64 i.s1,.int .i64 i.s2,.int .i64 i.imm] 57)
 have B2:=Lib.hid (HB1.out.alloc (by omega) (.cells #[.int .u8 i.op,.int .i64 i.rd,.int .i64 i.s1,.int .i64 i.s2,.int .i64 i.imm] 57))
 have d36:=(D2.cell 36).trans h36
 clear D1 E1
 go_wp2_with (first
  | (refine wpList_load_row rfl 27 (.tmp 1) rfl w.heap.size rfl 27 cs (0,0) _ D2 Tryz.underlying27 rfl hsz ?_)
  | (refine wpList_store_row rfl 27 (.tmp 2) (.tmp 33) rfl (w.heap.size+1) cs rfl rfl 27 _ E2 hsz (by rw [hs.out,hZ.out]) hall ?_))
 refine bodyPost_ret (results_cell_tmp rfl _ _ (w.heap.size+1) 27 cs (0,0) _ rfl (setRow_heap _ _ _ _ _ _ E2) Tryz.underlying27 rfl hsz) rfl ?_
 exact fin_none B2.out (by omega)
end Go.Proofs.YtoehlmiadiiimaaGreatDoor

/-
  The machine, as the document has it: what an instruction does is what the program does: small facts.
-/
namespace Go.Proofs.YtoehlmiadiiimaaGreatDoor
open Go.ChangeShapes Go.WideShapes Go.RowKit Go.Proofs.YtoehlmiadiiimaaGreatDoor.Ex
set_option maxRecDepth 100000 in
set_option maxHeartbeats 2000000 in
theorem manyQ (op:Nat) (h1:11≤op) (h2:op≤21) (w:World) : Calls Tryz.prog 52 #[.string (nameB op)] w fun e w'=>e=.returned (.int .i64 (lsN op))∧w'=w:=by
 have hop:op=11∨op=12∨op=13∨op=14∨op=15∨op=16∨op=17∨op=18∨op=19∨op=20∨op=21:=by omega
 clear h1 h2
 rcases hop with rfl | rfl | rfl | rfl | rfl | rfl | rfl | rfl | rfl | rfl | rfl
 all_goals
  unfold nameB lsN ldN stN
  go_enter Tryz.func52,Tryz.ntmps52
  go_wp2
  go_ret
  exact ⟨rfl,rfl⟩
theorem and_even (V:Nat) (h:V < 18446744073709551616) : V &&& 18446744073709551614=V / 2*2:=by
 have e1:18446744073709551614=2 ^ 1*(2 ^ 63 - 1):=by decide
 refine Nat.eq_of_testBit_eq fun k=>?_
 rw [Nat.testBit_and,e1,Nat.mul_comm (V / 2) 2,show 2*(V / 2)=2 ^ 1*(V / 2) from rfl,Nat.testBit_two_pow_mul,Nat.testBit_two_pow_mul,Nat.testBit_two_pow_sub_one]
 rcases Nat.eq_zero_or_pos k with h0 | h0
 ·subst h0; simp
 ·have e2:(V / 2).testBit (k - 1)=V.testBit k:=by
   rw [Nat.testBit_div_two,Nat.sub_add_cancel h0]
  rw [e2]
  rcases Nat.lt_or_ge k 64 with h3 | h3
  ·have:k - 1 < 63:=by omega
   simp only [this,decide_true,Bool.and_true]
   exact Bool.and_comm _ _
  ·rw [Nat.testBit_lt_two_pow (Nat.lt_of_lt_of_le h (Nat.pow_le_pow_right (by omega) h3:2 ^ 64≤2 ^ k))]
   simp
theorem andNot1 (t:Int) (h0:0≤t) (h1:t < 18446744073709551616) : bits .andNot .u64 t 1=t / 2*2:=by
 obtain ⟨n,rfl⟩:=Int.eq_ofNat_of_zero_le h0
 have q1:(BitVec.ofInt 64 (n:Int)).toNat=n:=ofInt_nat .u64 n (by show n≤18446744073709551615; omega)
 have e:bits .andNot .u64 (n:Int) 1=IntKind.u64.wrap (BitVec.ofInt 64 (n:Int) &&& ~~~ (BitVec.ofInt 64 1)).toNat:=rfl
 have q2:(~~~ (BitVec.ofInt 64 1)).toNat=18446744073709551614:=by decide
 rw [e,BitVec.toNat_and,q1,q2,and_even n (by omega),IntKind.wrap_u64]
 omega
theorem cdec_may (h:Nat) (h0:(cdecR h).2=0) : mayI ((cdecR h).1.op:Nat) ((cdecR h).1.rd:Nat) ((cdecR h).1.s1:Nat) ((cdecR h).1.s2:Nat) (cdecR h).1.imm=true:=by
 obtain ⟨h1,h2,h3,h4,_⟩:=read_bd h
 unfold cdecR at h0 ⊢
 simp only at h0 ⊢
 rw [Int.toNat_of_nonneg h1.1,Int.toNat_of_nonneg h2.1,Int.toNat_of_nonneg h3.1,Int.toNat_of_nonneg h4.1]
 cases hb:readB h with
 | false=>unfold readE at h0; rw [hb] at h0; cases h0
 | true =>
  have e1:readR h=rawR h:=by unfold readR; rw [hb]
  unfold readB at hb
  simp only [Bool.and_eq_true] at hb
  rw [e1]
  exact enc_may hb.1
theorem decFrom_may (w:Nat) (hw:w < 4294967296) : ∀ f k,k+f≤94→(decFrom w f k).2=0→mayI ((decFrom w f k).1.op:Nat) ((decFrom w f k).1.rd:Nat) ((decFrom w f k).1.s1:Nat) ((decFrom w f k).1.s2:Nat) (decFrom w f k).1.imm=true
 | 0,k,_,h=>by cases h
 | f+1,k,hk,h=>by
  unfold decFrom at h ⊢
  cases hm:matchO (k+1) w with
  | true=>exact fields_may (k+1) w (by omega) (by omega) hw
  | false=>rw [hm] at h; exact decFrom_may w hw f (k+1) (by omega) h
theorem next_may (r:Rn) (h:(nextV r).2.2=true) : mayI ((nextV r).1.op:Nat) ((nextV r).1.rd:Nat) ((nextV r).1.s1:Nat) ((nextV r).1.s2:Nat) (nextV r).1.imm=true:=by
 unfold nextV at h ⊢
 cases hp:place r r.pc 2 with
 | none=>rw [hp] at h; cases h
 | some k =>
  rw [hp] at h
  simp only at h ⊢
  by_cases hodd:r.pc % 2=0
  ·rw [if_pos hodd] at h ⊢
   cases h3:IntKind.u16.wrap (ldm r.mem k 2) % 4 == 3 with
   | false =>
    rw [h3] at h
    simp only at h ⊢
    exact cdec_may _ (eq_of_beq h)
   | true =>
    rw [h3] at h
    simp only at h ⊢
    cases hp4:place r r.pc 4 with
    | none=>rw [hp4] at h; cases h
    | some k4 =>
     rw [hp4] at h
     obtain ⟨c0,c1⟩:=u32_bd' (ldm r.mem k 4)
     exact decFrom_may _ (by omega) 94 0 (by omega) (eq_of_beq h)
  ·rw [if_neg hodd] at h; cases h
def opsOf (op:Nat) : Bool:=match formB op with
 | 85=>op == 1 || op == 2
 | 74=>op == 3
 | 66=>decide (5≤op∧op≤10)
 | 76=>op == 4 || decide (11≤op∧op≤17)
 | 83=>decide (18≤op∧op≤21)
 | 73=>rootL.contains op
 | 54=>rootL.contains op
 | 53=>rootL.contains op
 | 82=>decide ((31≤op∧op≤40)∨(45≤op∧op≤62))
 | 78=>decide (64≤op∧op≤66)
 | _=>true
theorem ops_all:((List.range 94).all fun o=>opsOf (o+1))=true:=by kernel_rfl
theorem ops_of (op:Nat) (h1:1≤op) (h2:op≤94) : opsOf op=true:=by
 have:=List.all_eq_true.1 ops_all (op - 1) (List.mem_range.2 (by omega))
 rwa [Nat.sub_add_cancel h1] at this
theorem root_two (op:Nat) (h:op∈rootL) (x y:Int) : twoF (rootO op) x y=twoF op x y∧((31≤rootO op∧rootO op≤40)∨(45≤rootO op∧rootO op≤62)):=by
 simp only [rootL,List.mem_cons,List.not_mem_nil,or_false] at h
 rcases h with rfl | rfl | rfl | rfl | rfl | rfl | rfl | rfl | rfl | rfl | rfl | rfl | rfl
 all_goals exact ⟨rfl,by simp [rootO]⟩
theorem StepPost.same {w:World} {v:Value} {r1 r2:Rn} (hp:r1.pc=r2.pc) (hr:r1.regs=r2.regs) (hb:r1.base=r2.base) (hm:r1.mem=r2.mem) (ht:r1.told=r2.told) (hd:r1.done=r2.done) {e:Ending} {w':World} (h:StepPost w v (some r1) e w') : StepPost w v (some r2) e w':=by
 cases r1; cases r2
 simp only at hp hr hb hm ht hd
 subst hp; subst hr; subst hb; subst hm; subst ht; subst hd
 obtain ⟨h1,v',h2,h3⟩:=h
 exact ⟨h1,v',h2,h3.len,h3.form⟩
end Go.Proofs.YtoehlmiadiiimaaGreatDoor

/-
  The machine, as the document has it: it goes on as the program's: what is known.
-/
namespace Go.Proofs.YtoehlmiadiiimaaGreatDoor
open Go.ChangeShapes Go.WideShapes Go.RowKit Go.Proofs.YtoehlmiadiiimaaGreatDoor.Ex
theorem may_rd {op d s t m:Int} (h:mayI op d s t m=true) : (shapeL (formI op)).d=false→d=0:=by
 intro hf
 unfold mayI mayF at h
 simp only [Bool.and_eq_true] at h
 have:=h.2.1
 rw [hf] at this
 simpa [regI] using this
theorem rd_zero {i:Ins} (h:mayI (i.op:Nat) (i.rd:Nat) (i.s1:Nat) (i.s2:Nat) i.imm=true) (h1:1≤i.op) (h2:i.op≤94) (hf:(regsF (formB i.op)).1=false) : i.rd=0:=by
 have e:=(shapeF (formB i.op) (formB_mem i.op h1 h2)).1
 have:=may_rd h (by rw [formI_B i.op h1 h2,e]; exact hf)
 omega
theorem step_none {r:Rn} (h:fetch r=none) : stepF r=none:=by
 unfold stepF
 split
 ·rfl
 ·have h':fetch { r with on:=0,stop:=false }=none:=h
  rw [h']
  try rfl
theorem step_some {r:Rn} {i:Ins} {on:Int} (hd:r.done=false) (h:fetch r=some (i,on)) : stepF r=match doF i { r with on:=on,stop:=false } with
  | none=>none
  | some (to,r')=>some { r' with pc:=to }:=by
 unfold stepF
 split
 ·rename_i hd'
  rw [hd] at hd'
  cases hd'
 ·have h':fetch { r with on:=0,stop:=false }=some (i,on):=h
  rw [h']
  try rfl
structure GoCtx (cs:Array Value) (r:Rn) (w:World) (i:Ins) (n:Nat) (T:Option Addr) (cT:Nat) : Prop where
 fit:Fit r
 n4:n≤4
 may:mayI (i.op:Nat) (i.rd:Nat) (i.s1:Nat) (i.s2:Nat) i.imm=true
 ho1:1≤i.op
 ho2:i.op≤94
 h1:i.s1 < 32
 h2:i.s2 < 32
 h3:i.rd < 32
 hs:Hid (cs.size=37)
 hC:Hid (∃ mv tv,cs=(mcells r mv tv).toArray∧True)
 hall:cs.all (·.oneCell')=true
 m0:cs[0]?=some (.int .u64 r.pc)
 m35:cs[35]?=some (.slice T r.told.length cT)
 m36:cs[36]?=some (.bool false)
 mR:∀ k,k < 32→cs[1+k]?=some (.int .u64 (r.regs.getD k 0))
 reg:∀ k,k < 32→0≤r.regs.getD k 0∧r.regs.getD k 0 < B64
 H46:∀ W,Below w.heap.size w W→Hid (Calls Tryz.prog 46 #[.agg cs] W (NextD W i n true))
 H12:∀ W,Below w.heap.size w W→Hid (Calls Tryz.prog 12 #[.agg cs] W (TwinPost W r))
 H51:∀ W addr,(0≤addr∧addr < B64)→∀ many,0 < many→many≤8→Calls Tryz.prog 51 #[.agg cs,.int .u64 addr,.int .i64 (many:Nat)] W fun e w'=>e=.returned (.int .i64 (thereF r addr many))∧Below W.heap.size W w'
 H53:∀ W,Below w.heap.size w W→∀ k many:Nat,k+many≤r.mem.length→0 < many→many≤8→Calls Tryz.prog 53 #[.agg cs,.int .i64 k,.int .i64 many] W fun e w'=>e=.returned (.int .u64 (ldm r.mem k many))∧Below W.heap.size W w'
def stepG (i:Ins) (n:Nat) (r:Rn) : Option Rn:=match doF i { r with on:=IntKind.u64.wrap (r.pc+n),stop:=false } with
 | none=>none
 | some (to,r')=>some { r' with pc:=to }
section
variable {cs:Array Value} {r:Rn} {w:World} {i:Ins} {n:Nat} {T:Option Addr} {cT:Nat}
end
end Go.Proofs.YtoehlmiadiiimaaGreatDoor

