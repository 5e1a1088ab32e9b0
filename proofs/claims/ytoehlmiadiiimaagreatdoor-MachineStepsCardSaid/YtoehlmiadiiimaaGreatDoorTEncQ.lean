import Derived.Test.YtoehlmiadiiimaaGreatDoorTEncH
/-
  Short forms of instructions: which registers and numbers rows take, plain.
-/
namespace Go.Proofs.YtoehlmiadiiimaaGreatDoor.Ex
open Go
def regsP (f:Nat) (d s t:Int) : Prop:=match f with
 | 97=>8≤d∧d≤15∧s=2
 | 108=>8≤d∧d≤15∧8≤s∧s≤15
 | 115=>8≤t∧t≤15∧8≤s∧s≤15
 | 110=>d=0∧s=0
 | 106=>d=0∧s=0
 | 114=>d=s∧d≠0
 | 122=>d≠0∧s=0
 | 117=>d≠0∧d≠2
 | 112=>d=2∧s=2
 | 113=>d=s∧8≤d∧d≤15
 | 109=>d=s∧8≤d∧d≤15∧8≤t∧t≤15
 | 98=>8≤s∧s≤15∧t=0
 | 119=>d≠0∧s=2
 | 74=>d=0∧s≠0
 | 75=>d=1∧s≠0
 | 118=>d≠0∧s=0∧t≠0
 | 100=>d≠0∧d=s∧t≠0
 | 116=>s=2
 | _=>False
def zeroP (f:Nat) (d s t:Int) : Prop:=match f with
 | 115=>d=0
 | 98=>d=0
 | 116=>d=0
 | 117=>s=0∧t=0
 | 109=>True
 | 118=>True
 | 100=>True
 | _=>t=0
def eqB (a b:Int) : Bool:=a == b
def ltB (a b:Int) : Bool:=decide (a < b)
theorem at_eqB (η:Nat→Int) (φ:Nat→List Int→Int) (a b:SE) (t f:Tr) : (Tr.eq a b t f).at η φ=cond (eqB (a.ev η φ) (b.ev η φ)) (t.at η φ) (f.at η φ):=by
 rw [Tr.at]; unfold eqB; cases (a.ev η φ == b.ev η φ) <;> rfl
theorem at_ltB (η:Nat→Int) (φ:Nat→List Int→Int) (a b:SE) (t f:Tr) : (Tr.lt a b t f).at η φ=cond (ltB (a.ev η φ) (b.ev η φ)) (t.at η φ) (f.at η φ):=by
 rw [Tr.at]; unfold ltB; cases decide (a.ev η φ < b.ev η φ) <;> rfl
theorem cond_eqB {α:Type} (a b:Int) (x y:α) : cond (eqB a b) x y=if a=b then x else y:=by
 unfold eqB
 by_cases h:a=b
 ·rw [if_pos h,show (a == b)=true from by simpa using h]; rfl
 ·rw [if_neg h,show (a == b)=false from by simpa using h]; rfl
theorem cond_ltB {α:Type} (a b:Int) (x y:α) : cond (ltB a b) x y=if a < b then x else y:=by
 unfold ltB
 by_cases h:a < b
 ·rw [if_pos h,decide_eq_true h]; rfl
 ·rw [if_neg h,decide_eq_false h]; rfl
theorem e0 (a b c:Int) : ηl [a,b,c] 0=a:=rfl
theorem e1 (a b c:Int) : ηl [a,b,c] 1=b:=rfl
theorem e2 (a b c:Int) : ηl [a,b,c] 2=c:=rfl
theorem tb (x:AV) (b:Bool) : tupB (some (.tup [x,.bool b]))=b:=rfl
theorem regsOk_P (f:Nat) (hf:f∈RegsC.regForms) (d s t:Int) : regsOk f d s t=true↔regsP f d s t:=by
 simp only [RegsC.regForms,List.mem_cons,List.not_mem_nil,or_false] at hf
 unfold regsOk regsV
 rcases hf with rfl | rfl | rfl | rfl | rfl | rfl | rfl | rfl | rfl | rfl | rfl | rfl | rfl | rfl | rfl | rfl | rfl | rfl
 all_goals
  simp only [regsTr,at_eqB,at_ltB,at_leaf,ev_var,ev_lit,e0,e1,e2]
  simp only [cond_eqB,cond_ltB,regsP]
  repeat' split
  all_goals simp only [tb,Bool.false_eq_true,false_iff,true_iff]
  all_goals omega
def bOf (x:Option AV) : Bool:=match x with | some (.bool b)=>b | _=>false
theorem bOf_some (b:Bool) : bOf (some (.bool b))=b:=rfl
theorem rightV_P (f:Nat) (hf:f∈RegsC.regForms) (d s t:Int) : rightV f d s t=true↔(regsP f d s t∧zeroP f d s t):=by
 simp only [RegsC.regForms,List.mem_cons,List.not_mem_nil,or_false] at hf
 show bOf _=true↔_
 rcases hf with rfl | rfl | rfl | rfl | rfl | rfl | rfl | rfl | rfl | rfl | rfl | rfl | rfl | rfl | rfl | rfl | rfl | rfl
 all_goals
  simp only [rightTr,at_eqB,at_ltB,at_leaf,ev_var,ev_lit,e0,e1,e2]
  simp only [cond_eqB,cond_ltB,regsP,zeroP,and_true]
  repeat' split
  all_goals simp only [bOf_some,Bool.false_eq_true,false_iff,true_iff]
  all_goals omega
theorem wrap_small (n:Int) (h : -9223372036854775808≤n∧n≤9223372036854775807) : IntKind.i64.wrap n=n:=by
 unfold IntKind.wrap IntKind.bits IntKind.signed
 simp only [Bool.true_and,decide_eq_true_eq,ge_iff_le]
 split <;> omega
theorem quo_mul (u q:Int) (hu:1≤u) (hq : -2097152≤q∧q≤2097152) : ibin .quo .i64 (u*q) u=q:=by
 have e:ibin .quo .i64 (u*q) u=IntKind.i64.wrap ((u*q).tdiv u):=by
  unfold ibin abin
  simp only
  rw [if_neg (by simp),if_neg (by omega)]
 rw [e,Int.mul_tdiv_cancel_left _ (by omega),wrap_small _ (by omega)]
theorem mul_two (q:Int) (hq : -2097152≤q∧q≤2097152) : ibin .mul .i64 2 q=2*q:=by
 have e:ibin .mul .i64 2 q=IntKind.i64.wrap (2*q):=by
  unfold ibin abin
  simp only
  rw [if_neg (by simp)]
 rw [e,wrap_small _ (by omega)]
theorem rem_mul (u q:Int) (hu:1≤u) : ibin .rem .i64 (u*q) u=0:=by
 rw [rem_lit _ _ (by omega),Int.mul_tmod_right]
theorem rem_ne (u n:Int) (hu:1≤u) (h:n % u≠0) : ibin .rem .i64 n u≠0:=by
 rw [rem_lit _ _ (by omega)]
 intro k
 rw [tmod_zero] at k
 exact h k
def qP (k m:Nat) (q:Int) : Prop:=match k with
 | 112=>1≤q∧q < 2 ^ m
 | 117=>0≤q∧q < 2 ^ m
 | 48=>q=0
 | 110=>q≠0∧-(2 ^ (m - 1))≤q∧q < 2 ^ (m - 1)
 | 115=>-(2 ^ (m - 1))≤q∧q < 2 ^ (m - 1)
 | 108=>(1≤q∧q≤31)∨(1048544≤q∧q≤1048575)
 | _=>False
def numP (k u m:Nat) (n:Int) : Prop:=∃ q:Int,n=u*q∧qP k m q
theorem numP_mul {k u m:Nat} (hu:1≤(u:Int)) (q:Int) : numP k u m (u*q)↔qP k m q :=
 ⟨fun ⟨q',e,h⟩=>(Int.eq_of_mul_eq_mul_left (by omega) e:q=q') ▸ h,fun h=>⟨q,rfl,h⟩⟩
theorem numT_ne {k u m:Nat} {n:Int} (hr:n % (u:Int)≠0) : ¬ numP k u m n:=by
 rintro ⟨q,e,-⟩
 subst e
 exact hr (Int.mul_emod_right _ _)
theorem numOk_P (k u m:Nat) (hx:(k,u,m)∈nums) (n:Int) (hn : -1048576≤n∧n≤1048575) : (numOk k u m n=true↔numP k u m n)∧(fitsV k u m n=true↔numP k u m n):=by
 simp only [nums,List.mem_cons,List.not_mem_nil,or_false,Prod.mk.injEq] at hx
 have hu:1≤(u:Int):=by omega
 have f0:ηl [n] 0=n:=rfl
 by_cases hr:n % (u:Int)=0
 ·obtain ⟨q,rfl⟩ : ∃ q,n=(u:Int)*q:=⟨n / u,by have:=Int.mul_ediv_add_emod n u; omega⟩
  have hq : -2097152≤q∧q≤2097152:=by
   rcases hx with ⟨rfl,rfl,rfl⟩ | ⟨rfl,rfl,rfl⟩ | ⟨rfl,rfl,rfl⟩ | ⟨rfl,rfl,rfl⟩ | ⟨rfl,rfl,rfl⟩ | ⟨rfl,rfl,rfl⟩ | ⟨rfl,rfl,rfl⟩ | ⟨rfl,rfl,rfl⟩ | ⟨rfl,rfl,rfl⟩ | ⟨rfl,rfl,rfl⟩ | ⟨rfl,rfl,rfl⟩ | ⟨rfl,rfl,rfl⟩ | ⟨rfl,rfl,rfl⟩ <;> constructor <;> omega
  have h1:=quo_mul u q hu hq
  have h2:=rem_mul u q hu
  have h4:=mul_two q hq
  rw [numP_mul hu]
  unfold numOk numV
  constructor
  ·rcases hx with ⟨rfl,rfl,rfl⟩ | ⟨rfl,rfl,rfl⟩ | ⟨rfl,rfl,rfl⟩ | ⟨rfl,rfl,rfl⟩ | ⟨rfl,rfl,rfl⟩ | ⟨rfl,rfl,rfl⟩ | ⟨rfl,rfl,rfl⟩ | ⟨rfl,rfl,rfl⟩ | ⟨rfl,rfl,rfl⟩ | ⟨rfl,rfl,rfl⟩ | ⟨rfl,rfl,rfl⟩ | ⟨rfl,rfl,rfl⟩ | ⟨rfl,rfl,rfl⟩
   all_goals
    simp only [Int.cast_ofNat_Int] at h1 h2 f0 hn ⊢
    simp only [numTr,at_eqB,at_ltB,at_leaf,ev_var,ev_lit,ev_bin,f0,h1,h2,shr5,shr7,shr10,shr63]
    simp only [cond_eqB,cond_ltB,if_true,qP]
    repeat' split
    all_goals simp only [tb,Bool.false_eq_true,false_iff,true_iff]
    all_goals omega
  ·show bOf _=true↔_
   rcases hx with ⟨rfl,rfl,rfl⟩ | ⟨rfl,rfl,rfl⟩ | ⟨rfl,rfl,rfl⟩ | ⟨rfl,rfl,rfl⟩ | ⟨rfl,rfl,rfl⟩ | ⟨rfl,rfl,rfl⟩ | ⟨rfl,rfl,rfl⟩ | ⟨rfl,rfl,rfl⟩ | ⟨rfl,rfl,rfl⟩ | ⟨rfl,rfl,rfl⟩ | ⟨rfl,rfl,rfl⟩ | ⟨rfl,rfl,rfl⟩ | ⟨rfl,rfl,rfl⟩
   all_goals
    simp only [Int.cast_ofNat_Int] at h1 h2 f0 hn ⊢
    simp only [fitsTr,at_eqB,at_ltB,at_leaf,ev_var,ev_lit,ev_bin,f0,h1,h2,h4]
    simp only [cond_eqB,cond_ltB,if_true,qP]
    repeat' split
    all_goals simp only [bOf_some,Bool.false_eq_true,false_iff,true_iff]
    all_goals omega
 ·have h1:=rem_ne u n hu hr
  have h2:=numT_ne (k:=k) (m:=m) hr
  constructor
  ·refine ⟨fun h=>?_,fun h=>absurd h h2⟩
   exfalso
   revert h
   unfold numOk numV
   rcases hx with ⟨rfl,rfl,rfl⟩ | ⟨rfl,rfl,rfl⟩ | ⟨rfl,rfl,rfl⟩ | ⟨rfl,rfl,rfl⟩ | ⟨rfl,rfl,rfl⟩ | ⟨rfl,rfl,rfl⟩ | ⟨rfl,rfl,rfl⟩ | ⟨rfl,rfl,rfl⟩ | ⟨rfl,rfl,rfl⟩ | ⟨rfl,rfl,rfl⟩ | ⟨rfl,rfl,rfl⟩ | ⟨rfl,rfl,rfl⟩ | ⟨rfl,rfl,rfl⟩
   all_goals
    simp only [Int.cast_ofNat_Int] at h1 f0
    simp only [numTr,at_eqB,at_leaf,ev_var,ev_lit,ev_bin,f0]
    simp only [cond_eqB,if_neg h1,tb]
    simp
  ·refine ⟨fun h=>?_,fun h=>absurd h h2⟩
   exfalso
   revert h
   show bOf _=true→_
   rcases hx with ⟨rfl,rfl,rfl⟩ | ⟨rfl,rfl,rfl⟩ | ⟨rfl,rfl,rfl⟩ | ⟨rfl,rfl,rfl⟩ | ⟨rfl,rfl,rfl⟩ | ⟨rfl,rfl,rfl⟩ | ⟨rfl,rfl,rfl⟩ | ⟨rfl,rfl,rfl⟩ | ⟨rfl,rfl,rfl⟩ | ⟨rfl,rfl,rfl⟩ | ⟨rfl,rfl,rfl⟩ | ⟨rfl,rfl,rfl⟩ | ⟨rfl,rfl,rfl⟩
   all_goals
    simp only [Int.cast_ofNat_Int] at h1 f0
    simp only [fitsTr,at_eqB,at_leaf,ev_var,ev_lit,ev_bin,f0]
    simp only [cond_eqB,if_neg h1,bOf_some]
    simp
end Go.Proofs.YtoehlmiadiiimaaGreatDoor.Ex

/-
  Short forms of instructions: read back, plain.
-/
namespace Go.Proofs.YtoehlmiadiiimaaGreatDoor.Ex
open Go
def regF (f a b:Nat) : Int×Int×Int:=match f with
 | 97=>(8+(a:Int),2,0)
 | 108=>(8+(a:Int),8+(b:Int),0)
 | 115=>(0,8+(b:Int),8+(a:Int))
 | 114=>(1+(a:Int),1+(a:Int),0)
 | 122=>(1+(a:Int),0,0)
 | 117=>(1+(a:Int),0,0)
 | 112=>(2,2,0)
 | 113=>(8+(a:Int),8+(a:Int),0)
 | 109=>(8+(a:Int),8+(a:Int),8+(b:Int))
 | 98=>(0,8+(a:Int),0)
 | 119=>(1+(a:Int),2,0)
 | 74=>(0,1+(a:Int),0)
 | 75=>(1,1+(a:Int),0)
 | 118=>(1+(a:Int),0,1+(b:Int))
 | 100=>(1+(a:Int),1+(a:Int),1+(b:Int))
 | 116=>(0,2,(a:Int))
 | _=>(0,0,0)
def regN (f:Nat) : Nat×Nat:=match f with
 | 97=>(8,1)
 | 108=>(8,8)
 | 115=>(8,8)
 | 114=>(31,1)
 | 122=>(31,1)
 | 117=>(31,1)
 | 113=>(8,1)
 | 109=>(8,8)
 | 98=>(8,1)
 | 119=>(31,1)
 | 74=>(31,1)
 | 75=>(31,1)
 | 118=>(31,31)
 | 100=>(31,31)
 | 116=>(32,1)
 | _=>(1,1)
def r31 (n:Int) : Prop:=0≤n∧n≤31
theorem cover_regs (f:Nat) (hf:f∈RegsC.regForms) (d s t:Int) (h:regsP f d s t) (hz:zeroP f d s t) (hd:r31 d) (hs:r31 s) (ht:r31 t) : ∃ a,a < (regN f).1∧∃ b,b < (regN f).2∧(d,s,t)=regF f a b:=by
 obtain ⟨d1,d2⟩:=hd
 obtain ⟨s1,s2⟩:=hs
 obtain ⟨t1,t2⟩:=ht
 simp only [RegsC.regForms,List.mem_cons,List.not_mem_nil,or_false] at hf
 rcases hf with rfl | rfl | rfl | rfl | rfl | rfl | rfl | rfl | rfl | rfl | rfl | rfl | rfl | rfl | rfl | rfl | rfl | rfl <;> simp only [regsP,zeroP] at h hz <;> simp only [regN,regF,Prod.mk.injEq]
 ·exact ⟨(d - 8).toNat,by omega,0,by omega,by omega⟩
 ·exact ⟨(d - 8).toNat,by omega,(s - 8).toNat,by omega,by omega⟩
 ·exact ⟨(t - 8).toNat,by omega,(s - 8).toNat,by omega,by omega⟩
 ·exact ⟨0,by omega,0,by omega,by omega⟩
 ·exact ⟨0,by omega,0,by omega,by omega⟩
 ·exact ⟨(d - 1).toNat,by omega,0,by omega,by omega⟩
 ·exact ⟨(d - 1).toNat,by omega,0,by omega,by omega⟩
 ·exact ⟨(d - 1).toNat,by omega,0,by omega,by omega⟩
 ·exact ⟨0,by omega,0,by omega,by omega⟩
 ·exact ⟨(d - 8).toNat,by omega,0,by omega,by omega⟩
 ·exact ⟨(d - 8).toNat,by omega,(t - 8).toNat,by omega,by omega⟩
 ·exact ⟨(s - 8).toNat,by omega,0,by omega,by omega⟩
 ·exact ⟨(d - 1).toNat,by omega,0,by omega,by omega⟩
 ·exact ⟨(s - 1).toNat,by omega,0,by omega,by omega⟩
 ·exact ⟨(s - 1).toNat,by omega,0,by omega,by omega⟩
 ·exact ⟨(d - 1).toNat,by omega,(t - 1).toNat,by omega,by omega⟩
 ·exact ⟨(d - 1).toNat,by omega,(t - 1).toNat,by omega,by omega⟩
 ·exact ⟨t.toNat,by omega,0,by omega,by omega⟩
def qF (k m j:Nat) : Int:=match k with
 | 110=>(j:Int) - 2 ^ (m - 1)
 | 115=>(j:Int) - 2 ^ (m - 1)
 | 108=>if j < 32 then (j:Int) else (j:Int)+1048512
 | _=>(j:Int)
theorem cover_q {k u m:Nat} (hx:(k,u,m)∈nums) {q:Int} (h:qP k m q) : ∃ j,j < 2 ^ m∧q=qF k m j:=by
 simp only [nums,List.mem_cons,List.not_mem_nil,or_false,Prod.mk.injEq] at hx
 rcases hx with ⟨rfl,rfl,rfl⟩ | ⟨rfl,rfl,rfl⟩ | ⟨rfl,rfl,rfl⟩ | ⟨rfl,rfl,rfl⟩ | ⟨rfl,rfl,rfl⟩ | ⟨rfl,rfl,rfl⟩ | ⟨rfl,rfl,rfl⟩ | ⟨rfl,rfl,rfl⟩ | ⟨rfl,rfl,rfl⟩ | ⟨rfl,rfl,rfl⟩ | ⟨rfl,rfl,rfl⟩ | ⟨rfl,rfl,rfl⟩ | ⟨rfl,rfl,rfl⟩ <;> simp only [qP] at h <;> simp only [qF]
 ·exact ⟨q.toNat,by omega,by omega⟩
 ·exact ⟨q.toNat,by omega,by omega⟩
 ·exact ⟨q.toNat,by omega,by omega⟩
 ·exact ⟨q.toNat,by omega,by omega⟩
 ·exact ⟨(q+32).toNat,by omega,by omega⟩
 ·exact ⟨(q+32).toNat,by omega,by omega⟩
 ·exact ⟨(q+32).toNat,by omega,by omega⟩
 ·rcases h with h | h
  ·exact ⟨q.toNat,by omega,by rw [if_pos (by omega)]; omega⟩
  ·exact ⟨(q - 1048512).toNat,by omega,by rw [if_neg (by omega)]; omega⟩
 ·exact ⟨q.toNat,by omega,by omega⟩
 ·exact ⟨(q+1024).toNat,by omega,by omega⟩
 ·exact ⟨(q+128).toNat,by omega,by omega⟩
 ·exact ⟨q.toNat,by omega,by omega⟩
 ·exact ⟨q.toNat,by omega,by omega⟩
def allRow (p:Int→Int→Int→Int→Bool) (r:RowL) : Bool :=
 (List.range (2 ^ r.places.length)).all fun j=>(List.range (regN r.form).1).all fun a=>(List.range (regN r.form).2).all fun b =>
   p (regF r.form a b).1 (regF r.form a b).2.1 (regF r.form a b).2.2 (r.unit*qF r.kind r.places.length j)
def noRegs (f:Nat) : Bool×Bool×Bool:=match f with
 | 115=>(true,false,false)
 | 98=>(true,false,false)
 | 116=>(true,false,false)
 | 117=>(false,true,true)
 | 109=>(false,false,false)
 | 118=>(false,false,false)
 | 100=>(false,false,false)
 | _=>(false,false,true)
theorem may_facts {r:RowL} (hr:r∈rowsL) {d s t m:Int} (h:mayI r.op d s t m=true) : zeroP r.form d s t∧r31 d∧r31 s∧r31 t∧(-1048576≤m∧m≤1048575):=by
 have tab:(rowsL.all fun r=>knownI r.op && RegsC.regForms.contains r.form && ((!(noRegs r.form).1 || !(shapeL (formI r.op)).d) && ((!(noRegs r.form).2.1 || !(shapeL (formI r.op)).s) && (!(noRegs r.form).2.2 || !(shapeL (formI r.op)).t))) &&
   (decide (-1048576≤(shapeL (formI r.op)).lo) && decide ((shapeL (formI r.op)).hi≤1048575)))=true:=by kernel_rfl
 have tb:=List.all_eq_true.1 tab r hr
 simp only [Bool.and_eq_true,Bool.or_eq_true,Bool.not_eq_true',decide_eq_true_eq,List.contains_iff_mem] at tb
 obtain ⟨⟨⟨-,hf⟩,z1,z2,z3⟩,b1,b2⟩:=tb
 unfold mayI at h
 simp only [Bool.and_eq_true] at h
 obtain ⟨-,h⟩:=h
 rw [mayF_eq] at h
 simp only [Bool.and_eq_true] at h
 obtain ⟨h1,h2,h3,h4⟩:=h
 have rr:∀ (hs:Bool) (n:Int),regI hs n=true→r31 n∧(hs=false→n=0):=by
  intro hs n h
  cases hs
  ·have:n=0:=by simpa [regI] using h
   subst this
   exact ⟨⟨by omega,by omega⟩,fun _=>rfl⟩
  ·simp only [regI,inI,Bool.and_eq_true,decide_eq_true_eq] at h
   exact ⟨h,fun k=>by cases k⟩
 obtain ⟨rd,zd⟩:=rr _ _ h1
 obtain ⟨rs,zs⟩:=rr _ _ h2
 obtain ⟨rt,zt⟩:=rr _ _ h3
 unfold numI inI at h4
 simp only [Bool.and_eq_true,decide_eq_true_eq] at h4
 refine ⟨?_,rd,rs,rt,by omega⟩
 simp only [RegsC.regForms,List.mem_cons,List.not_mem_nil,or_false] at hf
 rcases hf with e | e | e | e | e | e | e | e | e | e | e | e | e | e | e | e | e | e <;> rw [e] at z1 z2 z3 ⊢ <;> simp only [noRegs,zeroP,Bool.true_eq_false,false_or] at z1 z2 z3 ⊢
 all_goals first
  | exact zt z3
  | exact zd z1
  | exact ⟨zs z2,zt z3⟩
  | trivial
theorem allRow_spec {p:Int→Int→Int→Int→Bool} {r:RowL} (hr:r∈rowsL) (h:allRow p r=true) {d s t m:Int} (hm:mayI r.op d s t m=true) (h1:regsOk r.form d s t=true) (h2:numOk r.kind r.unit r.places.length m=true) : p d s t m=true:=by
 obtain ⟨hz,hd,hs,ht,hb⟩:=may_facts hr hm
 have hf:r.form∈RegsC.regForms:=by
  have tab:(rowsL.all fun r=>RegsC.regForms.contains r.form)=true:=by decide
  simpa using List.all_eq_true.1 tab r hr
 obtain ⟨a,ha,b,hb',e⟩:=cover_regs r.form hf d s t ((regsOk_P _ hf _ _ _).1 h1) hz hd hs ht
 obtain ⟨q,rfl,hq⟩:=(numOk_P _ _ _ (row_nums hr) m hb).1.1 h2
 obtain ⟨j,hj,rfl⟩:=cover_q (row_nums hr) hq
 have:=List.all_eq_true.1 (List.all_eq_true.1 (List.all_eq_true.1 h j (List.mem_range.2 hj)) a (List.mem_range.2 ha)) b (List.mem_range.2 hb')
 rw [← e] at this
 exact this
def bitsAt (n:Nat) : List Nat→Nat
 | []=>0
 | p :: ps=>n / 2 ^ p % 2+2*bitsAt n ps
def sumP:List Nat→Nat
 | []=>0
 | p :: ps=>2 ^ p+sumP ps
def formBits (f:Nat) : Nat:=match f with
 | 97=>28
 | 108=>924
 | 115=>924
 | 109=>924
 | 114=>3968
 | 122=>3968
 | 117=>3968
 | 119=>3968
 | 74=>3968
 | 75=>3968
 | 113=>896
 | 98=>896
 | 118=>4092
 | 100=>4092
 | 116=>124
 | _=>0
def fixm (r:RowL) : Nat:=65535 - sumP r.places - formBits r.form
def decRegs (f u l:Nat) : Int×Int×Int:=match f with
 | 97=>(((l % 8+8:Nat) : Int),2,0)
 | 108=>(((l % 8+8:Nat) : Int),((u % 8+8:Nat) : Int),0)
 | 115=>(0,((u % 8+8:Nat) : Int),((l % 8+8:Nat) : Int))
 | 114=>((u:Int),(u:Int),0)
 | 122=>((u:Int),0,0)
 | 117=>((u:Int),0,0)
 | 112=>(2,2,0)
 | 113=>(((u % 8+8:Nat) : Int),((u % 8+8:Nat) : Int),0)
 | 109=>(((u % 8+8:Nat) : Int),((u % 8+8:Nat) : Int),((l % 8+8:Nat) : Int))
 | 98=>(0,((u % 8+8:Nat) : Int),0)
 | 119=>((u:Int),2,0)
 | 74=>(0,(u:Int),0)
 | 75=>(1,(u:Int),0)
 | 118=>((u:Int),0,(l:Int))
 | 100=>((u:Int),(u:Int),(l:Int))
 | 116=>(0,2,(l:Int))
 | _=>(0,0,0)
def decQ (k m v:Nat) : Int:=match k with
 | 110=>if 2*v≥2 ^ m then (v:Int) - 2 ^ m else (v:Int)
 | 115=>if 2*v≥2 ^ m then (v:Int) - 2 ^ m else (v:Int)
 | 108=>if 2*v≥2 ^ m then (v:Int)+1048512 else (v:Int)
 | _=>(v:Int)
structure InsnL where
 op:Int
 d:Int
 s:Int
 t:Int
 m:Int
def decRow (r:RowL) (n:Nat) : InsnL :=
 ⟨r.op,(decRegs r.form (n / 128 % 32) (n / 4 % 32)).1,(decRegs r.form (n / 128 % 32) (n / 4 % 32)).2.1,(decRegs r.form (n / 128 % 32) (n / 4 % 32)).2.2,r.unit*decQ r.kind r.places.length (bitsAt n r.places)⟩
theorem or_K (k:IntKind) (a b:Int) : ibin .or k a b=ior k a b:=by
 unfold ibin
 rw [← ibinK_eq]
 show (match ck (kbeq k k) (some (.int k (ior k a b))) with | some (.int _ n)=>n | _=>0)=_
 rw [ck_eq,if_neg (by simp)]
noncomputable def andB (a b:Bool) : Bool:=Bool.rec (motive:=fun _=>Bool) false b a
theorem andB_eq (a b:Bool) : andB a b=(a && b):=by cases a <;> rfl
noncomputable def eqK (x:InsnL) (op d s t m:Int) : Bool:=andB (ieqb x.op op) (andB (ieqb x.d d) (andB (ieqb x.s s) (andB (ieqb x.t t) (ieqb x.m m))))
theorem eqK_eq {x:InsnL} {op d s t m:Int} (h:eqK x op d s t m=true) : x=⟨op,d,s,t,m⟩:=by
 unfold eqK at h
 simp only [andB_eq,ieqb_eq,Bool.and_eq_true,beq_iff_eq] at h
 obtain ⟨h1,h2,h3,h4,h5⟩:=h
 obtain ⟨o,a,b,c,e⟩:=x
 simp only at h1 h2 h3 h4 h5
 subst h1; subst h2; subst h3; subst h4; subst h5
 rfl
def grp (k:Nat) : List RowL:=(rowsL.drop (4*k)).take 4
theorem grp_all:rowsL=(List.range 9).flatMap grp:=rfl
theorem grp_mem {q:RowL→Prop} (h:∀ k,k < 9→∀ r∈grp k,q r) : ∀ r∈rowsL,q r:=by
 intro r hr
 rw [grp_all] at hr
 obtain ⟨k,hk,hr⟩:=List.mem_flatMap.1 hr
 exact h k (List.mem_range.1 hk) r hr
end Go.Proofs.YtoehlmiadiiimaaGreatDoor.Ex

