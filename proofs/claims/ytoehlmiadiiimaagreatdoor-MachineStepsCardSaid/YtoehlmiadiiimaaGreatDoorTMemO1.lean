/-
  Words: what the document reads a word as is what the program reads: plain.
-/
import Derived.Test.YtoehlmiadiiimaaGreatDoorTMemV2
namespace Go.Proofs.YtoehlmiadiiimaaGreatDoor
open Go.ChangeShapes Go.WideShapes Go.RowKit Go.Proofs.YtoehlmiadiiimaaGreatDoor.Ex
def coverO (op:Nat) : Bool :=
 let f:=formB op
 Nat.beq (maskF f % 128) 127 && (List.range 32).all fun k=>(maskF f).testBit k || ((placesF f).contains k || (((regsF f).1 && (Nat.ble 7 k && Nat.blt k 12)) || (((regsF f).2.1 && (Nat.ble 15 k && Nat.blt k 20)) || ((regsF f).2.2 && (Nat.ble 20 k && Nat.blt k 25)))))
theorem covers_all:((List.range 94).all fun o=>coverO (o+1))=true:=by kernel_rfl
theorem cover_of (op:Nat) (h1:1≤op) (h2:op≤94) : maskF (formB op) % 128=127∧∀ k,k < 32→(maskF (formB op)).testBit k=false →
  k∈placesF (formB op)∨((regsF (formB op)).1=true∧7≤k∧k < 12)∨((regsF (formB op)).2.1=true∧15≤k∧k < 20)∨((regsF (formB op)).2.2=true∧20≤k∧k < 25):=by
 have h:=List.all_eq_true.1 covers_all (op - 1) (List.mem_range.2 (by omega))
 rw [Nat.sub_add_cancel h1] at h
 unfold coverO at h
 simp only [Bool.and_eq_true,List.all_eq_true,List.mem_range,Bool.or_eq_true,Nat.blt_eq,Nat.ble_eq,List.contains_iff_mem] at h
 refine ⟨Nat.eq_of_beq_eq_true h.1,fun k hk hm=>?_⟩
 rcases h.2 k hk with h | h | h | h | h
 ·rw [hm] at h; cases h
 ·exact .inl h
 ·exact .inr (.inl ⟨h.1,h.2.1,h.2.2⟩)
 ·exact .inr (.inr (.inl ⟨h.1,h.2.1,h.2.2⟩))
 ·exact .inr (.inr (.inr ⟨h.1,h.2.1,h.2.2⟩))
theorem gatN_bit:∀ (ps:List Nat) (w i k:Nat),ps[i]?=some k→(gatN ps w).testBit i=w.testBit k
 | [],_,_,_,h=>by simp at h
 | p :: ps,w,i,k,h=>by
  cases i with
  | zero =>
   have e:p=k:=by simpa using h
   subst e
   rw [gatN,bit_div,Nat.testBit_zero]
   cases w.testBit p <;> simp <;> omega
  | succ i =>
   have h':ps[i]?=some k:=by simpa using h
   rw [gatN,Nat.testBit_succ,← gatN_bit ps w i k h']
   congr 1
   have:=Nat.mod_lt (w / 2 ^ p) (show 0 < 2 by omega)
   omega
theorem gatN_lt:∀ (ps:List Nat) (w:Nat),gatN ps w < 2 ^ ps.length
 | [],w=>by simp [gatN]
 | p :: ps,w=>by
  have ih:=gatN_lt ps w
  have:=Nat.mod_lt (w / 2 ^ p) (show 0 < 2 by omega)
  rw [gatN,List.length_cons,Nat.pow_succ]
  omega
theorem regs_ok (f w:Nat) : RegsOK f (regW (regsF f).1 7 w) (regW (regsF f).2.1 15 w) (regW (regsF f).2.2 20 w) :=
 ⟨regW_lt _ _ _,regW_lt _ _ _,regW_lt _ _ _,fun h=>by rw [h]; rfl,fun h=>by rw [h]; rfl,fun h=>by rw [h]; rfl⟩
theorem reg_in {b:Bool} {p w k:Nat} (hb:b=true) (h:p≤k∧k < p+5) : (decide (p≤k∧k < p+5) && (regW b p w).testBit (k - p))=w.testBit k:=by
 subst hb
 have e:regW true p w=w / 2 ^ p % 2 ^ 5:=rfl
 rw [e,Nat.testBit_mod_two_pow,Nat.testBit_div_two_pow,Nat.sub_add_cancel h.1]
 have:k - p < 5:=by omega
 simp [h,this]
theorem reg_out {x p k:Nat} (h:¬ (p≤k∧k < p+5)) : (decide (p≤k∧k < p+5) && x.testBit (k - p))=false:=by simp [h]
theorem word_of_match {op w:Nat} (h1:1≤op) (h2:op≤94) (hw:w < 4294967296) (hm:w &&& maskF (formB op)=baseB op) :
  wordN op (regW (regsF (formB op)).1 7 w) (regW (regsF (formB op)).2.1 15 w) (regW (regsF (formB op)).2.2 20 w) (gatN (placesF (formB op)) w)=w:=by
 have F:=fact_of op h1 h2
 have R:=regs_ok (formB op) w
 refine Nat.eq_of_testBit_eq fun k=>?_
 rcases Nat.lt_or_ge k 32 with hk | hk
 ·rw [word_bit R k]
  cases hmk:(maskF (formB op)).testBit k with
  | true =>
   obtain ⟨m1,m2,m3,m4⟩:=F.m1 k hk hmk
   rw [scatN_out _ _ _ m1,no_reg R.d0 m2,no_reg R.s0 m3,no_reg R.t0 m4]
   have:=congrArg (fun n=>n.testBit k) hm
   simp only [Nat.testBit_and,hmk,Bool.and_true] at this
   simp [this]
  | false =>
   rw [F.b0 k hk hmk]
   rcases (cover_of op h1 h2).2 k hk hmk with hp | ⟨hb,l1,l2⟩ | ⟨hb,l1,l2⟩ | ⟨hb,l1,l2⟩
   ·obtain ⟨i,hi,he⟩:=List.mem_iff_getElem.1 hp
    have hi':(placesF (formB op))[i]?=some k:=by rw [List.getElem?_eq_getElem hi,he]
    obtain ⟨p1,p2,p3⟩:=F.p1 k hp
    rw [scatN_in _ F.nodup _ _ _ hi',gatN_bit _ _ _ _ hi',no_reg R.d0 p1,no_reg R.s0 p2,no_reg R.t0 p3]
    simp
   ·have hn:k ∉ placesF (formB op):=fun hp=>(F.p1 k hp).1 hb ⟨l1,l2⟩
    rw [scatN_out _ _ _ hn,reg_in hb ⟨l1,l2⟩,reg_out (by omega),reg_out (by omega)]
    simp
   ·have hn:k ∉ placesF (formB op):=fun hp=>(F.p1 k hp).2.1 hb ⟨l1,l2⟩
    rw [scatN_out _ _ _ hn,reg_in hb ⟨l1,l2⟩,reg_out (p:=7) (by omega),reg_out (p:=20) (by omega)]
    simp
   ·have hn:k ∉ placesF (formB op):=fun hp=>(F.p1 k hp).2.2 hb ⟨l1,l2⟩
    rw [scatN_out _ _ _ hn,reg_in hb ⟨l1,l2⟩,reg_out (p:=7) (by omega),reg_out (p:=15) (by omega)]
    simp
 ·have a:w.testBit k=false:=Nat.testBit_lt_two_pow (Nat.lt_of_lt_of_le hw (Nat.pow_le_pow_right (by omega) hk:2 ^ 32≤2 ^ k))
  have b:(wordN op (regW (regsF (formB op)).1 7 w) (regW (regsF (formB op)).2.1 15 w) (regW (regsF (formB op)).2.2 20 w) (gatN (placesF (formB op)) w)).testBit k=false:=Nat.testBit_lt_two_pow (Nat.lt_of_lt_of_le (word_lt h1 h2 R) (Nat.pow_le_pow_right (by omega) hk:2 ^ 32≤2 ^ k))
  rw [a,b]
def sgnN (n V:Nat) : Int:=if V < 2 ^ (n - 1) then (V:Int) else (V:Int) - ((2 ^ n:Nat) : Int)
def immV (f V:Nat) : Int:=match kindF f with
 | 1=>sgnN (placesF f).length V
 | 2=>2*sgnN (placesF f).length V
 | _=>(V:Int)
theorem immW_V (op w f:Nat) (hf:f∈formsAll) (hw:w < 4294967296) : immW op w f=immV f (gatN (placesF f) w):=by
 have hlt:=gatN_lt (placesF f) w
 rw [immW_leaf op w f (fields_leaf op w f hf hw hlt)]
 have hv:=gat_ev op w f hf hw
 generalize gatN (placesF f) w=V at *
 simp only [formsAll,List.mem_cons,List.not_mem_nil,or_false] at hf
 rcases hf with rfl | rfl | rfl | rfl | rfl | rfl | rfl | rfl | rfl | rfl | rfl | rfl | rfl | rfl | rfl
 ·show IntKind.i64.wrap ((gW (placesF 85) 0 (.lit 0)).ev (ηW op w) φW)=(V:Int)
  rw [hv,IntKind.wrap_i64]; have:V < 1048576:=hlt; omega
 ·have:=sign_ev20 _ _ _ _ hlt hv
  show ibin .mul .i64 2 ((signE (gW (placesF 74) 0 (.lit 0)) 20).ev (ηW op w) φW)=2*(if V < 524288 then (V:Int) else (V:Int) - 1048576)
  rw [this]
  show IntKind.i64.wrap (2*(if V < 524288 then (V:Int) else (V:Int) - 1048576))=_
  have:V < 1048576:=hlt
  rw [IntKind.wrap_i64]
  split <;> omega
 ·have:=sign_ev12 _ _ _ _ hlt hv
  show ibin .mul .i64 2 ((signE (gW (placesF 66) 0 (.lit 0)) 12).ev (ηW op w) φW)=2*(if V < 2048 then (V:Int) else (V:Int) - 4096)
  rw [this]
  show IntKind.i64.wrap (2*(if V < 2048 then (V:Int) else (V:Int) - 4096))=_
  have:V < 4096:=hlt
  rw [IntKind.wrap_i64]
  split <;> omega
 ·exact sign_ev12 _ _ _ _ hlt hv
 ·exact sign_ev12 _ _ _ _ hlt hv
 ·exact sign_ev12 _ _ _ _ hlt hv
 ·show IntKind.i64.wrap ((gW (placesF 54) 0 (.lit 0)).ev (ηW op w) φW)=(V:Int)
  rw [hv,IntKind.wrap_i64]; have:V < 64:=hlt; omega
 ·show IntKind.i64.wrap ((gW (placesF 53) 0 (.lit 0)).ev (ηW op w) φW)=(V:Int)
  rw [hv,IntKind.wrap_i64]; have:V < 32:=hlt; omega
 ·show (0:Int)=V; have:V < 1:=hlt; omega
 ·show IntKind.i64.wrap ((gW (placesF 70) 0 (.lit 0)).ev (ηW op w) φW)=(V:Int)
  rw [hv,IntKind.wrap_i64]; have:V < 256:=hlt; omega
 ·show (0:Int)=V; have:V < 1:=hlt; omega
 ·show IntKind.i64.wrap ((gW (placesF 67) 0 (.lit 0)).ev (ηW op w) φW)=(V:Int)
  rw [hv,IntKind.wrap_i64]; have:V < 4096:=hlt; omega
 ·show IntKind.i64.wrap ((gW (placesF 90) 0 (.lit 0)).ev (ηW op w) φW)=(V:Int)
  rw [hv,IntKind.wrap_i64]; have:V < 4096:=hlt; omega
 ·show IntKind.i64.wrap ((gW (placesF 108) 0 (.lit 0)).ev (ηW op w) φW)=(V:Int)
  rw [hv,IntKind.wrap_i64]; have:V < 4:=hlt; omega
 ·show IntKind.i64.wrap ((gW (placesF 65) 0 (.lit 0)).ev (ηW op w) φW)=(V:Int)
  rw [hv,IntKind.wrap_i64]; have:V < 4:=hlt; omega
theorem immV_may (f V:Nat) (hf:f∈formsAll) (hlt:V < 2 ^ (placesF f).length) : numI f (immV f V)=true∧vN f (immV f V)=V:=by
 simp only [formsAll,List.mem_cons,List.not_mem_nil,or_false] at hf
 unfold numI inI vN
 rcases hf with rfl | rfl | rfl | rfl | rfl | rfl | rfl | rfl | rfl | rfl | rfl | rfl | rfl | rfl | rfl
 all_goals simp only [shapeL,Bool.and_eq_true,decide_eq_true_eq,beq_iff_eq]
 ·have h:V < 1048576:=hlt
  have e:immV 85 V=(V:Int):=rfl
  rw [e]; exact ⟨by omega,by show ((V:Int) % 1048576).toNat=V; omega⟩
 ·have h:V < 1048576:=hlt
  have e:immV 74 V=2*(if V < 524288 then (V:Int) else (V:Int) - 1048576):=rfl
  rw [e]
  refine ⟨by split <;> omega,?_⟩
  show ((2*(if V < 524288 then (V:Int) else (V:Int) - 1048576)) / 2 % 1048576).toNat=V
  split <;> omega
 ·have h:V < 4096:=hlt
  have e:immV 66 V=2*(if V < 2048 then (V:Int) else (V:Int) - 4096):=rfl
  rw [e]
  refine ⟨by split <;> omega,?_⟩
  show ((2*(if V < 2048 then (V:Int) else (V:Int) - 4096)) / 2 % 4096).toNat=V
  split <;> omega
 ·have h:V < 4096:=hlt
  have e:immV 76 V=(if V < 2048 then (V:Int) else (V:Int) - 4096):=rfl
  rw [e]
  refine ⟨by split <;> omega,?_⟩
  show ((if V < 2048 then (V:Int) else (V:Int) - 4096) % 4096).toNat=V
  split <;> omega
 ·have h:V < 4096:=hlt
  have e:immV 83 V=(if V < 2048 then (V:Int) else (V:Int) - 4096):=rfl
  rw [e]
  refine ⟨by split <;> omega,?_⟩
  show ((if V < 2048 then (V:Int) else (V:Int) - 4096) % 4096).toNat=V
  split <;> omega
 ·have h:V < 4096:=hlt
  have e:immV 73 V=(if V < 2048 then (V:Int) else (V:Int) - 4096):=rfl
  rw [e]
  refine ⟨by split <;> omega,?_⟩
  show ((if V < 2048 then (V:Int) else (V:Int) - 4096) % 4096).toNat=V
  split <;> omega
 ·have h:V < 64:=hlt
  have e:immV 54 V=(V:Int):=rfl
  rw [e]; exact ⟨by omega,by show ((V:Int) % 64).toNat=V; omega⟩
 ·have h:V < 32:=hlt
  have e:immV 53 V=(V:Int):=rfl
  rw [e]; exact ⟨by omega,by show ((V:Int) % 32).toNat=V; omega⟩
 ·have h:V < 1:=hlt
  have e:immV 82 V=(V:Int):=rfl
  rw [e]; exact ⟨by omega,by show ((V:Int) % 1).toNat=V; omega⟩
 ·have h:V < 256:=hlt
  have e:immV 70 V=(V:Int):=rfl
  rw [e]; exact ⟨by omega,by show ((V:Int) % 256).toNat=V; omega⟩
 ·have h:V < 1:=hlt
  have e:immV 78 V=(V:Int):=rfl
  rw [e]; exact ⟨by omega,by show ((V:Int) % 1).toNat=V; omega⟩
 ·have h:V < 4096:=hlt
  have e:immV 67 V=(V:Int):=rfl
  rw [e]; exact ⟨by omega,by show ((V:Int) % 4096).toNat=V; omega⟩
 ·have h:V < 4096:=hlt
  have e:immV 90 V=(V:Int):=rfl
  rw [e]; exact ⟨by omega,by show ((V:Int) % 4096).toNat=V; omega⟩
 ·have h:V < 4:=hlt
  have e:immV 108 V=(V:Int):=rfl
  rw [e]; exact ⟨by omega,by show ((V:Int) % 4).toNat=V; omega⟩
 ·have h:V < 4:=hlt
  have e:immV 65 V=(V:Int):=rfl
  rw [e]; exact ⟨by omega,by show ((V:Int) % 4).toNat=V; omega⟩
def wordS (op d s t v:Nat) : Nat:=baseB op+d*128+s*32768+t*1048576+scatN (placesF (formB op)) v
theorem add_or (a b:Nat) (h:a &&& b=0) : a+b=a ||| b:=by
 induction a using Nat.strongRecOn generalizing b with
 | ind a ih =>
  by_cases ha:a=0
  ·subst ha; simp
  ·have h2:a / 2 &&& b / 2=0:=by rw [← Nat.and_div_two,h]
   have e0:=ih (a / 2) (by omega) (b / 2) h2
   have e1:(a ||| b) / 2=a / 2 ||| b / 2:=Nat.or_div_two
   have e2:(a ||| b) % 2=1↔a % 2=1∨b % 2=1:=Nat.or_mod_two_eq_one
   have e3:(a &&& b) % 2=1↔a % 2=1∧b % 2=1:=Nat.and_mod_two_eq_one
   rw [h] at e3
   generalize a ||| b=x at *
   generalize a / 2 ||| b / 2=y at *
   omega
theorem and_none {a b:Nat} (h:∀ k,a.testBit k=true→b.testBit k=true→False) : a &&& b=0:=by
 refine Nat.eq_of_testBit_eq fun k=>?_
 rw [Nat.testBit_and,Nat.zero_testBit]
 cases ha:a.testBit k with
 | false=>rfl
 | true =>
  cases hb:b.testBit k with
  | false=>rfl
  | true=>exact (h k ha hb).elim
theorem reg_true {x p k:Nat} {b:Bool} (hx:x < 32) (h0:b=false→x=0) (h:(x <<< p).testBit k=true) : b=true∧p≤k∧k < p+5:=by
 rw [reg_bit x p k hx,Bool.and_eq_true,decide_eq_true_eq] at h
 cases b with
 | true=>exact ⟨rfl,h.1⟩
 | false=>rw [h0 rfl,Nat.zero_testBit] at h; cases h.2
theorem scat_true {ps:List Nat} {v k:Nat} (h:(scatN ps v).testBit k=true) : k∈ps:=by
 by_cases hk:k∈ps
 ·exact hk
 ·rw [scatN_out ps v k hk] at h; cases h
theorem base_true {op k:Nat} (F:FactO op) (h:(baseB op).testBit k=true) : k < 32∧(maskF (formB op)).testBit k=true:=by
 have hk:k < 32:=by
  rcases Nat.lt_or_ge k 32 with hk | hk
  ·exact hk
  ·rw [Nat.testBit_lt_two_pow (Nat.lt_of_lt_of_le F.base (Nat.pow_le_pow_right (by omega) hk:2 ^ 32≤2 ^ k))] at h; cases h
 refine ⟨hk,?_⟩
 cases hm:(maskF (formB op)).testBit k with
 | true=>rfl
 | false=>rw [F.b0 k hk hm] at h; cases h
theorem wordS_eq {op d s t v:Nat} (h1:1≤op) (h2:op≤94) (h:RegsOK (formB op) d s t) : wordS op d s t v=wordN op d s t v:=by
 have F:=fact_of op h1 h2
 have D:=fun k=>reg_true (k:=k) (p:=7) h.d1 h.d0
 have S:=fun k=>reg_true (k:=k) (p:=15) h.s1 h.s0
 have T:=fun k=>reg_true (k:=k) (p:=20) h.t1 h.t0
 have M:=fun k (hb:(baseB op).testBit k=true)=>F.m1 k (base_true F hb).1 (base_true F hb).2
 have P:=fun k (hb:(scatN (placesF (formB op)) v).testBit k=true)=>F.p1 k (scat_true hb)
 unfold wordS wordN
 rw [show d*128=d <<< 7 from (Nat.shiftLeft_eq d 7).symm,show s*32768=s <<< 15 from (Nat.shiftLeft_eq s 15).symm,show t*1048576=t <<< 20 from (Nat.shiftLeft_eq t 20).symm]
 have a1:baseB op &&& d <<< 7=0:=and_none fun k hb hd=>(M k hb).2.1 (D k hd).1 (D k hd).2
 have a2:(baseB op ||| d <<< 7) &&& s <<< 15=0:=and_none fun k hb hs=>by
  rw [Nat.testBit_or,Bool.or_eq_true] at hb
  rcases hb with hb | hd
  ·exact (M k hb).2.2.1 (S k hs).1 (S k hs).2
  ·have:=(D k hd).2; have:=(S k hs).2; omega
 have a3:((baseB op ||| d <<< 7) ||| s <<< 15) &&& t <<< 20=0:=and_none fun k hb ht=>by
  rw [Nat.testBit_or,Nat.testBit_or,Bool.or_eq_true,Bool.or_eq_true] at hb
  rcases hb with (hb | hd) | hs
  ·exact (M k hb).2.2.2 (T k ht).1 (T k ht).2
  ·have:=(D k hd).2; have:=(T k ht).2; omega
  ·have:=(S k hs).2; have:=(T k ht).2; omega
 have a4:(((baseB op ||| d <<< 7) ||| s <<< 15) ||| t <<< 20) &&& scatN (placesF (formB op)) v=0:=and_none fun k hb hp=>by
  rw [Nat.testBit_or,Nat.testBit_or,Nat.testBit_or,Bool.or_eq_true,Bool.or_eq_true,Bool.or_eq_true] at hb
  rcases hb with ((hb | hd) | hs) | ht
  ·exact (M k hb).1 (scat_true hp)
  ·exact (P k hp).1 (D k hd).1 (D k hd).2
  ·exact (P k hp).2.1 (S k hs).1 (S k hs).2
  ·exact (P k hp).2.2 (T k ht).1 (T k ht).2
 rw [add_or _ _ a1,add_or _ _ a2,add_or _ _ a3,add_or _ _ a4]
theorem fields_may (op w:Nat) (h1:1≤op) (h2:op≤94) (hw:w < 4294967296) :
  mayI (op:Int) ((regW (regsF (formB op)).1 7 w:Nat) : Int) ((regW (regsF (formB op)).2.1 15 w:Nat) : Int) ((regW (regsF (formB op)).2.2 20 w:Nat) : Int) (immW op w (formB op))=true:=by
 have hf:=formB_mem op h1 h2
 have hk:knownI (op:Int)=true:=by unfold knownI; simp; omega
 unfold mayI
 rw [hk,formI_B op h1 h2,mayF_eq]
 obtain ⟨e1,e2,e3⟩:=shapeF _ hf
 have rr:∀ (b:Bool) (p:Nat),regI b ((regW b p w:Nat) : Int)=true:=fun b p=>by
  have:=regW_lt b p w
  cases b with
  | false=>rfl
  | true=>unfold regI inI; simp; omega
 rw [e1,e2,e3,rr,rr,rr,immW_V op w _ hf hw]
 exact (immV_may _ _ hf (gatN_lt _ _)).1
theorem wordS_match (op w:Nat) (h1:1≤op) (h2:op≤94) (hw:w < 4294967296) :
  decide (wordS op (regW (regsF (formB op)).1 7 w) (regW (regsF (formB op)).2.1 15 w) (regW (regsF (formB op)).2.2 20 w) (gatN (placesF (formB op)) w)=w)=matchO op w:=by
 have R:=regs_ok (formB op) w
 rw [wordS_eq h1 h2 R,matchO_nat op w hw (fact_of op h1 h2).mask]
 cases hm:(w &&& maskF (formB op)) == baseB op with
 | true=>exact decide_eq_true (word_of_match h1 h2 hw (by simpa using hm))
 | false =>
  refine decide_eq_false fun e=>?_
  have:=word_mask h1 h2 R (v:=gatN (placesF (formB op)) w)
  rw [e] at this
  rw [this] at hm
  simp at hm
theorem match_code (op w:Nat) (h1:1≤op) (h2:op≤94) (hw:w < 4294967296) (h:¬ baseB op % 128=w % 128) : matchO op w=false:=by
 have F:=fact_of op h1 h2
 rw [matchO_nat op w hw F.mask]
 cases hm:(w &&& maskF (formB op)) == baseB op with
 | false=>rfl
 | true =>
  refine (h ?_).elim
  have e:w &&& maskF (formB op)=baseB op:=by simpa using hm
  have c:=(cover_of op h1 h2).1
  have:=Nat.and_mod_two_pow (a:=w) (b:=maskF (formB op)) (n:=7)
  rw [e] at this
  rw [show (2:Nat) ^ 7=128 from rfl,c] at this
  rw [this]
  exact (Nat.and_two_pow_sub_one_eq_mod (w % 128) 7).trans (Nat.mod_mod _ _)
end Go.Proofs.YtoehlmiadiiimaaGreatDoor
