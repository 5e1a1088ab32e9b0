import Derived.Test.YtoehlmiadiiimaaGreatDoorTMemI2
import Derived.WalkKit
import Derived.Lib.Hide
import Derived.Test.YtoehlmiadiiimaaGreatDoorTMemW3
import Derived.Test.YtoehlmiadiiimaaGreatDoorTEncU9
import Derived.Test.YtoehlmiadiiimaaGreatDoorTEncU3
/-
  Half words: the bits that two numbers have both, in the machine program: by a walk.
-/
set_option maxHeartbeats 400000
namespace Go.Proofs.YtoehlmiadiiimaaGreatDoor
open Go.ChangeShapes Go.WideShapes Go.RowKit
def andN (a b:Nat) : Nat→Nat
 | 0=>0
 | k+1=>andN a b k+if a / 2 ^ k % 2=1∧b / 2 ^ k % 2=1 then 2 ^ k else 0
theorem andN_eq (a b:Nat) : ∀ k,andN a b k=Nat.land a b % 2 ^ k
 | 0=>by simp [andN,Nat.mod_one]
 | k+1=>by
  rw [andN,andN_eq a b k,Nat.mod_pow_succ,Nat.add_left_cancel_iff]
  have h:Nat.land a b / 2 ^ k % 2=((Nat.land a b).testBit k).toNat:=(Nat.toNat_testBit (Nat.land a b) k).symm
  rw [h,show (Nat.land a b).testBit k=(a.testBit k && b.testBit k) from Nat.testBit_and a b k,Nat.testBit_eq_decide_div_mod_eq,Nat.testBit_eq_decide_div_mod_eq]
  by_cases h1:a / 2 ^ k % 2=1 <;> by_cases h2:b / 2 ^ k % 2=1 <;> simp [h1,h2]
theorem and_lt (a b:Nat) (ha:a < 65536) : andN a b 16=Nat.land a b:=by
 rw [andN_eq]
 have:Nat.land a b≤a:=Nat.and_le_left
 exact Nat.mod_eq_of_lt (by omega)
theorem andN_lt (a b:Nat) (k:Nat) : andN a b k < 2 ^ k:=by
 rw [andN_eq]; exact Nat.mod_lt _ (Nat.two_pow_pos k)
theorem pow_c (n:Nat) (hn:n≤62) (w:World) : Calls Tryz.prog 163 #[.int .i64 n] w fun e w'=>e=.returned (.int .i64 ((2 ^ n:Nat) : Int))∧w'=w:=by
 go_enter Tryz.func163,Tryz.ntmps163
 go_wp2
 go_loop [3,4] (fun x i=>∃ k v:Nat,k≤n∧i=.int .i64 k∧x=.int .i64 v∧Hid (v=2 ^ k)) (fun _ i=>n - (intOf i).toNat)
 case atStart=>exact ⟨0,1,Nat.zero_le _,rfl,rfl,Lib.hid rfl⟩
 case round =>
  obtain ⟨k,v,hk,rfl,rfl,hv⟩:=hrel
  by_cases hlt:k < n
  ·have h62:k < 62:=by omega
   have hb:v≤2305843009213693952:=by
    have:=Nat.pow_le_pow_right (show 0 < 2 by omega) (show k≤61 by omega)
    rw [hv.out]; omega
   go_wp2
   go_round
   case rel=>exact ⟨k+1,v*2,by omega,by go_num,by go_num,Lib.hid (by rw [hv.out]; omega)⟩
   case measure=>simp [intOf]; omega
  ·go_wp2
   go_ret
   exact ⟨by show Ending.returned (Value.int IntKind.i64 (v:Int))=_; rw [hv.out,show k=n by omega]; simp,rfl⟩
theorem bstep_tt {a b p v s:Nat} (h:s=v+if a / p % 2=1∧b / p % 2=1 then p else 0) (h1:(a:Int) / (p:Int) % 2=1) (h2:((b:Int) / (p:Int) % 2 == 1)=true) : v+p=s:=by
 have e1:(a:Int) / (p:Int)=((a / p:Nat) : Int):=rfl
 have e2:(b:Int) / (p:Int)=((b / p:Nat) : Int):=rfl
 rw [e1] at h1
 rw [e2,beq_iff_eq] at h2
 rw [if_pos ⟨by omega,by omega⟩] at h
 omega
theorem bstep_tf {a b p v s:Nat} (h:s=v+if a / p % 2=1∧b / p % 2=1 then p else 0) (h2:((b:Int) / (p:Int) % 2 == 1)=false) : v=s:=by
 have e2:(b:Int) / (p:Int)=((b / p:Nat) : Int):=rfl
 rw [e2,beq_eq_false_iff_ne] at h2
 rw [if_neg (fun k=>h2 (by have:=k.2; omega))] at h
 omega
theorem bstep_f {a b p v s:Nat} (h:s=v+if a / p % 2=1∧b / p % 2=1 then p else 0) (h1:¬ (a:Int) / (p:Int) % 2=1) : v=s:=by
 have e1:(a:Int) / (p:Int)=((a / p:Nat) : Int):=rfl
 rw [e1] at h1
 rw [if_neg (fun k=>h1 (by have:=k.1; omega))] at h
 omega
theorem bothD_c (a b c:Nat) (ha:a < 65536) (hb:b < 65536) (hc:∀ k,k=16→Hid (c=andN a b k)) (w:World) : Calls Tryz.prog 153 #[.int .i64 a,.int .i64 b] w fun e w'=>e=.returned (.int .i64 (c:Int))∧w'=w:=by
 go_enter Tryz.func153,Tryz.ntmps153
 go_wp2
 go_loop [5,6] (fun x i=>∃ k v:Nat,k≤16∧i=.int .i64 k∧x=.int .i64 v∧v < 65536∧Hid (v=andN a b k)) (fun _ i=>16 - (intOf i).toNat)
 case atStart=>exact ⟨0,0,Nat.zero_le _,rfl,rfl,by omega,Lib.hid rfl⟩
 case round =>
  obtain ⟨k,v,hk,rfl,rfl,hv,hs⟩:=hrel
  by_cases hlt:k < 16
  ·obtain ⟨p,hp⟩ : ∃ p:Nat,Hid (p=2 ^ k):=⟨_,Lib.hid rfl⟩
   have hb1:1≤p∧p≤32768:=by
    have:=Nat.pow_le_pow_right (show 0 < 2 by omega) (show k≤15 by omega)
    have:=Nat.two_pow_pos k
    rw [hp.out]; omega
   obtain ⟨p1,p2⟩:=hb1
   have two:Calls Tryz.prog 163 #[.int .i64 k] w fun e w'=>e=.returned (.int .i64 (p:Int))∧w'=w:=by rw [hp.out]; exact pow_c k (by omega) w
   have hstep:Hid (andN a b (k+1)=v+if a / p % 2=1∧b / p % 2=1 then p else 0):=Lib.hid (by rw [andN,hs.out,hp.out])
   have hle:=andN_lt a b (k+1)
   have h16:2 ^ (k+1)≤65536:=Nat.pow_le_pow_right (show 0 < 2 by omega) (show k+1≤16 by omega)
   have hn:Hid (andN a b (k+1) < 65536):=Lib.hid (by omega)
   clear hle h16
   have da:0≤(a:Int) / (p:Int):=Int.natCast_nonneg (a / p)
   have da':(a:Int) / (p:Int)≤65535:=by have:=Nat.div_le_self a p; rw [show (a:Int) / (p:Int)=((a / p:Nat) : Int) from rfl]; omega
   have db:0≤(b:Int) / (p:Int):=Int.natCast_nonneg (b / p)
   have db':(b:Int) / (p:Int)≤65535:=by have:=Nat.div_le_self b p; rw [show (b:Int) / (p:Int)=((b / p:Nat) : Int) from rfl]; omega
   go_wp2_with (go_at_call 163; refine two.mono ?_; rintro e w' ⟨rfl,rfl⟩)
   all_goals
    go_round
    case rel=>first
     | (have e:=bstep_tt hstep.out ‹_› ‹_›; exact ⟨k+1,v+p,by omega,by go_num,by go_num,by rw [e]; exact hn.out,Lib.hid e⟩)
     | (have e:=bstep_tf hstep.out ‹_›; exact ⟨k+1,v,by omega,by go_num,rfl,by omega,Lib.hid e⟩)
     | (have e:=bstep_f hstep.out ‹_›; exact ⟨k+1,v,by omega,by go_num,rfl,by omega,Lib.hid e⟩)
    case measure=>simp [intOf]; omega
  ·go_wp2
   go_ret
   exact ⟨by show Ending.returned (Value.int IntKind.i64 (v:Int))=_; rw [hs.out,(hc k (by omega)).out],rfl⟩
theorem bothD_any (a b:Nat) (ha:a < 65536) (hb:b < 65536) (w:World) : Calls Tryz.prog 153 #[.int .i64 a,.int .i64 b] w fun e w'=>e=.returned (.int .i64 ((Nat.land a b:Nat) : Int))∧Below w.heap.size w w':=by
 refine (bothD_c a b (Nat.land a b) ha hb (fun k hk=>Lib.hid (by rw [hk,and_lt a b ha])) w).mono ?_
 rintro e w' ⟨he,rfl⟩
 exact ⟨he,Below.refl _ _⟩
end Go.Proofs.YtoehlmiadiiimaaGreatDoor

/-
  Half words: the document's small functions, in the door program's own numbers.
-/
namespace Go.Proofs.YtoehlmiadiiimaaGreatDoor
open Go.Proofs.YtoehlmiadiiimaaGreatDoor.Ex
def tab76:List (List AV×AV):=(List.range 94).map fun (i:Nat)=>([li (Int.ofNat (i+1))],.tup [var0.getD i .nilif,.str [formsL.getD i 0]])
def tab155:List (List AV×AV):=rowsL.map fun r=>([.str r.name],.tup [.int .u8 (r.op:Nat),li 0])
noncomputable def tabOk (P:Program) (orc:Fa→ACall) (f:FuncId) (tab:List (List AV×AV)) : Bool:=tab.all fun x=>(AV.plains x.1 && x.2.plain) && (Tr.leaf x.2).ok (Go.Proofs.YtoehlmiadiiimaaGreatDoor.Ex.runT P orc 10000 0 f x.1) ⟨[],[],[]⟩
theorem tab_of {P:Program} (hm:P.follows .mixedOrders=true) {orc:Fa→ACall} (horc:∀ φ,OrcOK P 0 φ orc) {f:FuncId} {tab:List (List AV×AV)} (h:tabOk P orc f tab=true) :
  (∀ x∈tab,AV.plains x.1=true∧x.2.plain=true)∧∀ x∈tab,∀ η φ,Ret P f (AV.toVals η φ x.1) (x.2.toVal η φ):=by
 have key:∀ x∈tab,(AV.plains x.1=true∧x.2.plain=true)∧(Tr.leaf x.2).ok (Go.Proofs.YtoehlmiadiiimaaGreatDoor.Ex.runT P orc 10000 0 f x.1) ⟨[],[],[]⟩=true:=by
  intro x hx
  have:=List.all_eq_true.1 h x hx
  simpa only [Bool.and_eq_true] using this
 exact ⟨fun x hx=>(key x hx).1,fun x hx η φ=>ret_of hm (horc φ) (key x hx).2 (Fa.On.nil η φ) rfl (key x hx).1.2 (key x hx).1.1 rfl rfl⟩
theorem told76:tabOk Tryz.prog (fun _=>noOrc) 76 tab76=true:=by kernel_rfl
theorem orc76 (φ:Nat→List Int→Int) : OrcOK Tryz.prog 0 φ (fun _=>orcTab 76 tab76):=fun F _ h =>
 have k:=tab_of mixed (fun φ=>noOrc_OK Tryz.prog 0 φ) told76
 @orcTab_ok F.dec h.env Tryz.prog 0 76 tab76 k.1 (fun x hx=>k.2 x hx _ _)
theorem told155:tabOk Tryz.prog (fun _=>orcTab 76 tab76) 155 tab155=true:=by kernel_rfl
theorem right:RightC Tryz.prog 159:=rightC_of mixed (by kernel_rfl)
theorem fits:FitsC Tryz.prog 160:=fitsC_of mixed (by kernel_rfl)
theorem mask:MaskC Tryz.prog 154:=maskC_of mixed (by kernel_rfl)
theorem gath:GathC Tryz.prog 156:=gathC_of mixed (by kernel_rfl)
theorem both:BothC Tryz.prog 153:=fun a b ha hb w=>bothD_any a b ha hb w
end Go.Proofs.YtoehlmiadiiimaaGreatDoor

