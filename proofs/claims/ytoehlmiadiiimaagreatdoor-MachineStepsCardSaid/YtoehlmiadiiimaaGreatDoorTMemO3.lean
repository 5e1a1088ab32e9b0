/-
  Words: the document's places of bits, in the machine program's own numbers: by the executor.
-/
import Derived.Test.YtoehlmiadiiimaaGreatDoorTMemO2
namespace Go.Proofs.YtoehlmiadiiimaaGreatDoor
open Go.ChangeShapes Go.WideShapes Go.RowKit Go.Proofs.YtoehlmiadiiimaaGreatDoor.Ex
def formsNE:List Nat:=[85,74,66,76,83,73,54,53,70,67,90,108,65]
theorem forms_two (f:Nat) (hf:f∈formsAll) : f∈formsNE∨placesF f=[]:=by
 simp only [formsAll,List.mem_cons,List.not_mem_nil,or_false] at hf
 rcases hf with rfl | rfl | rfl | rfl | rfl | rfl | rfl | rfl | rfl | rfl | rfl | rfl | rfl | rfl | rfl
 all_goals first
  | exact .inr rfl
  | (left; decide)
def PlW (f:Nat) (pl:Value) (w:World) : Prop:=(f∈formsNE∧PlC Tryz.prog (placesF f) pl w)∨(placesF f=[]∧pl=.slice none 0 0)
theorem plC_keep {P:Program} {ps:List Nat} {pl:Value} {w w':World} (h:PlC P ps pl w) (hb:Below w.heap.size w w') : PlC P ps pl w':=by
 obtain ⟨ρ,e,t,k1,k2,k3,k4⟩:=h
 refine ⟨ρ,e,t,k1,fun b r hr=>Nat.lt_of_lt_of_le (k2 b r hr) hb.size,fun D E r hr=>?_,k4⟩
 obtain ⟨C,hC,hO⟩:=k3 D E r hr
 exact ⟨C,(hb.block r.cb (k2 0 r hr)).trans hC,hO⟩
theorem PlW.keep {f:Nat} {pl:Value} {w w':World} (h:PlW f pl w) (hb:Below w.heap.size w w') : PlW f pl w':=by
 rcases h with ⟨h1,h2⟩ | h
 ·exact .inl ⟨h1,plC_keep h2 hb⟩
 ·exact .inr h
theorem PlW.form {f:Nat} {pl:Value} {w:World} (h:PlW f pl w) : ∃ A c,pl=.slice A (placesF f).length c:=by
 rcases h with ⟨_,ρ,e,t,k1,k2,k3,k4⟩ | ⟨h1,rfl⟩
 ·have:=@k4 (Fa.dec ⟨[],[],[]⟩) (Fa.On.nil (fun _=>0) (fun _ _=>0)).env
  generalize (placesF f).length=n at this ⊢
  cases this with
  | sl _ _ _ _ cc r h hl hc ht hs=>exact ⟨_,_,rfl⟩
  | sl0 _ _ a=>exact ⟨_,_,rfl⟩
 ·rw [h1]; exact ⟨_,_,rfl⟩
theorem add_mid {a b:Int} (h : -9223372036854775808≤a+b∧a+b≤9223372036854775807) : ibin .add .i64 a b=a+b:=by
 have e:ibin .add .i64 a b=IntKind.i64.wrap (a+b):=by unfold ibin abin; simp only; rw [if_neg (by simp)]
 rw [e,Go.Proofs.YtoehlmiadiiimaaGreatDoor.Ex.wrap_small _ h]
theorem H0_ev32 (η:Nat→Int) (φ:Nat→List Int→Int) {n:Nat} (h0:η 0=(n:Int)) (hn:n < 4294967296) : H0.ev η φ=(n:Int):=by
 show IntKind.i64.wrap (η 0)=_
 rw [h0,IntKind.wrap_i64]; omega
theorem bit_ev (η:Nat→Int) (φ:Nat→List Int→Int) {n:Nat} (h0:η 0=(n:Int)) (hn:n < 4294967296) (p:Nat) :
  (SE.wrap .i64 (.wrap .u32 (.bin .rem .i64 (.bin .quo .i64 H0 (.lit ((2 ^ p:Nat) : Int))) (.lit 2)))).ev η φ=((n / 2 ^ p % 2:Nat) : Int):=by
 have hb:n / 2 ^ p % 2 < 2:=Nat.mod_lt _ (by omega)
 have e1:(SE.bin .rem .i64 (.bin .quo .i64 H0 (.lit ((2 ^ p:Nat) : Int))) (.lit 2)).ev η φ=((n / 2 ^ p % 2:Nat) : Int):=by
  rw [ev_bin,ev_bin,H0_ev32 η φ h0 hn,ev_lit,ev_lit,quo_nat _ _ (Nat.two_pow_pos p) (by omega),show (2:Int)=((2:Nat) : Int) from rfl,rem_nat _ _ (by omega)]
 rw [ev_wrap,ev_wrap,e1,wrap_self .u32 _ (by show _≤4294967295; omega),wrap_nat _ (by omega)]
theorem gsX_ev32 (η:Nat→Int) (φ:Nat→List Int→Int) {n:Nat} (h0:η 0=(n:Int)) (hn:n < 4294967296) : ∀ (ps:List Nat) (i:Nat) (acc:SE) (a:Nat),acc.ev η φ=(a:Int)→a < 2 ^ i→i+ps.length≤20 →
  (gsX ps i acc).ev η φ=((a+2 ^ i*gatN ps n:Nat) : Int)
 | [],i,acc,a,h,_,_=>by rw [gsX,h,gatN]; simp
 | p :: ps,i,acc,a,h,ha,hi=>by
  rw [List.length_cons] at hi
  have hp:2 ^ i≤2 ^ 19:=Nat.pow_le_pow_right (by omega) (by omega)
  have hb:n / 2 ^ p % 2 < 2:=Nat.mod_lt _ (by omega)
  rw [gsX,gsX_ev32 η φ h0 hn ps (i+1) _ (a+2 ^ i*(n / 2 ^ p % 2)) ?_ ?_ (by omega),gatN]
  ·rw [Nat.pow_succ,Nat.mul_add,Nat.mul_assoc]
   omega
  ·have e1:=bit_ev η φ h0 hn p
   generalize n / 2 ^ p % 2=b at *
   generalize 2 ^ i=q at *
   have hq:q*b≤q*1:=Nat.mul_le_mul_left q (by omega)
   rw [ev_bin,h,ev_bin,e1,ev_lit,
    mul_small (c:=(b:Int)) (a:=(q:Int)) (by rw [show (b:Int)*(q:Int)=((q*b:Nat) : Int) from by rw [Nat.mul_comm]; rfl]; omega),show (b:Int)*(q:Int)=((q*b:Nat) : Int) from by rw [Nat.mul_comm]; rfl,
    add_mid (by omega)]
   omega
  ·rw [Nat.pow_succ]
   have hq:2 ^ i*(n / 2 ^ p % 2)≤2 ^ i*1:=Nat.mul_le_mul_left _ (by omega)
   omega
theorem gathNE:(fun e t=>formsNE.all fun f=>(Tr.leaf (gathA (placesF f))).ok (runO Tryz.prog (fun _=>orcTab 163 tab163) 10000 156 [.sint .u32 (.var 0),.sl 0 0 (placesF f).length (placesF f).length] (cellsA (placesF f)) e t) ⟨[],[],[]⟩)=fun _ _=>true:=by kernel_rfl
theorem gath0:(Tr.leaf (.tup [.int .u32 0,li 0])).ok (Go.Proofs.YtoehlmiadiiimaaGreatDoor.Ex.runT Tryz.prog (fun _=>noOrc) 10000 0 156 [.sint .u32 (.var 0),.nilsl]) ⟨[],[],[]⟩=true:=by kernel_rfl
theorem places_le (f:Nat) (hf:f∈formsNE) : (placesF f).length≤20∧placesF f≠[]∧(placesF f).Nodup∧∀ p∈placesF f,p < 32:=by
 have h:(formsNE.all fun f=>Nat.ble (placesF f).length 20 && (!(placesF f).isEmpty && (decide (placesF f).Nodup && (placesF f).all fun p=>decide (p < 32))))=true:=by decide
 have:=List.all_eq_true.1 h f hf
 simp only [Bool.and_eq_true,List.all_eq_true,decide_eq_true_eq,Nat.ble_eq,Bool.not_eq_true',List.isEmpty_eq_false_iff] at this
 exact this
theorem arg_vrs (D:Dec) (E : @Env D) (ρ:Rho) {η:Nat→Int} {n:Nat} (h1:E.η=η) (h0:η 0=(n:Int)) {x:AV} {pl:Value} (h : @VR D E ρ x pl) : @VRs D E ρ [.sint .u32 (.var 0),x] [.int .u32 (n:Int),pl]:=by
 have e : @sev D E (.var 0)=(n:Int):=by unfold sev; rw [h1]; exact h0
 have v:=@VR.sint D E ρ .u32 (.var 0)
 rw [e] at v
 exact @VRs.cons D E ρ _ _ _ _ v (@VRs.cons D E ρ _ _ _ _ h (@VRs.nil D E ρ))
theorem gath_c (f:Nat) (_hf:f∈formsAll) (n:Nat) (hn:n < 4294967296) (pl:Value) (w:World) (hpl:PlW f pl w) :
  Calls Tryz.prog 156 #[.int .u32 n,pl] w fun e w'=>e=.returned (.tuple #[.int .u32 (gatN (placesF f) n),.int .i64 0])∧Below w.heap.size w w':=by
 rcases hpl with ⟨hne,hpl⟩ | ⟨h0,rfl⟩
 ·obtain ⟨l1,l2,_,_⟩:=places_le f hne
  have q1:(gathA (placesF f)).plain=true:=by unfold gathA; split <;> rfl
  have q2:(gathA (placesF f)).toVal (ηl [(n:Int)]) φz=.tuple #[.int .u32 (gatN (placesF f) n),.int .i64 0]:=by
   unfold gathA
   split
   ·rename_i h; exact absurd h l2
   ·have e:=gsX_ev32 (ηl [(n:Int)]) φz rfl hn (placesF f) 0 (.lit 0) 0 rfl (by decide) (by omega)
    rw [Nat.pow_zero,Nat.one_mul,Nat.zero_add] at e
    have hb:=gatN_lt (placesF f) n
    have hp:2 ^ (placesF f).length≤2 ^ 20:=Nat.pow_le_pow_right (by omega) l1
    show Value.tuple #[.int .u32 (IntKind.u32.wrap ((gsX (placesF f) 0 (.lit 0)).ev (ηl [(n:Int)]) φz)),.int .i64 0]=_
    rw [e,wrap_self .u32 _ (by show gatN (placesF f) n≤4294967295; omega)]
  exact one_at (φ:=φz) (η:=ηl [(n:Int)]) (args':=[.int .u32 (n:Int),pl]) mixed ((o163 φz).to _) (funext fun e=>funext fun t=>List.all_eq_true.1 (congrFun (congrFun gathNE e) t) f hne) (Fa.On.nil _ _) rfl q1 q2 hpl (fun D E ρ h1 h2 h=>arg_vrs D E ρ h1 rfl h)
 ·have:=ret_of mixed (noOrc_OK Tryz.prog 0 φz) gath0 (Fa.On.nil (ηl [(n:Int)]) φz) rfl rfl rfl («as»:=[.int .u32 (n:Int),.slice none 0 0]) (u:=.tuple #[.int .u32 0,.int .i64 0]) rfl rfl w
  rw [h0]
  exact this
def scsX:List Nat→Nat→SE→SE
 | [],_,acc=>acc
 | p :: ps,i,acc=>scsX ps (i+1) (.bin .add .i64 acc (.bin .mul .i64 (.wrap .i64 (.wrap .u32 (.bin .rem .i64 (.bin .quo .i64 H0 (.lit ((2 ^ i:Nat) : Int))) (.lit 2)))) (.lit ((2 ^ p:Nat) : Int))))
def scatA (ps:List Nat) : AV:=.tup [.sint .u32 (.wrap .u32 (scsX ps 0 (.lit 0))),li 0]
def scatB (f:Nat) : Fa:=⟨[],[(H0,.lit ((2 ^ (placesF f).length:Nat) : Int),true)],[]⟩
theorem scatNE:(fun e t=>formsNE.all fun f=>(Tr.leaf (scatA (placesF f))).ok (runO Tryz.prog (fun _=>orcTab 163 tab163) 10000 245 [.sint .u32 (.var 0),.sl 0 0 (placesF f).length (placesF f).length] (cellsA (placesF f)) e t) (scatB f))=fun _ _=>true:=by kernel_rfl
theorem scat0:(Tr.leaf (.tup [.int .u32 0,li 0])).ok (Go.Proofs.YtoehlmiadiiimaaGreatDoor.Ex.runT Tryz.prog (fun _=>noOrc) 10000 0 245 [.int .u32 0,.nilsl]) ⟨[],[],[]⟩=true:=by kernel_rfl
theorem scatN_lt:∀ (ps:List Nat) (v:Nat),(∀ p∈ps,p < 32)→scatN ps v < 4294967296
 | [],_,_=>by simp [scatN]
 | p :: ps,v,h=>by
  have hp:=h p List.mem_cons_self
  have hv:v % 2 < 2:=Nat.mod_lt _ (by omega)
  have h2p:2 ^ p≤2 ^ 31:=Nat.pow_le_pow_right (by omega) (by omega)
  have hm:v % 2*2 ^ p≤1*2 ^ p:=Nat.mul_le_mul_right _ (by omega)
  exact Nat.or_lt_two_pow (n:=32) (by rw [Nat.shiftLeft_eq]; omega) (scatN_lt ps _ fun q hq=>h q (List.mem_cons_of_mem _ hq))
theorem scatN_cons {p:Nat} {ps:List Nat} (h:p ∉ ps) (v:Nat) : scatN (p :: ps) v=v % 2*2 ^ p+scatN ps (v / 2):=by
 rw [scatN,← Nat.shiftLeft_eq]
 refine (add_or _ _ (and_none fun k h1 h2=>?_)).symm
 rw [Nat.testBit_shiftLeft,bit_mod2] at h1
 have hk:=scat_true h2
 simp only [Bool.and_eq_true,decide_eq_true_eq] at h1
 have:k=p:=by omega
 exact h (this ▸ hk)
theorem scsX_ev (η:Nat→Int) (φ:Nat→List Int→Int) {n:Nat} (h0:η 0=(n:Int)) (hn:n < 4294967296) : ∀ (ps:List Nat) (i:Nat) (acc:SE) (a:Nat),ps.Nodup→(∀ p∈ps,p < 32)→acc.ev η φ=(a:Int)→a≤i*2147483648→i+ps.length≤20 →
  (scsX ps i acc).ev η φ=((a+scatN ps (n / 2 ^ i) : Nat) : Int)
 | [],i,acc,a,_,_,h,_,_=>by rw [scsX,h,scatN]; simp
 | p :: ps,i,acc,a,hd,hp,h,ha,hi=>by
  rw [List.length_cons] at hi
  obtain ⟨hd1,hd2⟩:=List.nodup_cons.1 hd
  have h2p:2 ^ p≤2 ^ 31:=Nat.pow_le_pow_right (by omega) (by have:=hp p List.mem_cons_self; omega)
  have hb:n / 2 ^ i % 2 < 2:=Nat.mod_lt _ (by omega)
  have hq:n / 2 ^ i % 2*2 ^ p≤1*2 ^ p:=Nat.mul_le_mul_right _ (by omega)
  rw [scsX,scsX_ev η φ h0 hn ps (i+1) _ (a+n / 2 ^ i % 2*2 ^ p) hd2 (fun q hq=>hp q (List.mem_cons_of_mem _ hq)) ?_ (by omega) (by omega),scatN_cons hd1,Nat.div_div_eq_div_mul,← Nat.pow_succ,Nat.add_assoc]
  have e1:=bit_ev η φ h0 hn i
  generalize n / 2 ^ i % 2=b at *
  generalize 2 ^ p=q at *
  rw [ev_bin,h,ev_bin,e1,ev_lit,
   mul_small (c:=(b:Int)) (a:=(q:Int)) (by rw [show (b:Int)*(q:Int)=((b*q:Nat) : Int) from rfl]; omega),show (b:Int)*(q:Int)=((b*q:Nat) : Int) from rfl,
   add_mid (by omega)]
  omega
theorem scat_c (f:Nat) (_hf:f∈formsAll) (n:Nat) (hn:n < 2 ^ (placesF f).length) (pl:Value) (w:World) (hpl:PlW f pl w) :
  Calls Tryz.prog 245 #[.int .u32 n,pl] w fun e w'=>e=.returned (.tuple #[.int .u32 (scatN (placesF f) n),.int .i64 0])∧Below w.heap.size w w':=by
 rcases hpl with ⟨hne,hpl⟩ | ⟨h0,rfl⟩
 ·obtain ⟨l1,l2,l3,l4⟩:=places_le f hne
  have hp:2 ^ (placesF f).length≤2 ^ 20:=Nat.pow_le_pow_right (by omega) l1
  have hn32:n < 4294967296:=by omega
  have q2:(scatA (placesF f)).toVal (ηl [(n:Int)]) φz=.tuple #[.int .u32 (scatN (placesF f) n),.int .i64 0]:=by
   have e:=scsX_ev (ηl [(n:Int)]) φz rfl hn32 (placesF f) 0 (.lit 0) 0 l3 l4 rfl (by omega) (by omega)
   rw [Nat.pow_zero,Nat.div_one,Nat.zero_add] at e
   have hb:=scatN_lt (placesF f) n l4
   show Value.tuple #[.int .u32 (IntKind.u32.wrap ((scsX (placesF f) 0 (.lit 0)).ev (ηl [(n:Int)]) φz)),.int .i64 0]=_
   rw [e,wrap_self .u32 _ (by show scatN (placesF f) n≤4294967295; omega)]
  have hF:(scatB f).On (ηl [(n:Int)]) φz:=by
   refine ⟨fun x hx=>(by cases hx),fun x hx=>?_,fun x hx=>(by cases hx)⟩
   simp only [scatB,List.mem_singleton] at hx
   subst hx
   show decide (H0.ev (ηl [(n:Int)]) φz < ((2 ^ (placesF f).length:Nat) : Int))=true
   rw [H0_ev32 (ηl [(n:Int)]) φz rfl hn32]
   exact decide_eq_true (by omega)
  exact one_at (φ:=φz) (η:=ηl [(n:Int)]) (args':=[.int .u32 (n:Int),pl]) mixed ((o163 φz).to _) (funext fun e=>funext fun t=>List.all_eq_true.1 (congrFun (congrFun scatNE e) t) f hne) hF rfl rfl q2 hpl (fun D E ρ h1 h2 h=>arg_vrs D E ρ h1 rfl h)
 ·rw [h0] at hn ⊢
  have e0:n=0:=by simpa using hn
  subst e0
  exact ret_of mixed (noOrc_OK Tryz.prog 0 φz) scat0 (Fa.On.nil (ηl []) φz) rfl rfl rfl («as»:=[.int .u32 0,.slice none 0 0]) (u:=.tuple #[.int .u32 0,.int .i64 0]) rfl rfl w
end Go.Proofs.YtoehlmiadiiimaaGreatDoor
