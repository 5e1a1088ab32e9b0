import Derived.Test.YtoehlmiadiiimaaGreatDoorTEncU3
namespace Go.Proofs.YtoehlmiadiiimaaGreatDoor.Ex
open Go
def OrcAt (P:Program) (gl:Nat) (φ:Nat→List Int→Int) (η:Nat→Int) (orc:Fa→ACall) : Prop:=∀ (F:Fa) (h:F.On η φ),@CallOK F.dec h.env P gl (orc F)
theorem OrcOK.to {P:Program} {gl:Nat} {φ:Nat→List Int→Int} {orc:Fa→ACall} (h:OrcOK P gl φ orc) (η:Nat→Int) : OrcAt P gl φ η orc:=fun F hF=>h F η hF
theorem ret_at {P:Program} (hm:P.follows .mixedOrders=true) {orc:Fa→ACall} {φ:Nat→List Int→Int} {η:Nat→Int} (horc:OrcAt P 0 φ η orc) {n N:Nat} {f:FuncId} {args:List AV} {F:Fa} {t:Tr}
  (hok:t.ok (runT P orc n N f args) F=true) (hF:F.On η φ) {v:AV} (hv:t.at η φ=some v) (hp:v.plain=true) (ha:AV.plains args=true) {as:List Value} {u:Value} (h1:AV.toVals η φ args=as) (h2:v.toVal η φ=u) : Ret P f as u:=by
 subst h1; subst h2
 rw [runT_eq] at hok
 intro w
 obtain ⟨F',hF',hR⟩:=Tr.ok_at hok hF hv
 unfold runF at hR
 rw [Option.map_eq_some_iff] at hR
 obtain ⟨⟨u,H'⟩,hR,hu⟩:=hR
 simp only at hu
 subst hu
 letI:Dec:=F'.dec
 letI:Env:=hF'.env
 refine (calls_from (ρ:=fun _=>none) (call_sound hm (horc F' hF') n) hR (fun _ _=>rfl) (fun _ _ h=>by cases h) (VRs.ofVal _ args ha)).mono ?_
 rintro e w' ⟨ρ',v',he,hv',hb⟩
 rw [VR.toVal _ hp hv'] at he
 exact ⟨he,hb⟩
theorem one_at {P:Program} (hm:P.follows .mixedOrders=true) {orc:Fa→ACall} {φ:Nat→List Int→Int} {η:Nat→Int} (horc:OrcAt P 0 φ η orc) {n:Nat} {f:FuncId} {args:List AV} {ps:List Nat} {F:Fa} {tr:Tr}
  (told:(fun e t=>tr.ok (runO P orc n f args (cellsA ps) e t) F)=fun _ _=>true) (hF:F.On η φ) {v:AV} (hv:tr.at η φ=some v) (hp:v.plain=true) {args':List Value} {u:Value} (h2:v.toVal η φ=u) {w:World} {pl:Value}
  (hpl:PlC P ps pl w) (hr:∀ (D:Dec) (E : @Env D) (ρ:Rho),E.η=η→E.φ=φ→@VR D E ρ (.sl 0 0 ps.length ps.length) pl→@VRs D E ρ args args') :
  Calls P f args'.toArray w fun e w'=>e=.returned u∧RowKit.Below w.heap.size w w':=by
 subst h2
 obtain ⟨ρ,e,t,k1,k2,k3,k4⟩:=hpl
 obtain ⟨F',hF',hR⟩:=Tr.ok_at (congrFun (congrFun told e) t) hF hv
 letI:Dec:=F'.dec
 letI:Env:=hF'.env
 have hi:Inv P ρ (heap1 (cellsA ps) e t) w:=by
  refine ⟨fun b o r hb hr=>?_,fun b c o p r s hb hc _ _ _=>?_,fun b hb=>k1 b hb,k2⟩
  ·obtain ⟨rfl,rfl⟩:=heap1_get _ _ _ b o hb
   exact k3 _ _ r hr
  ·obtain ⟨rfl,-⟩:=heap1_get _ _ _ b o hb
   obtain ⟨rfl,-⟩:=heap1_get _ _ _ c p hc
   rfl
 unfold runO at hR
 rw [callT_eq,Option.map_eq_some_iff] at hR
 obtain ⟨⟨x,H'⟩,hq,hx⟩:=hR
 simp only at hx
 subst hx
 refine (call_sound hm (horc F' hF') n 1 f args (heap1 (cellsA ps) e t) x H' hq ρ w _ hi (hr _ _ ρ rfl rfl (k4 _ _)) (fun g hg=>by omega) (Nat.le_refl _)).mono ?_
 rintro e w' ⟨ρ',v',he,hv',hs⟩
 rw [VR.toVal _ hp hv'] at he
 exact ⟨he,hs.below (Nat.le_refl _) hi⟩
section
variable [Dec] [Env]
def orcTab (f:FuncId) (tab:List (List AV×AV)) : ACall:=only f fun args H=>(tab.find? fun x=>AV.eqbs args x.1).map fun x=>(x.2,H)
omit [Dec] [Env] in
theorem tab_look {tab:List (List AV×AV)} {args:List AV} {x:List AV×AV} (h:(tab.find? fun x=>AV.eqbs args x.1)=some x) : x∈tab∧args=x.1 :=
 ⟨List.mem_of_find?_eq_some h,AV.eqbs_eq _ _ (by simpa using List.find?_some h)⟩
theorem orcTab_ok {P:Program} {gl:Nat} {f:FuncId} {tab:List (List AV×AV)} (hp:∀ x∈tab,AV.plains x.1=true∧x.2.plain=true) (hc:∀ x∈tab,Ret P f (AV.toVals Env.η Env.φ x.1) (x.2.toVal Env.η Env.φ)) : CallOK P gl (orcTab f tab):=by
 refine callOK_only fun args H v H' h=>?_
 rw [Option.map_eq_some_iff] at h
 obtain ⟨x,hx,h⟩:=h
 simp only [Prod.mk.injEq] at h
 obtain ⟨rfl,rfl⟩:=h
 obtain ⟨hm,rfl⟩:=tab_look hx
 refine ⟨rfl,fun ρ w args' hI hv=>?_⟩
 have e:=VRs.toVal _ (hp x hm).1 hv
 subst e
 exact ⟨_,VR.ofVal ρ _ (hp x hm).2,hc x hm w⟩
def orcLit (f:FuncId) (args0:List AV) (v:AV) : ACall:=orcTab f [(args0,v)]
theorem orcLit_ok {P:Program} {gl:Nat} {f:FuncId} {args0:List AV} {v:AV} (h1:AV.plains args0=true) (h2:v.plain=true) (hc:Ret P f (AV.toVals Env.η Env.φ args0) (v.toVal Env.η Env.φ)) : CallOK P gl (orcLit f args0 v) :=
 orcTab_ok (fun x hx=>by simp only [List.mem_singleton] at hx; subst hx; exact ⟨h1,h2⟩) (fun x hx=>by simp only [List.mem_singleton] at hx; subst hx; exact hc)
def orcBool (f:FuncId) (args0:List AV) (a:SE) : ACall:=only f fun args H=>match AV.eqbs args args0 with
 | true=>onE a 1 .bool H
 | false=>none
theorem orcBool_ok {P:Program} {gl:Nat} {f:FuncId} {args0:List AV} {a:SE} (h1:AV.plains args0=true) (hc:Ret P f (AV.toVals Env.η Env.φ args0) (.bool (sev a == 1))) : CallOK P gl (orcBool f args0 a):=by
 refine callOK_only fun args H v H' h=>?_
 split at h
 ·rename_i he
  have he:=AV.eqbs_eq _ _ he
  subst he
  obtain ⟨r,hr,rfl,rfl⟩:=onE_some h
  refine ⟨rfl,fun ρ w args' hI hv=>?_⟩
  have e:=VRs.toVal _ h1 hv
  subst e
  refine ⟨_,.bool r,?_⟩
  rw [← hr]
  exact hc w
 ·cases h
noncomputable def plOk (H:AHeap) (ps:List Nat) : AV→Bool
 | .sl sb 0 n c=>Nat.beq n ps.length && (Nat.beq c ps.length && match H.get sb with
  | some (.cells cs _ _)=>AV.eqbs cs (cellsA ps)
  | _=>false)
 | _=>false
omit [Dec] [Env] in
theorem cellsA_vrs (D D':Dec) (E : @Env D) (E' : @Env D') {ρ ρ':Rho} : ∀ (l:List Nat) {vs:List Value},@VRs D E ρ (cellsA l) vs→@VRs D' E' ρ' (cellsA l) vs
 | [],vs,h=>by
  have hv:vs=[]:=List.length_eq_zero_iff.1 (by simpa [cellsA] using (@VRs.length D E ρ _ vs h).symm)
  subst hv
  exact @VRs.nil D' E' ρ'
 | n :: l,vs,h=>by
  cases h with
  | cons _ v _ us h t =>
   cases h
   exact @VRs.cons D' E' ρ' _ _ _ _ (@VR.int D' E' ρ' .i64 n) (cellsA_vrs D D' E E' l t)
omit [Dec] [Env] in
theorem or_any {P:Program} {ρ ρ':Rho} {ps:List Nat} {e:TypeId} {t:Bool} {r:RB} {C:Obj} (D0 D:Dec) (E0 : @Env D0) (E : @Env D) (hO : @OR D0 E0 P ρ r (.cells (cellsA ps) e t) C) : @OR D E P ρ' r (.cells (cellsA ps) e t) C:=by
 cases C with
 | cells C E' fr=>exact ⟨hO.1,hO.2.1,hO.2.2.1,hO.2.2.2.1,cellsA_vrs D0 D E0 E _ hO.2.2.2.2.1,hO.2.2.2.2.2.1,hO.2.2.2.2.2.2⟩
 | _=>exact hO.elim
theorem plC_of {P:Program} {ps:List Nat} {H:AHeap} {ρ:Rho} {w:World} {x:AV} {pl:Value} (hI:Inv P ρ H w) (h:plOk H ps x=true) (hv:VR ρ x pl) : PlC P ps pl w:=by
 unfold plOk at h
 split at h
 ·rename_i sb n c
  simp only [Bool.and_eq_true] at h
  obtain ⟨h1,h2,h3⟩:=h
  have h1:=Nat.eq_of_beq_eq_true h1
  have h2:=Nat.eq_of_beq_eq_true h2
  subst h1; subst h2
  split at h3
  ·rename_i cs e t hget
   have h3:=AV.eqbs_eq _ _ h3
   subst h3
   generalize hn:ps.length=n at hv ⊢
   cases hv with
   | sl _ _ _ _ ccap r' h hl hc ht hs =>
    subst hn
    obtain ⟨C,hC,hO⟩:=hI.obj _ _ _ hget h
    refine ⟨fun b=>if b=0 then some r' else none,e,t,fun b hb=>if_neg (by omega),fun b r hr=>?_,fun D E r hr=>?_,fun D E=>?_⟩
    ·simp only at hr
     split at hr
     ·injection hr with hr; subst hr; exact hI.lt _ _ h
     ·cases hr
    ·simp only [if_true] at hr
     injection hr with hr
     subst hr
     exact ⟨C,hC,or_any _ D _ E hO⟩
    ·exact @VR.sl D E _ 0 0 _ _ ccap r' rfl hl hc ht hs
   | sl0 _ _ a =>
    refine ⟨fun _=>none,e,t,fun _ _=>rfl,fun _ r (h:(none:Option RB)=some r)=>(by cases h),fun D E r (h:(none:Option RB)=some r)=>(by cases h),fun D E=>?_⟩
    rw [hn]
    exact @VR.sl0 D E _ 0 0 a
  ·cases h3
 ·cases h
end
end Go.Proofs.YtoehlmiadiiimaaGreatDoor.Ex
namespace Go.Proofs.YtoehlmiadiiimaaGreatDoor.Ex
open Go
def H0:SE:=.wrap .i64 (.var 0)
def lowX:SE:=.bin .rem .i64 (.bin .quo .i64 H0 (.lit 4)) (.lit 32)
def highX:SE:=.bin .rem .i64 (.bin .quo .i64 H0 (.lit 128)) (.lit 32)
def tX:SE:=.bin .add .i64 (.bin .rem .i64 lowX (.lit 8)) (.lit 8)
def sX:SE:=.bin .add .i64 (.bin .rem .i64 highX (.lit 8)) (.lit 8)
def si (e:SE) : AV:=.sint .i64 e
def li (n:Int) : AV:=.int .i64 n
def regsX (f:Nat) : AV×AV×AV:=match f with
 | 97=>(si tX,li 2,li 0)
 | 108=>(si tX,si sX,li 0)
 | 115=>(li 0,si sX,si tX)
 | 114=>(si highX,si highX,li 0)
 | 122=>(si highX,li 0,li 0)
 | 117=>(si highX,li 0,li 0)
 | 112=>(li 2,li 2,li 0)
 | 113=>(si sX,si sX,li 0)
 | 109=>(si sX,si sX,si tX)
 | 98=>(li 0,si sX,li 0)
 | 119=>(si highX,li 2,li 0)
 | 74=>(li 0,si highX,li 0)
 | 75=>(li 1,si highX,li 0)
 | 118=>(si highX,li 0,si lowX)
 | 100=>(si highX,si highX,si lowX)
 | 116=>(li 0,li 2,si lowX)
 | _=>(li 0,li 0,li 0)
def VX:SE:=.wrap .i64 (.var 2)
def subX (r:RowL) : SE:=.bin .sub .i64 VX (.lit ((2 ^ r.places.length:Nat) : Int))
def mX (r:RowL) (up:Bool) : SE:=.bin .mul .i64 (match up with
 | false=>VX
 | true=>match r.kind with
  | 108=>.bin .add .i64 (subX r) (.lit 1048576)
  | _=>subX r) (.lit (r.unit:Nat))
def insnX (r:RowL) (up:Bool) : AV:=.agg [.int .u8 (r.op:Nat),(regsX r.form).1,(regsX r.form).2.1,(regsX r.form).2.2,si (mX r up)]
def signed (r:RowL) : Bool:=Nat.beq r.kind 115 || (Nat.beq r.kind 110 || Nat.beq r.kind 108)
def zeroX:AV:=.agg [.int .u8 0,li 0,li 0,li 0,li 0]
def factN (r:RowL) : Fa:=⟨[(.var 1,.lit (r.base:Nat),false)],[],[]⟩
def ofTr (r:RowL) (up:Bool) : Tr :=
 .eq (.var 4) (.lit 1) (.eq (.var 5) (.lit 1) (.eq (.var 3) (.var 0) (.leaf (.tup [insnX r up,.bool true])) (.leaf (.tup [insnX r up,.bool false]))) (.leaf (.tup [insnX r up,.bool false]))) (.leaf (.tup [insnX r up,.bool false]))
def ηX (r:RowL) (h:Nat) : Nat→Int:=ηl [(h:Int),((Nat.land h (fixm r) : Nat) : Int),(bitsAt h r.places:Int),aV r (decRow r h).d (decRow r h).s (decRow r h).t (decRow r h).m,
 b01 (rightV r.form (decRow r h).d (decRow r h).s (decRow r h).t),b01 (fitsV r.kind r.unit r.places.length (decRow r h).m)]
theorem wrap_nat (n:Nat) (h:n < 9223372036854775808) : IntKind.i64.wrap (n:Int)=(n:Int):=wrap_small _ (by omega)
theorem quo_nat (a b:Nat) (hb:0 < b) (ha:a < 9223372036854775808) : ibin .quo .i64 (a:Int) (b:Int)=((a / b:Nat) : Int):=by
 have e:ibin .quo .i64 (a:Int) (b:Int)=IntKind.i64.wrap ((a:Int).tdiv (b:Int)):=by
  unfold ibin abin
  simp only
  rw [if_neg (by simp),if_neg (by omega)]
 rw [e,show ((a:Int).tdiv (b:Int))=((a / b:Nat) : Int) from rfl]
 exact wrap_nat _ (Nat.lt_of_le_of_lt (Nat.div_le_self a b) ha)
theorem rem_nat (a b:Nat) (hb:0 < b) : ibin .rem .i64 (a:Int) (b:Int)=((a % b:Nat) : Int):=by
 rw [rem_lit _ _ (by omega)]
 rfl
section
variable (η:Nat→Int) (φ:Nat→List Int→Int) {h:Nat} (h0:η 0=(h:Int)) (hh:h < 65536)
include h0 hh
theorem H0_ev:H0.ev η φ=(h:Int):=by
 show IntKind.i64.wrap (η 0)=_
 rw [h0]; exact wrap_nat h (by omega)
theorem lowX_ev:lowX.ev η φ=((h / 4 % 32:Nat) : Int):=by
 unfold lowX
 rw [ev_bin,ev_bin,H0_ev η φ h0 hh,ev_lit,ev_lit,show (4:Int)=((4:Nat) : Int) from rfl,quo_nat _ _ (by omega) (by omega),show (32:Int)=((32:Nat) : Int) from rfl,rem_nat _ _ (by omega)]
theorem highX_ev:highX.ev η φ=((h / 128 % 32:Nat) : Int):=by
 unfold highX
 rw [ev_bin,ev_bin,H0_ev η φ h0 hh,ev_lit,ev_lit,show (128:Int)=((128:Nat) : Int) from rfl,quo_nat _ _ (by omega) (by omega),show (32:Int)=((32:Nat) : Int) from rfl,rem_nat _ _ (by omega)]
theorem tX_ev:tX.ev η φ=((h / 4 % 32 % 8+8:Nat) : Int):=by
 unfold tX
 rw [ev_bin,ev_bin,lowX_ev η φ h0 hh,ev_lit,show (8:Int)=((8:Nat) : Int) from rfl,rem_nat _ _ (by omega),add_small (by constructor <;> omega) (by constructor <;> omega)]
 omega
theorem sX_ev:sX.ev η φ=((h / 128 % 32 % 8+8:Nat) : Int):=by
 unfold sX
 rw [ev_bin,ev_bin,highX_ev η φ h0 hh,ev_lit,show (8:Int)=((8:Nat) : Int) from rfl,rem_nat _ _ (by omega),add_small (by constructor <;> omega) (by constructor <;> omega)]
 omega
theorem regsX_val (f:Nat) (hf:f∈RegsC.regForms) : ((regsX f).1.toVal η φ=.int .i64 (decRegs f (h / 128 % 32) (h / 4 % 32)).1∧(regsX f).2.1.toVal η φ=.int .i64 (decRegs f (h / 128 % 32) (h / 4 % 32)).2.1∧(regsX f).2.2.toVal η φ=.int .i64 (decRegs f (h / 128 % 32) (h / 4 % 32)).2.2) ∧
  ((regsX f).1.plain=true∧(regsX f).2.1.plain=true∧(regsX f).2.2.plain=true):=by
 have v1:(si tX).toVal η φ=.int .i64 ((h / 4 % 32 % 8+8:Nat) : Int):=by show Value.int .i64 (tX.ev η φ)=_; rw [tX_ev η φ h0 hh]
 have v2:(si sX).toVal η φ=.int .i64 ((h / 128 % 32 % 8+8:Nat) : Int):=by show Value.int .i64 (sX.ev η φ)=_; rw [sX_ev η φ h0 hh]
 have v3:(si highX).toVal η φ=.int .i64 ((h / 128 % 32:Nat) : Int):=by show Value.int .i64 (highX.ev η φ)=_; rw [highX_ev η φ h0 hh]
 have v4:(si lowX).toVal η φ=.int .i64 ((h / 4 % 32:Nat) : Int):=by show Value.int .i64 (lowX.ev η φ)=_; rw [lowX_ev η φ h0 hh]
 have v5:∀ n,(li n).toVal η φ=.int .i64 n:=fun n=>rfl
 simp only [RegsC.regForms,List.mem_cons,List.not_mem_nil,or_false] at hf
 rcases hf with rfl | rfl | rfl | rfl | rfl | rfl | rfl | rfl | rfl | rfl | rfl | rfl | rfl | rfl | rfl | rfl | rfl | rfl <;>
  exact ⟨⟨by first | exact v1 | exact v2 | exact v3 | exact v4 | exact v5 _,by first | exact v1 | exact v2 | exact v3 | exact v4 | exact v5 _,by first | exact v1 | exact v2 | exact v3 | exact v4 | exact v5 _⟩,rfl,rfl,rfl⟩
end
theorem row_small {r:RowL} (hr:r∈rowsL) : r.places.length≤11∧r.unit≤16∧1≤r.unit∧(signed r=true→1≤r.places.length)∧(r.kind=108→r.places.length=6):=by
 have tab:(rowsL.all fun r=>decide (r.places.length≤11) && (decide (r.unit≤16) && (decide (1≤r.unit) && ((!signed r || decide (1≤r.places.length)) && (!decide (r.kind=108) || decide (r.places.length=6))))))=true:=by decide
 have:=List.all_eq_true.1 tab r hr
 simp only [Bool.and_eq_true,Bool.or_eq_true,Bool.not_eq_true',decide_eq_true_eq,decide_eq_false_iff_not] at this
 obtain ⟨a,b,c,d,e⟩:=this
 exact ⟨a,b,c,fun h=>d.elim (fun k=>by rw [h] at k; cases k) id,fun h=>e.elim (fun k=>absurd h k) id⟩
theorem VX_ev (η:Nat→Int) (φ:Nat→List Int→Int) {n:Nat} (h2:η 2=(n:Int)) (hn:n < 65536) : VX.ev η φ=(n:Int):=by
 show IntKind.i64.wrap (η 2)=_
 rw [h2]; exact wrap_nat n (by omega)
theorem subX_ev (η:Nat→Int) (φ:Nat→List Int→Int) {r:RowL} (hr:r∈rowsL) {n:Nat} (h2:η 2=(n:Int)) (hn:n < 65536) : (subX r).ev η φ=(n:Int) - ((2 ^ r.places.length:Nat) : Int):=by
 have hl:=(row_small hr).1
 have hp:2 ^ r.places.length≤2 ^ 11:=Nat.pow_le_pow_right (by omega) hl
 unfold subX
 rw [ev_bin,VX_ev η φ h2 hn,ev_lit]
 have hp0:=Nat.two_pow_pos r.places.length
 generalize 2 ^ r.places.length=p at *
 rw [sub_small (by constructor <;> omega) (by constructor <;> omega)]
def upX (r:RowL) (n:Nat) : Bool:=signed r && decide (2 ^ r.places.length≤2*n)
theorem mX_ev (η:Nat→Int) (φ:Nat→List Int→Int) {r:RowL} (hr:r∈rowsL) {n:Nat} (h2:η 2=(n:Int)) (hn:n < 2 ^ r.places.length) : (mX r (upX r n)).ev η φ=r.unit*decQ r.kind r.places.length n:=by
 obtain ⟨hl,hu,hu1,-,h6⟩:=row_small hr
 have hp:2 ^ r.places.length≤2 ^ 11:=Nat.pow_le_pow_right (by omega) hl
 have key:∀ (x:SE) (q:Int),x.ev η φ=q→-1100000≤q∧q≤1100000→(SE.bin .mul .i64 x (.lit (r.unit:Nat))).ev η φ=r.unit*q:=by
  intro x q hx hq
  have hb : -9223372036854775808≤q*(r.unit:Int)∧q*(r.unit:Int)≤9223372036854775807:=by
   have hu':(r.unit:Int)≤16:=by omega
   have hu0:(0:Int)≤r.unit:=by omega
   constructor
   ·have:=Int.mul_le_mul_of_nonneg_right hq.1 hu0
    omega
   ·have:=Int.mul_le_mul_of_nonneg_right hq.2 hu0
    omega
  rw [ev_bin,hx,ev_lit,mul_small hb,Int.mul_comm]
 have v0:=VX_ev η φ h2 (show n < 65536 by omega)
 have v1:=subX_ev η φ hr h2 (show n < 65536 by omega)
 have hpow:(2:Int) ^ r.places.length=((2 ^ r.places.length:Nat) : Int):=by rw [Int.natCast_pow]; rfl
 unfold mX upX
 by_cases hs:signed r=true
 ·rw [hs,Bool.true_and]
  have hk:r.kind=115∨r.kind=110∨r.kind=108:=by
   unfold signed at hs
   simp only [Bool.or_eq_true] at hs
   rcases hs with h | h | h
   ·exact .inl (Nat.eq_of_beq_eq_true h)
   ·exact .inr (.inl (Nat.eq_of_beq_eq_true h))
   ·exact .inr (.inr (Nat.eq_of_beq_eq_true h))
  by_cases hc:2 ^ r.places.length≤2*n
  ·rw [decide_eq_true hc]
   rcases hk with hk | hk | hk
   ·simp only [hk,decQ]
    rw [if_pos hc]
    refine key _ _ (by rw [v1]; simp) ?_
    rw [hpow]
    generalize 2 ^ r.places.length=p at *
    omega
   ·simp only [hk,decQ]
    rw [if_pos hc]
    refine key _ _ (by rw [v1]; simp) ?_
    rw [hpow]
    generalize 2 ^ r.places.length=p at *
    omega
   ·simp only [hk,decQ]
    rw [if_pos hc]
    have h6:=h6 hk
    refine key _ _ ?_ (by omega)
    rw [ev_bin,v1,ev_lit,add_small (by constructor <;> omega) (by constructor <;> omega),h6]
    omega
  ·rw [decide_eq_false hc]
   rcases hk with hk | hk | hk
   ·simp only [hk,decQ]; rw [if_neg hc]; exact key _ _ v0 (by omega)
   ·simp only [hk,decQ]; rw [if_neg hc]; exact key _ _ v0 (by omega)
   ·simp only [hk,decQ]; rw [if_neg hc]; exact key _ _ v0 (by omega)
 ·have hs':signed r=false:=by simpa using hs
  rw [hs',Bool.false_and]
  have hk:r.kind≠115∧r.kind≠110∧r.kind≠108:=by
   unfold signed at hs'
   simp only [Bool.or_eq_false_iff,nat_beq,decide_eq_false_iff_not] at hs'
   exact hs'
  have:decQ r.kind r.places.length n=(n:Int):=by
   unfold decQ
   split
   ·rename_i hx; exact absurd hx hk.2.1
   ·rename_i hx; exact absurd hx hk.1
   ·rename_i hx; exact absurd hx hk.2.2
   ·rfl
  rw [this]
  exact key _ _ v0 (by omega)
end Go.Proofs.YtoehlmiadiiimaaGreatDoor.Ex
namespace Go.Proofs.YtoehlmiadiiimaaGreatDoor.Ex
open Go
def rowV (r:RowL) (pl:Value) : Value:=.agg #[.string ⟨(r.name.map UInt8.ofNat).toArray⟩,.int .i64 (r.base:Nat),.string ⟨#[UInt8.ofNat r.form]⟩,.string ⟨#[UInt8.ofNat r.kind]⟩,.int .i64 (r.unit:Nat),pl]
def MaskC (P:Program) (f:FuncId) : Prop:=∀ r∈rowsL,∀ (pl:Value) (w:World),PlC P r.places pl w→Calls P f #[rowV r pl] w fun e w'=>e=.returned (.int .i64 ((fixm r:Nat) : Int))∧RowKit.Below w.heap.size w w'
def GathC (P:Program) (f:FuncId) : Prop:=∀ r∈rowsL,∀ n:Nat,n < 65536→∀ (pl:Value) (w:World),PlC P r.places pl w →
 Calls P f #[.int .u32 (n:Int),pl] w fun e w'=>e=.returned (.tuple #[.int .u32 (bitsAt n r.places:Int),.int .i64 0])∧RowKit.Below w.heap.size w w'
def WritC (P:Program) (f:FuncId) : Prop:=∀ r∈rowsL,∀ d s t m:Int,mayI r.op d s t m=true→regsOk r.form d s t=true→numOk r.kind r.unit r.places.length m=true→∀ (pl:Value) (w:World),PlC P r.places pl w →
 Calls P f #[rowV r pl,insnV r.op d s t m] w fun e w'=>e=.returned (.int .u16 (aV r d s t m))∧RowKit.Below w.heap.size w w'
def ofRowV (r:RowL) (h:Nat) : Value:=match matchM h r with
 | true=>insnV r.op (decRow r h).d (decRow r h).s (decRow r h).t (decRow r h).m
 | false=>insnV 0 0 0 0 0
def OfC (P:Program) (f:FuncId) : Prop:=∀ r∈rowsL,∀ h:Nat,h < 65536→∀ (pl:Value) (w:World),PlC P r.places pl w →
 Calls P f #[rowV r pl,.int .u16 (h:Int)] w fun e w'=>e=.returned (.tuple #[ofRowV r h,.bool (ofB r h)])∧RowKit.Below w.heap.size w w'
theorem row_plain {r:RowL} (hr:r∈rowsL) : (AV.str r.name).plain=true∧(AV.str [r.form]).plain=true∧(AV.str [r.kind]).plain=true:=by
 have h7:(rowsL.all fun r=>(AV.str r.name).plain && ((AV.str [r.form]).plain && (AV.str [r.kind]).plain))=true:=by decide
 have h8:=List.all_eq_true.1 h7 r hr
 simpa only [Bool.and_eq_true] using h8
theorem rowA_vr {r:RowL} (hr:r∈rowsL) {pl:Value} (D:Dec) (E : @Env D) (ρ:Rho) (h : @VR D E ρ (.sl 0 0 r.places.length r.places.length) pl) : @VR D E ρ (rowA r) (rowV r pl):=by
 obtain ⟨p1,p2,p3⟩:=row_plain hr
 exact @VR.agg D E ρ [_,_,_,_,_,_] [_,_,_,_,_,_] (@VRs.cons D E ρ _ _ _ _ (str_plain _ p1 _ _ _) (@VRs.cons D E ρ _ _ _ _ (@VR.int D E ρ _ _) (@VRs.cons D E ρ _ _ _ _ (str_plain _ p2 _ _ _) (@VRs.cons D E ρ _ _ _ _ (str_plain _ p3 _ _ _)
  (@VRs.cons D E ρ _ _ _ _ (@VR.int D E ρ _ _) (@VRs.cons D E ρ _ _ _ _ h (@VRs.nil D E ρ)))))))
theorem maskC_of {P:Program} (hm:P.follows .mixedOrders=true) {f:FuncId} (told:(fun e t=>rowsL.all fun r=>(Tr.leaf (.int .i64 ((fixm r:Nat) : Int))).ok (runO P (fun _=>noOrc) 10000 f [rowA r] (cellsA r.places) e t) ⟨[],[],[]⟩)=fun _ _=>true) : MaskC P f:=by
 intro r hr pl w hpl
 refine one_at (φ:=φz) (η:=ηl []) (args':=[rowV r pl]) hm ((noOrc_OK P 0 φz).to _) (funext fun e=>funext fun t=>List.all_eq_true.1 (congrFun (congrFun told e) t) r hr) (Fa.On.nil _ _) rfl rfl rfl hpl ?_
 intro D E ρ _ _ h
 exact @VRs.cons D E ρ _ _ _ _ (rowA_vr hr D E ρ h) (@VRs.nil D E ρ)
def gsX:List Nat→Nat→SE→SE
 | [],_,acc=>acc
 | p :: ps,i,acc=>gsX ps (i+1) (.bin .add .i64 acc (.bin .mul .i64 (.wrap .i64 (.wrap .u32 (.bin .rem .i64 (.bin .quo .i64 H0 (.lit ((2 ^ p:Nat) : Int))) (.lit 2)))) (.lit ((2 ^ i:Nat) : Int))))
def gathA (ps:List Nat) : AV:=match ps with
 | []=>.tup [.int .u32 0,li 0]
 | _=>.tup [.sint .u32 (.wrap .u32 (gsX ps 0 (.lit 0))),li 0]
theorem gsX_ev (η:Nat→Int) (φ:Nat→List Int→Int) {n:Nat} (h0:η 0=(n:Int)) (hn:n < 65536) : ∀ (ps:List Nat) (i:Nat) (acc:SE) (a:Nat),acc.ev η φ=(a:Int)→a < 2 ^ i→i+ps.length≤16 →
  (gsX ps i acc).ev η φ=((a+2 ^ i*bitsAt n ps:Nat) : Int)
 | [],i,acc,a,h,_,_=>by rw [gsX,h,bitsAt]; simp
 | p :: ps,i,acc,a,h,ha,hi=>by
  rw [List.length_cons] at hi
  have hp:2 ^ i≤2 ^ 15:=Nat.pow_le_pow_right (by omega) (by omega)
  have hb:n / 2 ^ p % 2 < 2:=Nat.mod_lt _ (by omega)
  rw [gsX,gsX_ev η φ h0 hn ps (i+1) _ (a+2 ^ i*(n / 2 ^ p % 2)) ?_ ?_ (by omega),bitsAt]
  ·rw [Nat.pow_succ,Nat.mul_add,Nat.mul_assoc]
   omega
  ·have e1:(SE.bin .rem .i64 (.bin .quo .i64 H0 (.lit ((2 ^ p:Nat) : Int))) (.lit 2)).ev η φ=((n / 2 ^ p % 2:Nat) : Int):=by
    rw [ev_bin,ev_bin,H0_ev η φ h0 hn,ev_lit,ev_lit,quo_nat _ _ (Nat.two_pow_pos p) (by omega),show (2:Int)=((2:Nat) : Int) from rfl,rem_nat _ _ (by omega)]
   generalize n / 2 ^ p % 2=b at *
   generalize 2 ^ i=q at *
   have hq:q*b≤q*1:=Nat.mul_le_mul_left q (by omega)
   rw [ev_bin,h,ev_bin,ev_wrap,ev_wrap,e1,ev_lit,wrap_self .u32 b (by show b≤4294967295; omega),wrap_nat b (by omega),
    mul_small (c:=(b:Int)) (a:=(q:Int)) (by rw [show (b:Int)*(q:Int)=((q*b:Nat) : Int) from by rw [Nat.mul_comm]; rfl]; omega),show (b:Int)*(q:Int)=((q*b:Nat) : Int) from by rw [Nat.mul_comm]; rfl,
    add_small (by constructor <;> omega) (by constructor <;> omega)]
   omega
  ·rw [Nat.pow_succ]
   have hq:2 ^ i*(n / 2 ^ p % 2)≤2 ^ i*1:=Nat.mul_le_mul_left _ (by omega)
   omega
theorem gathA_val (η:Nat→Int) (φ:Nat→List Int→Int) {n:Nat} (h0:η 0=(n:Int)) (hn:n < 65536) {ps:List Nat} (hl:ps.length≤11) : (gathA ps).plain=true∧(gathA ps).toVal η φ=.tuple #[.int .u32 (bitsAt n ps:Int),.int .i64 0]:=by
 unfold gathA
 split
 ·exact ⟨rfl,rfl⟩
 ·refine ⟨rfl,?_⟩
  have e:=gsX_ev η φ h0 hn ps 0 (.lit 0) 0 rfl (by decide) (by omega)
  rw [Nat.pow_zero,Nat.one_mul,Nat.zero_add] at e
  have hb:=bitsAt_lt n ps
  have hp:2 ^ ps.length≤2 ^ 11:=Nat.pow_le_pow_right (by omega) hl
  show Value.tuple #[.int .u32 (IntKind.u32.wrap ((gsX ps 0 (.lit 0)).ev η φ)),.int .i64 0]=_
  rw [e,wrap_self .u32 _ (by show bitsAt n ps≤4294967295; omega)]
theorem gathC_of {P:Program} (hm:P.follows .mixedOrders=true) {f:FuncId} (told:(fun e t=>rowsL.all fun r=>(Tr.leaf (gathA r.places)).ok (runO P (fun _=>noOrc) 10000 f [.sint .u32 (.var 0),.sl 0 0 r.places.length r.places.length] (cellsA r.places) e t) ⟨[],[],[]⟩)=fun _ _=>true) : GathC P f:=by
 intro r hr n hn pl w hpl
 obtain ⟨q1,q2⟩:=gathA_val (ηl [(n:Int)]) φz rfl hn (row_small hr).1
 refine one_at (φ:=φz) (η:=ηl [(n:Int)]) (args':=[.int .u32 (n:Int),pl]) hm ((noOrc_OK P 0 φz).to _) (funext fun e=>funext fun t=>List.all_eq_true.1 (congrFun (congrFun told e) t) r hr) (Fa.On.nil _ _) rfl q1 q2 hpl ?_
 intro D E ρ h1 h2 h
 have e : @sev D E (.var 0)=(n:Int):=by unfold sev; rw [h1]; rfl
 have v:=@VR.sint D E ρ .u32 (.var 0)
 rw [e] at v
 exact @VRs.cons D E ρ _ _ _ _ v (@VRs.cons D E ρ _ _ _ _ h (@VRs.nil D E ρ))
theorem brT_two (f g:SE→AV) (r:RowL) (η:Nat→Int) (φ:Nat→List Int→Int) : ∃ N,(brT f r).at η φ=some (f N)∧(brT g r).at η φ=some (g N):=by
 have part:∀ v:SE,∃ N,(Tr.lt v (.lit ((2 ^ r.places.length:Nat) : Int)) (.leaf (f (nT r v))) (.leaf (f (.lit 0)))).at η φ=some (f N)∧(Tr.lt v (.lit ((2 ^ r.places.length:Nat) : Int)) (.leaf (g (nT r v))) (.leaf (g (.lit 0)))).at η φ=some (g N):=by
  intro v
  by_cases h:v.ev η φ < (SE.lit ((2 ^ r.places.length:Nat) : Int)).ev η φ
  ·exact ⟨nT r v,by rw [at_lt,if_pos h]; rfl,by rw [at_lt,if_pos h]; rfl⟩
  ·exact ⟨.lit 0,by rw [at_lt,if_neg h]; rfl,by rw [at_lt,if_neg h]; rfl⟩
 unfold brT
 simp only
 by_cases h:(SE.bin .quo .i64 (.var 3) (.lit (r.unit:Nat))).ev η φ < (SE.lit 0).ev η φ
 ·obtain ⟨N,h1,h2⟩:=part (.wrap .i64 (.wrap .u32 (.bin .rem .i64 (.bin .add .i64 (.bin .quo .i64 (.var 3) (.lit (r.unit:Nat))) (.lit ((2 ^ r.places.length:Nat) : Int))) (.lit ((2 ^ r.places.length:Nat) : Int)))))
  exact ⟨N,by rw [at_lt,if_pos h]; exact h1,by rw [at_lt,if_pos h]; exact h2⟩
 ·obtain ⟨N,h1,h2⟩:=part (.wrap .i64 (.wrap .u32 (.bin .rem .i64 (.bin .quo .i64 (.var 3) (.lit (r.unit:Nat))) (.lit ((2 ^ r.places.length:Nat) : Int)))))
  exact ⟨N,by rw [at_lt,if_neg h]; exact h1,by rw [at_lt,if_neg h]; exact h2⟩
theorem tup_plain {v:AV} (h:(AV.tup [v,.int .i64 0]).plain=true) : v.plain=true:=by
 simp only [AV.plain,AV.plains,Bool.and_eq_true] at h
 exact h.1
theorem tup_val {v:AV} {η:Nat→Int} {φ:Nat→List Int→Int} {n:Int} (h:(AV.tup [v,.int .i64 0]).toVal η φ=.tuple #[.int .u16 n,.int .i64 0]) : v.toVal η φ=.int .u16 n:=by
 simp only [AV.toVal,AV.toVals,Value.tuple.injEq] at h
 have:=congrArg Array.toList h
 simp only [List.cons.injEq] at this
 exact this.1
theorem writC_of {P:Program} (hm:P.follows .mixedOrders=true) {f:FuncId} (k1:∀ r∈rowsL,allRow (sumP' r) r=true) (k2:∀ r∈rowsL,standRow r=true) (k3:∀ r∈rowsL,numRow r=true)
  (told:∀ r∈rowsL,(fun e t=>(brT (fun N=>valA (sumT r N)) r).ok (runO P (fun _=>noOrc) 10000 f [rowA r,symI] (cellsA r.places) e t) ⟨[],[],[]⟩)=fun _ _=>true) : WritC P f:=by
 intro r hr d s t m hmay h1 h2 pl w hpl
 obtain ⟨v,e1,e2,e3⟩:=writ_eq hr (k1 r hr) (k2 r hr) (k3 r hr) hmay h1 h2 (r.op:Int)
 obtain ⟨N,n1,n2⟩:=brT_two (fun N=>.tup [valA (sumT r N),.int .i64 0]) (fun N=>valA (sumT r N)) r (ηl [d,s,t,m,(r.op:Int)]) φ0
 have ev:v=.tup [valA (sumT r N),.int .i64 0]:=Option.some.inj (e1.symm.trans n1)
 subst ev
 refine one_at (φ:=φ0) (η:=ηl [d,s,t,m,(r.op:Int)]) (args':=[rowV r pl,insnV r.op d s t m]) hm ((noOrc_OK P 0 φ0).to _) (told r hr) (Fa.On.nil _ _) n2 (tup_plain e2) (tup_val e3) hpl ?_
 intro D E ρ g1 g2 h
 refine @VRs.cons D E ρ _ _ _ _ (rowA_vr hr D E ρ h) (@VRs.cons D E ρ _ _ _ _ ?_ (@VRs.nil D E ρ))
 have q:=@VR.ofVal D E ρ symI rfl
 have e:symI.toVal (@Env.η D E) (@Env.φ D E)=insnV r.op d s t m:=by rw [g1,g2]; rfl
 rw [e] at q
 exact q
end Go.Proofs.YtoehlmiadiiimaaGreatDoor.Ex
namespace Go.Proofs.YtoehlmiadiiimaaGreatDoor.Ex
open Go
noncomputable def isRow (H:AHeap) (r:RowL) : AV→Bool
 | .agg [.str nm,.int .i64 b,.str fm,.str kd,.int .i64 u,pl]=>rowIs nm b fm kd u r.places.length r && plOk H r.places pl
 | _=>false
noncomputable def orcMask (f:FuncId) (r:RowL) : ACall:=only f fun args H=>match args with
 | [x]=>match isRow H r x with
  | true=>some (.int .i64 ((fixm r:Nat) : Int),H)
  | false=>none
 | _=>none
noncomputable def orcGath (f:FuncId) (r:RowL) : ACall:=only f fun args H=>match args with
 | [w,x]=>match AV.eqb w (.sint .u32 (.wrap .u32 (.var 0))) && plOk H r.places x with
  | true=>some (.tup [.sint .u32 (.var 2),li 0],H)
  | false=>none
 | _=>none
noncomputable def orcWrit [Dec] (f:FuncId) (r:RowL) (up:Bool) : ACall:=only f fun args H=>match args with
 | [x,i]=>match isRow H r x && (AV.eqb i (insnX r up) && (isT (Dec.eqs (.var 4) (.lit 1)) && isT (Dec.eqs (.var 5) (.lit 1)))) with
  | true=>some (.sint .u16 (.var 3),H)
  | false=>none
 | _=>none
noncomputable def orcFitX [Dec] (f:FuncId) (r:RowL) (up:Bool) : ACall:=only f fun args H=>match args with
 | [x,m]=>match isRow H r x && AV.eqb m (si (mX r up)) with
  | true=>onE (.var 5) 1 .bool H
  | false=>none
 | _=>none
section
variable [Dec] [Env] {P:Program} {gl:Nat}
theorem isRow_rel {H:AHeap} {r:RowL} {x:AV} {ρ:Rho} {w:World} {v:Value} (hI:Inv P ρ H w) (h:isRow H r x=true) (hv:VR ρ x v) : ∃ pl,v=rowV r pl∧PlC P r.places pl w:=by
 unfold isRow at h
 split at h
 ·rename_i nm b fm kd u pl
  rw [Bool.and_eq_true] at h
  obtain ⟨h1,h2⟩:=h
  unfold rowIs at h1
  simp only [Bool.and_eq_true,beq_iff_eq,decide_eq_true_eq] at h1
  obtain ⟨rfl,rfl,rfl,rfl,rfl,-⟩:=h1
  cases hv with
  | agg cs vs hv =>
   cases hv with
   | cons _ _ _ _ h1 hv=>cases hv with
    | cons _ _ _ _ h2' hv=>cases hv with
     | cons _ _ _ _ h3 hv=>cases hv with
      | cons _ _ _ _ h4 hv=>cases hv with
       | cons _ _ _ _ h5 hv=>cases hv with
        | cons _ pl' _ _ h6 hv =>
         cases hv
         have h1:=str_eq h1
         have h3:=str_eq h3
         have h4:=str_eq h4
         subst h1; subst h3; subst h4
         cases h2'; cases h5
         exact ⟨pl',rfl,plC_of hI h2 h6⟩
 ·cases h
theorem orcMask_ok {f:FuncId} {r:RowL} (hr:r∈rowsL) (hc:MaskC P f) : CallOK P gl (orcMask f r):=by
 refine callOK_only fun args H v H' h=>?_
 split at h
 ·rename_i x
  split at h
  ·rename_i hx
   simp only [Option.some.injEq,Prod.mk.injEq] at h
   obtain ⟨rfl,rfl⟩:=h
   refine ⟨rfl,fun ρ w args' hI hv=>?_⟩
   cases hv with
   | cons _ vx _ _ h1 hv =>
    cases hv
    obtain ⟨pl,rfl,hpl⟩:=isRow_rel hI hx h1
    exact ⟨_,.int _ _,hc r hr pl w hpl⟩
  ·cases h
 ·cases h
theorem orcGath_ok {f:FuncId} {r:RowL} (hr:r∈rowsL) {h:Nat} (hh:h < 65536) (e0:Env.η 0=(h:Int)) (e2:Env.η 2=(bitsAt h r.places:Int)) (hc:GathC P f) : CallOK P gl (orcGath f r):=by
 refine callOK_only fun args H v H' h=>?_
 split at h
 ·rename_i w x
  split at h
  ·rename_i hx
   simp only [Option.some.injEq,Prod.mk.injEq] at h
   obtain ⟨rfl,rfl⟩:=h
   rw [Bool.and_eq_true] at hx
   obtain ⟨hw,hx⟩:=hx
   have hw:=AV.eqb_eq _ _ hw
   subst hw
   refine ⟨rfl,fun ρ w args' hI hv=>?_⟩
   cases hv with
   | cons _ vw _ _ h1 hv =>
    cases hv with
    | cons _ vx _ _ h2 hv =>
     cases hv
     cases h1
     have hpl:=plC_of hI hx h2
     have e:sev (.wrap .u32 (.var 0))=(h:Int):=by
      show IntKind.u32.wrap (Env.η 0)=_
      rw [e0,wrap_self .u32 h (by show h≤4294967295; omega)]
     rw [e]
     refine ⟨_,.tup _ [_,_] (.cons _ _ _ _ (.sint .u32 (.var 2)) (.cons _ _ _ _ (.int _ _) .nil)),?_⟩
     have e':sev (.var 2)=(bitsAt h r.places:Int):=e2
     rw [e']
     exact hc r hr h hh _ w hpl
  ·cases h
 ·cases h
end
def InsnX (r:RowL) (h:Nat) : Value:=insnV r.op (decRow r h).d (decRow r h).s (decRow r h).t (decRow r h).m
theorem insnX_val {r:RowL} (hr:r∈rowsL) {h:Nat} (hh:h < 65536) (η:Nat→Int) (φ:Nat→List Int→Int) (e0:η 0=(h:Int)) (e2:η 2=(bitsAt h r.places:Int)) :
  (insnX r (upX r (bitsAt h r.places))).plain=true∧(insnX r (upX r (bitsAt h r.places))).toVal η φ=InsnX r h:=by
 obtain ⟨⟨v1,v2,v3⟩,p1,p2,p3⟩:=regsX_val η φ e0 hh r.form (form_mem hr)
 have v4:(si (mX r (upX r (bitsAt h r.places)))).toVal η φ=.int .i64 (decRow r h).m:=by
  show Value.int .i64 ((mX r (upX r (bitsAt h r.places))).ev η φ)=_
  rw [mX_ev η φ hr e2 (bitsAt_lt h r.places)]
  rfl
 unfold insnX
 constructor
 ·simp only [AV.plain,AV.plains,p1,p2,p3]
  rfl
 ·simp only [AV.toVal,AV.toVals,v1,v2,v3]
  unfold InsnX insnV
  have v4':=v4
  simp only [si,AV.toVal] at v4'
  simp only [si,AV.toVal,v4']
  rfl
section
variable [Dec] [Env] {P:Program} {gl:Nat} {r:RowL} (hr:r∈rowsL) {h:Nat} (hh:h < 65536) (e0:Env.η 0=(h:Int)) (e2:Env.η 2=(bitsAt h r.places:Int))
include hr hh e0 e2
omit hh e0 in
theorem orcFitX_ok {f:FuncId} (e5:Env.η 5=b01 (fitsV r.kind r.unit r.places.length (decRow r h).m)) (hc:FitsC P f) : CallOK P gl (orcFitX f r (upX r (bitsAt h r.places))):=by
 refine callOK_only fun args H v H' hq=>?_
 split at hq
 ·rename_i x m
  split at hq
  ·rename_i hx
   rw [Bool.and_eq_true] at hx
   obtain ⟨hx,hm⟩:=hx
   have hm:=AV.eqb_eq _ _ hm
   subst hm
   obtain ⟨b,hb,rfl,rfl⟩:=onE_some hq
   refine ⟨rfl,fun ρ w args' hI hv=>?_⟩
   cases hv with
   | cons _ vx _ _ h1 hv =>
    cases hv with
    | cons _ vm _ _ h2 hv =>
     cases hv
     obtain ⟨pl,rfl,ρ',-,-,k1,k2,-,k4⟩:=isRow_rel hI hx h1
     cases h2
     have e:sev (mX r (upX r (bitsAt h r.places)))=(decRow r h).m:=mX_ev _ _ hr e2 (bitsAt_lt h r.places)
     rw [e]
     refine ⟨_,.bool b,?_⟩
     have:b=fitsV r.kind r.unit r.places.length (decRow r h).m:=by
      rw [← hb,show sev (.var 5)=b01 (fitsV r.kind r.unit r.places.length (decRow r h).m) from e5,b01_eq]
     rw [this]
     exact hc r hr _ pl w ⟨ρ',k1,k2,k4⟩
  ·cases hq
 ·cases hq
theorem orcWrit_ok {f:FuncId} (e3:Env.η 3=aV r (decRow r h).d (decRow r h).s (decRow r h).t (decRow r h).m) (e4:Env.η 4=b01 (rightV r.form (decRow r h).d (decRow r h).s (decRow r h).t)) (e5:Env.η 5=b01 (fitsV r.kind r.unit r.places.length (decRow r h).m))
  (hmay:fitsV r.kind r.unit r.places.length (decRow r h).m=true→numOk r.kind r.unit r.places.length (decRow r h).m=true) (hc:WritC P f) : CallOK P gl (orcWrit f r (upX r (bitsAt h r.places))):=by
 refine callOK_only fun args H v H' hq=>?_
 split at hq
 ·rename_i x i
  split at hq
  ·rename_i hx
   simp only [Bool.and_eq_true] at hx
   obtain ⟨hx,hi,h4,h5⟩:=hx
   have hi:=AV.eqb_eq _ _ hi
   subst hi
   simp only [Option.some.injEq,Prod.mk.injEq] at hq
   obtain ⟨rfl,rfl⟩:=hq
   have q4:=look_eq (isT_some h4)
   have q5:=look_eq (isT_some h5)
   rw [show sev (.var 4)=b01 (rightV r.form (decRow r h).d (decRow r h).s (decRow r h).t) from e4,show sev (.lit 1)=1 from rfl,b01_eq] at q4
   rw [show sev (.var 5)=b01 (fitsV r.kind r.unit r.places.length (decRow r h).m) from e5,show sev (.lit 1)=1 from rfl,b01_eq] at q5
   have hn:=hmay q5
   have hm:=dec_may hr h hn
   rw [right_eq hr hm] at q4
   refine ⟨rfl,fun ρ w args' hI hv=>?_⟩
   cases hv with
   | cons _ vx _ _ h1 hv =>
    cases hv with
    | cons _ vi _ _ h2 hv =>
     cases hv
     obtain ⟨pl,rfl,hpl⟩:=isRow_rel hI hx h1
     obtain ⟨p1,p2⟩:=insnX_val hr hh Env.η Env.φ e0 e2
     have e:=VR.toVal _ p1 h2
     subst e
     rw [p2]
     refine ⟨_,.sint .u16 (.var 3),?_⟩
     rw [show sev (.var 3)=aV r (decRow r h).d (decRow r h).s (decRow r h).t (decRow r h).m from e3]
     exact hc r hr _ _ _ _ hm q4 hn pl w hpl
  ·cases hq
 ·cases hq
end
structure RefF where
 both:FuncId
 mask:FuncId
 name:FuncId
 gath:FuncId
 right:FuncId
 fits:FuncId
 writ:FuncId
noncomputable def orcX (N:RefF) (tab:List (List AV×AV)) (r:RowL) (up:Bool) (F:Fa) : ACall :=
 orElse (orcLit N.both [si H0,li (fixm r:Nat)] (si (.var 1))) (orElse (orcMask N.mask r) (orElse (orcTab N.name tab) (orElse (orcGath N.gath r) (orElse (@orcBool F.dec N.right [.str [r.form],insnX r up] (.var 4)) (orElse (@orcFitX F.dec N.fits r up) (@orcWrit F.dec N.writ r up))))))
def BothC (P:Program) (f:FuncId) : Prop:=∀ a b:Nat,a < 65536→b < 65536→Ret P f [.int .i64 (a:Int),.int .i64 (b:Int)] (.int .i64 ((Nat.land a b:Nat) : Int))
structure RefC (P:Program) (N:RefF) (tab:List (List AV×AV)) : Prop where
 both:BothC P N.both
 mask:MaskC P N.mask
 tabp:∀ x∈tab,AV.plains x.1=true∧x.2.plain=true
 name:∀ x∈tab,∀ η φ,Ret P N.name (AV.toVals η φ x.1) (x.2.toVal η φ)
 gath:GathC P N.gath
 right:RightC P N.right
 fits:FitsC P N.fits
 writ:WritC P N.writ
noncomputable def numSmall (r:RowL) : Bool:=(List.range (2 ^ r.places.length)).all fun v=>decide (-1048576≤(r.unit:Int)*decQ r.kind r.places.length v) && decide ((r.unit:Int)*decQ r.kind r.places.length v≤1048575)
theorem nums_small:(rowsL.all numSmall)=true:=by kernel_rfl
theorem fits_dec {r:RowL} (hr:r∈rowsL) (h:Nat) : fitsV r.kind r.unit r.places.length (decRow r h).m=numOk r.kind r.unit r.places.length (decRow r h).m:=by
 have h1:=List.all_eq_true.1 (List.all_eq_true.1 nums_small r hr) (bitsAt h r.places) (List.mem_range.2 (bitsAt_lt h r.places))
 simp only [Bool.and_eq_true,decide_eq_true_eq] at h1
 obtain ⟨a,b⟩:=numOk_P _ _ _ (row_nums hr) (decRow r h).m h1
 cases e1:fitsV r.kind r.unit r.places.length (decRow r h).m <;> cases e2:numOk r.kind r.unit r.places.length (decRow r h).m <;> simp_all
theorem fixm_lt (r:RowL) : fixm r < 65536:=by unfold fixm; omega
theorem orcX_at {P:Program} {N:RefF} {tab:List (List AV×AV)} (C:RefC P N tab) {r:RowL} (hr:r∈rowsL) {h:Nat} (hh:h < 65536) : OrcAt P 0 φ0 (ηX r h) (orcX N tab r (upX r (bitsAt h r.places))):=by
 intro F hF
 letI:Dec:=F.dec
 letI:Env:=hF.env
 have e0:Env.η 0=(h:Int):=rfl
 have e2:Env.η 2=(bitsAt h r.places:Int):=rfl
 obtain ⟨p1,p2⟩:=insnX_val hr hh Env.η Env.φ e0 e2
 have pf:=(row_plain hr).2.1
 refine callOK_or (orcLit_ok rfl rfl ?_) (callOK_or (orcMask_ok hr C.mask) (callOK_or (orcTab_ok C.tabp (fun x hx=>C.name x hx _ _)) (callOK_or (orcGath_ok hr hh e0 e2 C.gath) (callOK_or (orcBool_ok ?_ ?_) (callOK_or (orcFitX_ok hr e2 rfl C.fits) (orcWrit_ok hr hh e0 e2 rfl rfl rfl (fun k=>by rw [← fits_dec hr h]; exact k) C.writ))))))
 ·have:=C.both h (fixm r) hh (fixm_lt r)
  have eh:H0.ev Env.η Env.φ=(h:Int):=H0_ev _ _ e0 hh
  show Ret P N.both [.int .i64 (H0.ev Env.η Env.φ),.int .i64 ((fixm r:Nat) : Int)] _
  rw [eh]
  exact this
 ·simp only [AV.plains,p1,pf]
  rfl
 ·have e4:(sev (.var 4) == 1)=rightV r.form (decRow r h).d (decRow r h).s (decRow r h).t:=by
   rw [show sev (.var 4)=b01 (rightV r.form (decRow r h).d (decRow r h).s (decRow r h).t) from rfl,b01_eq]
  rw [e4]
  have:=C.right r.form (form_mem hr) r.op (decRow r h).d (decRow r h).s (decRow r h).t (decRow r h).m
  simp only [AV.toVals,p2]
  exact this
def factX' (r:RowL) (up:Bool) : Fa:=⟨[(.var 1,.lit (r.base:Nat),true)],match signed r with
 | true=>[(VX,.lit ((2 ^ (r.places.length - 1) : Nat) : Int),!up),(VX,.lit 0,false),(subX r,.lit 0,true)]
 | false=>[],[]⟩
theorem factX_on {r:RowL} (hr:r∈rowsL) {h:Nat} (hm:matchM h r=true) : (factX' r (upX r (bitsAt h r.places))).On (ηX r h) φ0 where
 es x hx:=by
  simp only [factX',List.mem_singleton] at hx
  subst hx
  show ((((Nat.land h (fixm r) : Nat) : Int)) == (r.base:Nat))=true
  rw [Nat.eq_of_beq_eq_true hm]
  simp
 ls x hx:=by
  unfold factX' at hx
  cases hs:signed r with
  | false=>rw [hs] at hx; cases hx
  | true =>
   rw [hs] at hx
   have hb:=bitsAt_lt h r.places
   have h1:=(row_small hr).2.2.2.1 hs
   have hl:=(row_small hr).1
   have hp:2 ^ r.places.length≤2 ^ 11:=Nat.pow_le_pow_right (by omega) hl
   have v0:=VX_ev (ηX r h) φ0 (n:=bitsAt h r.places) rfl (by omega)
   have v1:=subX_ev (ηX r h) φ0 hr (n:=bitsAt h r.places) rfl (by omega)
   have hh:2 ^ r.places.length=2*2 ^ (r.places.length - 1):=by
    obtain ⟨m,hm⟩ : ∃ m,r.places.length=m+1:=⟨r.places.length - 1,by omega⟩
    rw [hm,Nat.pow_succ,Nat.mul_comm]
    rfl
   simp only [List.mem_cons,List.not_mem_nil,or_false] at hx
   rcases hx with rfl | rfl | rfl
   ·simp only [v0,ev_lit]
    unfold upX
    rw [hs,Bool.true_and]
    generalize 2 ^ (r.places.length - 1)=p at *
    by_cases hc:2 ^ r.places.length≤2*bitsAt h r.places
    ·rw [decide_eq_true hc]; exact decide_eq_false (by omega)
    ·rw [decide_eq_false hc]; exact decide_eq_true (by omega)
   ·simp only [v0,ev_lit]
    exact decide_eq_false (by omega)
   ·simp only [v1,ev_lit]
    exact decide_eq_true (by omega)
 vs x hx:=by cases hx
theorem factN_on {r:RowL} {h:Nat} (hm:matchM h r=false) : (factN r).On (ηX r h) φ0 where
 es x hx:=by
  simp only [factN,List.mem_singleton] at hx
  subst hx
  show ((((Nat.land h (fixm r) : Nat) : Int)) == (r.base:Nat))=false
  unfold matchM at hm
  rw [nat_beq,decide_eq_false_iff_not] at hm
  rw [beq_eq_false_iff_ne]
  intro k
  exact hm (Int.ofNat_inj.1 k)
 ls x hx:=by cases hx
 vs x hx:=by cases hx
theorem ofC_of {P:Program} (hm:P.follows .mixedOrders=true) {N:RefF} {tab:List (List AV×AV)} (C:RefC P N tab) {f:FuncId}
  (t0:∀ r∈rowsL,(fun e t=>(Tr.leaf (.tup [zeroX,.bool false])).ok (runO P (orcX N tab r false) 10000 f [rowA r,.sint .u16 (.var 0)] (cellsA r.places) e t) (factN r))=fun _ _=>true)
  (t1:∀ r∈rowsL,∀ up,(signed r || !up)=true→(fun e t=>(ofTr r up).ok (runO P (orcX N tab r up) 10000 f [rowA r,.sint .u16 (.var 0)] (cellsA r.places) e t) (factX' r up))=fun _ _=>true)
  (t2:∀ r∈rowsL,(fun e t=>(Tr.leaf (.tup [zeroX,.bool false])).ok (runO P (orcX N tab r true) 10000 f [rowA r,.sint .u16 (.var 0)] (cellsA r.places) e t) (factN r))=fun _ _=>true) : OfC P f:=by
 intro r hr h hh pl w hpl
 have args:∀ (D:Dec) (E : @Env D) (ρ:Rho),E.η=ηX r h→E.φ=φ0→@VR D E ρ (.sl 0 0 r.places.length r.places.length) pl→@VRs D E ρ [rowA r,.sint .u16 (.var 0)] [rowV r pl,.int .u16 (h:Int)]:=by
  intro D E ρ g1 g2 k
  have e : @sev D E (.var 0)=(h:Int):=by unfold sev; rw [g1]; rfl
  have v:=@VR.sint D E ρ .u16 (.var 0)
  rw [e] at v
  exact @VRs.cons D E ρ _ _ _ _ (rowA_vr hr D E ρ k) (@VRs.cons D E ρ _ _ _ _ v (@VRs.nil D E ρ))
 have hX:=orcX_at C hr hh
 cases hmm:matchM h r with
 | false =>
  have eB:ofB r h=false:=by unfold ofB; rw [hmm]; rfl
  have eV:ofRowV r h=insnV 0 0 0 0 0:=by unfold ofRowV; rw [hmm]
  rw [eB,eV]
  cases hu:upX r (bitsAt h r.places) with
  | false=>rw [hu] at hX; exact one_at (args':=[rowV r pl,.int .u16 (h:Int)]) hm hX (t0 r hr) (factN_on hmm) rfl rfl rfl hpl args
  | true=>rw [hu] at hX; exact one_at (args':=[rowV r pl,.int .u16 (h:Int)]) hm hX (t2 r hr) (factN_on hmm) rfl rfl rfl hpl args
 | true =>
  have eV:ofRowV r h=InsnX r h:=by unfold ofRowV; rw [hmm]; rfl
  obtain ⟨p1,p2⟩:=insnX_val hr hh (ηX r h) φ0 rfl rfl
  have leaf:∀ b:Bool,(AV.tup [insnX r (upX r (bitsAt h r.places)),.bool b]).plain=true∧(AV.tup [insnX r (upX r (bitsAt h r.places)),.bool b]).toVal (ηX r h) φ0=.tuple #[InsnX r h,.bool b]:=by
   intro b
   constructor
   ·simp only [AV.plain,AV.plains,p1]; rfl
   ·simp only [AV.toVal,AV.toVals,p2]
  have key:(ofTr r (upX r (bitsAt h r.places))).at (ηX r h) φ0=some (.tup [insnX r (upX r (bitsAt h r.places)),.bool (ofB r h)]):=by
   have q4:(SE.var 4).ev (ηX r h) φ0=b01 (rightV r.form (decRow r h).d (decRow r h).s (decRow r h).t):=rfl
   have q5:(SE.var 5).ev (ηX r h) φ0=b01 (fitsV r.kind r.unit r.places.length (decRow r h).m):=rfl
   have q3:(SE.var 3).ev (ηX r h) φ0=aV r (decRow r h).d (decRow r h).s (decRow r h).t (decRow r h).m:=rfl
   have q0:(SE.var 0).ev (ηX r h) φ0=(h:Int):=rfl
   unfold ofTr
   rw [at_eq,q4,ev_lit]
   unfold ofB
   rw [hmm,Bool.true_and]
   cases hn:numOk r.kind r.unit r.places.length (decRow r h).m with
   | false =>
    rw [Bool.false_and,Bool.and_false]
    split
    ·rw [at_eq,q5,ev_lit,fits_dec hr h,hn,if_neg (by simp [b01])]; rfl
    ·rfl
   | true =>
    rw [right_eq hr (dec_may hr h hn),Bool.true_and]
    cases hg:regsOk r.form (decRow r h).d (decRow r h).s (decRow r h).t with
    | false=>rw [if_neg (by simp [b01])]; rfl
    | true =>
     rw [if_pos (by simp [b01]),at_eq,q5,ev_lit,fits_dec hr h,hn,if_pos (by simp [b01]),at_eq,q3,q0,Bool.true_and]
     by_cases ha:aV r (decRow r h).d (decRow r h).s (decRow r h).t (decRow r h).m=(h:Int)
     ·rw [if_pos ha,ha]; simp [Tr.at]
     ·rw [if_neg ha,show (aV r (decRow r h).d (decRow r h).s (decRow r h).t (decRow r h).m == (h:Int))=false from by simpa using ha]; rfl
  rw [eV]
  exact one_at (args':=[rowV r pl,.int .u16 (h:Int)]) hm hX (t1 r hr _ (by unfold upX; cases signed r <;> simp)) (factX_on hr hmm) key (leaf _).1 (leaf _).2 hpl args
end Go.Proofs.YtoehlmiadiiimaaGreatDoor.Ex
namespace Go.Proofs.YtoehlmiadiiimaaGreatDoor.Ex
open Go
def ofF (r:RowL) (h:Nat) (j:Nat) : Int:=match matchM h r with
 | false=>0
 | true=>match j with
  | 0=>r.op
  | 1=>(decRow r h).d
  | 2=>(decRow r h).s
  | 3=>(decRow r h).t
  | _=>(decRow r h).m
def ηD (h:Nat) (i:Nat) : Int:=match i with
 | 0=>h
 | i+1=>match Nat.blt i 99 with
  | true=>(match rowsL[i - 39]? with | some r=>b01 (ofB r h) | none=>0)
  | false=>(match rowsL[(i - 99) / 5]? with | some r=>ofF r h ((i - 99) % 5) | none=>0)
theorem ηD_b {k:Nat} {r:RowL} (hk:rowsL[k]?=some r) (h:Nat) : ηD h (40+k)=b01 (ofB r h):=by
 have hlt:k < 33:=(List.getElem?_eq_some_iff.1 hk).1
 rw [show 40+k=(39+k)+1 by omega]
 show (match Nat.blt (39+k) 99 with | true=>(match rowsL[39+k - 39]? with | some r=>b01 (ofB r h) | none=>0) | false=>_)=_
 rw [show Nat.blt (39+k) 99=true from by simp [Nat.blt]; omega,show 39+k - 39=k by omega,hk]
theorem ηD_f {k:Nat} {r:RowL} (hk:rowsL[k]?=some r) (h:Nat) {j:Nat} (hj:j < 5) : ηD h (100+5*k+j)=ofF r h j:=by
 rw [show 100+5*k+j=(99+5*k+j)+1 by omega]
 show (match Nat.blt (99+5*k+j) 99 with | true=>_ | false=>(match rowsL[(99+5*k+j - 99) / 5]? with | some r=>ofF r h ((99+5*k+j - 99) % 5) | none=>0))=_
 rw [show Nat.blt (99+5*k+j) 99=false from Bool.eq_false_iff.2 (fun hc=>by have:=Nat.le_of_ble_eq_true hc; omega),show (99+5*k+j - 99) / 5=k by omega,show (99+5*k+j - 99) % 5=j by omega,hk]
def insnD (k:Nat) : AV:=.agg [.sint .u8 (.var (100+5*k+0)),si (.var (100+5*k+1)),si (.var (100+5*k+2)),si (.var (100+5*k+3)),si (.var (100+5*k+4))]
theorem insnD_val {k:Nat} {r:RowL} (hk:rowsL[k]?=some r) (h:Nat) (φ:Nat→List Int→Int) : (insnD k).toVal (ηD h) φ=ofRowV r h:=by
 have e:∀ j,j < 5→(SE.var (100+5*k+j)).ev (ηD h) φ=ofF r h j:=fun j hj=>ηD_f hk h hj
 unfold insnD
 simp only [AV.toVal,AV.toVals,si,e 0 (by omega),e 1 (by omega),e 2 (by omega),e 3 (by omega),e 4 (by omega)]
 unfold ofF ofRowV
 cases matchM h r <;> rfl
noncomputable def rowNo (H:AHeap) (x:AV) : List RowL→Nat→Option Nat
 | [],_=>none
 | r :: rs,k=>match isRow H r x with
  | true=>some k
  | false=>rowNo H x rs (k+1)
theorem rowNo_spec {H:AHeap} {x:AV} : ∀ {l:List RowL} {k j:Nat},rowNo H x l k=some j→∃ r,k≤j∧l[j - k]?=some r∧isRow H r x=true
 | [],_,_,h=>by cases h
 | r :: rs,k,j,h=>by
  unfold rowNo at h
  split at h
  ·rename_i hx
   injection h with h
   subst h
   exact ⟨r,Nat.le_refl _,by rw [Nat.sub_self]; rfl,hx⟩
  ·obtain ⟨r',h1,h2,h3⟩:=rowNo_spec h
   refine ⟨r',by omega,?_,h3⟩
   rw [show j - k=(j - (k+1))+1 by omega,List.getElem?_cons_succ]
   exact h2
noncomputable def orcOf [Dec] (f:FuncId) : ACall:=only f fun args H=>match args with
 | [x,y]=>match AV.eqb y (.sint .u16 (.var 0)),rowNo H x rowsL 0 with
  | true,some k=>onE (.var (40+k)) 1 (fun b=>.tup [insnD k,.bool b]) H
  | _,_=>none
 | _=>none
theorem orcOf_at {P:Program} {f:FuncId} (hc:OfC P f) {h:Nat} (hh:h < 65536) : OrcAt P 0 φ0 (ηD h) (fun F=>@orcOf F.dec f):=by
 intro F hF
 letI:Dec:=F.dec
 letI:Env:=hF.env
 refine callOK_only fun args H v H' hq=>?_
 split at hq
 ·rename_i x y
  split at hq
  ·rename_i k hy hk
   have hy:=AV.eqb_eq _ _ hy
   subst hy
   obtain ⟨r,-,hk',hr⟩:=rowNo_spec hk
   rw [Nat.sub_zero] at hk'
   obtain ⟨b,hb,rfl,rfl⟩:=onE_some hq
   refine ⟨rfl,fun ρ w args' hI hv=>?_⟩
   cases hv with
   | cons _ vx _ _ h1 hv =>
    cases hv with
    | cons _ vy _ _ h2 hv =>
     cases hv
     obtain ⟨pl,rfl,hpl⟩:=isRow_rel hI hr h1
     cases h2
     have eb:b=ofB r h:=by
      rw [← hb,show sev (.var (40+k))=b01 (ofB r h) from ηD_b hk' h,b01_eq]
     subst eb
     refine ⟨.tuple #[ofRowV r h,.bool (ofB r h)],?_,hc r (List.mem_of_getElem? hk') h hh pl w hpl⟩
     have q:=VR.ofVal ρ (insnD k) rfl
     rw [show (insnD k).toVal Env.η Env.φ=ofRowV r h from insnD_val hk' h _] at q
     exact .tup _ [_,_] (.cons _ _ _ _ q (.cons _ _ _ _ (.bool _) .nil))
  ·cases hq
 ·cases hq
def docT:List Nat→Tr
 | []=>.leaf (.tup [zeroX,li 60])
 | k :: ks=>.eq (.var (40+k)) (.lit 1) (.leaf (.tup [insnD k,li 0])) (docT ks)
theorem docT_at {h:Nat} (hh:h < 65536) : ∀ (n k:Nat),k+n=33→(∀ j r,j < k→rowsL[j]?=some r→ofB r h=false) →
  ∃ v,(docT (List.range' k n)).at (ηD h) φ0=some v∧v.plain=true∧v.toVal (ηD h) φ0=.tuple #[insnVR (readR h),.int .i64 (readE h)]
 | 0,k,hk,hn=>by
  have hb:readB h=false:=by
   cases hb:readB h with
   | false=>rfl
   | true =>
    obtain ⟨j,r,hj,ho⟩:=read_of hh hb
    have hlt:j < 33:=(List.getElem?_eq_some_iff.1 hj).1
    rw [hn j r (by omega) hj] at ho
    cases ho
  refine ⟨_,rfl,rfl,?_⟩
  unfold readR readE
  rw [hb]
  rfl
 | n+1,k,hk,hn=>by
  obtain ⟨r,hr⟩ : ∃ r,rowsL[k]?=some r:=⟨_,List.getElem?_eq_getElem (show k < rowsL.length by rw [len33]; omega)⟩
  rw [List.range'_succ]
  unfold docT
  rw [at_eq,show (SE.var (40+k)).ev (ηD h) φ0=b01 (ofB r h) from ηD_b hr h,ev_lit]
  cases ho:ofB r h with
  | true =>
   rw [if_pos (by simp [b01])]
   refine ⟨_,rfl,rfl,?_⟩
   have hm:=(ofB_parts ho).1
   have e1:=of_read hr ho
   have e2:=ofB_raw (List.mem_of_getElem? hr) ho
   show Value.tuple #[(insnD k).toVal (ηD h) φ0,.int .i64 0]=_
   rw [insnD_val hr h φ0]
   unfold readR readE ofRowV
   rw [e1,hm,e2]
   rfl
  | false =>
   rw [if_neg (by simp [b01])]
   refine docT_at hh n (k+1) (by omega) fun j r' hj hr'=>?_
   by_cases e:j=k
   ·subst e
    rw [hr] at hr'
    injection hr' with hr'
    subst hr'
    exact ho
   ·exact hn j r' (by omega) hr'
theorem docC_of {P:Program} (hm:P.follows .mixedOrders=true) {f of:FuncId} (hc:OfC P of) (told:(docT (List.range' 0 33)).ok (runT P (fun F=>@orcOf F.dec of) 10000 0 f [.sint .u16 (.var 0)]) ⟨[],[],[]⟩=true)
  (h:Nat) (hh:h < 65536) : Ret P f [.int .u16 (h:Int)] (.tuple #[insnVR (readR h),.int .i64 (readE h)]):=by
 obtain ⟨v,e1,e2,e3⟩:=docT_at hh 33 0 rfl (fun j r hj _=>by omega)
 exact ret_at (φ:=φ0) (η:=ηD h) hm (orcOf_at hc hh) told (Fa.On.nil _ _) e1 e2 rfl rfl e3
end Go.Proofs.YtoehlmiadiiimaaGreatDoor.Ex
