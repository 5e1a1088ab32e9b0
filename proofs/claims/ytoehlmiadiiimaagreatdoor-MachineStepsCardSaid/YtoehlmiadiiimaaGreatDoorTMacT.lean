import Derived.Test.YtoehlmiadiiimaaGreatDoorTExC3
import Derived.Test.YtoehlmiadiiimaaGreatDoorTExTree
import Derived.OpenShut
import Derived.LaidMore
import Derived.LaidSub
import Derived.Lib.Bytealg
import Derived.Test.YtoehlmiadiiimaaGreatDoorProg
/-
  An executor over the model's code: out of a heap whose first blocks are package-level variables as laid; tables of closed calls.
-/
namespace Go.Proofs.YtoehlmiadiiimaaGreatDoor.Ex
open Go
abbrev Vars:=List (Nat×List AV)
noncomputable def heapT (ts:Nat→TypeId) (L:Vars) : T AObj:=List.rec (motive:=fun _=>T AObj) .leaf (fun x _ ih=>T.set ih x.1 (some (.cells x.2 (ts x.1) true))) L
noncomputable def heapG (L:Vars) (gl:Nat) (ts:Nat→TypeId) : AHeap:=⟨gl,heapT ts L⟩
theorem heapT_get (ts:Nat→TypeId) (b:Nat) (o:AObj) : ∀ L:Vars,T.get (heapT ts L) b=some o→∃ c,(b,c)∈L∧o=.cells c (ts b) true
 | [],h=>by rw [show heapT ts []=.leaf from rfl,T.get_leaf] at h; cases h
 | x :: L,h=>by
  rw [show heapT ts (x :: L)=T.set (heapT ts L) x.1 (some (.cells x.2 (ts x.1) true)) from rfl,T.get_set] at h
  split at h
  ·rename_i e
   injection h with h
   subst e
   exact ⟨x.2,List.mem_cons_self,h.symm⟩
  ·obtain ⟨c,h1,h2⟩:=heapT_get ts b o L h
   exact ⟨c,List.mem_cons_of_mem _ h1,h2⟩
def isLits:List AV→Bool
 | []=>true
 | .str _ :: l=>isLits l
 | .int _ _ :: l=>isLits l
 | _=>false
theorem lits_any:∀ (l:List AV),isLits l=true→∀ (D D':Dec) (E : @Env D) (E' : @Env D') {ρ ρ':Rho} {vs:List Value},@VRs D E ρ l vs→@VRs D' E' ρ' l vs
 | [],_,D,D',E,E',ρ,ρ',vs,h=>by
  have hv:vs=[]:=List.length_eq_zero_iff.1 (by simpa using (@VRs.length D E ρ [] vs h).symm)
  subst hv
  exact @VRs.nil D' E' ρ'
 | .str s :: l,hs,D,D',E,E',ρ,ρ',vs,h=>by
  cases h with
  | cons _ v _ us h t =>
   refine @VRs.cons D' E' ρ' _ _ _ _ ?_ (lits_any l hs D D' E E' t)
   cases h with
   | str x _ e=>exact @VR.str D' E' ρ' x _ e
 | .int k n :: l,hs,D,D',E,E',ρ,ρ',vs,h=>by
  cases h with
  | cons _ v _ us h t =>
   refine @VRs.cons D' E' ρ' _ _ _ _ ?_ (lits_any l hs D D' E E' t)
   cases h with
   | int=>exact @VR.int D' E' ρ' k n
def LaidG (P:Program) (L:Vars) (gl:Nat) (w:World) : Prop:=∃ (ts:Nat→TypeId) (ρ:Rho),GOK ρ gl∧∀ (D:Dec) (E : @Env D),@Inv D E P ρ (heapG L gl ts) w
noncomputable def chkG (L:Vars) (H:AHeap) : Bool:=L.all fun x=>match H.get x.1 with
 | some (.cells c _ true)=>AV.eqbs c x.2
 | _=>false
structure VarsOK (L:Vars) (gl:Nat) : Prop where
 lits:∀ x∈L,isLits x.2=true
 lt:∀ x∈L,x.1 < gl
 one:∀ x∈L,∀ y∈L,x.1=y.1→x=y
theorem laidG_inv [Di:Dec] [Ei:Env] {P:Program} {L:Vars} {gl:Nat} (hL:VarsOK L gl) {ρ:Rho} {H:AHeap} {w:World} (hc:chkG L H=true) (hI:Inv P ρ H w) (hg:GOK ρ gl) : LaidG P L gl w:=by
 have get:∀ x∈L,∃ t,H.get x.1=some (.cells x.2 t true):=by
  intro x hx
  have:=List.all_eq_true.1 hc x hx
  split at this
  ·rename_i c t hget
   have:=AV.eqbs_eq _ _ this
   subst this
   exact ⟨t,hget⟩
  ·cases this
 let ts:Nat→TypeId:=fun b=>match H.get b with | some (.cells _ t _)=>t | _=>0
 have look:∀ b o,(heapG L gl ts).get b=some o→b < gl∧H.get b=some o∧∃ c,(b,c)∈L∧o=.cells c (ts b) true:=by
  intro b o hb
  obtain ⟨c,h1,rfl⟩:=heapT_get ts b o L hb
  obtain ⟨t,ht⟩:=get _ h1
  refine ⟨hL.lt _ h1,?_,c,h1,rfl⟩
  have:ts b=t:=by show (match H.get b with | some (.cells _ t _)=>t | _=>0)=t; rw [ht]
  rw [this]
  exact ht
 refine ⟨ts,fun b=>if b < gl then ρ b else none,fun g hgl=>?_,fun D E=>?_⟩
 ·obtain ⟨r,h1,h2⟩:=hg g hgl
  exact ⟨r,by simp only [if_pos hgl]; exact h1,h2⟩
 ·refine @Inv.mk D E _ _ _ _ ?_ ?_ ?_ ?_
  ·intro b o r hb hr
   obtain ⟨hlt,hb',c,hcL,rfl⟩:=look b o hb
   simp only [if_pos hlt] at hr
   obtain ⟨C,hC,hO⟩:=@Inv.obj Di Ei _ _ _ _ hI b _ r hb' hr
   refine ⟨C,hC,?_⟩
   cases C with
   | cells C E' fr=>exact ⟨hO.1,hO.2.1,hO.2.2.1,hO.2.2.2.1,lits_any _ (hL.lits _ hcL) _ _ _ _ hO.2.2.2.2.1,hO.2.2.2.2.2.1,hO.2.2.2.2.2.2⟩
   | _=>exact hO.elim
  ·intro b c o p r s hb hc hr hs e
   obtain ⟨l1,hb',-⟩:=look b o hb
   obtain ⟨l2,hc',-⟩:=look c p hc
   simp only [if_pos l1] at hr
   simp only [if_pos l2] at hs
   exact @Inv.inj Di Ei _ _ _ _ hI b c o p r s hb' hc' hr hs e
  ·intro b hb
   have:gl≤b:=hb
   exact if_neg (by omega)
  ·intro b r hr
   by_cases hb2:b < gl
   ·simp only [if_pos hb2] at hr; exact @Inv.lt Di Ei _ _ _ _ hI b r hr
   ·simp only [if_neg hb2] at hr; cases hr
theorem laidG_of {P:Program} {L:Vars} {gl:Nat} (hL:VarsOK L gl) {W:World} (hsz:gl≤W.heap.size)
  (hb:∀ x∈L,∃ C T,W.heap[x.1]?=some (.cells C T (0,0))∧∀ (D:Dec) (E : @Env D) (ρ:Rho),@VRs D E ρ x.2 C.toList) : LaidG P L gl W:=by
 let ts:Nat→TypeId:=fun b=>match W.heap[b]? with | some (.cells _ t _)=>t | _=>0
 let sz:Nat→Nat:=fun b=>match W.heap[b]? with | some (.cells C _ _)=>C.size | _=>0
 refine ⟨ts,fun b=>if b < gl then some ⟨b,0,true,sz b,1⟩ else none,fun g hg=>⟨_,if_pos hg,rfl,rfl⟩,fun D E=>?_⟩
 refine @Inv.mk D E _ _ _ _ ?_ ?_ ?_ ?_
 ·intro b o r hbo hr
  obtain ⟨c,hc,rfl⟩:=heapT_get ts b o L hbo
  have hlt:=hL.lt _ hc
  simp only [if_pos hlt,Option.some.injEq] at hr
  subst hr
  obtain ⟨C,T,h1,h2⟩:=hb _ hc
  simp only at h1 h2
  have hv:=h2 D E (fun b=>if b < gl then some ⟨b,0,true,sz b,1⟩ else none)
  have hlen:c.length=C.size:=by simpa using @VRs.length D E _ _ _ hv
  have e1:ts b=T:=by show (match W.heap[b]? with | some (.cells _ t _)=>t | _=>0)=T; rw [h1]
  have e2:sz b=C.size:=by show (match W.heap[b]? with | some (.cells C _ _)=>C.size | _=>0)=C.size; rw [h1]
  refine ⟨_,h1,e1.symm,rfl,e2.symm,?_,?_,?_,fun h=>by cases h⟩
  ·simp only; omega
  ·simp only [List.drop_zero]
   rw [List.take_of_length_le (by simp; omega)]
   exact hv
  ·intro i _ h
   simp only at h
   omega
 ·intro b c o p r s h1 h2 hr hs e
  obtain ⟨_,hc1,-⟩:=heapT_get ts b o L h1
  obtain ⟨_,hc2,-⟩:=heapT_get ts c p L h2
  simp only [if_pos (hL.lt _ hc1),Option.some.injEq] at hr
  simp only [if_pos (hL.lt _ hc2),Option.some.injEq] at hs
  subst hr; subst hs
  exact e
 ·intro b hb
  have:gl≤b:=hb
  exact if_neg (by omega)
 ·intro b r hr
  by_cases hb2:b < gl
  ·simp only [if_pos hb2,Option.some.injEq] at hr
   subst hr
   exact Nat.lt_of_lt_of_le hb2 hsz
  ·simp only [if_neg hb2] at hr; cases hr
def dAV:DataW Unit→AV
 | .lit (.string s)=>.str (s.map UInt8.toNat)
 | .lit (.int k n)=>.int k n
 | _=>.nilptr
def dParts:DataW Unit→List (DataW Unit)
 | .agg l=>l
 | _=>[]
def dCells (d:DataW Unit) : List AV:=(dParts d).map dAV
theorem laid_at {P:Program} {w:World} : ∀ {l:List (String×DataW Unit)} {ps:List MemPlace},DataW.LaidVars P w l ps→∀ n d,(n,d)∈l →
  ∃ g t cs fuel p,P.globalNamed n=some g∧(P.globals[g]?).map (·.type)=some t∧w.var? P n=some cs∧DataW.trod (fun _=>()) P w 0 (fun _=>true) false fuel t cs.toList=some (d,p)∧∀ x∈MemPlace.row ⟨g,0,none⟩ cs.size,x∈ps
 | [],_,_,_,_,hm=>by cases hm
 | (n',d') :: r,ps,h,n,d,hm=>by
   obtain ⟨g,t,cs,fuel,p,q,h1,h2,h3,h4,h5,h6⟩:=h
   rcases List.mem_cons.1 hm with e | e
   · cases e
     exact ⟨g,t,cs,fuel,p,h1,h2,h3,h4,fun x hx=>by rw [h6]; simp [hx]⟩
   · obtain ⟨g',t',cs',fuel',p',k1,k2,k3,k4,k5⟩:=laid_at h5 n d e
     exact ⟨g',t',cs',fuel',p',k1,k2,k3,k4,fun x hx=>by rw [h6]; simp [k5 x hx]⟩
theorem vrs_lits (D:Dec) (E : @Env D) (ρ:Rho) : ∀ (L:List (DataW Unit)) (cs:List Value),cs.length=L.length →
  (∀ i,i < L.length→(∃ s:ByteArray,cs[i]?=some (.string s)∧L[i]?=some (.lit (.string s.data.toList)))∨∃ k n,cs[i]?=some (.int k n)∧L[i]?=some (.lit (.int k n)))→@VRs D E ρ (L.map dAV) cs
 | [],[],_,_=>@VRs.nil D E ρ
 | [],_ :: _,h,_=>by simp at h
 | _ :: _,[],h,_=>by simp at h
 | d :: L,c :: cs,h,k=>by
  refine @VRs.cons D E ρ _ _ _ _ ?_ (vrs_lits D E ρ L cs (by simpa using h) fun i hi=>by simpa using k (i+1) (by simpa using hi))
  rcases k 0 (by simp) with ⟨s,h1,h2⟩ | ⟨kd,n,h1,h2⟩
  ·simp only [List.getElem?_cons_zero,Option.some.injEq] at h1 h2
   subst h1; subst h2
   exact @VR.str D E ρ s _ (by simp)
  ·simp only [List.getElem?_cons_zero,Option.some.injEq] at h1 h2
   subst h1; subst h2
   exact @VR.int D E ρ kd n
theorem laid_block {P:Program} {W:World} {l:List (String×DataW Unit)} (h:laidMetH P l W) (hp:(l.all fun x=>x.2.handleName?.isNone)=true) {nm:String} {d:DataW Unit} {L:List (DataW Unit)} (hm:(nm,d)∈l) (hd:d=.agg L) {g t n e:Nat}
  (hg:P.globalNamed nm=some g) (ht:(P.globals[g]?).map (·.type)=some t) (hu:P.underlying t=some (.array n e)) (he:P.underlying e=some .string∨∃ k,P.underlying e=some (.int k)) (hc:P.cellsOf e=1) (hn:P.cellsOf t=n) (hpos:0 < n) :
  ∃ C T,W.heap[g]?=some (.cells C T (0,0))∧∀ (D:Dec) (E : @Env D) (ρ:Rho),@VRs D E ρ (L.map dAV) C.toList:=by
 subst hd
 have hm':laidMet P l W:=by
  have:=(laidMetH_iff.1 h).1
  rwa [List.filter_eq_self.2 (fun x hx=>List.all_eq_true.1 hp x hx)] at this
 obtain ⟨ps,hv,-,hrow⟩:=hm'
 obtain ⟨g',t',cs,fuel,p,k1,k2,k3,k4,k5⟩:=laid_at hv nm _ hm
 obtain rfl:=Option.some.inj (hg.symm.trans k1)
 obtain rfl:=Option.some.inj (ht.symm.trans k2)
 obtain ⟨xs,m,rfl,hx,hl,hxl,hel⟩:=DataW.trod_array hu k4
 simp only [Prod.mk.injEq,DataW.agg.injEq] at hx
 obtain ⟨hL,-⟩:=hx
 have hsz:cs.size=n:=by rw [← hn,← hl]; simp
 have mem:MemPlace.cell g 0∈MemPlace.row ⟨g,0,none⟩ cs.size:=by
  unfold MemPlace.row
  rw [hsz]
  exact List.mem_map.2 ⟨0,List.mem_range.2 hpos,rfl⟩
 obtain ⟨⟨c0,u0,w0⟩,-⟩:=hrow g 0 (k5 _ mem)
 unfold World.var? at k3
 rw [hg] at k3
 simp only [Option.bind_some,w0,Option.some.injEq] at k3
 subst k3
 refine ⟨_,_,w0,fun D E ρ=>?_⟩
 refine vrs_lits D E ρ _ _ (by rw [hL]; simp [hxl,hsz]) fun i hi=>?_
 have hi':i < n:=by rw [hL] at hi; simpa [hxl] using hi
 have h0:=hel i hi'
 have hxi:i < xs.length:=by omega
 rw [List.getElem?_eq_getElem hxi] at h0
 rcases he with he | ⟨k,he⟩
 ·obtain ⟨s,e1,e2,-⟩:=DataW.trod_string he h0
  refine .inl ⟨s,?_,?_⟩
  ·rw [hc,Nat.mul_one] at e1
   have:=congrArg (fun l=>l[0]?) e1
   simpa using this
  ·rw [hL]; simp [List.getElem?_eq_getElem hxi,e2]
 ·obtain ⟨z,e1,e2,-⟩:=DataW.trod_int he h0
  refine .inr ⟨k,z,?_,?_⟩
  ·rw [hc,Nat.mul_one] at e1
   have:=congrArg (fun l=>l[0]?) e1
   simpa using this
  ·rw [hL]; simp [List.getElem?_eq_getElem hxi,e2]
noncomputable def runG (P:Program) (L:Vars) (gl:Nat) (orc:Fa→ACall) (n:Nat) (f:FuncId) (args:List AV) (ts:Nat→TypeId) (F:Fa) : Option AV :=
 (acallT P (orc F) (@execT F.dec P gl (orc F) n) gl f args (heapG L gl ts) fun v H=>some (v,H)).map (·.1)
def RetG (P:Program) (L:Vars) (gl:Nat) (f:FuncId) (args:List Value) (v:Value) : Prop:=∀ w,LaidG P L gl w→Calls P f args.toArray w fun e w'=>e=.returned v∧RowKit.Below w.heap.size w w'
theorem ret_laidG {P:Program} (hm:P.follows .mixedOrders=true) {L:Vars} {gl:Nat} {orc:Fa→ACall} {φ:Nat→List Int→Int} (horc:OrcOK P gl φ orc) {n:Nat} {f:FuncId} {args:List AV} {F:Fa} {t:Tr} (told:(fun ts=>t.ok (runG P L gl orc n f args ts) F)=fun _=>true)
  {η:Nat→Int} (hF:F.On η φ) {v:AV} (hv:t.at η φ=some v) (hp:v.plain=true) (ha:AV.plains args=true) {as_:List Value} {u:Value} (e1:AV.toVals η φ args=as_) (e2:v.toVal η φ=u) : RetG P L gl f as_ u:=by
 subst e1; subst e2
 rintro W ⟨ts,ρ,hg,hi⟩
 obtain ⟨F',hF',hR⟩:=Tr.ok_at (congrFun told ts) hF hv
 letI:Dec:=F'.dec
 letI:Env:=hF'.env
 unfold runG at hR
 rw [callT_eq,Option.map_eq_some_iff] at hR
 obtain ⟨⟨x,H'⟩,hq,hx⟩:=hR
 simp only at hx
 subst hx
 refine (call_sound hm (horc F' η hF') n gl f args (heapG L gl ts) x H' hq ρ W _ (hi _ _) (VRs.ofVal ρ args ha) hg (Nat.le_refl _)).mono ?_
 rintro e w' ⟨ρ',v',he,hv',hs⟩
 rw [VR.toVal _ hp hv'] at he
 exact ⟨he,hs.below (Nat.le_refl _) (hi _ _)⟩
noncomputable def orcTabG (L:Vars) (f:FuncId) (tab:List (List AV×AV)) : ACall:=fun _ f' args H=>match Nat.beq f' f with
 | true=>match tab.find? fun x=>AV.eqbs args x.1 with
  | some x=>match chkG L H with
   | true=>some (x.2,H)
   | false=>none
  | none=>none
 | false=>none
def TabG (P:Program) (L:Vars) (gl:Nat) (f:FuncId) (tab:List (List AV×AV)) : Prop:=∀ x∈tab,(AV.plains x.1=true∧x.2.plain=true)∧∀ η φ,RetG P L gl f (AV.toVals η φ x.1) (x.2.toVal η φ)
theorem orcTabG_ok [Dec] [Env] {P:Program} {L:Vars} {gl:Nat} (hL:VarsOK L gl) {f:FuncId} {tab:List (List AV×AV)} (hc:TabG P L gl f tab) : CallOK P gl (orcTabG L f tab):=by
 intro lim f' args H v H' h ρ w args' hI hv hg _
 unfold orcTabG at h
 split at h
 ·rename_i hf
  have:=Nat.eq_of_beq_eq_true hf
  subst this
  split at h
  ·rename_i x hx
   split at h
   ·rename_i hchk
    simp only [Option.some.injEq,Prod.mk.injEq] at h
    obtain ⟨rfl,rfl⟩:=h
    have hm:=List.mem_of_find?_eq_some hx
    have he:=AV.eqbs_eq _ _ (by simpa using List.find?_some hx)
    subst he
    obtain ⟨⟨p1,p2⟩,hr⟩:=hc x hm
    have e:=VRs.toVal _ p1 hv
    subst e
    exact orc_case hI (hr Env.η Env.φ w (laidG_inv hL hchk hI hg)) (VR.ofVal ρ _ p2)
   ·cases h
  ·cases h
 ·cases h
noncomputable def tabOkG (P:Program) (L:Vars) (gl:Nat) (orc:Fa→ACall) (f:FuncId) (tab:List (List AV×AV)) (ts:Nat→TypeId) : Bool:=tab.all fun x=>(AV.plains x.1 && x.2.plain) && (Tr.leaf x.2).ok (runG P L gl orc 10000 f x.1 ts) ⟨[],[],[]⟩
theorem tabG_of {P:Program} (hm:P.follows .mixedOrders=true) {L:Vars} {gl:Nat} {orc:Fa→ACall} (horc:∀ φ,OrcOK P gl φ orc) {f:FuncId} {tab:List (List AV×AV)} (h:tabOkG P L gl orc f tab=fun _=>true) : TabG P L gl f tab:=by
 intro x hx
 have key:∀ ts,(AV.plains x.1=true∧x.2.plain=true)∧(Tr.leaf x.2).ok (runG P L gl orc 10000 f x.1 ts) ⟨[],[],[]⟩=true:=by
  intro ts
  have:=List.all_eq_true.1 (congrFun h ts) x hx
  simpa only [Bool.and_eq_true] using this
 exact ⟨(key fun _=>0).1,fun η φ=>ret_laidG hm (horc φ) (funext fun ts=>(key ts).2) (Fa.On.nil η φ) rfl (key fun _=>0).1.2 (key fun _=>0).1.1 rfl rfl⟩
def orG (a b:Fa→ACall) : Fa→ACall:=fun F lim f args H=>match a F lim f args H with
 | some r=>some r
 | none=>b F lim f args H
theorem orG_OK {P:Program} {gl:Nat} {a b:Fa→ACall} (ha:∀ φ,OrcOK P gl φ a) (hb:∀ φ,OrcOK P gl φ b) : ∀ φ,OrcOK P gl φ (orG a b):=by
 intro φ F η h
 letI:Dec:=F.dec
 letI:Env:=h.env
 intro lim f args H v H' hc ρ w args' hI hv hg hl
 unfold orG at hc
 split at hc
 ·rename_i r hr
  injection hc with hc
  subst hc
  exact ha φ F η h lim f args H v H' hr ρ w args' hI hv hg hl
 ·exact hb φ F η h lim f args H v H' hc ρ w args' hI hv hg hl
theorem tabG_OK {P:Program} {L:Vars} {gl:Nat} (hL:VarsOK L gl) {f:FuncId} {tab:List (List AV×AV)} (hc:TabG P L gl f tab) : ∀ φ,OrcOK P gl φ fun _=>orcTabG L f tab :=
 fun _ F _ h=>@orcTabG_ok F.dec h.env P L gl hL f tab hc
end Go.Proofs.YtoehlmiadiiimaaGreatDoor.Ex

/-
  An executor over the model's code: oracles for two functions of Go's library that have no text of their own below them.
-/
namespace Go.Proofs.YtoehlmiadiiimaaGreatDoor.Ex
open Go
section
variable [Dec] [Env] {P:Program} {gl:Nat}
end
end Go.Proofs.YtoehlmiadiiimaaGreatDoor.Ex

/-
  The machine's laws: the variables as laid; tables of closed calls (printed by a program of mine, proved by the kernel).
-/
namespace Go.Proofs.YtoehlmiadiiimaaGreatDoor
open Go.Proofs.YtoehlmiadiiimaaGreatDoor.Ex
theorem mixed:Tryz.prog.follows .mixedOrders=true:=by kernel_rfl
def var0:List AV:=[(.str [108,117,105]),(.str [97,117,105,112,99]),(.str [106,97,108]),(.str [106,97,108,114]),(.str [98,101,113]),(.str [98,110,101]),(.str [98,108,116]),(.str [98,103,101]),(.str [98,108,116,117]),(.str [98,103,101,117]),(.str [108,98]),(.str [108,104]),(.str [108,119]),(.str [108,100]),(.str [108,98,117]),(.str [108,104,117]),(.str [108,119,117]),(.str [115,98]),(.str [115,104]),(.str [115,119]),(.str [115,100]),(.str [97,100,100,105]),(.str [115,108,116,105]),(.str [115,108,116,105,117]),(.str [120,111,114,105]),(.str [111,114,105]),(.str [97,110,100,105]),(.str [115,108,108,105]),(.str [115,114,108,105]),(.str [115,114,97,105]),(.str [97,100,100]),(.str [115,117,98]),(.str [115,108,108]),(.str [115,108,116]),(.str [115,108,116,117]),(.str [120,111,114]),(.str [115,114,108]),(.str [115,114,97]),(.str [111,114]),(.str [97,110,100]),(.str [97,100,100,105,119]),(.str [115,108,108,105,119]),(.str [115,114,108,105,119]),(.str [115,114,97,105,119]),(.str [97,100,100,119]),(.str [115,117,98,119]),(.str [115,108,108,119]),(.str [115,114,108,119]),(.str [115,114,97,119]),(.str [109,117,108]),(.str [109,117,108,104]),(.str [109,117,108,104,115,117]),(.str [109,117,108,104,117]),(.str [100,105,118]),(.str [100,105,118,117]),(.str [114,101,109]),(.str [114,101,109,117]),(.str [109,117,108,119]),(.str [100,105,118,119]),(.str [100,105,118,117,119]),(.str [114,101,109,119]),(.str [114,101,109,117,119]),(.str [102,101,110,99,101]),(.str [102,101,110,99,101,46,105]),(.str [101,99,97,108,108]),(.str [101,98,114,101,97,107]),(.str [99,115,114,114,119]),(.str [99,115,114,114,115]),(.str [99,115,114,114,99]),(.str [99,115,114,114,119,105]),(.str [99,115,114,114,115,105]),(.str [99,115,114,114,99,105]),(.str [108,114,46,119]),(.str [115,99,46,119]),(.str [97,109,111,115,119,97,112,46,119]),(.str [97,109,111,97,100,100,46,119]),(.str [97,109,111,120,111,114,46,119]),(.str [97,109,111,97,110,100,46,119]),(.str [97,109,111,111,114,46,119]),(.str [97,109,111,109,105,110,46,119]),(.str [97,109,111,109,97,120,46,119]),(.str [97,109,111,109,105,110,117,46,119]),(.str [97,109,111,109,97,120,117,46,119]),(.str [108,114,46,100]),(.str [115,99,46,100]),(.str [97,109,111,115,119,97,112,46,100]),(.str [97,109,111,97,100,100,46,100]),(.str [97,109,111,120,111,114,46,100]),(.str [97,109,111,97,110,100,46,100]),(.str [97,109,111,111,114,46,100]),(.str [97,109,111,109,105,110,46,100]),(.str [97,109,111,109,97,120,46,100]),(.str [97,109,111,109,105,110,117,46,100]),(.str [97,109,111,109,97,120,117,46,100])]
def var1:List AV:=[(.int .u32 55),(.int .u32 23),(.int .u32 111),(.int .u32 103),(.int .u32 99),(.int .u32 4195),(.int .u32 16483),(.int .u32 20579),(.int .u32 24675),(.int .u32 28771),(.int .u32 3),(.int .u32 4099),(.int .u32 8195),(.int .u32 12291),(.int .u32 16387),(.int .u32 20483),(.int .u32 24579),(.int .u32 35),(.int .u32 4131),(.int .u32 8227),(.int .u32 12323),(.int .u32 19),(.int .u32 8211),(.int .u32 12307),(.int .u32 16403),(.int .u32 24595),(.int .u32 28691),(.int .u32 4115),(.int .u32 20499),(.int .u32 1073762323),(.int .u32 51),(.int .u32 1073741875),(.int .u32 4147),(.int .u32 8243),(.int .u32 12339),(.int .u32 16435),(.int .u32 20531),(.int .u32 1073762355),(.int .u32 24627),(.int .u32 28723),(.int .u32 27),(.int .u32 4123),(.int .u32 20507),(.int .u32 1073762331),(.int .u32 59),(.int .u32 1073741883),(.int .u32 4155),(.int .u32 20539),(.int .u32 1073762363),(.int .u32 33554483),(.int .u32 33558579),(.int .u32 33562675),(.int .u32 33566771),(.int .u32 33570867),(.int .u32 33574963),(.int .u32 33579059),(.int .u32 33583155),(.int .u32 33554491),(.int .u32 33570875),(.int .u32 33574971),(.int .u32 33579067),(.int .u32 33583163),(.int .u32 15),(.int .u32 4111),(.int .u32 115),(.int .u32 1048691),(.int .u32 4211),(.int .u32 8307),(.int .u32 12403),(.int .u32 20595),(.int .u32 24691),(.int .u32 28787),(.int .u32 268443695),(.int .u32 402661423),(.int .u32 134225967),(.int .u32 8239),(.int .u32 536879151),(.int .u32 1610620975),(.int .u32 1073750063),(.int .u32 2147491887),(.int .u32 2684362799),(.int .u32 3221233711),(.int .u32 3758104623),(.int .u32 268447791),(.int .u32 402665519),(.int .u32 134230063),(.int .u32 12335),(.int .u32 536883247),(.int .u32 1610625071),(.int .u32 1073754159),(.int .u32 2147495983),(.int .u32 2684366895),(.int .u32 3221237807),(.int .u32 3758108719)]
def var2:List AV:=[(.str [115,117,98]),(.str [120,111,114]),(.str [111,114]),(.str [97,110,100]),(.str [115,117,98,119]),(.str [97,100,100,119])]
def vars:Vars:=[(0,var0),(1,var1),(2,var2)]
theorem varsOK:VarsOK vars 3 where
 lits:=by
  have h:(vars.all fun x=>isLits x.2)=true:=by kernel_rfl
  exact fun x hx=>List.all_eq_true.1 h x hx
 lt:=by
  have h:(vars.all fun x=>Nat.blt x.1 3)=true:=by kernel_rfl
  exact fun x hx=>Nat.le_of_ble_eq_true (List.all_eq_true.1 h x hx)
 one:=by
  intro x hx y hy e
  simp only [vars,List.mem_cons,List.not_mem_nil,or_false] at hx hy
  rcases hx with rfl | rfl | rfl <;> rcases hy with rfl | rfl | rfl <;> first | rfl | (exfalso; revert e; decide)
end Go.Proofs.YtoehlmiadiiimaaGreatDoor

