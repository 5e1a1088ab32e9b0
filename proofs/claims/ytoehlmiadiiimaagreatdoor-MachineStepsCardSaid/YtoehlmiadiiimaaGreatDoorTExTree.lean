import Derived.Test.YtoehlmiadiiimaaGreatDoorTExDraw3
/-
  An executor over the model's code: how it is used.
-/
namespace Go.Proofs.YtoehlmiadiiimaaGreatDoor.Ex
open Go
variable [Dec] [Env]
end Go.Proofs.YtoehlmiadiiimaaGreatDoor.Ex

/-
  An executor over the model's code: trees of tests: what a function answers at numbers that are not known, way by way.
-/
namespace Go.Proofs.YtoehlmiadiiimaaGreatDoor.Ex
open Go
inductive Tr where
 | leaf (v:AV)
 | eq (a b:SE) (t f:Tr)
 | lt (a b:SE) (t f:Tr)
 | bad
structure Fa where
 es:List (SE×SE×Bool)
 ls:List (SE×SE×Bool)
 vs:List (SE×Int)
def Fa.eqs (F:Fa) (a b:SE) : Option Bool :=
 match SE.beq a b with
 | true=>some true
 | false=>match a,b with
  | .lit m,.lit n=>some (decide (m=n))
  | a,b=>look a b F.es
def Fa.lts (F:Fa) (a b:SE) : Option Bool :=
 match SE.beq a b with
 | true=>some false
 | false=>match a,b with
  | .lit m,.lit n=>some (decide (m < n))
  | a,b=>look a b F.ls
abbrev Fa.dec (F:Fa) : Dec:=⟨F.eqs,F.lts,fun a=>lookVal a F.vs⟩
structure Fa.On (F:Fa) (η:Nat→Int) (φ:Nat→List Int→Int) : Prop where
 es:∀ x∈F.es,(x.1.ev η φ == x.2.1.ev η φ)=x.2.2
 ls:∀ x∈F.ls,decide (x.1.ev η φ < x.2.1.ev η φ)=x.2.2
 vs:∀ x∈F.vs,x.1.ev η φ=x.2
theorem ev_lit (η:Nat→Int) (φ:Nat→List Int→Int) (n:Int) : (SE.lit n).ev η φ=n:=rfl
theorem Fa.eqs_on {F:Fa} {η:Nat→Int} {φ:Nat→List Int→Int} (h:F.On η φ) (a b:SE) (r:Bool) (k:F.eqs a b=some r) : (a.ev η φ == b.ev η φ)=r:=by
 unfold Fa.eqs at k
 split at k
 ·rename_i hb
  rw [SE.beq_eq _ _ hb]
  injection k with k; subst k
  simp
 ·split at k
  ·obtain rfl:=Option.some.inj k
   rename_i m n _
   show (m == n)=decide (m=n)
   cases hd:decide (m=n) <;> simp_all
  ·exact h.es _ (look_mem k)
theorem Fa.lts_on {F:Fa} {η:Nat→Int} {φ:Nat→List Int→Int} (h:F.On η φ) (a b:SE) (r:Bool) (k:F.lts a b=some r) : decide (a.ev η φ < b.ev η φ)=r:=by
 unfold Fa.lts at k
 split at k
 ·rename_i hb
  rw [SE.beq_eq _ _ hb]
  injection k with k; subst k
  simp
 ·split at k
  ·injection k with k
  ·exact h.ls _ (look_mem k)
abbrev Fa.On.env {F:Fa} {η:Nat→Int} {φ:Nat→List Int→Int} (h:F.On η φ) : @Env F.dec :=
 @Env.mk F.dec η φ (Fa.eqs_on h) (Fa.lts_on h) (fun _ _ k=>h.vs _ (lookVal_mem k))
theorem Fa.On.nil (η:Nat→Int) (φ:Nat→List Int→Int) : Fa.On ⟨[],[],[]⟩ η φ where
 es x h:=by cases h
 ls x h:=by cases h
 vs x h:=by cases h
mutual
def AV.eqb:AV→AV→Bool
 | .bool a,.bool b=>a == b
 | .int k m,.int k' n=>decide (k=k') && decide (m=n)
 | .sint k e,.sint k' e'=>decide (k=k') && SE.beq e e'
 | .str a,.str b=>a == b
 | .nilptr,.nilptr=>true
 | .nilsl,.nilsl=>true
 | .nilmap,.nilmap=>true
 | .nilif,.nilif=>true
 | .iface t v,.iface t' v'=>Nat.beq t t' && AV.eqb v v'
 | .agg a,.agg b=>AV.eqbs a b
 | .tup a,.tup b=>AV.eqbs a b
 | _,_=>false
def AV.eqbs:List AV→List AV→Bool
 | [],[]=>true
 | a :: as,b :: bs=>AV.eqb a b && AV.eqbs as bs
 | _,_=>false
end
mutual
theorem AV.eqb_eq:∀ (a b:AV),AV.eqb a b=true→a=b
 | .bool a,b,h=>by cases b <;> simp [AV.eqb] at h; subst h; rfl
 | .int k a,b,h=>by cases b <;> simp [AV.eqb] at h; obtain ⟨rfl,rfl⟩:=h; rfl
 | .sint k a,b,h=>by
  cases b <;> simp [AV.eqb] at h
  obtain ⟨rfl,h1⟩:=h
  rw [SE.beq_eq _ _ h1]
 | .str a,b,h=>by cases b <;> simp [AV.eqb] at h; subst h; rfl
 | .nilptr,b,h=>by cases b <;> simp [AV.eqb] at h; rfl
 | .nilsl,b,h=>by cases b <;> simp [AV.eqb] at h; rfl
 | .nilmap,b,h=>by cases b <;> simp [AV.eqb] at h; rfl
 | .nilif,b,h=>by cases b <;> simp [AV.eqb] at h; rfl
 | .iface t v,b,h=>by
  cases b <;> simp [AV.eqb] at h
  obtain ⟨h1,h2⟩:=h
  subst h1
  rw [AV.eqb_eq _ _ h2]
 | .agg a,b,h=>by
  cases b <;> simp [AV.eqb] at h
  rw [AV.eqbs_eq _ _ h]
 | .tup a,b,h=>by
  cases b <;> simp [AV.eqb] at h
  rw [AV.eqbs_eq _ _ h]
 | .ptr ..,b,h=>by cases b <;> simp [AV.eqb] at h
 | .sl ..,b,h=>by cases b <;> simp [AV.eqb] at h
 | .map ..,b,h=>by cases b <;> simp [AV.eqb] at h
 | .fn ..,b,h=>by cases b <;> simp [AV.eqb] at h
 | .nilfn,b,h=>by cases b <;> simp [AV.eqb] at h
theorem AV.eqbs_eq:∀ (a b:List AV),AV.eqbs a b=true→a=b
 | [],b,h=>by cases b <;> simp [AV.eqbs] at h; rfl
 | a :: as,b,h=>by
  cases b <;> simp [AV.eqbs] at h
  rw [AV.eqb_eq _ _ h.1,AV.eqbs_eq _ _ h.2]
end
def Tr.at (η:Nat→Int) (φ:Nat→List Int→Int) : Tr→Option AV
 | .leaf v=>some v
 | .eq a b t f=>match a.ev η φ == b.ev η φ with
  | true=>t.at η φ
  | false=>f.at η φ
 | .lt a b t f=>match decide (a.ev η φ < b.ev η φ) with
  | true=>t.at η φ
  | false=>f.at η φ
 | .bad=>none
def Fa.addE (F:Fa) (a b:SE) (r:Bool) : Fa:=⟨(a,b,r) :: F.es,F.ls,F.vs⟩
def Fa.addL (F:Fa) (a b:SE) (r:Bool) : Fa:=⟨F.es,(a,b,r) :: F.ls,F.vs⟩
def Tr.ok (R:Fa→Option AV) : Tr→Fa→Bool
 | .leaf v,F=>match R F with
  | some u=>AV.eqb u v
  | none=>false
 | .eq a b t f,F=>t.ok R (F.addE a b true) && f.ok R (F.addE a b false)
 | .lt a b t f,F=>t.ok R (F.addL a b true) && f.ok R (F.addL a b false)
 | .bad,_=>true
theorem Fa.On.addE {F:Fa} {η:Nat→Int} {φ:Nat→List Int→Int} (h:F.On η φ) {a b:SE} {r:Bool} (k:(a.ev η φ == b.ev η φ)=r) : (F.addE a b r).On η φ :=
 ⟨fun x hx=>(List.mem_cons.1 hx).elim (fun e=>e ▸ k) (h.es x),h.ls,h.vs⟩
theorem Fa.On.addL {F:Fa} {η:Nat→Int} {φ:Nat→List Int→Int} (h:F.On η φ) {a b:SE} {r:Bool} (k:decide (a.ev η φ < b.ev η φ)=r) : (F.addL a b r).On η φ :=
 ⟨h.es,fun x hx=>(List.mem_cons.1 hx).elim (fun e=>e ▸ k) (h.ls x),h.vs⟩
theorem Tr.ok_at {R:Fa→Option AV} {η:Nat→Int} {φ:Nat→List Int→Int} {v:AV} : ∀ {t:Tr} {F:Fa},t.ok R F=true→F.On η φ→t.at η φ=some v→∃ F':Fa,F'.On η φ∧R F'=some v
 | .leaf u,F,h,hF,hv=>by
  simp only [Tr.at,Option.some.injEq] at hv
  subst hv
  unfold Tr.ok at h
  split at h
  ·rename_i x hx
   exact ⟨F,hF,by rw [hx,AV.eqb_eq _ _ h]⟩
  ·cases h
 | .eq a b t f,F,h,hF,hv=>by
  unfold Tr.ok at h
  obtain ⟨h1,h2⟩:=Bool.and_eq_true_iff.1 h
  unfold Tr.at at hv
  split at hv
  ·rename_i hc; exact Tr.ok_at h1 (hF.addE hc) hv
  ·rename_i hc; exact Tr.ok_at h2 (hF.addE hc) hv
 | .lt a b t f,F,h,hF,hv=>by
  unfold Tr.ok at h
  obtain ⟨h1,h2⟩:=Bool.and_eq_true_iff.1 h
  unfold Tr.at at hv
  split at hv
  ·rename_i hc; exact Tr.ok_at h1 (hF.addL hc) hv
  ·rename_i hc; exact Tr.ok_at h2 (hF.addL hc) hv
 | .bad,F,h,hF,hv=>by cases hv
mutual
def AV.toVal (η:Nat→Int) (φ:Nat→List Int→Int) : AV→Value
 | .bool b=>.bool b
 | .int k n=>.int k n
 | .sint k e=>.int k (e.ev η φ)
 | .str l=>.string ⟨(l.map UInt8.ofNat).toArray⟩
 | .nilptr=>.pointer none
 | .nilsl=>.slice none 0 0
 | .nilmap=>.map none
 | .nilif=>.nilIface
 | .iface t v=>.iface t (v.toVal η φ)
 | .agg l=>.agg (AV.toVals η φ l).toArray
 | .tup l=>.tuple (AV.toVals η φ l).toArray
 | _=>.bool false
def AV.toVals (η:Nat→Int) (φ:Nat→List Int→Int) : List AV→List Value
 | []=>[]
 | a :: l=>a.toVal η φ :: AV.toVals η φ l
end
mutual
def AV.plain:AV→Bool
 | .bool _ | .int .. | .sint .. | .nilptr | .nilsl | .nilmap | .nilif=>true
 | .str l=>l.all fun n=>Nat.blt n 256
 | .iface _ v=>v.plain
 | .agg l | .tup l=>AV.plains l
 | _=>false
def AV.plains:List AV→Bool
 | []=>true
 | a :: l=>a.plain && AV.plains l
end
section
variable [Dec] [Env]
mutual
theorem VR.toVal {ρ:Rho} : ∀ (a:AV) {v:Value},a.plain=true→VR ρ a v→v=a.toVal Env.η Env.φ
 | .bool b,v,_,h=>by cases h; simp [AV.toVal]
 | .int k n,v,_,h=>by cases h; simp [AV.toVal]
 | .sint k n,v,_,h=>by cases h; simp [AV.toVal,sev]
 | .str l,v,_,h=>by
  cases h with
  | str s _ e =>
   subst e
   simp only [AV.toVal,Value.string.injEq,List.map_map]
   obtain ⟨⟨l⟩⟩:=s
   congr 2
   have:(UInt8.ofNat ∘ UInt8.toNat)=id:=by funext b; simp
   simp [this]
 | .nilptr,v,_,h=>by cases h; simp [AV.toVal]
 | .nilsl,v,_,h=>by cases h; simp [AV.toVal]
 | .nilmap,v,_,h=>by cases h; simp [AV.toVal]
 | .nilif,v,_,h=>by cases h; simp [AV.toVal]
 | .iface t x,v,hp,h=>by
  unfold AV.plain at hp
  cases h with
  | iface t a v h=>rw [VR.toVal x hp h,AV.toVal]
 | .agg l,v,hp,h=>by
  unfold AV.plain at hp
  cases h with
  | agg cs vs h=>rw [VRs.toVal l hp h,AV.toVal]
 | .tup l,v,hp,h=>by
  unfold AV.plain at hp
  cases h with
  | tup cs vs h=>rw [VRs.toVal l hp h,AV.toVal]
 | .ptr ..,v,hp,h=>by simp [AV.plain] at hp
 | .sl ..,v,hp,h=>by simp [AV.plain] at hp
 | .map ..,v,hp,h=>by simp [AV.plain] at hp
 | .fn ..,v,hp,h=>by simp [AV.plain] at hp
 | .nilfn,v,hp,h=>by simp [AV.plain] at hp
theorem VRs.toVal {ρ:Rho} : ∀ (l:List AV) {vs:List Value},AV.plains l=true→VRs ρ l vs→vs=AV.toVals Env.η Env.φ l
 | [],vs,_,h=>by cases h; simp [AV.toVals]
 | a :: l,vs,hp,h=>by
  unfold AV.plains at hp
  obtain ⟨h1,h2⟩:=Bool.and_eq_true_iff.1 hp
  cases h with
  | cons _ v _ us h t=>rw [VR.toVal a h1 h,VRs.toVal l h2 t,AV.toVals]
end
mutual
theorem VR.ofVal (ρ:Rho) : ∀ (a:AV),a.plain=true→VR ρ a (a.toVal Env.η Env.φ)
 | .bool b,_=>by unfold AV.toVal; exact .bool b
 | .int k n,_=>by unfold AV.toVal; exact .int k n
 | .sint k e,_=>by unfold AV.toVal; exact .sint k e
 | .str l,hp=>by
  unfold AV.toVal
  refine .str _ _ ?_
  unfold AV.plain at hp
  simp only [List.map_map]
  refine (List.map_id' l).symm.trans (List.map_congr_left fun n hn=>?_)
  have h1:=List.all_eq_true.1 hp n hn
  have h2:n≤255:=by simpa [Nat.blt] using h1
  simp only [Function.comp_apply,UInt8.toNat_ofNat']
  omega
 | .nilptr,_=>by unfold AV.toVal; exact .nilptr
 | .nilsl,_=>by unfold AV.toVal; exact .nilsl
 | .nilmap,_=>by unfold AV.toVal; exact .nilmap
 | .nilif,_=>by unfold AV.toVal; exact .nilif
 | .iface t x,hp=>by
  unfold AV.plain at hp
  unfold AV.toVal
  exact .iface _ _ _ (VR.ofVal ρ x hp)
 | .agg l,hp=>by
  unfold AV.plain at hp
  unfold AV.toVal
  exact .agg _ _ (VRs.ofVal ρ l hp)
 | .tup l,hp=>by
  unfold AV.plain at hp
  unfold AV.toVal
  exact .tup _ _ (VRs.ofVal ρ l hp)
 | .ptr ..,hp=>by simp [AV.plain] at hp
 | .sl ..,hp=>by simp [AV.plain] at hp
 | .map ..,hp=>by simp [AV.plain] at hp
 | .fn ..,hp=>by simp [AV.plain] at hp
 | .nilfn,hp=>by simp [AV.plain] at hp
theorem VRs.ofVal (ρ:Rho) : ∀ (l:List AV),AV.plains l=true→VRs ρ l (AV.toVals Env.η Env.φ l)
 | [],_=>by unfold AV.toVals; exact .nil
 | a :: l,hp=>by
  unfold AV.plains at hp
  obtain ⟨h1,h2⟩:=Bool.and_eq_true_iff.1 hp
  unfold AV.toVals
  exact .cons _ _ _ _ (VR.ofVal ρ a h1) (VRs.ofVal ρ l h2)
end
theorem Step.of_below {P:Program} {ρ:Rho} {H:AHeap} {w w':World} (lim:Nat) (hI:Inv P ρ H w) (hb:RowKit.Below w.heap.size w w') : Step P lim ρ H w ρ H w' where
 ext:=Ext.refl ρ
 old _ _:=rfl
 next:=Nat.le_refl _
 inv:={
  obj:=fun b o r h1 h2=>by
   obtain ⟨C,hC,hO⟩:=hI.obj b o r h1 h2
   exact ⟨C,by rw [hb.block _ (hI.lt b r h2)]; exact hC,hO⟩
  inj:=hI.inj
  fresh:=hI.fresh
  lt:=fun b r h=>Nat.lt_of_lt_of_le (hI.lt b r h) hb.size }
 keep _ _:=rfl
 live _ o _ k:=⟨o,k⟩
 size:=hb.size
 os:=hb.os
 tape:=hb.tape
 output:=hb.output
 frame k hk _:=hb.block k hk
 img b o r h1 _ h3 _:=by rw [hI.fresh b h1] at h3; cases h3
theorem orc_case {P:Program} {ρ:Rho} {H:AHeap} {w:World} {f:FuncId} {args:Array Value} {u:Value} {v:AV} {lim:Nat} (hI:Inv P ρ H w)
  (hc:Calls P f args w fun e w'=>e=.returned u∧RowKit.Below w.heap.size w w') (hv:VR ρ v u) :
  Calls P f args w fun e w'=>∃ ρ' v',e=.returned v'∧VR ρ' v v'∧Step P lim ρ H w ρ' H w' :=
 hc.mono fun _ _ ⟨he,hb⟩=>⟨ρ,u,he,hv,Step.of_below lim hI hb⟩
theorem calls_from {P:Program} {call:ACall} (hc:CallOK P 0 call) {N:Nat} {f:FuncId} {args:List AV} {args':List Value} {v:AV} {H':AHeap} {ρ:Rho} {w:World} (h:call N f args ⟨N,.leaf⟩=some (v,H'))
  (hρ:∀ b,N≤b→ρ b=none) (hl:∀ b r,ρ b=some r→r.cb < w.heap.size) (hr:VRs ρ args args') :
  Calls P f args'.toArray w fun e w'=>∃ ρ' v',e=.returned v'∧VR ρ' v v'∧RowKit.Below w.heap.size w w':=by
 have hI:Inv P ρ ⟨N,.leaf⟩ w:=⟨fun b o r hb=>by simp [AHeap.get,T.get_leaf] at hb,fun b c o p r s hb=>by simp [AHeap.get,T.get_leaf] at hb,hρ,hl⟩
 exact (hc N f args ⟨N,.leaf⟩ v H' h ρ w args' hI hr (fun g hg=>by omega) (Nat.le_refl _)).mono fun _ _ ⟨ρ',v',he,hv,hs⟩=>⟨ρ',v',he,hv,hs.below (Nat.le_refl _) hI⟩
end
noncomputable def runF (P:Program) (orc:Fa→ACall) (n N:Nat) (f:FuncId) (args:List AV) (F:Fa) : Option AV :=
 (acall P (orc F) (@exec F.dec P 0 (orc F) n) N f args ⟨N,.leaf⟩).map (·.1)
def OrcOK (P:Program) (gl:Nat) (φ:Nat→List Int→Int) (orc:Fa→ACall) : Prop:=∀ (F:Fa) (η:Nat→Int) (h:F.On η φ),@CallOK F.dec h.env P gl (orc F)
theorem noOrc_OK (P:Program) (gl:Nat) (φ:Nat→List Int→Int) : OrcOK P gl φ (fun _=>noOrc):=fun F _ h=>@noOrc_ok F.dec h.env P gl
theorem tree_from {P:Program} (hm:P.follows .mixedOrders=true) {orc:Fa→ACall} {φ:Nat→List Int→Int} (horc:OrcOK P 0 φ orc) {n N:Nat} {f:FuncId} {args:List AV} {F:Fa} {t:Tr}
  (hok:t.ok (runF P orc n N f args) F=true) {η:Nat→Int} (hF:F.On η φ) {v:AV} (hv:t.at η φ=some v) (hp:v.plain=true) {args':List Value} {ρ:Rho} {w:World}
  (hρ:∀ b,N≤b→ρ b=none) (hl:∀ b r,ρ b=some r→r.cb < w.heap.size) (hr:∀ (F:Fa) (h:F.On η φ),@VRs F.dec h.env ρ args args') :
  Calls P f args'.toArray w fun e w'=>e=.returned (v.toVal η φ)∧RowKit.Below w.heap.size w w':=by
 obtain ⟨F',hF',hR⟩:=Tr.ok_at hok hF hv
 unfold runF at hR
 rw [Option.map_eq_some_iff] at hR
 obtain ⟨⟨u,H'⟩,hR,hu⟩:=hR
 simp only at hu
 subst hu
 letI:Dec:=F'.dec
 letI:Env:=hF'.env
 refine (calls_from (call_sound hm (horc F' η hF') n) hR hρ hl (hr F' hF')).mono ?_
 rintro e w' ⟨ρ',v',he,hv',hb⟩
 rw [VR.toVal _ hp hv'] at he
 exact ⟨he,hb⟩
theorem tree_calls {P:Program} (hm:P.follows .mixedOrders=true) {orc:Fa→ACall} {φ:Nat→List Int→Int} (horc:OrcOK P 0 φ orc) {n N:Nat} {f:FuncId} {args:List AV} {F:Fa} {t:Tr}
  (hok:t.ok (runF P orc n N f args) F=true) {η:Nat→Int} (hF:F.On η φ) {v:AV} (hv:t.at η φ=some v) (hp:v.plain=true) (ha:AV.plains args=true) (w:World) :
  Calls P f (AV.toVals η φ args).toArray w fun e w'=>e=.returned (v.toVal η φ)∧RowKit.Below w.heap.size w w' :=
 tree_from (ρ:=fun _=>none) hm horc hok hF hv hp (fun _ _=>rfl) (fun _ _ h=>by cases h) (fun F h=>@VRs.ofVal F.dec h.env _ args ha)
end Go.Proofs.YtoehlmiadiiimaaGreatDoor.Ex

