import Derived.Test.YtoehlmiadiiimaaGreatDoorTEncC
/-
  Short forms of instructions: oracles for the small functions; the checks.
-/
namespace Go.Proofs.YtoehlmiadiiimaaGreatDoor.Ex
open Go
def SE.one:SE→Bool
 | .pair ..=>false
 | _=>true
theorem evs_one {η:Nat→Int} {φ:Nat→List Int→Int} {e:SE} (h:e.one=true) : e.evs η φ=[e.ev η φ]:=by
 cases e <;> first
  | rfl
  | cases h
section defs
variable [Dec]
def i64? : AV→Option SE
 | .int .i64 n=>some (.lit n)
 | .sint .i64 e=>if e.one=true then some e else none
 | _=>none
def isT:Option Bool→Bool
 | some true=>true
 | _=>false
def isF:Option Bool→Bool
 | some false=>true
 | _=>false
def u8? (v:AV) : Option SE :=
 match (match v with
  | .int .u8 n=>some (SE.lit n)
  | .sint .u8 e=>some e
  | _=>none) with
 | some e=>if (isT (Dec.lts e (.lit 256)) && isF (Dec.lts e (.lit 0)) && e.one)=true then some e else none
 | none=>none
def insn? : AV→Option SE
 | .agg [o,d,s,t,m]=>(u8? o).bind fun o=>(i64? d).bind fun d=>(i64? s).bind fun s=>(i64? t).bind fun t=>(i64? m).map fun m=>.pair o (.pair d (.pair s (.pair t m)))
 | _=>none
def onE (a:SE) (n:Int) (f:Bool→AV) (H:AHeap) : Option (AV×AHeap):=(Dec.eqs a (.lit n)).map fun r=>(f r,H)
def orcForm (args:List AV) (H:AHeap) : Option (AV×AHeap) :=
 match args with
 | [o]=>(u8? o).bind fun e=>onE (.fn 118 e) 1 (fun r=>.tup [mkInt .u8 (.fn 18 e),.int .i64 (match r with | true=>0 | false=>2)]) H
 | _=>none
def orcCheck (args:List AV) (H:AHeap) : Option (AV×AHeap) :=
 match args with
 | [i]=>(insn? i).bind fun e=>onE (.fn 12 e) 1 (fun r=>.int .i64 (match r with | true=>0 | false=>20)) H
 | _=>none
end defs
def only (f:FuncId) (g:List AV→AHeap→Option (AV×AHeap)) : ACall:=fun _ f' args H=>match Nat.beq f' f with
 | true=>g args H
 | false=>none
def orElse (a b:ACall) : ACall:=fun lim f args H=>match a lim f args H with
 | some r=>some r
 | none=>b lim f args H
section
variable [Dec] [Env]
theorem callOK_only {P:Program} {gl:Nat} {f:FuncId} {g:List AV→AHeap→Option (AV×AHeap)}
  (h:∀ args H v H',g args H=some (v,H')→H'=H∧∀ ρ w (args':List Value),Inv P ρ H w→VRs ρ args args'→∃ u,VR ρ v u∧Calls P f args'.toArray w fun e w'=>e=.returned u∧RowKit.Below w.heap.size w w') : CallOK P gl (only f g):=by
 intro lim f' args H v H' hc ρ w args' hI hv _ _
 unfold only at hc
 split at hc
 ·rename_i hf
  have:=Nat.eq_of_beq_eq_true hf
  subst this
  obtain ⟨rfl,k⟩:=h args H v H' hc
  obtain ⟨u,hu,hcall⟩:=k ρ w args' hI hv
  exact orc_case hI hcall hu
 ·cases hc
theorem callOK_or {P:Program} {gl:Nat} {a b:ACall} (ha:CallOK P gl a) (hb:CallOK P gl b) : CallOK P gl (orElse a b):=by
 intro lim f args H v H' hc
 unfold orElse at hc
 split at hc
 ·rename_i r hr
  injection hc with hc; subst hc
  exact ha lim f args H v H' hr
 ·exact hb lim f args H v H' hc
theorem i64?_rel {x:AV} {e:SE} {ρ:Rho} {v:Value} (h:i64? x=some e) (hv:VR ρ x v) : v=.int .i64 (sev e)∧e.evs Env.η Env.φ=[sev e]:=by
 unfold i64? at h
 split at h
 ·injection h with h; subst h; cases hv; exact ⟨rfl,rfl⟩
 ·split at h
  ·rename_i h1; injection h with h; subst h; cases hv; exact ⟨rfl,evs_one h1⟩
  ·cases h
 ·cases h
theorem u8?_rel {x:AV} {e:SE} {ρ:Rho} {v:Value} (h:u8? x=some e) (hv:VR ρ x v) : v=.int .u8 (sev e)∧u8R (sev e)∧e.evs Env.η Env.φ=[sev e]:=by
 unfold u8? at h
 split at h
 ·rename_i e' he
  split at h
  ·rename_i hc
   injection h with h; subst h
   obtain ⟨h1,h3⟩:=Bool.and_eq_true_iff.1 hc
   obtain ⟨h1,h2⟩:=Bool.and_eq_true_iff.1 h1
   have k1:Dec.lts e' (.lit 256)=some true:=by revert h1; cases Dec.lts e' (.lit 256) with | none=>simp [isT] | some b=>cases b <;> simp [isT]
   have k2:Dec.lts e' (.lit 0)=some false:=by revert h2; cases Dec.lts e' (.lit 0) with | none=>simp [isF] | some b=>cases b <;> simp [isF]
   have l1:=look_lt k1
   have l2:=look_lt k2
   have l1:sev e' < 256:=of_decide_eq_true l1
   have l2:¬ sev e' < 0:=of_decide_eq_false l2
   refine ⟨?_,by constructor <;> omega,evs_one h3⟩
   split at he
   ·injection he with he; subst he; cases hv; rfl
   ·injection he with he; subst he; cases hv; rfl
   ·cases he
  ·cases h
 ·cases h
theorem insn?_rel {x:AV} {e:SE} {ρ:Rho} {v:Value} (h:insn? x=some e) (hv:VR ρ x v) :
  ∃ o d s t m:Int,u8R o∧v=insnV o d s t m∧e.evs Env.η Env.φ=[o,d,s,t,m]:=by
 unfold insn? at h
 split at h
 ·rename_i o d s t m
  simp only [Option.bind_eq_some_iff,Option.map_eq_some_iff] at h
  obtain ⟨eo,ho,ed,hd,es,hs,et,ht,em,hm,rfl⟩:=h
  cases hv with
  | agg cs vs hv =>
   cases hv with
   | cons _ vo _ _ h1 hv=>cases hv with
    | cons _ vd _ _ h2 hv=>cases hv with
     | cons _ vs _ _ h3 hv=>cases hv with
      | cons _ vt _ _ h4 hv=>cases hv with
       | cons _ vm _ _ h5 hv =>
        cases hv
        obtain ⟨rfl,hr,q1⟩:=u8?_rel ho h1
        obtain ⟨rfl,q2⟩:=i64?_rel hd h2
        obtain ⟨rfl,q3⟩:=i64?_rel hs h3
        obtain ⟨rfl,q4⟩:=i64?_rel ht h4
        obtain ⟨rfl,q5⟩:=i64?_rel hm h5
        refine ⟨_,_,_,_,_,hr,rfl,?_⟩
        rw [evs_pair,evs_pair,evs_pair,evs_pair,q1,q2,q3,q4,q5]
        rfl
 ·cases h
theorem onE_some {a:SE} {n:Int} {f:Bool→AV} {H H':AHeap} {v:AV} (h:onE a n f H=some (v,H')) : ∃ r,(sev a == n)=r∧v=f r∧H'=H:=by
 unfold onE at h
 rw [Option.map_eq_some_iff] at h
 obtain ⟨r,hr,h⟩:=h
 simp only [Prod.mk.injEq] at h
 exact ⟨r,look_eq hr,h.1.symm,h.2.symm⟩
theorem sev_fn (i:Nat) (e:SE) : sev (.fn i e)=Env.φ i (e.evs Env.η Env.φ):=rfl
theorem orcForm_ok {P:Program} {gl:Nat} {f:FuncId} (hφ:Env.φ=φ0) (hc:FormC P f) : CallOK P gl (only f orcForm):=by
 refine callOK_only fun args H v H' h=>?_
 unfold orcForm at h
 split at h
 ·rename_i o
  rw [Option.bind_eq_some_iff] at h
  obtain ⟨e,he,h⟩:=h
  obtain ⟨r,hr,rfl,rfl⟩:=onE_some h
  refine ⟨rfl,fun ρ w args' hI hv=>?_⟩
  cases hv with
  | cons _ vo _ _ h1 hv =>
   cases hv
   obtain ⟨rfl,hr8,q⟩:=u8?_rel he h1
   rw [sev_fn,q,hφ] at hr
   have hr:knownI (sev e)=r:=by rw [← hr]; exact (b01_eq _).symm
   subst hr
   refine ⟨_,.tup _ [_,_] (.cons _ _ _ _ (mkInt_rel ρ .u8 (.fn 18 e)) (.cons _ _ _ _ (.int _ _) .nil)),?_⟩
   rw [sev_fn,q,hφ]
   exact hc (sev e) hr8 w
 ·cases h
theorem orcCheck_ok {P:Program} {gl:Nat} {f:FuncId} (hφ:Env.φ=φ0) (hc:CheckC P f) : CallOK P gl (only f orcCheck):=by
 refine callOK_only fun args H v H' h=>?_
 unfold orcCheck at h
 split at h
 ·rename_i i
  rw [Option.bind_eq_some_iff] at h
  obtain ⟨e,he,h⟩:=h
  obtain ⟨r,hr,rfl,rfl⟩:=onE_some h
  refine ⟨rfl,fun ρ w args' hI hv=>?_⟩
  cases hv with
  | cons _ vo _ _ h1 hv =>
   cases hv
   obtain ⟨o,d,s,t,m,hr8,rfl,q⟩:=insn?_rel he h1
   rw [sev_fn,q,hφ] at hr
   have hr:mayI o d s t m=r:=by rw [← hr]; exact (b01_eq _).symm
   subst hr
   exact ⟨_,.int _ _,hc o d s t m hr8 w⟩
 ·cases h
end
def symI:AV:=.agg [.sint .u8 (.var 4),.sint .i64 (.var 0),.sint .i64 (.var 1),.sint .i64 (.var 2),.sint .i64 (.var 3)]
def opFacts:List (SE×SE×Bool):=[(.var 4,.lit 256,true),(.var 4,.lit 0,false)]
def FA (c:Nat) : Fa:=⟨[(.fn 118 (.var 4),.lit 1,true)],opFacts,[(.fn 18 (.var 4),c)]⟩
def FN:Fa:=⟨[(.fn 118 (.var 4),.lit 1,false)],opFacts,[(.fn 18 (.var 4),0)]⟩
theorem opFacts_on {op:Int} (ho:u8R op) (d s t m:Int) : ∀ x∈opFacts,decide (x.1.ev (ηl [d,s,t,m,op]) φ0 < x.2.1.ev (ηl [d,s,t,m,op]) φ0)=x.2.2:=by
 obtain ⟨h1,h2⟩:=ho
 intro x hx
 simp only [opFacts,List.mem_cons,List.not_mem_nil,or_false] at hx
 rcases hx with rfl | rfl
 ·exact decide_eq_true h2
 ·exact decide_eq_false (show ¬ op < 0 by omega)
theorem forms_mem (n:Nat) (hn:n < 94) : formsL.getD n 0∈forms2:=by
 have h:((List.range 94).all fun n=>forms2.contains (formsL.getD n 0))=true:=by kernel_rfl
 have:=List.all_eq_true.1 h n (List.mem_range.2 hn)
 simpa using this
theorem FA_on {op:Int} (ho:u8R op) (hk:knownI op=true) (d s t m:Int) : (FA (formI op)).On (ηl [d,s,t,m,op]) φ0 where
 es:=by
  intro x hx
  simp only [FA,List.mem_cons,List.not_mem_nil,or_false] at hx
  subst hx
  show (b01 (knownI op) == 1)=true
  rw [hk]; rfl
 ls:=opFacts_on ho d s t m
 vs:=by
  intro x hx
  simp only [FA,List.mem_cons,List.not_mem_nil,or_false] at hx
  subst hx
  rfl
theorem FN_on {op:Int} (ho:u8R op) (hk:knownI op=false) (d s t m:Int) : FN.On (ηl [d,s,t,m,op]) φ0 where
 es:=by
  intro x hx
  simp only [FN,List.mem_cons,List.not_mem_nil,or_false] at hx
  subst hx
  show (b01 (knownI op) == 1)=false
  rw [hk]; rfl
 ls:=opFacts_on ho d s t m
 vs:=by
  intro x hx
  simp only [FN,List.mem_cons,List.not_mem_nil,or_false] at hx
  subst hx
  show ((formI op:Nat) : Int)=0
  unfold formI
  rw [hk]; rfl
theorem formI_mem {op:Int} (hk:knownI op=true) : formI op∈forms2:=by
 have h:=hk
 simp only [knownI,Bool.and_eq_true,decide_eq_true_eq] at h
 unfold formI
 rw [hk]
 exact forms_mem _ (by omega)
section
variable {P:Program}
def orcF (form:FuncId) (F:Fa) : ACall:=only form (@orcForm F.dec)
theorem orcF_OK {form:FuncId} (hc:FormC P form) : OrcOK P 0 φ0 (orcF form):=fun F _ h=>@orcForm_ok F.dec h.env P 0 form rfl hc
theorem checkC_of (hm:P.follows .mixedOrders=true) {f form:FuncId} (hc:FormC P form) (h1:(forms2.all fun c=>(checkTr c).ok (runT P (orcF form) 10000 0 f [symI]) (FA c))=true) (h2:checkNo.ok (runT P (orcF form) 10000 0 f [symI]) FN=true) : CheckC P f:=by
 intro op d s t m ho
 unfold mayI
 cases hk:knownI op with
 | true =>
  have hf:=formI_mem hk
  refine ret_of (η:=ηl [d,s,t,m,op]) hm (orcF_OK hc) (List.all_eq_true.1 h1 _ hf) (FA_on ho hk d s t m) (checkTr_at _ hf _ _) rfl rfl rfl ?_
  rw [Bool.true_and]
  rfl
 | false =>
  exact ret_of (η:=ηl [d,s,t,m,op]) hm (orcF_OK hc) h2 (FN_on ho hk d s t m) rfl rfl rfl rfl rfl
theorem mayC_of (hm:P.follows .mixedOrders=true) {f form:FuncId} (hc:FormC P form) (h1:(forms2.all fun c=>(mayTr c).ok (runT P (orcF form) 10000 0 f [symI]) (FA c))=true) (h2:mayNo.ok (runT P (orcF form) 10000 0 f [symI]) FN=true) : MayC P f:=by
 intro op d s t m ho
 unfold mayI
 cases hk:knownI op with
 | true =>
  have hf:=formI_mem hk
  refine ret_of (η:=ηl [d,s,t,m,op]) hm (orcF_OK hc) (List.all_eq_true.1 h1 _ hf) (FA_on ho hk d s t m) (mayTr_at _ hf _ _) rfl rfl rfl ?_
  rw [Bool.true_and]
  rfl
 | false =>
  exact ret_of (η:=ηl [d,s,t,m,op]) hm (orcF_OK hc) h2 (FN_on ho hk d s t m) rfl rfl rfl rfl rfl
end
end Go.Proofs.YtoehlmiadiiimaaGreatDoor.Ex

/-
  Short forms of instructions: the first row that an instruction is of; the program's half, Half and Short.
-/
namespace Go.Proofs.YtoehlmiadiiimaaGreatDoor.Ex
open Go
def t3:SE:=.pair (.var 0) (.pair (.var 1) (.var 2))
def t123 (r:RowL) : SE:=.fn 123 (.pair (.lit (r.form:Nat)) t3)
def t23 (r:RowL) : SE:=.fn 23 (.pair (.lit (r.form:Nat)) t3)
def t4 (r:RowL) : SE:=.pair (.lit (r.kind:Nat)) (.pair (.lit (r.unit:Nat)) (.pair (.lit (r.places.length:Nat)) (.var 3)))
def t124 (r:RowL) : SE:=.fn 124 (t4 r)
def t24 (r:RowL) : SE:=.fn 24 (t4 r)
def scatT (v:SE) : List Nat→Nat→SE→SE
 | [],_,acc=>acc
 | p :: ps,i,acc=>scatT v ps (i+1) (.bin .or .u32 acc (.bin .shl .u32 (.bin .and .u32 (.bin .shr .u32 v (.lit (i:Nat))) (.lit 1)) (.lit (p:Nat))))
def wT (r:RowL) : SE:=match r.places with
 | []=>.lit 0
 | _=>.wrap .u16 (scatT (t24 r) r.places 0 (.lit 0))
def aT (r:RowL) : SE:=.bin .or .u16 (.bin .or .u16 (.lit (r.base:Nat)) (t23 r)) (wT r)
def selTr (leafF:Nat→RowL→AV) (dflt:AV) (op:Int) : List RowL→Nat→Tr
 | [],_=>.leaf dflt
 | r :: rs,k=>match decide ((r.op:Int)=op) with
  | true=>.eq (t123 r) (.lit 1) (.eq (t124 r) (.lit 1) (.leaf (leafF k r)) (selTr leafF dflt op rs (k+1))) (selTr leafF dflt op rs (k+1))
  | false=>selTr leafF dflt op rs (k+1)
theorem t123_ev (r:RowL) (d s t m op:Int) : (t123 r).ev (ηl [d,s,t,m,op]) φ0=b01 (regsOk r.form d s t):=by
 show b01 (regsOk ((r.form:Nat) : Int).toNat d s t)=_
 rw [Int.toNat_natCast]
theorem t23_ev (r:RowL) (d s t m op:Int) : (t23 r).ev (ηl [d,s,t,m,op]) φ0=regsW r.form d s t:=by
 show regsW ((r.form:Nat) : Int).toNat d s t=_
 rw [Int.toNat_natCast]
theorem t124_ev (r:RowL) (d s t m op:Int) : (t124 r).ev (ηl [d,s,t,m,op]) φ0=b01 (numOk r.kind r.unit r.places.length m):=by
 show b01 (numOk ((r.kind:Nat) : Int).toNat ((r.unit:Nat) : Int).toNat ((r.places.length:Nat) : Int).toNat m)=_
 rw [Int.toNat_natCast,Int.toNat_natCast,Int.toNat_natCast]
theorem t24_ev (r:RowL) (d s t m op:Int) : (t24 r).ev (ηl [d,s,t,m,op]) φ0=numW r.kind r.unit r.places.length m:=by
 show numW ((r.kind:Nat) : Int).toNat ((r.unit:Nat) : Int).toNat ((r.places.length:Nat) : Int).toNat m=_
 rw [Int.toNat_natCast,Int.toNat_natCast,Int.toNat_natCast]
theorem scatT_ev (η:Nat→Int) (φ:Nat→List Int→Int) (v:SE) : ∀ (ps:List Nat) (i:Nat) (acc:SE),(scatT v ps i acc).ev η φ=scat (v.ev η φ) ps i (acc.ev η φ)
 | [],_,_=>rfl
 | _ :: ps,i,_=>scatT_ev η φ v ps (i+1) _
theorem wT_ev (r:RowL) (d s t m op:Int) : (wT r).ev (ηl [d,s,t,m,op]) φ0=wV r m:=by
 unfold wT wV
 cases hp:r.places with
 | nil=>rfl
 | cons p ps =>
  simp only
  rw [ev_wrap,scatT_ev,t24_ev,hp]
  rfl
theorem aT_ev (r:RowL) (d s t m op:Int) : (aT r).ev (ηl [d,s,t,m,op]) φ0=aV r d s t m:=by
 unfold aT aV
 rw [ev_bin,ev_bin,ev_lit,t23_ev,wT_ev]
theorem selTr_at (leafF:Nat→RowL→AV) (dflt:AV) (op d s t m:Int) : ∀ (rs:List RowL) (k:Nat),(selTr leafF dflt op rs k).at (ηl [d,s,t,m,op]) φ0=some (match sel op d s t m rs k with | some (k,r)=>leafF k r | none=>dflt)
 | [],_=>rfl
 | r :: rs,k=>by
  have ih:=selTr_at leafF dflt op d s t m rs (k+1)
  unfold selTr sel
  cases h1:decide ((r.op:Int)=op) with
  | false=>simp only [Bool.false_and]; exact ih
  | true =>
   simp only [Bool.true_and]
   rw [at_eq,t123_ev,ev_lit]
   cases h2:regsOk r.form d s t with
   | false=>rw [if_neg (by simp [b01])]; simp only [Bool.false_and]; exact ih
   | true =>
    rw [if_pos (by simp [b01]),at_eq,t124_ev,ev_lit]
    simp only [Bool.true_and]
    cases h3:numOk r.kind r.unit r.places.length m with
    | false=>rw [if_neg (by simp [b01])]; exact ih
    | true=>rw [if_pos (by simp [b01])]; rfl
def Tr.prune:Tr→List (SE×SE×Bool)→Tr
 | .leaf v,_=>.leaf v
 | .bad,_=>.bad
 | .eq a b t f,es=>match look a b es with
  | some true=>t.prune es
  | some false=>f.prune es
  | none=>.eq a b (t.prune ((a,b,true) :: es)) (f.prune ((a,b,false) :: es))
 | .lt a b t f,es=>.lt a b (t.prune es) (f.prune es)
theorem prune_at {η:Nat→Int} {φ:Nat→List Int→Int} : ∀ (t:Tr) (es:List (SE×SE×Bool)),(∀ x∈es,(x.1.ev η φ == x.2.1.ev η φ)=x.2.2)→(t.prune es).at η φ=t.at η φ
 | .leaf v,_,_=>rfl
 | .bad,_,_=>rfl
 | .lt a b t f,es,h=>by
  unfold Tr.prune
  rw [at_lt,at_lt,prune_at t es h,prune_at f es h]
 | .eq a b t f,es,h=>by
  unfold Tr.prune
  split
  ·rename_i hl
   have:=h _ (look_mem hl)
   rw [at_eq,if_pos (by simpa using this),prune_at t es h]
  ·rename_i hl
   have:=h _ (look_mem hl)
   rw [at_eq,if_neg (by simpa using this),prune_at f es h]
  ·rw [at_eq,at_eq]
   split
   ·rename_i hc
    exact prune_at t _ fun x hx=>(List.mem_cons.1 hx).elim (fun e=>e ▸ by simpa using hc) (h x)
   ·rename_i hc
    exact prune_at f _ fun x hx=>(List.mem_cons.1 hx).elim (fun e=>e ▸ by simpa using hc) (h x)
def halfTr (op:Int) : Tr:=selTr (fun _ r=>.tup [.sint .u16 (aT r),.bool true]) (.tup [.int .u16 0,.bool false]) op rowsL 0
def insnA (op:Int) : AV:=.agg [.int .u8 op,.sint .i64 (.var 0),.sint .i64 (.var 1),.sint .i64 (.var 2),.sint .i64 (.var 3)]
def maskE (r:RowL) : SE×SE×Bool:=(.bin .andNot .u32 (t24 r) (.lit ((2 ^ r.places.length - 1:Nat) : Int)),.lit 0,true)
def FH:Fa:=⟨rowsL.map maskE,[],[]⟩
def rowOps:List Nat:=[22,13,14,20,21,41,1,29,30,27,32,36,39,40,46,45,3,5,6,28,4,31,66]
def FO:Fa:=⟨rowOps.map fun (o:Nat)=>(.lit (o:Int),.var 4,false),opFacts,[]⟩
section defs
variable [Dec]
def orcRegs (args:List AV) (H:AHeap) : Option (AV×AHeap) :=
 match args with
 | [.int .u8 f,.agg [.int .u8 _,d,s,t,m]]=>if (decide (0≤f) && RegsC.regForms.contains f.toNat)=true then (i64? d).bind fun d=>(i64? s).bind fun s=>(i64? t).bind fun t=>(i64? m).bind fun _ =>
   onE (.fn 123 (.pair (.lit f) (.pair d (.pair s t)))) 1 (fun r=>.tup [mkInt .u16 (.fn 23 (.pair (.lit f) (.pair d (.pair s t)))),.bool r]) H else none
 | _=>none
def numT (kind unit many:Int) (n:SE) : SE:=.pair (.lit kind) (.pair (.lit unit) (.pair (.lit many) n))
def many? : AV→Option Nat
 | .sl _ 0 (n+1) c=>if c=n+1 then some (n+1) else none
 | .nilsl=>some 0
 | _=>none
def orcNumber (args:List AV) (H:AHeap) : Option (AV×AHeap) :=
 match args with
 | [.agg [.int .u8 _,.int .u16 _,.int .u8 _,.int .u8 kind,.int .i64 unit,places],n]=>(many? places).bind fun (many:Nat)=>(i64? n).bind fun n =>
   if (decide (0≤kind) && decide (0≤unit) && nums.contains (kind.toNat,unit.toNat,many))=true then
   onE (.fn 124 (numT kind unit many n)) 1 (fun r=>.tup [mkInt .u32 (.fn 24 (numT kind unit many n)),.bool r]) H else none
 | _=>none
end defs
def orcH (regs number:FuncId) (F:Fa) : ACall:=orElse (only regs (@orcRegs F.dec)) (only number (@orcNumber F.dec))
section
variable [Dec] [Env]
theorem orcRegs_ok {P:Program} {gl:Nat} {f:FuncId} (hφ:Env.φ=φ0) (hc:RegsC P f) : CallOK P gl (only f orcRegs):=by
 refine callOK_only fun args H v H' h=>?_
 unfold orcRegs at h
 split at h
 ·rename_i c o d s t m
  split at h
  ·rename_i hf
   simp only [Bool.and_eq_true,decide_eq_true_eq,List.contains_iff_mem] at hf
   obtain ⟨n,rfl⟩ : ∃ n:Nat,c=(n:Int):=⟨c.toNat,by omega⟩
   rw [Int.toNat_natCast] at hf
   simp only [Option.bind_eq_some_iff] at h
   obtain ⟨ed,hd,es,hs,et,ht,em,hm,h⟩:=h
   obtain ⟨r,hr,rfl,rfl⟩:=onE_some h
   refine ⟨rfl,fun ρ w args' hI hv=>?_⟩
   cases hv with
   | cons _ _ _ _ h1 hv =>
    cases h1
    cases hv with
    | cons _ _ _ _ h2 hv =>
     cases hv
     cases h2 with
     | agg cs vs hv =>
      cases hv with
      | cons _ vo _ _ h1 hv=>cases hv with
       | cons _ vd _ _ h2 hv=>cases hv with
        | cons _ vs _ _ h3 hv=>cases hv with
         | cons _ vt _ _ h4 hv=>cases hv with
          | cons _ vm _ _ h5 hv =>
           cases hv
           cases h1
           obtain ⟨rfl,q2⟩:=i64?_rel hd h2
           obtain ⟨rfl,q3⟩:=i64?_rel hs h3
           obtain ⟨rfl,q4⟩:=i64?_rel ht h4
           obtain ⟨rfl,q5⟩:=i64?_rel hm h5
           have q:(SE.pair (.lit (n:Int)) (.pair ed (.pair es et))).evs Env.η Env.φ=[(n:Int),sev ed,sev es,sev et]:=by
            rw [evs_pair,evs_pair,evs_pair,q2,q3,q4]; rfl
           rw [sev_fn,q,hφ] at hr
           have hr:regsOk n (sev ed) (sev es) (sev et)=r:=by rw [← hr]; exact (b01_eq _).symm
           subst hr
           refine ⟨_,.tup _ [_,_] (.cons _ _ _ _ (mkInt_rel ρ .u16 (.fn 23 (.pair (.lit (n:Int)) (.pair ed (.pair es et))))) (.cons _ _ _ _ (.bool _) .nil)),?_⟩
           rw [sev_fn,q,hφ]
           exact hc n hf.2 o (sev ed) (sev es) (sev et) (sev em) w
  ·cases h
 ·cases h
theorem opq_of {P:Program} {ρ:Rho} {H:AHeap} {w:World} (hI:Inv P ρ H w) {b n:Nat} {pl:Value} (h:VR ρ (.sl b 0 (n+1) (n+1)) pl) : Opq (.sl 0 0 (n+1) (n+1)) pl w:=by
 cases h with
 | sl _ _ _ _ ccap r h hl hc ht hs =>
  refine ⟨fun c=>if c=0 then some r else none,fun c hc=>if_neg (by omega),fun c r' hr=>?_,fun D E=>?_⟩
  ·simp only at hr
   split at hr
   ·injection hr with hr; subst hr; exact hI.lt _ _ h
   ·cases hr
  ·exact @VR.sl D E _ 0 0 (n+1) (n+1) ccap r rfl hl hc ht hs
omit [Dec] [Env] in
theorem opq_nil {w:World} : Opq .nilsl (.slice none 0 0) w:=⟨fun _=>none,fun _ _=>rfl,fun _ r (h:(none:Option RB)=some r)=>(by cases h),fun D E=>@VR.nilsl D E _⟩
theorem orcNumber_ok {P:Program} {gl:Nat} {f:FuncId} (hφ:Env.φ=φ0) (hc:NumberC P f) : CallOK P gl (only f orcNumber):=by
 refine callOK_only fun args H v H' h=>?_
 unfold orcNumber at h
 split at h
 ·rename_i o b c kind unit places n
  simp only [Option.bind_eq_some_iff] at h
  obtain ⟨many,hmany,en,hn,h⟩:=h
  split at h
  ·rename_i hf
   simp only [Bool.and_eq_true,decide_eq_true_eq,List.contains_iff_mem] at hf
   obtain ⟨⟨f1,f2⟩,f3⟩:=hf
   obtain ⟨k,rfl⟩ : ∃ n:Nat,kind=(n:Int):=⟨kind.toNat,by omega⟩
   obtain ⟨u,rfl⟩ : ∃ n:Nat,unit=(n:Int):=⟨unit.toNat,by omega⟩
   rw [Int.toNat_natCast,Int.toNat_natCast] at f3
   obtain ⟨r,hr,rfl,rfl⟩:=onE_some h
   refine ⟨rfl,fun ρ w args' hI hv=>?_⟩
   cases hv with
   | cons _ _ _ _ h1 hv =>
    cases hv with
    | cons _ _ _ _ h2 hv =>
     cases hv
     obtain ⟨rfl,qn⟩:=i64?_rel hn h2
     cases h1 with
     | agg cs vs hv =>
      cases hv with
      | cons _ _ _ _ h1 hv=>cases hv with
       | cons _ _ _ _ h2 hv=>cases hv with
        | cons _ _ _ _ h3 hv=>cases hv with
         | cons _ _ _ _ h4 hv=>cases hv with
          | cons _ _ _ _ h5 hv=>cases hv with
           | cons _ pl _ _ h6 hv =>
            cases hv
            cases h1; cases h2; cases h3; cases h4; cases h5
            have q:(numT k u many en).evs Env.η Env.φ=[(k:Int),(u:Int),(many:Int),sev en]:=by
             unfold numT; rw [evs_pair,evs_pair,evs_pair,qn]; rfl
            rw [sev_fn,q,hφ] at hr
            have e124:φ0 124 [(k:Int),(u:Int),(many:Int),sev en]=b01 (numOk k u many (sev en)):=by
             show b01 (numOk ((k:Nat) : Int).toNat ((u:Nat) : Int).toNat ((many:Nat) : Int).toNat (sev en))=_
             rw [Int.toNat_natCast,Int.toNat_natCast,Int.toNat_natCast]
            have e24:φ0 24 [(k:Int),(u:Int),(many:Int),sev en]=numW k u many (sev en):=by
             show numW ((k:Nat) : Int).toNat ((u:Nat) : Int).toNat ((many:Nat) : Int).toNat (sev en)=_
             rw [Int.toNat_natCast,Int.toNat_natCast,Int.toNat_natCast]
            rw [e124,b01_eq] at hr
            subst hr
            refine ⟨_,.tup _ [_,_] (.cons _ _ _ _ (mkInt_rel ρ .u32 (.fn 24 (numT k u many en))) (.cons _ _ _ _ (.bool _) .nil)),?_⟩
            rw [sev_fn,q,hφ,e24]
            refine hc k u many f3 o b c (sev en) pl w ?_
            unfold many? at hmany
            split at hmany
            ·rename_i b' n' c'
             split at hmany
             ·rename_i he
              injection hmany with hmany; subst hmany; subst he
              exact opq_of hI h6
             ·cases hmany
            ·injection hmany with hmany; subst hmany
             cases h6
             exact opq_nil
            ·cases hmany
  ·cases h
 ·cases h
end
theorem orcH_OK {P:Program} {regs number:FuncId} (h1:RegsC P regs) (h2:NumberC P number) : OrcOK P 0 φ0 (orcH regs number) :=
 fun F _ h=>@callOK_or F.dec h.env P 0 _ _ (@orcRegs_ok F.dec h.env P 0 regs rfl h1) (@orcNumber_ok F.dec h.env P 0 number rfl h2)
theorem and_le (x:Int) (c:Nat) (hc:c≤kmax .i64) : 0≤ibin .and .i64 x c∧ibin .and .i64 x c≤c:=by
 have e:ibin .and .i64 x (c:Int)=IntKind.i64.wrap ((BitVec.ofInt 64 x &&& BitVec.ofInt 64 (c:Int)).toNat:Nat):=by
  unfold ibin abin
  simp only
  rw [if_neg (by simp)]
  rfl
 have h1:(BitVec.ofInt 64 x &&& BitVec.ofInt 64 (c:Int)).toNat≤c:=by
  rw [BitVec.toNat_and]
  have:=ofInt_nat .i64 c hc
  have h2:(BitVec.ofInt 64 (c:Int)).toNat=c:=this
  rw [h2]
  exact Nat.and_le_right
 rw [e,wrap_self .i64 _ (by omega)]
 omega
def maskLeaf (c:Nat) : AV→Bool
 | .tup [.int .u32 n,_]=>decide (0≤n) && decide (n≤c)
 | .tup [.sint .u32 (.wrap .u32 (.bin .and .i64 _ (.lit n))),_]=>decide (n=(c:Int))
 | _=>false
theorem maskLeaf_le {c:Nat} (hc:c≤kmax .u32) {v:AV} (h:maskLeaf c v=true) (η:Nat→Int) (φ:Nat→List Int→Int) : 0≤tupI η φ (some v)∧tupI η φ (some v)≤c:=by
 have hk:kmax .u32=4294967295:=rfl
 have hk':kmax .i64=9223372036854775807:=rfl
 unfold maskLeaf at h
 split at h
 ·simp only [Bool.and_eq_true,decide_eq_true_eq] at h
  exact h
 ·rename_i a n b
  simp only [decide_eq_true_eq] at h
  subst h
  show 0≤IntKind.u32.wrap (ibin .and .i64 (a.ev η φ) c)∧IntKind.u32.wrap (ibin .and .i64 (a.ev η φ) c)≤c
  obtain ⟨h1,h2⟩:=and_le (a.ev η φ) c (by omega)
  obtain ⟨n,hn⟩ : ∃ n:Nat,ibin .and .i64 (a.ev η φ) c=(n:Int):=⟨(ibin .and .i64 (a.ev η φ) c).toNat,by omega⟩
  rw [hn] at h1 h2 ⊢
  rw [wrap_self .u32 n (by omega)]
  exact ⟨h1,h2⟩
 ·cases h
theorem numW_le {k u m:Nat} (hx:(k,u,m)∈nums) (n:Int) : 0≤numW k u m n∧numW k u m n≤((2 ^ m - 1:Nat) : Int):=by
 have h1:(nums.all fun x=>(numTr x.1 x.2.1 x.2.2).all (maskLeaf (2 ^ x.2.2 - 1)))=true:=by decide
 have h2:(nums.all fun x=>Nat.ble (2 ^ x.2.2 - 1) (2 ^ 32 - 1))=true:=by decide
 obtain ⟨v,hv,hk⟩:=Tr.all_at (η:=ηl [n]) (φ:=φz) (List.all_eq_true.1 h1 _ hx)
 have h3:=Nat.le_of_ble_eq_true (List.all_eq_true.1 h2 _ hx)
 unfold numW numV
 rw [hv]
 exact maskLeaf_le h3 hk _ _
theorem row_nums {r:RowL} (hr:r∈rowsL) : (r.kind,r.unit,r.places.length)∈nums:=by
 have h:(rowsL.all fun r=>nums.contains (r.kind,r.unit,r.places.length))=true:=by decide
 simpa using List.all_eq_true.1 h r hr
theorem mask_zero:([0,5,6,8,11].all fun m=>(List.range (2 ^ m)).all fun v=>ibin .andNot .u32 (v:Int) ((2 ^ m - 1:Nat) : Int) == 0)=true:=by kernel_rfl
theorem FH_on (d s t m op:Int) : FH.On (ηl [d,s,t,m,op]) φ0 where
 es:=by
  intro x hx
  obtain ⟨r,hr,rfl⟩:=List.mem_map.1 hx
  show (ibin .andNot .u32 ((t24 r).ev _ _) ((2 ^ r.places.length - 1:Nat) : Int) == 0)=true
  rw [t24_ev]
  obtain ⟨h1,h2⟩:=numW_le (row_nums hr) m
  have h3:r.places.length∈[0,5,6,8,11]:=by
   have h:(rowsL.all fun r=>[0,5,6,8,11].contains r.places.length)=true:=by decide
   simpa using List.all_eq_true.1 h r hr
  obtain ⟨n,hn⟩ : ∃ n:Nat,numW r.kind r.unit r.places.length m=(n:Int):=⟨(numW r.kind r.unit r.places.length m).toNat,by omega⟩
  rw [hn] at h2 ⊢
  have:=List.all_eq_true.1 (List.all_eq_true.1 mask_zero _ h3) n (List.mem_range.2 (by have:=Nat.two_pow_pos r.places.length; omega))
  exact this
 ls x hx:=by cases hx
 vs x hx:=by cases hx
def HalfI (P:Program) (f:FuncId) : Prop:=∀ op d s t m,u8R op→Ret P f [insnV op d s t m] (.tuple #[.int .u16 (halfV op d s t m),.bool (halfB op d s t m)])
section
variable {P:Program}
theorem halfI_of (hm:P.follows .mixedOrders=true) {f regs number:FuncId} (c1:RegsC P regs) (c2:NumberC P number) (h1:(rowOps.all fun (o:Nat)=>((halfTr o).prune []).ok (runT P (orcH regs number) 10000 0 f [insnA o]) FH)=true)
  (h2:(Tr.leaf (.tup [.int .u16 0,.bool false])).ok (runT P (orcH regs number) 10000 0 f [symI]) FO=true) : HalfI P f:=by
 intro op d s t m ho
 by_cases hop:∃ o∈rowOps,op=((o:Nat) : Int)
 ·obtain ⟨o,hmem,rfl⟩:=hop
  refine ret_of (η:=ηl [d,s,t,m,o]) hm (orcH_OK c1 c2) (List.all_eq_true.1 h1 o hmem) (FH_on ..) ((prune_at _ _ (fun _ h=>by cases h)).trans (selTr_at ..)) ?_ rfl rfl ?_
  ·cases sel o d s t m rowsL 0 <;> rfl
  ·unfold halfV halfB
   cases sel o d s t m rowsL 0 with
   | none=>rfl
   | some x =>
    obtain ⟨k,r⟩:=x
    show Value.tuple #[.int .u16 ((aT r).ev _ _),.bool true]=_
    rw [aT_ev]
    rfl
 ·have hsel:∀ (rs:List RowL) k,(∀ r∈rs,r.op∈rowOps)→sel op d s t m rs k=none:=by
   intro rs
   induction rs with
   | nil=>intro k _; rfl
   | cons r rs ih =>
    intro k hr
    unfold sel
    rw [decide_eq_false (fun e=>hop ⟨r.op,hr r List.mem_cons_self,e.symm⟩)]
    exact ih _ fun x hx=>hr x (List.mem_cons_of_mem _ hx)
  have hall:∀ r∈rowsL,r.op∈rowOps:=by
   have h:(rowsL.all fun r=>rowOps.contains r.op)=true:=by decide
   intro r hr
   simpa using List.all_eq_true.1 h r hr
  have hn:=hsel rowsL 0 hall
  refine ret_of (η:=ηl [d,s,t,m,op]) hm (orcH_OK c1 c2) h2 ?_ rfl rfl rfl rfl ?_
  ·refine ⟨?_,opFacts_on ho d s t m,fun x hx=>by cases hx⟩
   intro x hx
   obtain ⟨o,ho',rfl⟩:=List.mem_map.1 hx
   show (((o:Nat) : Int) == op)=false
   have:((o:Nat) : Int)≠op:=fun e=>hop ⟨o,ho',e.symm⟩
   simpa using this
  ·unfold halfV halfB
   rw [hn]
   rfl
end
end Go.Proofs.YtoehlmiadiiimaaGreatDoor.Ex

