import Derived.Test.YtoehlmiadiiimaaGreatDoorTExSound
import Derived.LoopN
import Derived.Scope
namespace Go.Proofs.YtoehlmiadiiimaaGreatDoor.Ex
open Go
variable [Dec] [Env]
section
variable {P:Program} {gl lim:Nat}
omit [Dec] [Env] in
theorem aevs_congr {fr fr':AFr} : ∀ (os:List Operand),(∀ x∈os,aev gl fr x=aev gl fr' x)→aevs gl fr os=aevs gl fr' os
 | [],_=>rfl
 | o :: os,h=>by simp only [aevs,h o (by simp),aevs_congr os fun x hx=>h x (by simp [hx])]
omit [Env] in
theorem aop_congr {fr fr':AFr} {H:AHeap} {o:Oper} (h:∀ x∈o.op.operands,aev gl fr x=aev gl fr' x) : aop P gl lim fr H o=aop P gl lim fr' H o:=by
 obtain ⟨dst,op,type,pos,after,guard⟩:=o
 have many:∀ (xs:Array Operand),(∀ x∈xs,aev gl fr x=aev gl fr' x)→aevs gl fr xs.toList=aevs gl fr' xs.toList:=fun xs hx=>aevs_congr _ fun x hm=>hx x (by simpa using hm)
 cases op <;> simp only [Op.operands] at h <;> simp only [aop]
 case build t ps=>rw [aevs_congr _ fun x hx=>h x (by simpa using hx)]
 case buildSlice t n ps=>rw [aevs_congr _ fun x hx=>h x (by simpa using hx)]
 case makeFunc fn first captured =>
  cases fn with
  | func f =>
   dsimp only
   rw [many first fun x hx=>h x (by simp [hx]),many captured fun x hx=>h x (by simp [hx])]
  | _=>rfl
 case makeMap t r=>cases r <;> rfl
 case call c =>
  obtain ⟨callee,args,ts⟩:=c
  simp only [Call.operands] at h
  rw [many args fun x hx=>h x (by simp [hx])]
  cases callee with
  | value f=>have:=h f (by simp); dsimp only; rw [this]
  | invoke r m=>rfl
  | builtin b=>rfl
 case slice t x lo hi mx=>cases lo <;> cases hi <;> cases mx <;> simp_all
 all_goals (first | rfl | (simp_all; done))
omit [Env] in
theorem aop_pure {fr:AFr} {o:Oper} (hp:pureOp o=true) : ∃ X:Option AV,∀ lim H,aop P gl lim fr H o=X.map fun v=>Res.val v H:=by
 obtain ⟨dst,op,type,pos,after,guard⟩:=o
 cases op <;> simp only [pureOp,Bool.false_eq_true] at hp
 case move x=>exact ⟨aev gl fr x,fun _ _=>rfl⟩
 case assign x=>exact ⟨aev gl fr x,fun _ _=>rfl⟩
 case pick c x y =>
  refine ⟨(aev gl fr c).bind fun c=>match c with | .bool true=>aev gl fr x | .bool false=>aev gl fr y | _=>none,fun _ _=>?_⟩
  simp only [aop,Option.map_bind]
  congr 1; funext c; dsimp only [Function.comp]; cases c <;> try rfl
  rename_i b; cases b <;> rfl
 case build t parts =>
  refine ⟨(aevs gl fr (parts.toList.map (·.2))).bind fun vs=>(zero P t).bind fun z =>
   match und P t with
   | some (.struct fs)=>if fs.all (fun f=>(sz P f.type).isSome)=true then (afill (aplaces P fs) z.cells (aparts (parts.toList.map (·.1)) vs)).map .agg else none
   | some (.array _ e)=>(sz P e).bind fun n=>(afill (fun i=>some (i*n,n)) z.cells (aparts (parts.toList.map (·.1)) vs)).map .agg
   | _=>none,fun _ _=>?_⟩
  simp only [aop,Option.map_bind]
  congr 1; funext vs; dsimp only [Function.comp]
  rw [Option.map_bind]
  congr 1; funext z; dsimp only [Function.comp]
  cases und P t with
  | none=>rfl
  | some d =>
   cases d <;> try rfl
   ·simp [Option.map_bind,Option.map_map,Function.comp_def]
   ·dsimp only
    split
    ·simp [Option.map_map,Function.comp_def]
    ·rfl
 case nilCheck x =>
  refine ⟨(aev gl fr x).bind fun v=>match v with | .ptr b o=>some (.ptr b o) | .fn (.func f) xs ys=>some (.fn (.func f) xs ys) | _=>none,fun _ _=>?_⟩
  simp only [aop,Option.map_bind]
  congr 1; funext v; dsimp only [Function.comp]; cases v <;> try rfl
  rename_i f _ _; cases f <;> rfl
 case binOp op t x y yt =>
  refine ⟨(aev gl fr x).bind fun u=>(aev gl fr y).bind fun v=>abinN P op t x y u v,fun _ _=>?_⟩
  simp [aop,Option.map_bind,Function.comp_def]
 case unOp op t x =>
  refine ⟨(aev gl fr x).bind fun u=>aunS op u,fun _ _=>?_⟩
  simp [aop,Option.map_bind,Function.comp_def]
 case makeInterface t x =>
  refine ⟨(aev gl fr x).bind fun v=>match und P t with | some (.interface _)=>none | some _=>some (.iface t v) | none=>none,fun _ _=>?_⟩
  simp only [aop,Option.map_bind]
  congr 1; funext v; dsimp only [Function.comp]
  cases und P t with
  | none=>rfl
  | some d=>cases d <;> rfl
 case makeFunc fn first captured =>
  cases fn with
  | func f =>
   refine ⟨(aevs gl fr first.toList).bind fun xs=>(aevs gl fr captured.toList).map fun ys=>.fn (.func f) xs ys,fun _ _=>?_⟩
   simp [aop,Option.map_bind,Option.map_map,Function.comp_def]
  | _=>exact ⟨none,fun _ _=>rfl⟩
 case fieldAddr t x f =>
  refine ⟨(aev gl fr x).bind fun a=>match und P t,a with
   | some (.struct fs),.ptr b o=>(fs[f]?).bind fun f=>(sz P f.type).bind fun n=>if n=0 then none else some (.ptr b (o+f.offset))
   | _,_=>none,fun _ _=>?_⟩
  simp only [aop,Option.map_bind]
  congr 1; funext v; dsimp only [Function.comp]
  cases und P t with
  | none=>rfl
  | some d =>
   cases d <;> try rfl
   cases v <;> try rfl
   dsimp only
   rw [Option.map_bind]; congr 1; funext g; dsimp only [Function.comp]; rw [Option.map_bind]; congr 1; funext n; dsimp only [Function.comp]; split <;> rfl
 case field t x f =>
  refine ⟨(aev gl fr x).bind fun a=>match und P t,a with
   | some (.struct fs),.agg cs=>(fs[f]?).bind fun f=>apart P f.type cs f.offset
   | _,_=>none,fun _ _=>?_⟩
  simp only [aop,Option.map_bind]
  congr 1; funext v; dsimp only [Function.comp]
  cases und P t with
  | none=>rfl
  | some d =>
   cases d <;> try rfl
   cases v <;> try rfl
   dsimp only
   rw [Option.map_bind]; rfl
 case indexAddr t x ix =>
  refine ⟨(aev gl fr x).bind fun a=>(aev gl fr ix).bind fun i=>match und P t,a,i with
   | some (.array len e),.ptr b o,.int _ i=>(sz P e).bind fun n=>if 0≤i∧i < (len:Int) then some (.ptr b (o+i.toNat*n)) else none
   | some (.slice e),.sl b o len _,.int _ i=>(sz P e).bind fun n=>if 0≤i∧i < (len:Int) then some (.ptr b (o+i.toNat*n)) else none
   | _,_,_=>none,fun _ _=>?_⟩
  simp only [aop,Option.map_bind]
  congr 1; funext v; dsimp only [Function.comp]; rw [Option.map_bind]
  congr 1; funext i; dsimp only [Function.comp]
  cases und P t with
  | none=>rfl
  | some d =>
   cases d <;> try rfl
   ·cases v <;> try rfl
    cases i <;> try rfl
    dsimp only
    rw [Option.map_bind]; congr 1; funext n; dsimp only [Function.comp]; split <;> rfl
   ·cases v <;> try rfl
    cases i <;> try rfl
    dsimp only
    rw [Option.map_bind]; congr 1; funext n; dsimp only [Function.comp]; split <;> rfl
 case index t x ix =>
  refine ⟨(aev gl fr x).bind fun a=>(aev gl fr ix).bind fun i=>match und P t,a,i with
   | some (.array len e),.agg cs,.int _ i=>(sz P e).bind fun n=>if 0≤i∧i < (len:Int) then apart P e cs (i.toNat*n) else none
   | some .string,.str s,.int _ i=>if 0≤i then (s[i.toNat]?).map fun b=>.int .u8 (Int.ofNat b) else none
   | _,_,_=>none,fun _ _=>?_⟩
  simp only [aop,Option.map_bind]
  congr 1; funext v; dsimp only [Function.comp]; rw [Option.map_bind]
  congr 1; funext i; dsimp only [Function.comp]
  cases und P t with
  | none=>rfl
  | some d =>
   cases d <;> try rfl
   ·cases v <;> try rfl
    cases i <;> try rfl
    dsimp only
    split
    ·rw [Option.map_map]; rfl
    ·rfl
   ·cases v <;> try rfl
    cases i <;> try rfl
    dsimp only
    rw [Option.map_bind]; congr 1; funext n; dsimp only [Function.comp]; split <;> rfl
 case extract x i =>
  refine ⟨(aev gl fr x).bind fun a=>match a with | .tup vs=>vs[i]? | _=>none,fun _ _=>?_⟩
  simp only [aop,Option.map_bind]
  congr 1; funext v; dsimp only [Function.comp]; cases v <;> rfl
omit [Env] in
theorem aop_pure_heap {lim':Nat} {fr:AFr} {H H2:AHeap} {o:Oper} {r:Res} (hp:pureOp o=true) (h:aop P gl lim fr H o=some r) : ∃ v,r=.val v H∧aop P gl lim' fr H2 o=some (.val v H2):=by
 obtain ⟨X,hX⟩:=aop_pure (P:=P) (gl:=gl) (fr:=fr) hp
 rw [hX] at h ⊢
 obtain ⟨v,hv,rfl⟩:=Option.map_eq_some_iff.1 h
 exact ⟨v,rfl,by rw [hv]; rfl⟩
omit [Dec] [Env] in
theorem foldl_before (acc:Array Nat) (i:Nat) : ∀ (l:List Edge) (s:Nat),(l.foldl (fun s e=>if Region.binds .any e then s ||| 2 ^ e.on ||| acc.getD e.on 0 else s) s).testBit i=true →
  s.testBit i=true∨∃ e∈l,Region.binds .any e=true∧(e.on=i∨(acc.getD e.on 0).testBit i=true)
 | [],s,h=>.inl h
 | e :: l,s,h=>by
  rw [List.foldl_cons] at h
  rcases foldl_before acc i l _ h with h | ⟨e',he,h1,h2⟩
  ·split at h
   ·rename_i hb
    simp only [Nat.testBit_or,Bool.or_eq_true,Nat.testBit_two_pow,decide_eq_true_eq] at h
    rcases h with (h | h) | h
    ·exact .inl h
    ·exact .inr ⟨e,by simp,hb,.inl h⟩
    ·exact .inr ⟨e,by simp,hb,.inr h⟩
   ·exact .inl h
  ·exact .inr ⟨e',by simp [he],h1,h2⟩
omit [Dec] [Env] in
theorem before_spec (ops:Array Oper) : (Region.before ops).size=ops.size∧∀ j o i,ops[j]?=some o→isBefore (Region.before ops) i j=true→(∀ e∈o.after,Region.binds .any e=true→e.on < j) →
  ∃ e∈o.after,Region.binds .any e=true∧(e.on=i∨isBefore (Region.before ops) i e.on=true):=by
 have key:∀ (l:List Oper) (acc:Array Nat),(l.foldl (fun acc o=>acc.push (o.after.foldl (fun s e=>if Region.binds .any e then s ||| 2 ^ e.on ||| acc.getD e.on 0 else s) 0)) acc).size=acc.size+l.length ∧
   (∀ k,k < acc.size→(l.foldl (fun acc o=>acc.push (o.after.foldl (fun s e=>if Region.binds .any e then s ||| 2 ^ e.on ||| acc.getD e.on 0 else s) 0)) acc).getD k 0=acc.getD k 0) ∧
   ∀ j o i,l[j]?=some o→((l.foldl (fun acc o=>acc.push (o.after.foldl (fun s e=>if Region.binds .any e then s ||| 2 ^ e.on ||| acc.getD e.on 0 else s) 0)) acc).getD (acc.size+j) 0).testBit i=true →
    (∀ e∈o.after,Region.binds .any e=true→e.on < acc.size+j) →
    ∃ e∈o.after,Region.binds .any e=true∧(e.on=i∨((l.foldl (fun acc o=>acc.push (o.after.foldl (fun s e=>if Region.binds .any e then s ||| 2 ^ e.on ||| acc.getD e.on 0 else s) 0)) acc).getD e.on 0).testBit i=true):=by
  intro l
  induction l with
  | nil=>intro acc; exact ⟨rfl,fun _ _=>rfl,fun j o i h=>by simp at h⟩
  | cons x l ih =>
   intro acc
   obtain ⟨h1,h2,h3⟩:=ih (acc.push (x.after.foldl (fun s e=>if Region.binds .any e then s ||| 2 ^ e.on ||| acc.getD e.on 0 else s) 0))
   rw [List.foldl_cons]
   refine ⟨by rw [h1]; simp; omega,fun k hk=>?_,fun j o i hj hb he=>?_⟩
   ·rw [h2 k (by simp; omega)]
    simp [Array.getD_eq_getD_getElem?,Array.getElem?_push,Nat.ne_of_lt hk]
   ·cases j with
    | zero =>
     simp at hj; subst hj
     rw [Nat.add_zero,h2 acc.size (by simp)] at hb
     simp only [Array.getD_eq_getD_getElem?,Array.getElem?_push_size,Option.getD_some] at hb
     rw [← Array.foldl_toList] at hb
     have hb':=foldl_before acc i x.after.toList 0 (by simpa [Array.getD_eq_getD_getElem?] using hb)
     rcases hb' with hb' | ⟨e,hem,hbi,hon⟩
     ·simp at hb'
     ·refine ⟨e,by simpa using hem,hbi,hon.imp id fun hon=>?_⟩
      have hlt:=he e (by simpa using hem) hbi
      rw [h2 e.on (by simp; omega)]
      simp only [Array.getD_eq_getD_getElem?,Array.getElem?_push] at hon ⊢
      rw [if_neg (by omega)]
      exact hon
    | succ j =>
     have:=h3 j o i (by simpa using hj) (by simpa [Nat.add_assoc,Nat.add_comm 1 j] using hb) (fun e hem hbi=>by have:=he e hem hbi; simp; omega)
     exact this
 obtain ⟨h1,h2,h3⟩:=key ops.toList #[]
 unfold Region.before isBefore
 rw [← Array.foldl_toList]
 refine ⟨by rw [h1]; simp,fun j o i hj hb he=>?_⟩
 have:=h3 j o i (by simpa using hj) (by simpa using hb) (fun e hem hbi=>by simpa using he e hem hbi)
 exact this
end
end Go.Proofs.YtoehlmiadiiimaaGreatDoor.Ex
namespace Go.Proofs.YtoehlmiadiiimaaGreatDoor.Ex
open Go
variable [Dec] [Env]
def Rho.upto (ρ:Rho) (k:Nat) : Rho:=fun b=>if b < k then ρ b else none
omit [Dec] [Env] in
theorem Rho.upto_ext (ρ:Rho) (k:Nat) : Ext (ρ.upto k) ρ:=fun b r h=>by
 unfold Rho.upto at h; split at h
 ·exact h
 ·cases h
omit [Dec] [Env] in
theorem Rho.upto_mono {ρ ρ':Rho} {k k':Nat} (h:Ext ρ ρ') (hk:k≤k') : Ext (ρ.upto k) (ρ'.upto k'):=fun b r hb=>by
 unfold Rho.upto at hb ⊢
 split at hb
 ·rw [if_pos (by omega)]; exact h _ _ hb
 ·cases hb
omit [Dec] [Env] in
theorem Rho.upto_some {ρ:Rho} {k b:Nat} {r:RB} (h:ρ.upto k b=some r) : b < k∧ρ b=some r:=by
 unfold Rho.upto at h; split at h
 ·exact ⟨by assumption,h⟩
 ·cases h
section
variable {P:Program} {lim gl:Nat} {ρ ρ':Rho} {H H' H2:AHeap} {w w':World}
theorem upto_full (h:Inv P ρ H w) : Ext ρ (ρ.upto H.next):=fun b r hr=>by
 unfold Rho.upto
 split
 ·exact hr
 ·rename_i hb
  rw [h.fresh b (by omega)] at hr; cases hr
theorem Step.heap {ρ0:Rho} {H0:AHeap} {w0:World} (h:Step P lim ρ0 H0 w0 ρ H w) (he:∀ b,b < H.next→H2.get b=H.get b) (hk:H.next≤H2.next) (hl:lim≤H0.next) : Step P lim ρ0 H0 w0 ρ H2 w where
 ext:=h.ext
 old:=h.old
 next:=Nat.le_trans h.next hk
 inv:={
  obj:=fun b o r hb hr=>by
   by_cases hlt:b < H.next
   ·exact h.inv.obj b o r (by rw [← he b hlt]; exact hb) hr
   ·rw [h.inv.fresh b (by omega)] at hr; cases hr
  inj:=fun b c o p r s hb hp hr hs e=>by
   by_cases hlt:b < H.next
   ·by_cases hlc:c < H.next
    ·exact h.inv.inj b c o p r s (by rw [← he b hlt]; exact hb) (by rw [← he c hlc]; exact hp) hr hs e
    ·rw [h.inv.fresh c (by omega)] at hs; cases hs
   ·rw [h.inv.fresh b (by omega)] at hr; cases hr
  fresh:=fun b hb=>h.inv.fresh b (by omega)
  lt:=h.inv.lt }
 keep b hb:=(he b (by have:=h.next; omega)).trans (h.keep b hb)
 live b o hb ho:=h.live b o hb (by rw [← he b (by have:=h.next; omega)]; exact ho)
 size:=h.size
 os:=h.os
 tape:=h.tape
 output:=h.output
 frame:=h.frame
 img b o r hb ho hr hs:=by
  by_cases hlt:b < H.next
  ·exact h.img b o r hb (by rw [← he b hlt]; exact ho) hr hs
  ·rw [h.inv.fresh b (by omega)] at hr; cases hr
variable {call:ACall} {ops:Array Oper} {b:Array Nat}
omit [Env] in
theorem aopsD_cons (o:Oper) (l:List Oper) (j:Nat) (fr:AFr) (H:AHeap) : aopsD P gl call ops b lim (o :: l) j fr H =
  match astep P gl call ops (match fixedOp ops b j o with | true=>lim | false=>H.next) o fr H with
  | some (fr,H)=>aopsD P gl call ops b lim l (Nat.succ j) fr H
  | none=>none:=rfl
omit [Env] in
theorem aopsD_seq:∀ (l:List Oper) (j0:Nat) (fr:AFr) (H:AHeap) (frN:AFr) (HN:AHeap),aopsD P gl call ops b lim l j0 fr H=some (frN,HN) →
  ∃ (F:Nat→AFr) (G:Nat→AHeap),F 0=fr∧G 0=H∧F l.length=frN∧G l.length=HN ∧
   ∀ i o,l[i]?=some o→astep P gl call ops (if fixedOp ops b (j0+i) o=true then lim else (G i).next) o (F i) (G i)=some (F (i+1),G (i+1))
 | [],j0,fr,H,frN,HN,h=>by
  simp only [aopsD,Option.some.injEq,Prod.mk.injEq] at h
  obtain ⟨rfl,rfl⟩:=h
  exact ⟨fun _=>fr,fun _=>H,rfl,rfl,rfl,rfl,fun i o hi=>by simp at hi⟩
 | o :: l,j0,fr,H,frN,HN,h=>by
  rw [aopsD_cons] at h
  split at h
  ·rename_i fr1 H1 hs
   obtain ⟨F,G,hF,hG,hFn,hGn,hst⟩:=aopsD_seq l (j0+1) fr1 H1 frN HN h
   refine ⟨fun i=>match i with | 0=>fr | i+1=>F i,fun i=>match i with | 0=>H | i+1=>G i,rfl,rfl,hFn,hGn,fun i x hi=>?_⟩
   cases i with
   | zero =>
    simp at hi; subst hi
    dsimp only
    rw [hF,hG,← hs]
    congr 1
    simp only [Nat.add_zero]
    cases fixedOp ops b j0 o <;> rfl
   | succ i =>
    have:=hst i x (by simpa using hi)
    dsimp only
    rw [show j0+(i+1)=j0+1+i by omega]
    exact this
  ·cases h
omit [Env] in
theorem astep_put {o:Oper} {fr fr':AFr} {lim':Nat} (h:astep P gl call ops lim' o fr H=some (fr',H')) : ∃ x,AFr.put fr o.dst x=some fr':=by
 unfold astep at h
 split at h
 ·split at h
  ·split at h
   ·rename_i hp
    simp only [Option.some.injEq,Prod.mk.injEq] at h
    exact ⟨_,by rw [hp,h.1]⟩
   ·cases h
  ·split at h
   ·rename_i hp
    simp only [Option.some.injEq,Prod.mk.injEq] at h
    exact ⟨_,by rw [hp,h.1]⟩
   ·cases h
  ·split at h
   ·split at h
    ·rename_i hp
     simp only [Option.some.injEq,Prod.mk.injEq] at h
     exact ⟨_,by rw [hp,h.1]⟩
    ·cases h
   ·cases h
  ·cases h
 ·split at h
  ·rename_i hp
   simp only [Option.some.injEq,Prod.mk.injEq] at h
   exact ⟨_,by rw [hp,h.1]⟩
  ·cases h
omit [Dec] [Env] in
theorem put_at {fr fr':AFr} {d:Option Nat} {x:AV} (h:AFr.put fr d x=some fr') : fr'.n=fr.n∧(∀ t,d≠some t→AFr.at fr' t=AFr.at fr t)∧∀ t,d=some t→AFr.at fr' t=x∧t < fr.n:=by
 cases d with
 | none=>simp [AFr.put] at h; subst h; exact ⟨rfl,fun _ _=>rfl,fun t h=>by cases h⟩
 | some d =>
  simp only [AFr.put] at h
  split at h
  ·rename_i hb
   injection h with h; subst h
   refine ⟨rfl,fun t ht=>?_,fun t ht=>?_⟩
   ·unfold AFr.at; rw [T.get_set,if_neg (fun e=>ht (by rw [e]))]
   ·injection ht with ht; subst ht
    exact ⟨by unfold AFr.at; rw [T.get_set,if_pos rfl],Nat.le_of_ble_eq_true hb⟩
  ·cases h
theorem astep_exists (hcall:CallOK P gl call) {o:Oper} {fr fr':AFr} {a:Act} {lim':Nat} (h:astep P gl call ops lim' o fr H=some (fr',H')) (hI:Inv P ρ H w) (hf:FR ρ fr a.tmps) (hg:GOK ρ gl) (hl:lim'≤H.next) :
  (lookOp o=true→H'=H)∧∃ ρ' v w',Step P lim' ρ H w ρ' H' w'∧FR ρ' fr' (a.put o.dst v).tmps:=by
 unfold astep at h
 split at h
 ·split at h
  ·rename_i v H1 ho
   obtain ⟨ρ',v',w',h1,h2,h3,h4⟩:=aop_sound hI hf hg hl ho
   split at h
   ·rename_i fr1 hp
    simp only [Option.some.injEq,Prod.mk.injEq] at h
    obtain ⟨rfl,rfl⟩:=h
    exact ⟨fun hp=>(h4 hp).2.2,ρ',v',w',h3,((hf.mono h3.ext).put (a:=a) hp h2).1⟩
   ·cases h
  ·rename_i H1 ho
   obtain ⟨h0,ρ',w',h1,h3⟩:=aop_sound hI hf hg hl ho
   split at h
   ·rename_i fr1 hp
    simp only [Option.some.injEq,Prod.mk.injEq] at h
    obtain ⟨rfl,rfl⟩:=h
    exact ⟨fun hp=>(by rw [h0] at hp; cases hp),ρ',undef,w',h3,((hf.mono h3.ext).put (a:=a) hp (vr_undef ρ')).1⟩
   ·cases h
  ·rename_i f args H1 ho
   obtain ⟨h0,rfl,args',h1,h2⟩:=aop_sound hI hf hg hl ho
   split at h
   ·rename_i v H2 hc
    split at h
    ·rename_i fr1 hp
     simp only [Option.some.injEq,Prod.mk.injEq] at h
     obtain ⟨rfl,rfl⟩:=h
     obtain ⟨e,w',fr,⟨ρ',v',rfl,hv,hst⟩,-⟩:=hcall _ _ _ _ _ _ hc ρ w args' hI h2 hg hl []
     exact ⟨fun hp=>(by rw [h0] at hp; cases hp),ρ',v',w',hst,((hf.mono hst.ext).put (a:=a) hp hv).1⟩
    ·cases h
   ·cases h
  ·cases h
 ·split at h
  ·rename_i fr1 hp
   simp only [Option.some.injEq,Prod.mk.injEq] at h
   obtain ⟨rfl,rfl⟩:=h
   exact ⟨fun _=>rfl,ρ,undef,w,Step.refl hI,(hf.put (a:=a) hp (vr_undef ρ)).1⟩
  ·cases h
omit [Dec] [Env] in
theorem tree_of (f:Tmp→AV) : ∀ l:List Tmp,∃ t:T AV,∀ x,T.get t x=if x∈l then some (f x) else none
 | []=>⟨.leaf,fun x=>by simp [T.get_leaf]⟩
 | y :: l=>by
  obtain ⟨t,ht⟩:=tree_of f l
  refine ⟨t.set y (some (f y)),fun x=>?_⟩
  rw [T.get_set]
  by_cases e:x=y
  ·subst e; simp
  ·rw [if_neg e,ht]; simp [e]
omit [Dec] [Env] in
theorem looks_guard {o:Oper} {g:Nat} {want:Bool} {d:Tmp} (h:o.guard=some (g,want)) (hd:(ops[g]?).bind (·.dst)=some d) : d∈looks ops o:=by
 unfold looks
 rw [h]
 simp [hd]
omit [Dec] [Env] in
theorem looks_oper {o:Oper} {t:Tmp} (h:Operand.tmp t∈o.op.operands) : t∈looks ops o:=by
 unfold looks
 rw [List.mem_append]
 exact .inl (List.mem_filterMap.2 ⟨.tmp t,by simpa using h,rfl⟩)
omit [Dec] [Env] in
theorem noSel_spec (h:noSel ops=true) {j:Nat} {o:Oper} (ho:ops[j]?=some o) (cs:Array SelectCase) (bl:Bool) : o.op≠.select cs bl:=by
 intro e
 have:=Array.all_eq_true_iff_forall_mem.1 h o (Array.mem_of_getElem? ho)
 simp [e] at this
theorem local_wp (hcall:CallOK P gl call) (hns:noSel ops=true) {j:Nat} {o:Oper} {fr fr':AFr} {c:Act} {lim':Nat} {K:Act→World→Prop} {Q:Exit→Act→World→Prop} (ho:ops[j]?=some o)
  (h:astep P gl call ops lim' o fr H=some (fr',H')) (hI:Inv P ρ H w) (hsz:c.tmps.size=fr.n) (hlook:∀ t∈looks ops o,VR ρ (AFr.at fr t) (c.tmps.getD t undef)) (hg:GOK ρ gl) (hl:lim'≤H.next)
  (hK:∀ ρ' v x w',AFr.put fr o.dst x=some fr'→VR ρ' x v→Step P lim' ρ H w ρ' H' w'→(lookOp o=true→ρ'=ρ∧w'=w)→K (c.put o.dst v) w') : wpOp P ops Q j K c w:=by
 obtain ⟨tr,htr⟩:=tree_of (AFr.at fr) (looks ops o)
 let fr2:AFr:=⟨fr.n,tr⟩
 let a2:Act:={ tmps:=Array.ofFn (n:=fr.n) fun i=>if i.1∈looks ops o then c.tmps.getD i.1 undef else undef,defers:=c.defers }
 have at2:∀ t,AFr.at fr2 t=if t∈looks ops o then AFr.at fr t else aundef:=fun t=>by
  show (match T.get tr t with | some v=>v | none=>aundef)=_
  rw [htr]; by_cases ht:t∈looks ops o <;> simp [ht]
 have tm2:∀ t,a2.tmps.getD t undef=if t∈looks ops o then c.tmps.getD t undef else undef:=fun t=>by
  simp only [a2,Array.getD_eq_getD_getElem?,Array.getElem?_ofFn]
  by_cases ht:t < fr.n
  ·simp [ht]
  ·rw [dif_neg ht]
   split
   ·rw [Array.getElem?_eq_none (by omega)]
   ·rfl
 have hf2:FR ρ fr2 a2.tmps:=⟨by simp [a2,fr2],fun t=>by
  rw [at2,tm2]
  split
  ·exact hlook t (by assumption)
  ·exact vr_undef ρ⟩
 have hex:execOp c.eval o=execOp a2.eval o:=execOp_congr o (fun cs bl=>noSel_spec hns ho cs bl) fun x hx=>by
  cases x with
  | tmp t =>
   show c.tmps.getD t undef=a2.tmps.getD t undef
   rw [tm2,if_pos (looks_oper hx)]
  | _=>rfl
 have hao:∀ H,aop P gl lim' fr H o=aop P gl lim' fr2 H o:=fun H=>aop_congr fun x hx=>by
  cases x with
  | tmp t =>
   show some (AFr.at fr t)=some (AFr.at fr2 t)
   rw [at2,if_pos (looks_oper hx)]
  | _=>rfl
 have hw1:Region.wanted o (ayielded ops fr)=Region.wanted o (yielded ops c.tmps):=by
  unfold Region.wanted
  cases hgd:o.guard with
  | none=>rfl
  | some gw =>
   obtain ⟨g,want⟩:=gw
   have:ayielded ops fr g=yielded ops c.tmps g:=by
    unfold ayielded yielded
    cases hd:(ops[g]?).bind (·.dst) with
    | none=>rfl
    | some t =>
     have hv:=hlook t (looks_guard hgd hd)
     simp only [Option.bind_some]
     cases ht:c.tmps[t]? with
     | none =>
      have e:c.tmps.getD t undef=undef:=by rw [Array.getD_eq_getD_getElem?,ht]; rfl
      rw [e] at hv
      generalize AFr.at fr t=x at hv
      unfold undef at hv
      cases hv
      rfl
     | some v =>
      have e:c.tmps.getD t undef=v:=by rw [Array.getD_eq_getD_getElem?,ht]; rfl
      rw [e] at hv
      generalize AFr.at fr t=x at hv
      cases hv <;> rfl
   simp only [this]
 unfold wpOp
 simp only [ho]
 unfold astep at h
 rw [hw1] at h
 split at h
 ·rename_i hw
  rw [hw,if_pos rfl]
  refine .inl ?_
  unfold Oper.wp
  rw [hex]
  rw [hao] at h
  split at h
  ·rename_i v H1 hop
   obtain ⟨ρ',v',w',h1,h2,h3,h4⟩:=aop_sound hI hf2 hg hl hop
   split at h
   ·rename_i fr1 hp
    simp only [Option.some.injEq,Prod.mk.injEq] at h
    obtain ⟨rfl,rfl⟩:=h
    rw [h1]
    exact hK ρ' v' v w' hp h2 h3 fun hp=>⟨(h4 hp).1,(h4 hp).2.1⟩
   ·cases h
  ·rename_i H1 hop
   obtain ⟨h0,ρ',w',h1,h3⟩:=aop_sound hI hf2 hg hl hop
   split at h
   ·rename_i fr1 hp
    simp only [Option.some.injEq,Prod.mk.injEq] at h
    obtain ⟨rfl,rfl⟩:=h
    rw [h1]
    exact hK ρ' undef aundef w' hp (vr_undef ρ') h3 fun hp=>by rw [h0] at hp; cases hp
   ·cases h
  ·rename_i f args H1 hop
   obtain ⟨h0,rfl,args',h1,h2⟩:=aop_sound hI hf2 hg hl hop
   split at h
   ·rename_i v H2 hc
    split at h
    ·rename_i fr1 hp
     simp only [Option.some.injEq,Prod.mk.injEq] at h
     obtain ⟨rfl,rfl⟩:=h
     rw [h1]
     refine (hcall _ _ _ _ _ _ hc ρ w args' hI h2 hg hl).mono ?_
     rintro e w' ⟨ρ',v',rfl,hv,hst⟩
     exact hK ρ' v' v w' hp hv hst fun hp=>by rw [h0] at hp; cases hp
    ·cases h
   ·cases h
  ·cases h
 ·rename_i hw
  rw [hw]
  split at h
  ·rename_i fr1 hp
   simp only [Option.some.injEq,Prod.mk.injEq] at h
   obtain ⟨rfl,rfl⟩:=h
   exact hK ρ undef aundef w hp (vr_undef ρ) (Step.refl hI) fun _=>⟨rfl,rfl⟩
  ·cases h
end
end Go.Proofs.YtoehlmiadiiimaaGreatDoor.Ex
namespace Go.Proofs.YtoehlmiadiiimaaGreatDoor.Ex
open Go
variable [Dec] [Env]
section
variable {P:Program} {lim gl:Nat} {call:ACall} {ops:Array Oper}
def isL (listed:Array Bool) (i:Nat) : Prop:=listed.getD i false=true
structure Way (P:Program) (gl lim:Nat) (call:ACall) (ops:Array Oper) (pr:Oper→Bool) (fx:Nat→Oper→Bool) (F:Nat→AFr) (G:Nat→AHeap) : Prop where
 step:∀ i o,ops[i]?=some o→astep P gl call ops (if fx i o=true then lim else (G i).next) o (F i) (G i)=some (F (i+1),G (i+1))
 next:∀ i,i < ops.size→(G i).next≤(G (i+1)).next
 keep:∀ i o,ops[i]?=some o→fx i o=false→∀ b,b < (G i).next→(G (i+1)).get b=(G i).get b
 pure:∀ i o,ops[i]?=some o→pr o=true→G (i+1)=G i
 lim:lim≤(G 0).next
 spec:∀ j o,ops[j]?=some o→fx j o=true→pr o=false∧∀ i x,ops[i]?=some x→i≠j→pr x=false→(i < j→isBefore (Region.before ops) i j=true)∧(j < i→isBefore (Region.before ops) j i=true)
 calm:∀ i o,ops[i]?=some o→pr o=true→pureOp o=false→lookOp o=true∧(∀ d,o.dst=some d→(AFr.at (F (i+1)) d).flat=true) ∧
  ∀ e,e≤ops.size→(∀ k q,k < e→ops[k]?=some q→fx k q=true→isBefore (Region.before ops) i k≠true)→(∀ k q,e≤k→ops[k]?=some q→fx k q=true→isBefore (Region.before ops) k i≠true)→∃ HE:AHeap,HE.next=(G e).next∧(∀ b q,HE.get b=some q→(G e).get b=some q)∧astep P gl call ops 0 o (F i) HE=some (F (i+1),HE)
variable {pr:Oper→Bool} {fx:Nat→Oper→Bool}
variable {F:Nat→AFr} {G:Nat→AHeap}
omit [Env] in
theorem Way.mono (h:Way P gl lim call ops pr fx F G) : ∀ {i j:Nat},i≤j→j≤ops.size→(G i).next≤(G j).next:=by
 intro i j hij
 induction j with
 | zero => intro _; have : i = 0 := by omega
           subst this; exact Nat.le_refl _
 | succ j ih =>
  intro hj
  by_cases e:i=j+1
  ·subst e; exact Nat.le_refl _
  ·exact Nat.le_trans (ih (by omega) (by omega)) (h.next j (by omega))
omit [Env] in
theorem Way.same (h:Way P gl lim call ops pr fx F G) {i j:Nat} (hij:i≤j) (hj:j≤ops.size) (hf:∀ k o,i≤k→k < j→ops[k]?=some o→fx k o=false) :
  ∀ b,b < (G i).next→(G j).get b=(G i).get b:=by
 induction j with
 | zero => intro b _; have : i = 0 := by omega
           subst this; rfl
 | succ j ih =>
  intro b hb
  by_cases e:i=j+1
  ·subst e; rfl
  ·have ho:ops[j]?=some ops[j]:=by simp [show j < ops.size by omega]
   rw [h.keep j _ ho (hf j _ (by omega) (by omega) ho) b (Nat.lt_of_lt_of_le hb (h.mono (by omega) (by omega)))]
   exact ih (by omega) (by omega) (fun k o h1 h2=>hf k o h1 (by omega)) b hb
omit [Env] in
theorem Way.at_same (h:Way P gl lim call ops pr fx F G) {i j:Nat} (hij:i≤j) (hj:j≤ops.size) {t:Nat} (hd:∀ k o,i≤k→k < j→ops[k]?=some o→o.dst≠some t) :
  AFr.at (F j) t=AFr.at (F i) t:=by
 induction j with
 | zero => have : i = 0 := by omega
           subst this; rfl
 | succ j ih =>
  by_cases e:i=j+1
  ·subst e; rfl
  ·have ho:ops[j]?=some ops[j]:=by simp [show j < ops.size by omega]
   obtain ⟨x,hx⟩:=astep_put (h.step j _ ho)
   rw [(put_at hx).2.1 t (hd j _ (by omega) (by omega) ho)]
   exact ih (by omega) (by omega) (fun k o h1 h2=>hd k o h1 (by omega))
omit [Env] in
theorem Way.n_same (h:Way P gl lim call ops pr fx F G) : ∀ {j:Nat},j≤ops.size→(F j).n=(F 0).n:=by
 intro j
 induction j with
 | zero=>intro _; rfl
 | succ j ih =>
  intro hj
  have ho:ops[j]?=some ops[j]:=by simp [show j < ops.size by omega]
  obtain ⟨x,hx⟩:=astep_put (h.step j _ ho)
  rw [(put_at hx).1,ih (by omega)]
omit [Dec] [Env] in
theorem draw_pair (h:drawOK ops (Region.before ops)=true) {i j:Nat} {x y:Oper} (hi:ops[i]?=some x) (hj:ops[j]?=some y) (hlt:i < j) :
  (∀ d,x.dst=some d→y.dst≠some d)∧(∀ d,x.dst=some d→d∈looks ops y→isBefore (Region.before ops) i j=true)∧(∀ d,y.dst=some d→d∈looks ops x→isBefore (Region.before ops) i j=true):=by
 unfold drawOK at h
 rw [List.all_eq_true] at h
 have h1:=h (y,j) (by rw [List.mem_zipIdx_iff_getElem?]; simpa using hj)
 simp only [Bool.and_eq_true,List.all_eq_true] at h1
 have h2:=h1.2 (x,i) (by rw [List.mem_zipIdx_iff_getElem?]; simpa using hi)
 simp only [Bool.or_eq_true,decide_eq_true_eq,Bool.and_eq_true] at h2
 rcases h2 with h2 | ⟨⟨h2,h3⟩,h4⟩
 ·omega
 ·refine ⟨fun d hd hd'=>?_,fun d hd hm=>?_,fun d hd hm=>?_⟩
  ·rw [hd,hd'] at h2; simp at h2
  ·rw [hd] at h3; simp only [Bool.or_eq_true,Bool.not_eq_true'] at h3
   rcases h3 with h3 | h3
   ·rw [List.contains_iff_mem.2 hm] at h3; cases h3
   ·exact h3
  ·rw [hd] at h4; simp only [Bool.or_eq_true,Bool.not_eq_true'] at h4
   rcases h4 with h4 | h4
   ·rw [List.contains_iff_mem.2 hm] at h4; cases h4
   ·exact h4
omit [Dec] [Env] in
theorem draw_edge (h:drawOK ops (Region.before ops)=true) {j:Nat} {y:Oper} (hj:ops[j]?=some y) : ∀ e∈y.after,Region.binds .any e=true→e.on < j:=by
 unfold drawOK at h
 rw [List.all_eq_true] at h
 have h1:=h (y,j) (by rw [List.mem_zipIdx_iff_getElem?]; simpa using hj)
 simp only [Bool.and_eq_true] at h1
 intro e he hb
 have:=Array.all_eq_true_iff_forall_mem.1 h1.1 e he
 simpa [hb] using this
omit [Dec] [Env] in
theorem fixed_spec {b:Array Nat} {j:Nat} {o:Oper} (h:fixedOp ops b j o=true) : pureOp o=false∧∀ i x,ops[i]?=some x→i≠j→pureOp x=false→(i < j→isBefore b i j=true)∧(j < i→isBefore b j i=true):=by
 unfold fixedOp at h
 simp only [Bool.and_eq_true,Bool.not_eq_true',List.all_eq_true] at h
 refine ⟨h.1,fun i x hi hne hp=>?_⟩
 have h2:=h.2 (x,i) (by rw [List.mem_zipIdx_iff_getElem?]; simpa using hi)
 simp only [Bool.or_eq_true,beq_iff_eq,hne,hp,Bool.false_eq_true,false_or,or_false] at h2
 by_cases hlt:i < j
 ·rw [if_pos hlt] at h2; exact ⟨fun _=>h2,fun h=>by omega⟩
 ·rw [if_neg hlt] at h2; exact ⟨fun h=>by omega,fun _=>h2⟩
structure J (P:Program) (lim:Nat) (ops:Array Oper) (pr:Oper→Bool) (fx:Nat→Oper→Bool) (F:Nat→AFr) (G:Nat→AHeap) (ρ0:Rho) (a0:Act) (w0:World) (listed:Array Bool) (c:Act) (w:World) (p e:Nat) (ρ:Rho) : Prop where
 pe:p≤e
 en:e≤ops.size
 lsize:listed.size=ops.size
 mem:∀ i o,i < p→ops[i]?=some o→pr o=false→isL listed i
 seg:∀ k o,p≤k→k < e→ops[k]?=some o→fx k o=false
 fix:∀ o,ops[e]?=some o→fx e o=true
 late:∀ k o,e≤k→ops[k]?=some o→fx k o=true→¬ isL listed k
 step:Step P lim ρ0 (G 0) w0 ρ (G e) w
 dom:∀ b r,ρ b=some r→b < (G p).next∨∃ i,isL listed i∧p≤i∧i < e∧(G i).next≤b∧b < (G (i+1)).next
 objs:∀ b o r,(G e).get b=some o→ρ b=some r→∃ C,w.heap[r.cb]?=some C∧((b < (G p).next∧OR P (ρ.upto (G p).next) r o C) ∨
  ∃ i,isL listed i∧p≤i∧i < e∧(G i).next≤b∧b < (G (i+1)).next∧OR P (ρ.upto (G (i+1)).next) r o C)
 closed:∀ i j,isL listed j→isBefore (Region.before ops) i j=true→isL listed i
 tsize:c.tmps.size=(F 0).n
 val:∀ i o d,ops[i]?=some o→isL listed i→o.dst=some d→VR (ρ.upto (G (i+1)).next) (AFr.at (F (i+1)) d) (c.tmps.getD d undef)
 rest:∀ t,(∀ i o,ops[i]?=some o→isL listed i→o.dst≠some t)→c.tmps.getD t undef=a0.tmps.getD t undef
 defers:c.defers=a0.defers
omit [Dec] [Env] in
theorem isL_set {listed:Array Bool} {j i:Nat} (hj:j < listed.size) : isL (listed.setIfInBounds j true) i↔i=j∨isL listed i:=by
 unfold isL
 by_cases e:i=j
 ·subst e; simp [Array.getD_eq_getD_getElem?,hj]
 ·simp only [Array.getD_eq_getD_getElem?,Array.getElem?_setIfInBounds_ne (Ne.symm e),e,false_or]
omit [Dec] [Env] in
theorem isL_lt {listed:Array Bool} {i:Nat} (h:isL listed i) : i < listed.size:=by
 unfold isL at h
 by_cases hi:i < listed.size
 ·exact hi
 ·simp [Array.getD_eq_getD_getElem?,Array.getElem?_eq_none (Nat.le_of_not_lt hi)] at h
variable {ρ0:Rho} {a0:Act} {w0:World} {listed:Array Bool} {c:Act} {w:World} {p e:Nat} {ρ:Rho}
theorem J.look (hJ:J P lim ops pr fx F G ρ0 a0 w0 listed c w p e ρ) (hW:Way P gl lim call ops pr fx F G) (hd:drawOK ops (Region.before ops)=true) (hf:FR ρ0 (F 0) a0.tmps) (hI0:Inv P ρ0 (G 0) w0)
  {j:Nat} {o:Oper} (ho:ops[j]?=some o) (hjn:¬ isL listed j) (hr:∀ i,isBefore (Region.before ops) i j=true→isL listed i) :
  ∀ t∈looks ops o,VR (ρ.upto (G j).next) (AFr.at (F j) t) (c.tmps.getD t undef):=by
 intro t ht
 have hjlt:j < ops.size:=(Array.getElem?_eq_some_iff.1 ho).1
 have first:(∀ i x,ops[i]?=some x→isL listed i→x.dst≠some t)→(∀ k x,k < j→ops[k]?=some x→x.dst≠some t)→VR (ρ.upto (G j).next) (AFr.at (F j) t) (c.tmps.getD t undef):=by
  intro h1 h2
  rw [hJ.rest t h1,hW.at_same (Nat.zero_le j) (by omega) (fun k x _ hk=>h2 k x hk)]
  refine (hf.2 t).mono ?_
  exact (upto_full hI0).trans (Rho.upto_mono hJ.step.ext (hW.mono (Nat.zero_le _) (by omega)))
 by_cases hex:∃ (i:Nat) (x:Oper),ops[i]?=some x∧x.dst=some t
 ·obtain ⟨i,x,hi,hx⟩:=hex
  have hilt:i < ops.size:=(Array.getElem?_eq_some_iff.1 hi).1
  have uniq:∀ k y,ops[k]?=some y→y.dst=some t→k=i:=by
   intro k y hk hy
   rcases Nat.lt_trichotomy k i with h | h | h
   ·exact absurd hx ((draw_pair hd hk hi h).1 t hy)
   ·exact h
   ·exact absurd hy ((draw_pair hd hi hk h).1 t hx)
  by_cases hij:i < j
  ·have hb:=(draw_pair hd hi ho hij).2.1 t hx ht
   have hL:=hr i hb
   have hv:=hJ.val i x t hi hL hx
   rw [hW.at_same (i:=i+1) (j:=j) (by omega) (by omega) (fun k y h1 h2 hk e=>by have:=uniq k y hk e; omega)]
   exact hv.mono (Rho.upto_mono (Ext.refl _) (hW.mono (by omega) (by omega)))
  ·have hnl:¬ isL listed i:=by
    by_cases e:i=j
    ·subst e; exact hjn
    ·intro hL
     have hb:=(draw_pair hd ho hi (by omega)).2.2 t hx ht
     exact hjn (hJ.closed j i hL hb)
   refine first (fun k y hk hL e=>hnl ((uniq k y hk e) ▸ hL)) (fun k y h1 hk e=>by have:=uniq k y hk e; omega)
 ·exact first (fun i x hi _ e=>hex ⟨i,x,hi,e⟩) (fun i x _ hi e=>hex ⟨i,x,hi,e⟩)
omit [Env] in
theorem astep_pure {o:Oper} {fr fr':AFr} {H H' H2:AHeap} {lim1 lim2:Nat} (hp:pureOp o=true) (h:astep P gl call ops lim1 o fr H=some (fr',H')) : astep P gl call ops lim2 o fr H2=some (fr',H2):=by
 unfold astep at h ⊢
 split at h
 ·split at h
  ·rename_i v H1 ho
   obtain ⟨v',he,h2⟩:=aop_pure_heap (lim':=lim2) (H2:=H2) hp ho
   injection he with e1 e2; subst e1
   rw [h2]
   dsimp only
   split at h
   ·rename_i hq
    simp only [Option.some.injEq,Prod.mk.injEq] at h
    rw [h.1]
   ·cases h
  ·rename_i H1 ho
   obtain ⟨v',he,h2⟩:=aop_pure_heap (lim':=lim2) (H2:=H2) hp ho
   cases he
  ·rename_i f args H1 ho
   obtain ⟨v',he,h2⟩:=aop_pure_heap (lim':=lim2) (H2:=H2) hp ho
   cases he
  ·cases h
 ·split at h
  ·simp only [Option.some.injEq,Prod.mk.injEq] at h
   rw [h.1]
  ·cases h
theorem J.put (hJ:J P lim ops pr fx F G ρ0 a0 w0 listed c w p e ρ) (hd:drawOK ops (Region.before ops)=true) {j:Nat} {o:Oper} (ho:ops[j]?=some o) (hjn:¬ isL listed j) {ρ':Rho} (hext:Ext ρ ρ') {v:Value} {x:AV}
  (hr:∀ i,isBefore (Region.before ops) i j=true→isL listed i) (hx:AFr.put (F j) o.dst x=some (F (j+1))) (hv:VR (ρ'.upto (G (j+1)).next) x v) (hn:(F j).n=(F 0).n) :
  (∀ i k,isL (listed.setIfInBounds j true) k→isBefore (Region.before ops) i k=true→isL (listed.setIfInBounds j true) i) ∧
  (c.put o.dst v).tmps.size=(F 0).n ∧
  (∀ i q d,ops[i]?=some q→isL (listed.setIfInBounds j true) i→q.dst=some d→VR (ρ'.upto (G (i+1)).next) (AFr.at (F (i+1)) d) ((c.put o.dst v).tmps.getD d undef)) ∧
  (∀ t,(∀ i q,ops[i]?=some q→isL (listed.setIfInBounds j true) i→q.dst≠some t)→(c.put o.dst v).tmps.getD t undef=a0.tmps.getD t undef)∧(c.put o.dst v).defers=a0.defers:=by
 have hjlt:j < ops.size:=(Array.getElem?_eq_some_iff.1 ho).1
 have hL:∀ i,isL (listed.setIfInBounds j true) i↔i=j∨isL listed i:=fun i=>isL_set (by rw [hJ.lsize]; exact hjlt)
 obtain ⟨p1,p2,p3⟩:=put_at hx
 have get:∀ t,(c.put o.dst v).tmps.getD t undef=if o.dst=some t∧t < c.tmps.size then v else c.tmps.getD t undef:=by
  intro t
  cases hdst:o.dst with
  | none=>simp [Act.put]
  | some d =>
   simp only [Act.put,Array.getD_eq_getD_getElem?,Option.some.injEq]
   by_cases e:d=t
   ·subst e
    by_cases hs:d < c.tmps.size
    ·rw [if_pos ⟨rfl,hs⟩,Array.getElem?_setIfInBounds_self_of_lt hs]; rfl
    ·rw [if_neg (fun h=>hs h.2),Array.getElem?_eq_none (by simpa using Nat.le_of_not_lt hs),Array.getElem?_eq_none (Nat.le_of_not_lt hs)]
   ·rw [if_neg (fun h=>e h.1),Array.getElem?_setIfInBounds_ne e]
 refine ⟨fun i k hk hb=>?_,?_,fun i q d hq hi hd'=>?_,fun t ht=>?_,?_⟩
 ·rw [hL] at hk ⊢
  rcases hk with rfl | hk
  ·exact .inr (hr i hb)
  ·exact .inr (hJ.closed i k hk hb)
 ·rw [← hJ.tsize]; cases o.dst <;> simp [Act.put]
 ·rw [hL] at hi
  rcases hi with rfl | hi
  ·rw [ho] at hq; injection hq with hq; subst hq
   obtain ⟨e1,e2⟩:=p3 d hd'
   rw [e1,get,if_pos ⟨hd',by rw [hJ.tsize,← hn]; exact e2⟩]
   exact hv
  ·have hne:o.dst≠some d:=by
    have hij:i≠j:=fun e=>hjn (e ▸ hi)
    rcases Nat.lt_or_gt_of_ne hij with h | h
    ·exact (draw_pair hd hq ho h).1 d hd'
    ·exact fun e=>(draw_pair hd ho hq h).1 d e hd'
   rw [get,if_neg (fun h=>hne h.1)]
   exact (hJ.val i q d hq hi hd').mono (Rho.upto_mono hext (Nat.le_refl _))
 ·have hne:o.dst≠some t:=ht j o ho ((hL j).2 (.inl rfl))
  rw [get,if_neg (fun h=>hne h.1)]
  exact hJ.rest t fun i q hq hi=>ht i q hq ((hL i).2 (.inr hi))
 ·rw [← hJ.defers]; cases o.dst <;> rfl
omit [Dec] [Env] in
theorem next_fixed (ops:Array Oper) (fx:Nat→Oper→Bool) : ∀ (m i:Nat),i+m=ops.size→∃ e,i≤e∧e≤ops.size∧(∀ k o,i≤k→k < e→ops[k]?=some o→fx k o=false)∧(∀ o,ops[e]?=some o→fx e o=true)
 | 0,i,h=>⟨i,Nat.le_refl _,by omega,fun k o h1 h2=>by omega,fun o ho=>by
   have:=(Array.getElem?_eq_some_iff.1 ho).1; omega⟩
 | m+1,i,h=>by
  have ho:ops[i]?=some ops[i]:=by simp [show i < ops.size by omega]
  cases hf:fx i ops[i] with
  | true=>exact ⟨i,Nat.le_refl _,by omega,fun k o h1 h2=>by omega,fun o h'=>by rw [ho] at h'; injection h' with h'; rw [← h']; exact hf⟩
  | false =>
   obtain ⟨e,h1,h2,h3,h4⟩:=next_fixed ops fx m (i+1) (by omega)
   refine ⟨e,by omega,h2,fun k o hk1 hk2 hk=>?_,h4⟩
   by_cases ek:k=i
   ·subst ek; rw [ho] at hk; injection hk with hk; rw [← hk]; exact hf
   ·exact h3 k o (by omega) hk2 hk
mutual
theorem VR.flat {ρ:Rho} (ρ':Rho) : ∀ {x:AV} {v:Value},VR ρ x v→x.flat=true→VR ρ' x v
 | _,_,.bool b,_=>.bool b
 | _,_,.int k n,_=>.int k n
 | _,_,.sint k e,_=>.sint k e
 | _,_,.str s l h,_=>.str s l h
 | _,_,.nilptr,_=>.nilptr
 | _,_,.ptr ..,h=>by simp [AV.flat] at h
 | _,_,.nilsl,_=>.nilsl
 | _,_,.sl ..,h=>by simp [AV.flat] at h
 | _,_,.sl0 ..,h=>by simp [AV.flat] at h
 | _,_,.map ..,h=>by simp [AV.flat] at h
 | _,_,.nilmap,_=>.nilmap
 | _,_,.fn ..,h=>by simp [AV.flat] at h
 | _,_,.nilfn,_=>.nilfn
 | _,_,.iface t a v h,k=>.iface t a v (VR.flat ρ' h (by simpa [AV.flat] using k))
 | _,_,.nilif,_=>.nilif
 | _,_,.agg cs vs h,k=>.agg cs vs (VRs.flat ρ' h (by simpa [AV.flat] using k))
 | _,_,.tup cs vs h,k=>.tup cs vs (VRs.flat ρ' h (by simpa [AV.flat] using k))
theorem VRs.flat {ρ:Rho} (ρ':Rho) : ∀ {xs:List AV} {vs:List Value},VRs ρ xs vs→AV.flats xs=true→VRs ρ' xs vs
 | _,_,.nil,_=>.nil
 | _,_,.cons a v as vs h t,k=>by
  unfold AV.flats at k
  split at k
  ·rename_i ha; exact .cons a v as vs (VR.flat ρ' h ha) (VRs.flat ρ' t k)
  ·cases k
end
theorem J.next (hJ:J P lim ops pr fx F G ρ0 a0 w0 listed c w p e ρ) (hW:Way P gl lim call ops pr fx F G) (hcall:CallOK P gl call) (hns:noSel ops=true) (hd:drawOK ops (Region.before ops)=true) (hf:FR ρ0 (F 0) a0.tmps)
  (hI0:Inv P ρ0 (G 0) w0) (hg:GOK ρ0 gl) {j:Nat} {o:Oper} (ho:ops[j]?=some o) (hjn:¬ isL listed j) (hr:∀ i,isBefore (Region.before ops) i j=true→isL listed i) {K:Act→World→Prop} {Q:Exit→Act→World→Prop}
  (hK:∀ p' e' ρ' c' w',J P lim ops pr fx F G ρ0 a0 w0 (listed.setIfInBounds j true) c' w' p' e' ρ'→K c' w') : wpOp P ops Q j K c w:=by
 have hjlt:j < ops.size:=(Array.getElem?_eq_some_iff.1 ho).1
 have hL:∀ i,isL (listed.setIfInBounds j true) i↔i=j∨isL listed i:=fun i=>isL_set (by rw [hJ.lsize]; exact hjlt)
 have hlook:=hJ.look hW hd hf hI0 ho hjn hr
 have hsz:c.tmps.size=(F j).n:=by rw [hJ.tsize]; exact (hW.n_same (by omega)).symm
 have hn:=hW.n_same (j:=j) (by omega)
 have hbase:(G 0).next≤(G j).next:=hW.mono (Nat.zero_le _) (by omega)
 have hstep:=hW.step j o ho
 have hgρ:GOK (ρ.upto (G j).next) gl:=(hg.mono (upto_full hI0)).mono (Rho.upto_mono hJ.step.ext hbase)
 cases hpr0:pr o with
 | true =>
  have hGj:=hW.pure j o ho hpr0
  have fin:∀ (v:Value) (x:AV),AFr.put (F j) o.dst x=some (F (j+1))→VR (ρ.upto (G (j+1)).next) x v→K (c.put o.dst v) w:=by
   intro v x hx hv
   obtain ⟨q1,q2,q3,q4,q5⟩:=hJ.put hd ho hjn (Ext.refl ρ) hr hx (v:=v) hv hn
   refine hK p e ρ _ _ ⟨hJ.pe,hJ.en,by simp [hJ.lsize],fun i q hi hq hp=>(hL i).2 (.inr (hJ.mem i q hi hq hp)),hJ.seg,hJ.fix,fun k q hk hq hfx hl=>?_,hJ.step,fun b r hb=>?_,fun b q r hb hrb=>?_,q1,q2,q3,q4,q5⟩
   ·rcases (hL k).1 hl with rfl | hl
    ·rw [ho] at hq; injection hq with hq; subst hq
     rw [(hW.spec _ _ ho hfx).1] at hpr0; cases hpr0
    ·exact hJ.late k q hk hq hfx hl
   ·rcases hJ.dom b r hb with h | ⟨i,h1,h2⟩
    ·exact .inl h
    ·exact .inr ⟨i,(hL i).2 (.inr h1),h2⟩
   ·obtain ⟨C,hC,h⟩:=hJ.objs b q r hb hrb
    refine ⟨C,hC,h.imp id ?_⟩
    rintro ⟨i,h1,h2⟩
    exact ⟨i,(hL i).2 (.inr h1),h2⟩
  cases hpure:pureOp o with
  | false =>
   obtain ⟨hlk,hflat,hcalm⟩:=hW.calm j o ho hpr0 hpure
   obtain ⟨HE,hn1,hsub,hst0⟩:=hcalm e hJ.en (fun k q hk hq hfx hb=>by
     by_cases hp:p≤k
     ·have:=hJ.seg k q hp hk hq
      rw [hfx] at this; cases this
     ·exact hjn (hJ.closed j k (hJ.mem k q (by omega) hq (hW.spec k q hq hfx).1) hb)) (fun k q hk hq hfx hb=>hJ.late k q hk hq hfx (hr k hb))
   have hIE:Inv P ρ HE w:={
    obj:=fun b q r hb hrb=>hJ.step.inv.obj b q r (hsub b q hb) hrb
    inj:=fun b d q q' r s hb hq hrb hs eq=>hJ.step.inv.inj b d q q' r s (hsub b q hb) (hsub d q' hq) hrb hs eq
    fresh:=fun b hb=>hJ.step.inv.fresh b (by omega)
    lt:=fun b r hrb=>hJ.step.inv.lt b r hrb }
   refine local_wp hcall hns ho hst0 hIE hsz (fun t ht=>(hlook t ht).mono (Rho.upto_ext _ _)) (hg.mono hJ.step.ext) (Nat.zero_le _) fun ρ' v x w' hx hv hst hpr=>?_
   obtain ⟨e1,e2⟩:=hpr hlk
   subst e1; subst e2
   cases hdst:o.dst with
   | none =>
    have:=fin undef aundef (by rw [hdst] at hx ⊢; exact hx) (vr_undef _)
    rw [hdst] at this
    exact this
   | some d =>
    have hxd:=(put_at hx).2.2 d hdst
    have hfl:=hflat d hdst
    rw [hxd.1] at hfl
    have:=fin v x hx (hv.flat _ hfl)
    rw [hdst] at this
    exact this
  | true =>
  let HE:AHeap:=⟨(G j).next,.leaf⟩
  have hIE:Inv P (ρ.upto (G j).next) HE w:={
   obj:=fun b o r hb=>by simp [HE,AHeap.get,T.get_leaf] at hb
   inj:=fun b c o p r s hb=>by simp [HE,AHeap.get,T.get_leaf] at hb
   fresh:=fun b hb=>by unfold Rho.upto; rw [if_neg (by simpa [HE] using hb)]
   lt:=fun b r hr=>hJ.step.inv.lt b r (Rho.upto_some hr).2 }
  refine local_wp hcall hns ho (astep_pure (lim2:=0) (H2:=HE) hpure hstep) hIE hsz hlook hgρ (Nat.zero_le _) fun ρ' v x w' hx hv hst hpr=>?_
  obtain ⟨e1,e2⟩:=hpr (by unfold lookOp; rw [hpure]; rfl)
  subst e1; subst e2
  exact fin v x hx (by rw [hGj]; exact hv)
 | false =>
  have hpj:p≤j:=by
   by_cases h:p≤j
   ·exact h
   ·exact absurd (hJ.mem j o (by omega) ho hpr0) hjn
  have hje:j≤e:=by
   by_cases h:j≤e
   ·exact h
   ·have hoe:ops[e]?=some ops[e]:=by simp [show e < ops.size by omega]
    have hfe:=hJ.fix _ hoe
    have hb:=((hW.spec _ _ hoe hfe).2 j o ho (by omega) hpr0).2 (by omega)
    exact absurd (hr e hb) (hJ.late e _ (Nat.le_refl _) hoe hfe)
  by_cases hlt:j < e
  ·
   have hnf:fx j o=false:=hJ.seg j o hpj hlt ho
   rw [hnf,if_neg (by simp)] at hstep
   have sameJ:∀ b,b < (G j).next→(G e).get b=(G j).get b:=hW.same hje hJ.en fun k q h1 h2 hq=>hJ.seg k q (by omega) h2 hq
   have sameJ1:∀ b,b < (G (j+1)).next→(G e).get b=(G (j+1)).get b:=hW.same hlt hJ.en fun k q h1 h2 hq=>hJ.seg k q (by omega) h2 hq
   have hnext:(G j).next≤(G e).next:=hW.mono hje hJ.en
   have hnext1:(G (j+1)).next≤(G e).next:=hW.mono hlt hJ.en
   have hnextj:(G j).next≤(G (j+1)).next:=hW.next j hjlt
   have hpn:(G p).next≤(G j).next:=hW.mono hpj (by omega)
   have hIj:Inv P (ρ.upto (G j).next) (G j) w:={
    obj:=fun b q r hb hrb=>by
     obtain ⟨hbl,hrb⟩:=Rho.upto_some hrb
     obtain ⟨C,hC,h⟩:=hJ.objs b q r (by rw [sameJ b hbl]; exact hb) hrb
     refine ⟨C,hC,?_⟩
     rcases h with ⟨-,h⟩ | ⟨i,h1,h2,h3,h4,h5,h⟩
     ·exact h.mono (Rho.upto_mono (Ext.refl _) hpn)
     ·have hij:i < j:=by
       by_cases hh:i < j
       ·exact hh
       ·have:=hW.mono (i:=j) (j:=i) (by omega) (by have:=hJ.en; omega); omega
      exact h.mono (Rho.upto_mono (Ext.refl _) (hW.mono hij (by omega)))
    inj:=fun b d q q' r s hb hq hrb hs eq=>by
     obtain ⟨h1,hrb⟩:=Rho.upto_some hrb
     obtain ⟨h2,hs⟩:=Rho.upto_some hs
     exact hJ.step.inv.inj b d q q' r s (by rw [sameJ b h1]; exact hb) (by rw [sameJ d h2]; exact hq) hrb hs eq
    fresh:=fun b hb=>by unfold Rho.upto; rw [if_neg (by omega)]
    lt:=fun b r hrb=>hJ.step.inv.lt b r (Rho.upto_some hrb).2 }
   refine local_wp hcall hns ho hstep hIj hsz hlook hgρ (Nat.le_refl _) fun ρ'' v x w' hx hv hst _=>?_
   have hnone:∀ b,(G j).next≤b→b < (G (j+1)).next→ρ b=none:=by
    intro b h1 h2
    cases hb:ρ b with
    | none=>rfl
    | some r =>
     exfalso
     rcases hJ.dom b r hb with h | ⟨i,hi,h3,h4,h5,h6⟩
     ·omega
     ·rcases Nat.lt_trichotomy i j with h | h | h
      ·have:=hW.mono (i:=i+1) (j:=j) (by omega) (by omega); omega
      ·subst h; exact hjn hi
      ·have:=hW.mono (i:=j+1) (j:=i) (by omega) (by have:=hJ.en; omega); omega
   let ρn:Rho:=fun b=>match ρ b with | some r=>some r | none=>ρ'' b
   have e1:Ext ρ ρn:=fun b r hb=>by show (match ρ b with | some r=>some r | none=>ρ'' b)=some r; rw [hb]
   have cases'':∀ b r,ρ'' b=some r→b < (G (j+1)).next∧(b < (G j).next→ρ b=some r):=by
    intro b r hb
    have hlt1:b < (G (j+1)).next:=by
     by_cases h:b < (G (j+1)).next
     ·exact h
     ·rw [hst.inv.fresh b (by omega)] at hb; cases hb
    refine ⟨hlt1,fun h=>?_⟩
    rw [hst.old b h] at hb
    exact (Rho.upto_some hb).2
   have e2:Ext ρ'' (ρn.upto (G (j+1)).next):=fun b r hb=>by
    obtain ⟨h1,h2⟩:=cases'' b r hb
    unfold Rho.upto
    rw [if_pos h1]
    show (match ρ b with | some r=>some r | none=>ρ'' b)=some r
    by_cases h:b < (G j).next
    ·rw [h2 h]
    ·rw [hnone b (by omega) h1]; exact hb
   have ρn_cases:∀ b r,ρn b=some r→ρ b=some r∨(ρ b=none∧ρ'' b=some r∧(G j).next≤b∧b < (G (j+1)).next):=by
    intro b r hb
    have hb':(match ρ b with | some r=>some r | none=>ρ'' b)=some r:=hb
    cases hq:ρ b with
    | some r'=>rw [hq] at hb'; exact .inl hb'
    | none =>
     rw [hq] at hb'
     obtain ⟨h1,h2⟩:=cases'' b r hb'
     refine .inr ⟨rfl,hb',?_,h1⟩
     by_cases h:b < (G j).next
     ·rw [h2 h] at hq; cases hq
     ·omega
   have oldw:∀ k,k < w.heap.size→w'.heap[k]?=w.heap[k]?:=fun k hk=>hst.frame k hk fun b q r hb _ hrb=>by
    have:=(Rho.upto_some hrb).1; omega
   have newcb:∀ b q r,(G j).next≤b→(G (j+1)).get b=some q→ρ'' b=some r→w.heap.size≤r.cb:=by
    intro b q r h1 h2 h3
    by_cases h:r.cb < w.heap.size
    ·obtain ⟨d,q',s,h4,-,h5,-⟩:=hst.img b q r h1 h2 h3 h
     have:=(Rho.upto_some h5).1; omega
    ·omega
   have hobjs:∀ b q r,(G e).get b=some q→ρn b=some r→∃ C,w'.heap[r.cb]?=some C∧((b < (G p).next∧OR P (ρn.upto (G p).next) r q C) ∨
     ∃ i,isL (listed.setIfInBounds j true) i∧p≤i∧i < e∧(G i).next≤b∧b < (G (i+1)).next∧OR P (ρn.upto (G (i+1)).next) r q C):=by
    intro b q r hb hrb
    rcases ρn_cases b r hrb with h | ⟨-,h,h1,h2⟩
    ·obtain ⟨C,hC,hh⟩:=hJ.objs b q r hb h
     refine ⟨C,by rw [oldw _ (hJ.step.inv.lt b r h)]; exact hC,?_⟩
     rcases hh with ⟨h1,h2⟩ | ⟨i,h1,h2,h3,h4,h5,h6⟩
     ·exact .inl ⟨h1,h2.mono (Rho.upto_mono e1 (Nat.le_refl _))⟩
     ·exact .inr ⟨i,(hL i).2 (.inr h1),h2,h3,h4,h5,h6.mono (Rho.upto_mono e1 (Nat.le_refl _))⟩
    ·obtain ⟨C,hC,hO⟩:=hst.inv.obj b q r (by rw [← sameJ1 b h2]; exact hb) h
     exact ⟨C,hC,.inr ⟨j,(hL j).2 (.inl rfl),hpj,hlt,h1,h2,hO.mono e2⟩⟩
   have hInvn:Inv P ρn (G e) w':={
    obj:=fun b q r hb hrb=>by
     obtain ⟨C,hC,h⟩:=hobjs b q r hb hrb
     refine ⟨C,hC,?_⟩
     rcases h with ⟨-,h⟩ | ⟨i,-,-,-,-,-,h⟩
     ·exact h.mono (Rho.upto_ext _ _)
     ·exact h.mono (Rho.upto_ext _ _)
    inj:=fun b d q q' r s hb hq hrb hs eq=>by
     rcases ρn_cases b r hrb with h | ⟨-,h,h1,h2⟩ <;> rcases ρn_cases d s hs with k | ⟨-,k,k1,k2⟩
     ·exact hJ.step.inv.inj b d q q' r s hb hq h k eq
     ·have:=hJ.step.inv.lt b r h
      have:=newcb d q' s k1 (by rw [← sameJ1 d k2]; exact hq) k
      omega
     ·have:=hJ.step.inv.lt d s k
      have:=newcb b q r h1 (by rw [← sameJ1 b h2]; exact hb) h
      omega
     ·exact hst.inv.inj b d q q' r s (by rw [← sameJ1 b h2]; exact hb) (by rw [← sameJ1 d k2]; exact hq) h k eq
    fresh:=fun b hb=>by
     show (match ρ b with | some r=>some r | none=>ρ'' b)=none
     rw [hJ.step.inv.fresh b hb]
     exact hst.inv.fresh b (by omega)
    lt:=fun b r hrb=>by
     rcases ρn_cases b r hrb with h | ⟨-,h,-,-⟩
     ·exact Nat.lt_of_lt_of_le (hJ.step.inv.lt b r h) hst.size
     ·exact hst.inv.lt b r h }
   have hsn:Step P lim ρ0 (G 0) w0 ρn (G e) w':={
    ext:=hJ.step.ext.trans e1
    old:=fun b hb=>by
     show (match ρ b with | some r=>some r | none=>ρ'' b)=ρ0 b
     have:=hJ.step.old b hb
     cases hq:ρ b with
     | some r=>rw [← this,hq]
     | none =>
      rw [← this,hq]
      cases hq2:ρ'' b with
      | none=>rfl
      | some r=>have:=(cases'' b r hq2).2 (by omega); rw [hq] at this; cases this
    next:=hJ.step.next
    inv:=hInvn
    keep:=hJ.step.keep
    live:=hJ.step.live
    size:=Nat.le_trans hJ.step.size hst.size
    os:=hst.os.trans hJ.step.os
    tape:=hst.tape.trans hJ.step.tape
    output:=hst.output.trans hJ.step.output
    frame:=fun k hk hh=>by
     rw [oldw k (Nat.lt_of_lt_of_le hk hJ.step.size)]
     exact hJ.step.frame k hk hh
    img:=fun b q r hb hq hrb hs=>by
     rcases ρn_cases b r hrb with h | ⟨-,h,h1,h2⟩
     ·exact hJ.step.img b q r hb hq h hs
     ·have:=newcb b q r h1 (by rw [← sameJ1 b h2]; exact hq) h
      have:=hJ.step.size
      omega }
   obtain ⟨q1,q2,q3,q4,q5⟩:=hJ.put hd ho hjn e1 hr hx (v:=v) (hv.mono e2) hn
   refine hK p e ρn _ _ ⟨hJ.pe,hJ.en,by simp [hJ.lsize],fun i q hi hq hp=>(hL i).2 (.inr (hJ.mem i q hi hq hp)),hJ.seg,hJ.fix,fun k q hk hq hfx hl=>?_,hsn,fun b r hb=>?_,hobjs,q1,q2,q3,q4,q5⟩
   ·rcases (hL k).1 hl with rfl | hl
    ·omega
    ·exact hJ.late k q hk hq hfx hl
   ·rcases ρn_cases b r hb with h | ⟨-,-,h1,h2⟩
    ·rcases hJ.dom b r h with h | ⟨i,h1,h2⟩
     ·exact .inl h
     ·exact .inr ⟨i,(hL i).2 (.inr h1),h2⟩
    ·exact .inr ⟨j,(hL j).2 (.inl rfl),hpj,hlt,h1,h2⟩
  ·
   have hej:e=j:=by omega
   subst hej
   have hfx:=hJ.fix o ho
   rw [if_pos hfx] at hstep
   have hlim:lim≤(G e).next:=Nat.le_trans hW.lim hbase
   refine local_wp hcall hns ho hstep hJ.step.inv hsz (fun t ht=>(hlook t ht).mono (Rho.upto_ext _ _)) (hg.mono hJ.step.ext) hlim fun ρ'' v x w' hx hv hst _=>?_
   obtain ⟨e',h1,h2,h3,h4⟩:=next_fixed ops fx (ops.size - (e+1)) (e+1) (by omega)
   have same:=hW.same h1 h2 h3
   obtain ⟨q1,q2,q3,q4,q5⟩:=hJ.put hd ho hjn hst.ext hr hx (v:=v) (hv.mono (upto_full hst.inv)) hn
   have hlt1:∀ b r,ρ'' b=some r→b < (G (e+1)).next:=fun b r hb=>by
    by_cases h:b < (G (e+1)).next
    ·exact h
    ·rw [hst.inv.fresh b (by omega)] at hb; cases hb
   refine hK (e+1) e' ρ'' _ _ ⟨h1,h2,by simp [hJ.lsize],fun i q hi hq hp=>?_,h3,h4,fun k q hk hq hfk hl=>?_,(hJ.step.trans hst).heap same (hW.mono h1 h2) hW.lim,fun b r hb=>.inl (hlt1 b r hb),fun b q r hb hrb=>?_,q1,q2,q3,q4,q5⟩
   ·by_cases hie:i=e
    ·exact (hL i).2 (.inl hie)
    ·exact (hL i).2 (.inr (hr i (((hW.spec _ _ ho hfx).2 i q hq hie hp).1 (by omega))))
   ·rcases (hL k).1 hl with rfl | hl
    ·omega
    ·exact hJ.late k q (by omega) hq hfk hl
   ·have hbl:=hlt1 b r hrb
    obtain ⟨C,hC,hO⟩:=hst.inv.obj b q r (by rw [← same b hbl]; exact hb) hrb
    exact ⟨C,hC,.inl ⟨hbl,hO.mono (upto_full hst.inv)⟩⟩
omit [Dec] [Env] in
theorem ready_before {j:Nat} (hd:drawOK ops (Region.before ops)=true) (hcl:∀ i k,isL listed k→isBefore (Region.before ops) i k=true→isL listed i) (hj:j∈Region.ready .any ops listed) :
  ∃ o,ops[j]?=some o∧¬ isL listed j∧∀ i,isBefore (Region.before ops) i j=true→isL listed i:=by
 obtain ⟨h0,o,ho,hall⟩:=mem_ready.1 hj
 refine ⟨o,ho,?_,fun i hi=>?_⟩
 ·intro hl
  have:=isL_lt hl
  unfold isL at hl
  simp [Array.getD_eq_getD_getElem?,this] at h0 hl
  rw [h0] at hl; cases hl
 ·obtain ⟨e,he,hb,hon⟩:=(before_spec ops).2 j o i ho hi (draw_edge hd ho)
  have hl:isL listed e.on:=hall e he hb
  rcases hon with rfl | hon
  ·exact hl
  ·exact hcl i e.on hl hon
theorem any_of_J (hW:Way P gl lim call ops pr fx F G) (hcall:CallOK P gl call) (hns:noSel ops=true) (hd:drawOK ops (Region.before ops)=true) (hf:FR ρ0 (F 0) a0.tmps) (hI0:Inv P ρ0 (G 0) w0) (hg:GOK ρ0 gl)
  {Q:Exit→Act→World→Prop} (hQ:∀ ρ' a' w',Step P lim ρ0 (G 0) w0 ρ' (G ops.size) w'→FR ρ' (F ops.size) a'.tmps→a'.defers=a0.defers→Q .normal a' w') :
  ∀ (fuel:Nat) (listed:Array Bool) (c:Act) (w:World) (p e:Nat) (ρ:Rho),J P lim ops pr fx F G ρ0 a0 w0 listed c w p e ρ→listed.toList.count false=fuel→wpAny P .any ops Q fuel listed c w:=by
 intro fuel
 induction fuel with
 | zero =>
  intro listed c w p e ρ hJ hc
  have hall:∀ i,i < ops.size→isL listed i:=by
   intro i hi
   unfold isL
   have hi':i < listed.size:=by rw [hJ.lsize]; exact hi
   have hm:¬ false∈listed.toList:=List.count_eq_zero.1 hc
   have:listed[i]∈listed.toList:=by simp
   simp only [Array.getD_eq_getD_getElem?,Array.getElem?_eq_getElem hi',Option.getD_some]
   cases hq:listed[i] with
   | true=>rfl
   | false=>rw [hq] at this; exact absurd this hm
  refine ⟨?_,?_⟩
  ·rw [List.eq_nil_iff_forall_not_mem]
   intro j hj
   obtain ⟨o,ho,hnl,-⟩:=ready_before hd hJ.closed hj
   exact hnl (hall j (Array.getElem?_eq_some_iff.1 ho).1)
  ·have hen:e=ops.size:=by
    have:=hJ.en
    by_cases h:e=ops.size
    ·exact h
    ·have hoe:ops[e]?=some ops[e]:=by simp [show e < ops.size by omega]
     exact absurd (hall e (by omega)) (hJ.late e _ (Nat.le_refl _) hoe (hJ.fix _ hoe))
   have hs:=hJ.step
   rw [hen] at hs
   refine hQ ρ c w hs ⟨by rw [hJ.tsize]; exact (hW.n_same (Nat.le_refl _)).symm,fun t=>?_⟩ hJ.defers
   by_cases hex:∃ (i:Nat) (x:Oper),ops[i]?=some x∧x.dst=some t
   ·obtain ⟨i,x,hi,hx⟩:=hex
    have hilt:i < ops.size:=(Array.getElem?_eq_some_iff.1 hi).1
    have uniq:∀ k y,ops[k]?=some y→y.dst=some t→k=i:=by
     intro k y hk hy
     rcases Nat.lt_trichotomy k i with h | h | h
     ·exact absurd hx ((draw_pair hd hk hi h).1 t hy)
     ·exact h
     ·exact absurd hy ((draw_pair hd hi hk h).1 t hx)
    rw [hW.at_same (i:=i+1) (j:=ops.size) (by omega) (Nat.le_refl _) (fun k y h1 h2 hk e=>by have:=uniq k y hk e; omega)]
    exact (hJ.val i x t hi (hall i hilt) hx).mono (Rho.upto_ext _ _)
   ·rw [hJ.rest t (fun i x hi _ e=>hex ⟨i,x,hi,e⟩),hW.at_same (Nat.zero_le _) (Nat.le_refl _) (fun i x _ _ hi e=>hex ⟨i,x,hi,e⟩)]
    exact (hf.2 t).mono hs.ext
 | succ fuel ih =>
  intro listed c w p e ρ hJ hc
  refine ⟨fun hnil=>?_,fun j hj=>?_⟩
  ·exfalso
   have hex:∃ i,i < listed.size∧listed.getD i true=false:=by
    have hm:false∈listed.toList:=List.count_pos_iff.1 (by omega)
    obtain ⟨i,hi,he⟩:=List.getElem_of_mem hm
    have hi':i < listed.size:=by simpa using hi
    refine ⟨i,hi',?_⟩
    simp only [Array.getD_eq_getD_getElem?,Array.getElem?_eq_getElem hi',Option.getD_some]
    simpa using he
   obtain ⟨i,hi⟩:=hex
   have least:∀ m,(∃ i,i < m∧i < listed.size∧listed.getD i true=false)→∃ i,i < listed.size∧listed.getD i true=false∧∀ k,k < i→isL listed k:=by
    intro m
    induction m with
    | zero=>rintro ⟨i,h,-⟩; omega
    | succ m ihm =>
     rintro ⟨i,h1,h2,h3⟩
     by_cases hl:∃ k,k < m∧k < listed.size∧listed.getD k true=false
     ·exact ihm hl
     ·refine ⟨i,h2,h3,fun k hk=>?_⟩
      have hks:k < listed.size:=by omega
      unfold isL
      cases hq:listed.getD k false with
      | true=>rfl
      | false =>
       exfalso
       refine hl ⟨k,by omega,hks,?_⟩
       simp only [Array.getD_eq_getD_getElem?,Array.getElem?_eq_getElem hks,Option.getD_some] at hq ⊢
       exact hq
   obtain ⟨i,h1,h2,h3⟩:=least (i+1) ⟨i,by omega,hi.1,hi.2⟩
   have hio:ops[i]?=some (ops[i]'(by rw [← hJ.lsize]; exact h1)):=by simp
   have:i∈Region.ready .any ops listed:=mem_ready.2 ⟨h2,_,hio,fun e he hb=>h3 e.on (draw_edge hd hio e he hb)⟩
   rw [hnil] at this; cases this
  ·obtain ⟨o,ho,hnl,hr⟩:=ready_before hd hJ.closed hj
   refine hJ.next hW hcall hns hd hf hI0 hg ho hnl hr fun p' e' ρ' c' w' hJ'=>ih _ _ _ _ _ _ hJ' ?_
   have hjl:j < listed.size:=by rw [hJ.lsize]; exact (Array.getElem?_eq_some_iff.1 ho).1
   rw [Array.toList_setIfInBounds,List.count_set (by simpa using hjl)]
   have hq:listed.toList[j]'(by simpa using hjl)=false:=by
    unfold isL at hnl
    simp only [Array.getD_eq_getD_getElem?,Array.getElem?_eq_getElem hjl,Option.getD_some] at hnl
    simpa using hnl
   rw [hq,hc]
   simp
theorem region_way (hm:P.follows .mixedOrders=true) (hcall:CallOK P gl call) {id:Nat} {H:AHeap} {ρ:Rho} {a:Act} {w:World} {Q:Exit→Act→World→Prop} (hW:Way P gl lim call ops pr fx F G) (hd:drawOK ops (Region.before ops)=true) (hns:noSel ops=true)
  (hG:G 0=H) (hI:Inv P ρ H w) (hf:FR ρ (F 0) a.tmps) (hg:GOK ρ gl) (hl:lim≤H.next)
  (hQ:∀ ρ' a' w',Step P lim ρ H w ρ' (G ops.size) w'→FR ρ' (F ops.size) a'.tmps→a'.defers=a.defers→Q .normal a' w') : (Code.region id ops true).wp P Q a w:=by
 refine wp_region_any hm ?_
 subst hG
 have hID:Inv P ρ (G 0) w.drew:=⟨hI.obj,hI.inj,hI.fresh,hI.lt⟩
 obtain ⟨e,h1,h2,h3,h4⟩:=next_fixed ops fx ops.size 0 (by omega)
 have nol:∀ i,¬ isL (Array.replicate ops.size false) i:=by
  intro i hi
  unfold isL at hi
  simp only [Array.getD_eq_getD_getElem?,Array.getElem?_replicate] at hi
  split at hi <;> simp at hi
 have hJ:J P lim ops pr fx F G ρ a w.drew (Array.replicate ops.size false) a w.drew 0 e ρ:={
  pe:=h1
  en:=h2
  lsize:=by simp
  mem:=fun i o hi=>by omega
  seg:=h3
  fix:=h4
  late:=fun k o _ _ _=>nol k
  step:=(Step.refl hID).heap (hW.same h1 h2 h3) (hW.mono h1 h2) hl
  dom:=fun b r hb=>by
   by_cases hlt:b < (G 0).next
   ·exact .inl hlt
   ·rw [hI.fresh b (by omega)] at hb; cases hb
  objs:=fun b o r hb hr=>by
   have hlt:b < (G 0).next:=by
    by_cases hlt:b < (G 0).next
    ·exact hlt
    ·rw [hI.fresh b (by omega)] at hr; cases hr
   obtain ⟨C,hC,hO⟩:=hID.obj b o r (by rw [← hW.same h1 h2 h3 b hlt]; exact hb) hr
   exact ⟨C,hC,.inl ⟨hlt,hO.mono (upto_full hID)⟩⟩
  closed:=fun i j hj=>absurd hj (nol j)
  tsize:=hf.1
  val:=fun i o d _ hi=>absurd hi (nol i)
  rest:=fun t _=>rfl
  defers:=rfl }
 refine any_of_J hW hcall hns hd hf hID hg (fun ρ' a' w' hs hf' hdf=>hQ ρ' a' w' ((Step.drew hI).trans hs) hf' hdf) ops.size _ a w.drew 0 e ρ hJ (by simp)
theorem virt (hcall:CallOK P gl call) {fx:Nat→Oper→Bool} {fr:AFr} {H:AHeap} {ρ:Rho} {a:Act} {w:World} (hI:Inv P ρ H w) (hf:FR ρ fr a.tmps) (hg:GOK ρ gl) (hl:lim≤H.next)
  (hF:F 0=fr) (hG:G 0=H) (hst:∀ i o,ops[i]?=some o→astep P gl call ops (if fx i o=true then lim else (G i).next) o (F i) (G i)=some (F (i+1),G (i+1))) :
  ∀ j,j≤ops.size→lim≤(G j).next∧∃ (ρ':Rho) (a':Act) (w':World),Inv P ρ' (G j) w'∧FR ρ' (F j) a'.tmps∧GOK ρ' gl:=by
 intro j
 induction j with
 | zero=>intro _; rw [hG,hF]; exact ⟨hl,ρ,a,w,hI,hf,hg⟩
 | succ j ih =>
  intro hj
  obtain ⟨h1,ρ',a',w',h2,h3,h4⟩:=ih (by omega)
  have ho:ops[j]?=some ops[j]:=by simp [show j < ops.size by omega]
  obtain ⟨-,ρ'',v,w'',h5,h6⟩:=astep_exists hcall (hst j _ ho) h2 h3 h4 (by split <;> omega)
  exact ⟨Nat.le_trans h1 h5.next,ρ'',_,w'',h5.inv,h6,h4.mono h5.ext⟩
section calm
omit [Dec] [Env] in
theorem writer_pr {o:Oper} (h:writer o=true) : prC P o=false:=by
 obtain ⟨dst,op,type,pos,after,guard⟩:=o
 cases op <;> simp only [writer,Bool.false_eq_true] at h <;> rfl
omit [Dec] [Env] in
theorem fixedC_spec {b:Array Nat} {j:Nat} {o:Oper} (h:fixedC P ops b j o=true) : writer o=true∧prC P o=false∧∀ i x,ops[i]?=some x→i≠j→prC P x=false→(i < j→isBefore b i j=true)∧(j < i→isBefore b j i=true):=by
 unfold fixedC at h
 simp only [Bool.and_eq_true,List.all_eq_true] at h
 refine ⟨h.1,writer_pr h.1,fun i x hi hne hp=>?_⟩
 have h2:=h.2 (x,i) (by rw [List.mem_zipIdx_iff_getElem?]; simpa using hi)
 simp only [Bool.or_eq_true,beq_iff_eq,hne,hp,Bool.false_eq_true,false_or,or_false] at h2
 by_cases hlt:i < j
 ·rw [if_pos hlt] at h2; exact ⟨fun _=>h2,fun h=>by omega⟩
 ·rw [if_neg hlt] at h2; exact ⟨fun h=>by omega,fun _=>h2⟩
omit [Dec] [Env] in
theorem notIn_ne {b c:Nat} : ∀ {l:List Nat},notIn b l=true→c∈l→b≠c
 | [],_,h=>by cases h
 | x :: l,h,hc=>by
  unfold notIn at h
  split at h
  ·cases h
  ·rename_i hb
   rcases List.mem_cons.1 hc with rfl | hc
   ·intro e; subst e; simp at hb
   ·exact notIn_ne h hc
omit [Dec] [Env] in
theorem awrite_get {H H':AHeap} {lim b o c:Nat} {vs:List AV} (h:awrite H lim b o vs=some H') (hc:b≠c) : H'.get c=H.get c:=by
 unfold awrite at h
 split at h
 ·split at h
  ·split at h
   ·injection h with h; subst h
    rw [AHeap.get_put,if_neg (Ne.symm hc)]
   ·cases h
  ·cases h
 ·cases h
omit [Dec] [Env] in
theorem aappend_get {H H':AHeap} {t:TypeId} {s x v:AV} {c:Nat} {zs:Bool} (h:aappend P lim H t s x zs=some (v,H')) (hc:c < H.next) (hs:∀ b o l k,s=.sl b o l k→b≠c) : H'.get c=H.get c:=by
 unfold aappend at h
 split at h
 ·obtain ⟨info,-,h⟩:=Option.bind_eq_some_iff.1 h
  obtain ⟨z,-,h⟩:=Option.bind_eq_some_iff.1 h
  obtain ⟨⟨n,new⟩,-,h⟩:=Option.bind_eq_some_iff.1 h
  simp only at h
  split at h
  ·split at h
   ·split at h
    ·simp only [Option.some.injEq,Prod.mk.injEq] at h; rw [← h.2]
    ·split at h
     ·simp only [Option.some.injEq,Prod.mk.injEq] at h
      rw [← h.2,AHeap.get_alloc,if_neg (by omega)]
     ·cases h
   ·rename_i b o l k _ _ _
    have hb:=hs b o l k rfl
    split at h
    ·simp only [Option.some.injEq,Prod.mk.injEq] at h; rw [← h.2]
    ·split at h
     ·obtain ⟨H1,h1,h2⟩:=Option.map_eq_some_iff.1 h
      simp only [Prod.mk.injEq] at h2
      rw [← h2.2]
      exact awrite_get h1 hb
     ·split at h
      ·obtain ⟨⟨m,old⟩,-,h⟩:=Option.bind_eq_some_iff.1 h
       simp only at h
       split at h
       ·split at h
        ·split at h
         ·simp only [Option.some.injEq,Prod.mk.injEq] at h
          rw [← h.2,AHeap.get_alloc,if_neg (by omega)]
         ·split at h
          ·simp only [Option.some.injEq,Prod.mk.injEq] at h
           rw [← h.2,AHeap.get_take,if_neg (by omega),if_neg (Ne.symm hb)]
          ·cases h
        ·cases h
       ·cases h
      ·cases h
   ·cases h
  ·cases h
 ·cases h
omit [Env] in
theorem writer_keep {o:Oper} {fr fr':AFr} {H H':AHeap} {lim' c:Nat} {bs:List Nat} (h:astep P gl call ops lim' o fr H=some (fr',H')) (hw:writer o=true) (hs:spare gl fr bs o=true) (hc:c∈bs) (hn:c < H.next) : H'.get c=H.get c:=by
 obtain ⟨dst,op,type,pos,after,guard⟩:=o
 unfold astep at h
 split at h
 ·cases op <;> simp only [writer,Bool.false_eq_true] at hw
  case store t a x _ =>
   unfold spare at hs
   unfold aop at h
   simp only at h hs
   cases ha:aev gl fr a with
   | none=>rw [ha] at hs; cases hs
   | some av =>
    rw [ha] at hs
    split at hs
    ·rename_i b off he
     injection he with he; subst he
     rw [ha] at h
     simp only [Option.bind_some] at h
     cases hx:aev gl fr x with
     | none=>rw [hx] at h; simp at h
     | some xv =>
      rw [hx] at h
      simp only [Option.bind_some] at h
      cases hst:astore P H lim' t b off xv with
      | none=>rw [hst] at h; simp at h
      | some H1 =>
       rw [hst] at h
       simp only [Option.map_some] at h
       have key:H1.get c=H.get c:=by
        unfold astore at hst
        split at hst
        ·exact awrite_get hst (notIn_ne hs hc)
        ·cases hst
       split at h
       ·simp only [Option.some.injEq,Prod.mk.injEq] at h
        rw [← h.2]; exact key
       ·cases h
    ·cases hs
  case call c0 _ =>
   obtain ⟨callee,args,ts⟩:=c0
   cases callee with
   | value f=>simp at hw
   | invoke r m=>simp at hw
   | builtin b =>
    cases b <;> simp only [Bool.false_eq_true] at hw
    unfold spare at hs
    unfold aop at h
    simp only at h hs
    cases hal:args.toList with
    | nil =>
     rw [hal] at h
     simp [aevs,abuiltin] at h
    | cons p rest =>
     rw [hal] at h hs
     simp only at hs
     cases hp:aev gl fr p with
     | none=>rw [hp] at hs; cases hs
     | some s =>
      rw [hp] at hs
      simp only [aevs,hp,Option.bind_some] at h
      cases hr:aevs gl fr rest with
      | none=>rw [hr] at h; simp at h
      | some rs =>
       rw [hr] at h
       simp only [Option.map_some,Option.bind_some] at h
       cases hb:abuiltin P lim' H .append ts.toList (s :: rs) with
       | none=>rw [hb] at h; simp at h
       | some r =>
        obtain ⟨v,H1⟩:=r
        rw [hb] at h
        simp only [Option.map_some] at h
        have key:H1.get c=H.get c:=by
         generalize ts.toList=tl at hb
         cases tl with
         | nil=>simp [abuiltin] at hb
         | cons t tl=>cases tl with
          | nil=>simp [abuiltin] at hb
          | cons t' tl=>cases rs with
           | nil=>simp [abuiltin] at hb
           | cons x rs=>cases rs with
            | cons y rs=>simp [abuiltin] at hb
            | nil =>
             replace hb:(match und P t' with | some (.int _)=>aappend P lim' H t s x true | some _=>aappend P lim' H t s x false | none=>none)=some (v,H1):=hb
             split at hb
             ·refine aappend_get hb hn fun b o l k e=>?_
              subst e
              exact notIn_ne hs hc
             ·refine aappend_get hb hn fun b o l k e=>?_
              subst e
              exact notIn_ne hs hc
             ·cases hb
        split at h
        ·simp only [Option.some.injEq,Prod.mk.injEq] at h
         rw [← h.2]; exact key
        ·cases h
 ·split at h
  ·simp only [Option.some.injEq,Prod.mk.injEq] at h
   rw [h.2]
  ·cases h
omit [Env] in
theorem astep_load {o:Oper} {fr fr':AFr} {H H' H2:AHeap} {l1 l2:Nat} {t:TypeId} {a:Tmp} {b off:Nat} (hop:o.op=.load t (.tmp a)) (hat:AFr.at fr a=.ptr b off) (hg:H.get b=H2.get b) (h:astep P gl call ops l1 o fr H=some (fr',H')) :
  astep P gl call ops l2 o fr H2=some (fr',H2):=by
 have e:∀ l H,aop P gl l fr H o=(aload P H t b off).map fun v=>.val v H:=by
  intro l H
  unfold aop
  rw [hop]
  simp [aev,hat]
 have el:aload P H t b off=aload P H2 t b off:=by unfold aload; rw [hg]
 unfold astep at h ⊢
 rw [e,el] at h
 rw [e]
 split at h
 ·cases hv:aload P H2 t b off with
  | none=>rw [hv] at h; simp at h
  | some v =>
   rw [hv] at h
   simp only [Option.map_some] at h ⊢
   split at h
   ·rename_i hp
    simp only [Option.some.injEq,Prod.mk.injEq] at h
    rw [h.1]
   ·cases h
 ·split at h
  ·simp only [Option.some.injEq,Prod.mk.injEq] at h
   rw [h.1]
  ·cases h
omit [Env] in
theorem astep_slice {o:Oper} {fr fr':AFr} {H H' H2:AHeap} {l1 l2:Nat} {t:TypeId} {x:Operand} {lo hi mx:Option Operand} (hop:o.op=.slice t x lo hi mx) (hu:und P t=some .string) (h:astep P gl call ops l1 o fr H=some (fr',H')) :
  astep P gl call ops l2 o fr H2=some (fr',H2):=by
 have es:∀ (H H2:AHeap) (x:AV) (lo hi mx:Option AV),aslice P H t x lo hi mx=aslice P H2 t x lo hi mx:=by
  intro H H2 x lo hi mx
  unfold aslice
  rw [hu]
  cases x <;> rfl
 have e:∃ X:Option AV,∀ l H,aop P gl l fr H o=X.map fun v=>.val v H:=by
  refine ⟨(aev gl fr x).bind fun x=>(match lo with | none=>some none | some y=>(aev gl fr y).map some).bind fun lo=>(match hi with | none=>some none | some y=>(aev gl fr y).map some).bind fun hi =>
   (match mx with | none=>some none | some y=>(aev gl fr y).map some).bind fun mx=>aslice P H2 t x lo hi mx,fun l H=>?_⟩
  unfold aop
  rw [hop]
  simp only [Option.map_bind]
  congr 1; funext x
  simp only [Function.comp,Option.map_bind]
  congr 1; funext lo
  simp only [Function.comp,Option.map_bind]
  congr 1; funext hi
  simp only [Function.comp,Option.map_bind]
  congr 1; funext mx
  rw [es H H2]
  rfl
 obtain ⟨X,e⟩:=e
 unfold astep at h ⊢
 rw [e] at h
 rw [e]
 split at h
 ·cases X with
  | none=>simp at h
  | some v =>
   simp only [Option.map_some] at h ⊢
   split at h
   ·simp only [Option.some.injEq,Prod.mk.injEq] at h
    rw [h.1]
   ·cases h
 ·split at h
  ·simp only [Option.some.injEq,Prod.mk.injEq] at h
   rw [h.1]
  ·cases h
omit [Dec] [Env] in
theorem calm_look {o:Oper} (h:prC P o=true) : lookOp o=true:=by
 unfold prC at h
 unfold lookOp
 cases hp:pureOp o with
 | true=>rfl
 | false =>
  rw [hp,Bool.false_or] at h
  unfold calmOp at h
  split at h
  ·rename_i e; rw [e]; rfl
  ·rename_i e; rw [e]; rfl
  ·cases h
omit [Dec] [Env] in
theorem calmBs_spec {fr:AFr} {n:Nat} : ∀ {l:List Oper} {b:Nat},b∈calmBs fr n l→b < n
 | [],_,h=>by cases h
 | x :: l,b,h=>by
  unfold calmBs at h
  split at h
  ·split at h
   ·rename_i hlt
    rcases List.mem_cons.1 h with rfl | h
    ·exact Nat.le_of_ble_eq_true hlt
    ·exact calmBs_spec h
   ·exact calmBs_spec h
  ·exact calmBs_spec h
omit [Dec] [Env] in
theorem notIn_mem {b:Nat} : ∀ {l:List Nat},notIn b l=false→b∈l
 | [],h=>by cases h
 | x :: l,h=>by
  unfold notIn at h
  split at h
  ·rename_i hb; rw [Nat.eq_of_beq_eq_true hb]; exact List.mem_cons_self
  ·exact List.mem_cons_of_mem _ (notIn_mem h)
omit [Env] in
theorem astep_load_not {o:Oper} {fr fr':AFr} {H H' H2:AHeap} {l1 l2:Nat} {t:TypeId} {a:Tmp} (hop:o.op=.load t (.tmp a)) (hat:∀ b off,AFr.at fr a≠.ptr b off) (h:astep P gl call ops l1 o fr H=some (fr',H')) :
  astep P gl call ops l2 o fr H2=some (fr',H2):=by
 have e:∀ l H,aop P gl l fr H o=none:=by
  intro l H
  unfold aop
  rw [hop]
  simp only [aev,Option.bind_some]
  all_goals split
  all_goals first
   | (rename_i he; exact absurd he (hat _ _))
   | rfl
 unfold astep at h ⊢
 rw [e] at h
 rw [e]
 split at h
 ·cases h
 ·split at h
  ·simp only [Option.some.injEq,Prod.mk.injEq] at h
   rw [h.1]
  ·cases h
omit [Dec] [Env] in
theorem fixedF_spec {b:Array Nat} {j:Nat} {o:Oper} (h:fixedF P ops b j o=true) : prC P o=false∧∀ i x,ops[i]?=some x→i≠j→prC P x=false→(i < j→isBefore b i j=true)∧(j < i→isBefore b j i=true):=by
 unfold fixedF at h
 rcases Bool.or_eq_true_iff.1 h with h | h
 ·exact ⟨(fixedC_spec h).2.1,(fixedC_spec h).2.2⟩
 ·simp only [Bool.and_eq_true,Bool.not_eq_true'] at h
  refine ⟨h.1,fun i x hi hne hp=>(fixed_spec h.2).2 i x hi hne ?_⟩
  unfold prC at hp
  exact (Bool.or_eq_false_iff.1 hp).1
omit [Env] in
theorem aopsC_seq {b:Array Nat} {bs:List Nat} : ∀ (l:List Oper) (j0:Nat) (fr:AFr) (H:AHeap) (frN:AFr) (HN:AHeap),aopsC P gl call ops b bs lim l j0 fr H=some (frN,HN) →
  ∃ (F:Nat→AFr) (G:Nat→AHeap),F 0=fr∧G 0=H∧F l.length=frN∧G l.length=HN ∧
   ∀ i o,l[i]?=some o→astep P gl call ops (if fixedF P ops b (j0+i) o=true then lim else (G i).next) o (F i) (G i)=some (F (i+1),G (i+1))∧(spare gl (F i) bs o=true∧calmIn (F i) bs o=true)∧calmDst P (F (i+1)) o=true
 | [],j0,fr,H,frN,HN,h=>by
  simp only [aopsC,Option.some.injEq,Prod.mk.injEq] at h
  obtain ⟨rfl,rfl⟩:=h
  exact ⟨fun _=>fr,fun _=>H,rfl,rfl,rfl,rfl,fun i o hi=>by simp at hi⟩
 | o :: l,j0,fr,H,frN,HN,h=>by
  have e:aopsC P gl call ops b bs lim (o :: l) j0 fr H=match spare gl fr bs o && calmIn fr bs o with
   | true=>match astep P gl call ops (match fixedF P ops b j0 o with | true=>lim | false=>H.next) o fr H with
    | some (fr,H)=>match calmDst P fr o with
     | true=>aopsC P gl call ops b bs lim l (j0+1) fr H
     | false=>none
    | none=>none
   | false=>none:=rfl
  rw [e] at h
  split at h
  ·rename_i hsp
   split at h
   ·rename_i fr1 H1 hs
    split at h
    ·rename_i hd
     obtain ⟨F,G,hF,hG,hFn,hGn,hst⟩:=aopsC_seq l (j0+1) fr1 H1 frN HN h
     refine ⟨fun i=>match i with | 0=>fr | i+1=>F i,fun i=>match i with | 0=>H | i+1=>G i,rfl,rfl,hFn,hGn,fun i x hi=>?_⟩
     cases i with
     | zero =>
      simp at hi; subst hi
      dsimp only
      rw [hF,hG]
      refine ⟨?_,Bool.and_eq_true_iff.1 hsp,hd⟩
      rw [← hs]
      congr 1
      simp only [Nat.add_zero]
      cases fixedF P ops b j0 o <;> rfl
     | succ i =>
      have:=hst i x (by simpa using hi)
      dsimp only
      rw [show j0+(i+1)=j0+1+i by omega]
      exact this
    ·cases h
   ·cases h
  ·cases h
theorem calm_sound (hm:P.follows .mixedOrders=true) (hcall:CallOK P gl call) {id:Nat} {fr fr':AFr} {H H':AHeap} {ρ:Rho} {a:Act} {w:World} {Q:Exit→Act→World→Prop} {bs:List Nat} (hd:drawOK ops (Region.before ops)=true) (hns:noSel ops=true)
  (hbs:∀ b∈bs,b < H.next) (h:aopsC P gl call ops (Region.before ops) bs lim ops.toList 0 fr H=some (fr',H')) (hI:Inv P ρ H w) (hf:FR ρ fr a.tmps) (hg:GOK ρ gl) (hl:lim≤H.next)
  (hQ:∀ ρ' a' w',Step P lim ρ H w ρ' H' w'→FR ρ' fr' a'.tmps→a'.defers=a.defers→Q .normal a' w') : (Code.region id ops true).wp P Q a w:=by
 obtain ⟨F,G,hF,hG,hFn,hGn,hall⟩:=aopsC_seq _ _ _ _ _ _ h
 simp only [Array.length_toList,Array.getElem?_toList,Nat.zero_add] at hFn hGn hall
 have hst:∀ i o,ops[i]?=some o→astep P gl call ops (if fixedF P ops (Region.before ops) i o=true then lim else (G i).next) o (F i) (G i)=some (F (i+1),G (i+1)):=fun i o ho=>(hall i o ho).1
 have hv:=virt (fx:=fixedF P ops (Region.before ops)) hcall hI hf hg hl hF hG hst
 have hnext:∀ i,i < ops.size→(G i).next≤(G (i+1)).next:=fun i hi=>by
  obtain ⟨h1,ρ',a',w',h2,h3,h4⟩:=hv i (by omega)
  have ho:ops[i]?=some ops[i]:=by simp [hi]
  obtain ⟨-,ρ'',v,w'',h5,-⟩:=astep_exists hcall (hst i _ ho) h2 h3 h4 (by split <;> omega)
  exact h5.next
 have hkeep:∀ i o,ops[i]?=some o→fixedF P ops (Region.before ops) i o=false→∀ b,b < (G i).next→(G (i+1)).get b=(G i).get b:=fun i o ho hfx b hb=>by
  have hi:=(Array.getElem?_eq_some_iff.1 ho).1
  obtain ⟨h1,ρ',a',w',h2,h3,h4⟩:=hv i (by omega)
  have hs:=hst i o ho
  rw [hfx,if_neg (by simp)] at hs
  obtain ⟨-,ρ'',v,w'',h5,-⟩:=astep_exists hcall hs h2 h3 h4 (Nat.le_refl _)
  exact h5.keep b hb
 have hle:∀ e,e≤ops.size→(G 0).next≤(G e).next:=by
  intro e
  induction e with
  | zero=>intro _; exact Nat.le_refl _
  | succ e ih=>intro he; exact Nat.le_trans (ih (by omega)) (hnext e (by omega))
 have hcalmB:∀ b,b∈bs→b < (G 0).next→∀ m e,m≤e→e≤ops.size→(∀ k q,m≤k→k < e→ops[k]?=some q→(!prC P q && fixedOp ops (Region.before ops) k q)=false)→(G e).get b=(G m).get b:=by
  intro b hb hlt m e
  induction e with
  | zero => intro hm _ _; have : m = 0 := by omega
            subst this; rfl
  | succ e ih =>
   intro hm he hk
   by_cases hme:m=e+1
   ·subst hme; rfl
   have ho:ops[e]?=some ops[e]:=by simp [show e < ops.size by omega]
   have hbe:b < (G e).next:=Nat.lt_of_lt_of_le hlt (hle e (by omega))
   rw [← ih (by omega) (by omega) fun k q h1 h2=>hk k q h1 (by omega)]
   cases hfx:fixedF P ops (Region.before ops) e ops[e] with
   | false=>exact hkeep e _ ho hfx b hbe
   | true =>
    have h0:=hk e _ (by omega) (by omega) ho
    unfold fixedF at hfx
    rw [h0,Bool.or_false] at hfx
    exact writer_keep (hst e _ ho) (fixedC_spec hfx).1 (hall e _ ho).2.1.1 hb hbe
 have hW:Way P gl lim call ops (prC P) (fixedF P ops (Region.before ops)) F G:={
  step:=hst
  next:=hnext
  keep:=hkeep
  pure:=fun i o ho hp=>by
   have hi:=(Array.getElem?_eq_some_iff.1 ho).1
   obtain ⟨h1,ρ',a',w',h2,h3,h4⟩:=hv i (by omega)
   exact (astep_exists hcall (hst i o ho) h2 h3 h4 (by split <;> omega)).1 (calm_look hp)
  lim:=by rw [hG]; exact hl
  spec:=fun j o ho hfx=>fixedF_spec hfx
  calm:=fun i o ho hp hnp=>by
   have hpr:=hp
   have hi:=(Array.getElem?_eq_some_iff.1 ho).1
   have hc:calmOp P o=true:=by unfold prC at hp; rw [hnp,Bool.false_or] at hp; exact hp
   refine ⟨calm_look hp,fun d hdst=>?_,fun e he hbef haft=>?_⟩
   ·have:=(hall i o ho).2.2
    unfold calmDst at this
    rw [hc,hdst] at this
    exact this
   ·have hc':=hc
    unfold calmOp at hc'
    split at hc'
    ·rename_i t a' hop
     by_cases hp:∃ b off,AFr.at (F i) a'=.ptr b off
     ·obtain ⟨b,off,k1⟩:=hp
      have hin:=(hall i o ho).2.1.2
      unfold calmIn at hin
      rw [hop] at hin
      simp only [k1] at hin
      have k3:b∈bs:=notIn_mem (by simpa using hin)
      have hlt:b < (G 0).next:=by rw [hG]; exact hbs b k3
      refine ⟨⟨(G e).next,T.set .leaf b ((G e).get b)⟩,rfl,fun c q hq=>?_,?_⟩
      ·have hq':T.get (T.set .leaf b ((G e).get b)) c=some q:=hq
       rw [T.get_set] at hq'
       split at hq'
       ·rename_i e; subst e; exact hq'
       ·rw [T.get_leaf] at hq'; cases hq'
      ·refine astep_load hop k1 ?_ (hst i o ho)
       have hie:(G i).get b=(G e).get b:=by
        by_cases hle':i≤e
        ·refine (hcalmB b k3 hlt i e hle' he fun k q h1 h2 hq=>?_).symm
         cases hs:(!prC P q && fixedOp ops (Region.before ops) k q) with
         | false=>rfl
         | true =>
          have hs2:=hs
          simp only [Bool.and_eq_true,Bool.not_eq_true'] at hs2
          by_cases hki:k=i
          ·subst hki
           rw [ho] at hq; injection hq with hq; subst hq
           rw [hpr] at hs2; cases hs2.1
          ·exact absurd (((fixed_spec hs2.2).2 i o ho (fun h=>hki h.symm) hnp).1 (by omega)) (hbef k q h2 hq (by unfold fixedF; rw [hs,Bool.or_true]))
        ·refine hcalmB b k3 hlt e i (by omega) (by omega) fun k q h1 h2 hq=>?_
         cases hs:(!prC P q && fixedOp ops (Region.before ops) k q) with
         | false=>rfl
         | true =>
          have hs2:=hs
          simp only [Bool.and_eq_true,Bool.not_eq_true'] at hs2
          exact absurd (((fixed_spec hs2.2).2 i o ho (by omega) hnp).2 (by omega)) (haft k q h1 hq (by unfold fixedF; rw [hs,Bool.or_true]))
       rw [hie]
       show _=T.get (T.set .leaf b ((G e).get b)) b
       rw [T.get_set,if_pos rfl]
     ·exact ⟨⟨(G e).next,.leaf⟩,rfl,fun c q hq=>(by simp [AHeap.get,T.get_leaf] at hq),astep_load_not hop (fun b off k=>hp ⟨b,off,k⟩) (hst i o ho)⟩
    ·rename_i t x lo hi' mx hop
     split at hc'
     ·rename_i hu
      exact ⟨⟨(G e).next,.leaf⟩,rfl,fun c q hq=>(by simp [AHeap.get,T.get_leaf] at hq),astep_slice hop hu (hst i o ho)⟩
     ·cases hc'
    ·cases hc' }
 exact region_way hm hcall hW hd hns hG hI (by rw [hF]; exact hf) hg hl fun ρ' a' w' hs hf' hdf=>hQ ρ' a' w' (by rw [← hGn]; exact hs) (by rw [← hFn]; exact hf') hdf
end calm
theorem aregion_sound (hm:P.follows .mixedOrders=true) (hcall:CallOK P gl call) {id:Nat} {draw:Bool} {fr fr':AFr} {H H':AHeap} {ρ:Rho} {a:Act} {w:World} {Q:Exit→Act→World→Prop}
  (h:aregion P gl call ops draw lim fr H=some (fr',H')) (hI:Inv P ρ H w) (hf:FR ρ fr a.tmps) (hg:GOK ρ gl) (hl:lim≤H.next)
  (hQ:∀ ρ' a' w',Step P lim ρ H w ρ' H' w'→FR ρ' fr' a'.tmps→a'.defers=a.defers→Q .normal a' w') : (Code.region id ops draw).wp P Q a w:=by
 cases draw with
 | false=>exact wp_region_list (aops_sound hcall _ _ _ _ _ ρ a w h hI hf hg hl hQ)
 | true =>
  unfold aregion at h
  dsimp only at h
  split at h
  ·rename_i hok
   simp only [Bool.and_eq_true] at hok
   obtain ⟨hd,hns⟩:=hok
   split at h
   ·obtain ⟨F,G,hF,hG,hFn,hGn,hst⟩:=aopsD_seq _ _ _ _ _ _ h
    simp only [Array.length_toList,Array.getElem?_toList,Nat.zero_add] at hFn hGn hst
    have hv:=virt (fx:=fixedOp ops (Region.before ops)) hcall hI hf hg hl hF hG hst
    have hW:Way P gl lim call ops pureOp (fixedOp ops (Region.before ops)) F G:={
     step:=hst
     next:=fun i hi=>by
      obtain ⟨h1,ρ',a',w',h2,h3,h4⟩:=hv i (by omega)
      have ho:ops[i]?=some ops[i]:=by simp [hi]
      obtain ⟨-,ρ'',v,w'',h5,-⟩:=astep_exists hcall (hst i _ ho) h2 h3 h4 (by split <;> omega)
      exact h5.next
     keep:=fun i o ho hfx b hb=>by
      have hi:=(Array.getElem?_eq_some_iff.1 ho).1
      obtain ⟨h1,ρ',a',w',h2,h3,h4⟩:=hv i (by omega)
      have hs:=hst i o ho
      rw [hfx,if_neg (by simp)] at hs
      obtain ⟨-,ρ'',v,w'',h5,-⟩:=astep_exists hcall hs h2 h3 h4 (Nat.le_refl _)
      exact h5.keep b hb
     pure:=fun i o ho hp=>by
      have hi:=(Array.getElem?_eq_some_iff.1 ho).1
      obtain ⟨h1,ρ',a',w',h2,h3,h4⟩:=hv i (by omega)
      exact (astep_exists hcall (hst i o ho) h2 h3 h4 (by split <;> omega)).1 (by unfold lookOp; rw [hp]; rfl)
     lim:=by rw [hG]; exact hl
     spec:=fun j o ho h=>fixed_spec h
     calm:=fun i o _ h1 h2=>by rw [h1] at h2; cases h2 }
    refine region_way hm hcall hW hd hns hG hI (by rw [hF]; exact hf) hg hl fun ρ' a' w' hs hf' hdf=>hQ ρ' a' w' (by rw [← hGn]; exact hs) (by rw [← hFn]; exact hf') hdf
   ·exact calm_sound hm hcall hd hns (fun b hb=>calmBs_spec hb) h hI hf hg hl hQ
  ·cases h
omit [Env] in
theorem exec_succ (orc:ACall) (n lim:Nat) (c:Code) (fr:AFr) (H:AHeap) : exec P gl orc (n+1) lim c fr H=(match c with
  | .skip=>some (.normal,fr,H)
  | .label _=>some (.normal,fr,H)
  | .region _ ops draw=>match aregion P gl (acall P orc (exec P gl orc n)) ops draw lim fr H with
   | some (fr,H)=>some (.normal,fr,H)
   | none=>none
  | .seq a b=>match exec P gl orc n lim a fr H with
   | some (.normal,fr,H)=>exec P gl orc n lim b fr H
   | r=>r
  | .cond c x y=>match aev gl fr c with
   | some (.bool true)=>exec P gl orc n lim x fr H
   | some (.bool false)=>exec P gl orc n lim y fr H
   | _=>none
  | .block id c=>match exec P gl orc n lim c fr H with
   | some (.exit id',fr,H)=>match Nat.beq id' id with
    | true=>some (.normal,fr,H)
    | false=>some (.exit id',fr,H)
   | r=>r
  | .loop c=>match exec P gl orc n lim c fr H with
   | some (.normal,fr,H)=>exec P gl orc n lim (.loop c) fr H
   | r=>r
  | .exit id=>some (.exit id,fr,H)
  | .scope c=>exec P gl orc n lim c fr H
  | .ret=>some (.ret,fr,H)
  | _=>none):=rfl
theorem exec_sound (hm:P.follows .mixedOrders=true) {orc:ACall} (horc:CallOK P gl orc) : ∀ n,CodeOK P gl (exec P gl orc n) ∧
  ∀ lim c fr H e fr' H',exec P gl orc n lim (.loop c) fr H=some (e,fr',H')→∀ (ρ:Rho) (a:Act) (w:World) (Q:Exit→Act→World→Prop),Inv P ρ H w→FR ρ fr a.tmps→GOK ρ gl→lim≤H.next →
   (∀ ρ' a' w',Step P lim ρ H w ρ' H' w'→FR ρ' fr' a'.tmps→a'.defers=a.defers→Q (aexit e) a' w')→Code.rounds P c Q n a w:=by
 intro n
 induction n with
 | zero=>exact ⟨fun lim c fr H e fr' H' h=>(by cases h),fun lim c fr H e fr' H' h=>(by cases h)⟩
 | succ n ih =>
  obtain ⟨ih1,ih2⟩:=ih
  have hloop:∀ lim c fr H e fr' H',exec P gl orc (n+1) lim (.loop c) fr H=some (e,fr',H')→∀ (ρ:Rho) (a:Act) (w:World) (Q:Exit→Act→World→Prop),Inv P ρ H w→FR ρ fr a.tmps→GOK ρ gl→lim≤H.next →
    (∀ ρ' a' w',Step P lim ρ H w ρ' H' w'→FR ρ' fr' a'.tmps→a'.defers=a.defers→Q (aexit e) a' w')→Code.rounds P c Q (n+1) a w:=by
   intro lim c fr H e fr' H' h ρ a w Q hI hf hg hl hQ
   rw [exec_succ] at h
   dsimp only at h
   rw [rounds_succ]
   split at h
   ·rename_i fr1 H1 h1
    refine ih1 lim c fr H .normal fr1 H1 h1 ρ a w _ hI hf hg hl fun ρ' a' w' hs hf' hd=>?_
    exact ih2 lim c fr1 H1 e fr' H' h ρ' a' w' Q hs.inv hf' (hg.mono hs.ext) (Nat.le_trans hl hs.next) fun ρ'' a'' w'' hs' hf'' hd'=>hQ ρ'' a'' w'' (hs.trans hs') hf'' (hd'.trans hd)
   ·rename_i hne
    refine ih1 lim c fr H e fr' H' h ρ a w _ hI hf hg hl fun ρ' a' w' hs hf' hd=>?_
    cases e with
    | normal=>exact absurd h (hne _ _)
    | exit id=>exact hQ ρ' a' w' hs hf' hd
    | ret=>exact hQ ρ' a' w' hs hf' hd
  refine ⟨?_,hloop⟩
  intro lim c fr H e fr' H' h ρ a w Q hI hf hg hl hQ
  cases c with
  | skip =>
   simp only [exec_succ,Option.some.injEq,Prod.mk.injEq] at h
   obtain ⟨rfl,rfl,rfl⟩:=h
   exact wp_skip (hQ ρ a w (Step.refl hI) hf rfl)
  | label l =>
   simp only [exec_succ,Option.some.injEq,Prod.mk.injEq] at h
   obtain ⟨rfl,rfl,rfl⟩:=h
   exact wp_label (hQ ρ a w (Step.refl hI) hf rfl)
  | region id ops draw =>
   rw [exec_succ] at h
   dsimp only at h
   split at h
   ·rename_i fr1 H1 h1
    simp only [Option.some.injEq,Prod.mk.injEq] at h
    obtain ⟨rfl,rfl,rfl⟩:=h
    exact aregion_sound hm (acall_sound horc ih1) h1 hI hf hg hl hQ
   ·cases h
  | seq x y =>
   rw [exec_succ] at h
   dsimp only at h
   split at h
   ·rename_i fr1 H1 h1
    refine wp_seq (ih1 lim x fr H .normal fr1 H1 h1 ρ a w _ hI hf hg hl fun ρ' a' w' hs hf' hd=>?_)
    exact ih1 lim y fr1 H1 e fr' H' h ρ' a' w' Q hs.inv hf' (hg.mono hs.ext) (Nat.le_trans hl hs.next) fun ρ'' a'' w'' hs' hf'' hd'=>hQ ρ'' a'' w'' (hs.trans hs') hf'' (hd'.trans hd)
   ·rename_i hne
    refine wp_seq (ih1 lim x fr H e fr' H' h ρ a w _ hI hf hg hl fun ρ' a' w' hs hf' hd=>?_)
    cases e with
    | normal=>exact absurd h (hne _ _)
    | exit id=>exact hQ ρ' a' w' hs hf' hd
    | ret=>exact hQ ρ' a' w' hs hf' hd
  | cond c x y =>
   rw [exec_succ] at h
   dsimp only at h
   split at h
   ·rename_i hc
    have hv:=aev_rel hf hg hc
    refine wp_cond (t:=true) ?_ (ih1 lim x fr H e fr' H' h ρ a w Q hI hf hg hl hQ)
    generalize a.eval c=q at hv
    cases hv; rfl
   ·rename_i hc
    have hv:=aev_rel hf hg hc
    refine wp_cond (t:=false) ?_ (ih1 lim y fr H e fr' H' h ρ a w Q hI hf hg hl hQ)
    generalize a.eval c=q at hv
    cases hv; rfl
   ·cases h
  | block id c =>
   rw [exec_succ] at h
   dsimp only at h
   refine wp_block ?_
   split at h
   ·rename_i id' fr1 H1 h1
    refine ih1 lim c fr H (.exit id') fr1 H1 h1 ρ a w _ hI hf hg hl fun ρ' a' w' hs hf' hd=>?_
    show (if id'=id then Q .normal a' w' else Q (.exit id') a' w')
    split at h
    ·rename_i hb
     simp only [Option.some.injEq,Prod.mk.injEq] at h
     obtain ⟨rfl,rfl,rfl⟩:=h
     rw [if_pos (Nat.eq_of_beq_eq_true hb)]
     exact hQ ρ' a' w' hs hf' hd
    ·rename_i hb
     simp only [Option.some.injEq,Prod.mk.injEq] at h
     obtain ⟨rfl,rfl,rfl⟩:=h
     rw [if_neg (fun e=>by subst e; rw [Nat.beq_refl] at hb; cases hb)]
     exact hQ ρ' a' w' hs hf' hd
   ·rename_i hne
    refine ih1 lim c fr H e fr' H' h ρ a w _ hI hf hg hl fun ρ' a' w' hs hf' hd=>?_
    cases e with
    | normal=>exact hQ ρ' a' w' hs hf' hd
    | exit id=>exact absurd h (hne _ _ _)
    | ret=>exact hQ ρ' a' w' hs hf' hd
  | loop c=>exact wp_loop_rounds (n+1) (hloop lim c fr H e fr' H' h ρ a w Q hI hf hg hl hQ)
  | exit id =>
   simp only [exec_succ,Option.some.injEq,Prod.mk.injEq] at h
   obtain ⟨rfl,rfl,rfl⟩:=h
   exact wp_exit (hQ ρ a w (Step.refl hI) hf rfl)
  | scope c =>
   rw [exec_succ] at h
   dsimp only at h
   refine wp_scope_straight (ih1 lim c fr H e fr' H' h ρ a w _ hI hf hg hl fun ρ' a' w' hs hf' hd=>?_)
   cases e with
   | normal=>exact hQ ρ' a' w' hs hf' hd
   | exit id=>exact hQ ρ' a' w' hs hf' hd
   | ret=>exact hQ ρ' a' w' hs hf' hd
  | ret =>
   simp only [exec_succ,Option.some.injEq,Prod.mk.injEq] at h
   obtain ⟨rfl,rfl,rfl⟩:=h
   exact wp_ret (hQ ρ a w (Step.refl hI) hf rfl)
  | rangeFunc f ps x y=>simp only [exec_succ] at h; cases h
  | goto l=>simp only [exec_succ] at h; cases h
  | refuse y=>simp only [exec_succ] at h; cases h
theorem call_sound (hm:P.follows .mixedOrders=true) {orc:ACall} (horc:CallOK P gl orc) (n:Nat) : CallOK P gl (acall P orc (exec P gl orc n)):=acall_sound horc (exec_sound hm horc n).1
theorem noOrc_ok:CallOK P gl noOrc:=fun _ _ _ _ _ _ h=>by cases h
end
end Go.Proofs.YtoehlmiadiiimaaGreatDoor.Ex
