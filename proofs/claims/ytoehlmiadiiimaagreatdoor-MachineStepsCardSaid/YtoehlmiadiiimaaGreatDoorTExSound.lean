import Derived.Test.YtoehlmiadiiimaaGreatDoorTExOps
/-
  An executor over the model's code: one operation, whichever it is.
-/
namespace Go.Proofs.YtoehlmiadiiimaaGreatDoor.Ex
open Go
variable [Dec] [Env]
def ResOK (P:Program) (lim:Nat) (ρ:Rho) (H:AHeap) (w:World) (a:Act) (o:Oper) : Res→Prop
 | .val v H'=>∃ ρ' v' w',(execOp a.eval o).run P w=.ok (.value v') w'∧VR ρ' v v'∧Step P lim ρ H w ρ' H' w'∧(lookOp o=true→ρ'=ρ∧w'=w∧H'=H)
 | .skip H'=>lookOp o=false∧∃ ρ' w',(execOp a.eval o).run P w=.ok .skip w'∧Step P lim ρ H w ρ' H' w'
 | .enter f args H'=>lookOp o=false∧H'=H∧∃ args':List Value,(execOp a.eval o).run P w=.ok (.enter f args'.toArray) w∧VRs ρ args args'
section
variable {P:Program} {w:World} {ρ:Rho} {H:AHeap} {fr:AFr} {a:Act} {gl lim:Nat}
theorem res_val {o:Oper} {v:AV} {H':AHeap} {s:Sem Value} (he:execOp a.eval o=(do pure (.value (← s)) : Sem Next)) (hp:lookOp o=false) (h:∃ ρ' v' w',s.run P w=.ok v' w'∧VR ρ' v v'∧Step P lim ρ H w ρ' H' w') :
  ResOK P lim ρ H w a o (.val v H'):=by
 obtain ⟨ρ',v',w',h1,h2,h3⟩:=h
 exact ⟨ρ',v',w',by rw [he]; simp [h1],h2,h3,fun h=>by rw [hp] at h; cases h⟩
theorem res_same {o:Oper} {v:AV} {s:Sem Value} (he:execOp a.eval o=(do pure (.value (← s)) : Sem Next)) (hI:Inv P ρ H w) (h:∃ v',s.run P w=.ok v' w∧VR ρ v v') :
  ResOK P lim ρ H w a o (.val v H):=by
 obtain ⟨v',h1,h2⟩:=h
 exact ⟨ρ,v',w,by rw [he]; simp [h1],h2,Step.refl hI,fun _=>⟨rfl,rfl,rfl⟩⟩
theorem res_skip {o:Oper} {H':AHeap} {s:Sem Unit} (he:execOp a.eval o=(do s; pure .skip:Sem Next)) (hp:lookOp o=false) (h:∃ w',s.run P w=.ok () w'∧Step P lim ρ H w ρ H' w') :
  ResOK P lim ρ H w a o (.skip H'):=by
 obtain ⟨w',h1,h3⟩:=h
 exact ⟨hp,ρ,w',by rw [he]; simp [h1],h3⟩
theorem opt_rel (hf:FR ρ fr a.tmps) (hg:GOK ρ gl) {y:Option Operand} {z:Option AV} (h:(match y with | none=>some none | some y=>(aev gl fr y).map some)=some z) : OVR ρ z (y.map a.eval):=by
 cases y with
 | none=>simp at h; subst h; exact .none
 | some y =>
  obtain ⟨v,hv,rfl⟩:=Option.map_eq_some_iff.1 h
  exact .some _ _ (aev_rel hf hg hv)
set_option maxHeartbeats 4000000 in
theorem aop_sound {o:Oper} {res:Res} (hI:Inv P ρ H w) (hf:FR ρ fr a.tmps) (hg:GOK ρ gl) (hl:lim≤H.next) (h:aop P gl lim fr H o=some res) : ResOK P lim ρ H w a o res:=by
 obtain ⟨dst,op,type,pos,after,guard⟩:=o
 unfold aop at h
 dsimp only at h
 split at h
 ·
  obtain ⟨v,hv,rfl⟩:=Option.map_eq_some_iff.1 h
  exact ⟨ρ,_,w,rfl,aev_rel hf hg hv,Step.refl hI,fun _=>⟨rfl,rfl,rfl⟩⟩
 ·obtain ⟨v,hv,rfl⟩:=Option.map_eq_some_iff.1 h
  exact ⟨ρ,_,w,rfl,aev_rel hf hg hv,Step.refl hI,fun _=>⟨rfl,rfl,rfl⟩⟩
 ·
  rename_i c x y
  replace h:=Option.bind_eq_some_iff.1 h; obtain ⟨cv,hc,h⟩:=h
  have hcv:=aev_rel hf hg hc
  split at h
  ·obtain ⟨v,hv,rfl⟩:=Option.map_eq_some_iff.1 h
   generalize hq:a.eval c=q at hcv
   cases hcv
   exact ⟨ρ,_,w,by simp [execOp,hq,asBool],aev_rel hf hg hv,Step.refl hI,fun _=>⟨rfl,rfl,rfl⟩⟩
  ·obtain ⟨v,hv,rfl⟩:=Option.map_eq_some_iff.1 h
   generalize hq:a.eval c=q at hcv
   cases hcv
   exact ⟨ρ,_,w,by simp [execOp,hq,asBool],aev_rel hf hg hv,Step.refl hI,fun _=>⟨rfl,rfl,rfl⟩⟩
  ·cases h
 ·
  obtain ⟨z,hz,rfl⟩:=Option.map_eq_some_iff.1 h
  exact res_val rfl rfl (op_alloc hI hz hl)
 ·
  obtain ⟨v,hv,rfl⟩:=Option.map_eq_some_iff.1 h
  exact res_val rfl rfl (op_box hI (aev_rel hf hg hv) hl)
 ·
  rename_i t parts
  replace h:=Option.bind_eq_some_iff.1 h; obtain ⟨vs,hvs,h⟩:=h
  replace h:=Option.bind_eq_some_iff.1 h; obtain ⟨z,hz,h⟩:=h
  obtain ⟨h1,h2⟩:=pair_rel hf hg hvs
  have he:(parts.map fun (i,x)=>(i,a.eval x))=(parts.toList.map fun p=>(p.1,a.eval p.2)).toArray:=by
   apply Array.ext'; simp
  split at h
  ·rename_i fs hu
   split at h
   ·rename_i hall
    obtain ⟨cs,hcs,rfl⟩:=Option.map_eq_some_iff.1 h
    refine res_same (s:=Instr.build t (parts.map fun (i,x)=>(i,a.eval x))) rfl hI ?_
    rw [he]
    exact build_struct hu hall hz h1 h2 hcs
   ·cases h
  ·rename_i n e hu
   replace h:=Option.bind_eq_some_iff.1 h; obtain ⟨k,hk,h⟩:=h
   obtain ⟨cs,hcs,rfl⟩:=Option.map_eq_some_iff.1 h
   refine res_same (s:=Instr.build t (parts.map fun (i,x)=>(i,a.eval x))) rfl hI ?_
   rw [he]
   exact build_array hu hk hz h1 h2 hcs
  ·cases h
 ·
  rename_i t len parts
  replace h:=Option.bind_eq_some_iff.1 h; obtain ⟨vs,hvs,h⟩:=h
  obtain ⟨h1,h2⟩:=pair_rel hf hg hvs
  have he:(parts.map fun (i,x)=>(i,a.eval x))=(parts.toList.map fun p=>(p.1,a.eval p.2)).toArray:=by
   apply Array.ext'; simp
  split at h
  ·rename_i e hu
   replace h:=Option.bind_eq_some_iff.1 h; obtain ⟨n,hn,h⟩:=h
   replace h:=Option.bind_eq_some_iff.1 h; obtain ⟨z,hz,h⟩:=h
   split at h
   ·rename_i hc
    obtain ⟨cs,hcs,rfl⟩:=Option.map_eq_some_iff.1 h
    refine res_val (s:=Instr.buildSlice t len (parts.map fun (i,x)=>(i,a.eval x))) rfl rfl ?_
    rw [he]
    exact op_buildSlice hI hu hn hz hc.1 hc.2 h1 h2 hcs hl
   ·cases h
  ·cases h
 ·
  rename_i t x
  replace h:=Option.bind_eq_some_iff.1 h; obtain ⟨p,hp,h⟩:=h
  have hv:=aev_rel hf hg hp
  split at h
  ·obtain ⟨v,hv',rfl⟩:=Option.map_eq_some_iff.1 h
   refine res_same (s:=Instr.loadAt t (a.eval x)) rfl hI ?_
   generalize a.eval x=q at hv
   cases hv with | ptr b o r hr =>
   obtain ⟨u,hu,hrel⟩:=run_load (P:=P) hI hr hv'
   exact ⟨u,by simp [Instr.loadAt,Instr.sureAddr,hu],hrel⟩
  ·cases h
 ·
  rename_i t x y
  replace h:=Option.bind_eq_some_iff.1 h; obtain ⟨p,hp,h⟩:=h
  replace h:=Option.bind_eq_some_iff.1 h; obtain ⟨v,hy,h⟩:=h
  have hv:=aev_rel hf hg hp
  split at h
  ·obtain ⟨H',hs,rfl⟩:=Option.map_eq_some_iff.1 h
   refine res_skip (s:=Instr.storeAt t (a.eval x) (a.eval y)) rfl rfl ?_
   generalize a.eval x=q at hv
   cases hv with | ptr b o r hr =>
   obtain ⟨w',hw,hst⟩:=run_store (P:=P) hI hr (aev_rel hf hg hy) hs
   exact ⟨w',by simp [Instr.storeAt,Instr.sureAddr,hw],hst⟩
  ·cases h
 ·
  rename_i x
  replace h:=Option.bind_eq_some_iff.1 h; obtain ⟨v,hv,h⟩:=h
  have hr:=aev_rel hf hg hv
  split at h
  ·injection h with h; subst h
   generalize hq:a.eval x=q at hr
   cases hr with | ptr b o r hr =>
   exact ⟨ρ,_,w,by simp [execOp,hq],.ptr _ _ r hr,Step.refl hI,fun _=>⟨rfl,rfl,rfl⟩⟩
  ·injection h with h; subst h
   generalize hq:a.eval x=q at hr
   cases hr with | fn f xs ys us vs h1 h2 =>
   exact ⟨ρ,_,w,by simp [execOp,hq],.fn _ _ _ us vs h1 h2,Step.refl hI,fun _=>⟨rfl,rfl,rfl⟩⟩
  ·cases h
 ·
  rename_i bop t x y yt
  replace h:=Option.bind_eq_some_iff.1 h; obtain ⟨u,hu,h⟩:=h
  replace h:=Option.bind_eq_some_iff.1 h; obtain ⟨v,hv,h⟩:=h
  obtain ⟨z,hz,rfl⟩:=Option.map_eq_some_iff.1 h
  exact res_same (s:=do eqGuard bop t x y (a.eval x) (a.eval y); binOp bop t (a.eval x) (a.eval y)) rfl hI (op_binN (aev_rel hf hg hu) (aev_rel hf hg hv) hz)
 ·
  replace h:=Option.bind_eq_some_iff.1 h; obtain ⟨u,hu,h⟩:=h
  obtain ⟨z,hz,rfl⟩:=Option.map_eq_some_iff.1 h
  exact res_same rfl hI (op_unS (aev_rel hf hg hu) hz)
 ·
  replace h:=Option.bind_eq_some_iff.1 h; obtain ⟨u,hu,h⟩:=h
  obtain ⟨⟨z,H'⟩,hz,rfl⟩:=Option.map_eq_some_iff.1 h
  exact res_val rfl rfl (op_convS hI (aev_rel hf hg hu) hz hl)
 ·
  rename_i t x
  replace h:=Option.bind_eq_some_iff.1 h; obtain ⟨u,hu,h⟩:=h
  split at h
  ·cases h
  ·rename_i d hn hd
   injection h with h; subst h
   refine res_same (s:=Instr.makeInterface t (a.eval x)) rfl hI ⟨.iface t (a.eval x),?_,.iface t _ _ (aev_rel hf hg hu)⟩
   simp only [Instr.makeInterface,Sem.run_bind,run_und hd,Result.andThen_ok]
   cases d with
   | interface ms=>exact absurd rfl (hn ms)
   | _=>simp
  ·cases h
 ·
  rename_i f first captured
  replace h:=Option.bind_eq_some_iff.1 h; obtain ⟨xs,hxs,h⟩:=h
  obtain ⟨ys,hys,rfl⟩:=Option.map_eq_some_iff.1 h
  have e1:first.map a.eval=(first.toList.map a.eval).toArray:=by apply Array.ext'; simp
  have e2:captured.map a.eval=(captured.toList.map a.eval).toArray:=by apply Array.ext'; simp
  refine res_same (s:=Instr.makeFunc (.func f) (first.map a.eval) (captured.map a.eval)) rfl hI ⟨_,rfl,?_⟩
  rw [e1,e2]
  exact .fn _ xs ys _ _ (aevs_rel hf hg hxs) (aevs_rel hf hg hys)
 ·
  rename_i t
  injection h with h; subst h
  refine res_val (s:=Instr.makeMap t none) rfl rfl ⟨ρ.put H.next ⟨w.heap.size,0,true,0,0⟩,.map (some w.heap.size),w.alloc (.map #[] 0),by simp [Instr.makeMap],?_,?_⟩
  ·exact VR.map H.next ⟨w.heap.size,0,true,0,0⟩ (by simp [Rho.put])
  ·exact Step.alloc hI _ _ ⟨w.heap.size,0,true,0,0⟩ rfl ⟨rfl,.nil⟩ hl
 ·
  rename_i t l c
  replace h:=Option.bind_eq_some_iff.1 h; obtain ⟨lv,hlv,h⟩:=h
  replace h:=Option.bind_eq_some_iff.1 h; obtain ⟨cv,hcv,h⟩:=h
  have h1:=aev_rel hf hg hlv
  have h2:=aev_rel hf hg hcv
  split at h
  ·rename_i e k ln k' cn hu
   replace h:=Option.bind_eq_some_iff.1 h; obtain ⟨info,hi,h⟩:=h
   replace h:=Option.bind_eq_some_iff.1 h; obtain ⟨z,hz,h⟩:=h
   split at h
   ·rename_i hc
    injection h with h; subst h
    refine res_val (s:=Instr.makeSlice t (a.eval l) (a.eval c)) rfl rfl ?_
    generalize a.eval l=q1 at h1
    generalize a.eval c=q2 at h2
    cases h1; cases h2
    exact op_makeSlice hI hu hi hz hc.1 hc.2.1 hc.2.2.1 hc.2.2.2.1 hc.2.2.2.2 hl
   ·cases h
  ·cases h
 ·
  rename_i t x lo hi mx
  replace h:=Option.bind_eq_some_iff.1 h; obtain ⟨v,hv,h⟩:=h
  replace h:=Option.bind_eq_some_iff.1 h; obtain ⟨l1,hl1,h⟩:=h
  replace h:=Option.bind_eq_some_iff.1 h; obtain ⟨l2,hl2,h⟩:=h
  replace h:=Option.bind_eq_some_iff.1 h; obtain ⟨l3,hl3,h⟩:=h
  obtain ⟨y,hy,rfl⟩:=Option.map_eq_some_iff.1 h
  exact res_same (s:=Instr.sliceAt t (a.eval x) (lo.map a.eval) (hi.map a.eval) (mx.map a.eval)) rfl hI (op_slice hI (aev_rel hf hg hv) (opt_rel hf hg hl1) (opt_rel hf hg hl2) (opt_rel hf hg hl3) hy)
 ·
  rename_i t x f
  replace h:=Option.bind_eq_some_iff.1 h; obtain ⟨v,hv,h⟩:=h
  split at h
  ·rename_i fs b o hu
   replace h:=Option.bind_eq_some_iff.1 h; obtain ⟨g,hgf,h⟩:=h
   replace h:=Option.bind_eq_some_iff.1 h; obtain ⟨n,hn,h⟩:=h
   split at h
   ·cases h
   ·rename_i hn0
    injection h with h; subst h
    exact res_same (s:=Instr.fieldAt t (a.eval x) f) rfl hI (op_fieldAddr (aev_rel hf hg hv) hu hgf hn hn0)
  ·cases h
 ·
  rename_i t x f
  replace h:=Option.bind_eq_some_iff.1 h; obtain ⟨v,hv,h⟩:=h
  split at h
  ·rename_i fs cs hu
   replace h:=Option.bind_eq_some_iff.1 h; obtain ⟨g,hgf,h⟩:=h
   obtain ⟨y,hy,rfl⟩:=Option.map_eq_some_iff.1 h
   exact res_same (s:=Instr.field t (a.eval x) f) rfl hI (op_field (aev_rel hf hg hv) hu hgf hy)
  ·cases h
 ·
  rename_i t x ix
  replace h:=Option.bind_eq_some_iff.1 h; obtain ⟨v,hv,h⟩:=h
  replace h:=Option.bind_eq_some_iff.1 h; obtain ⟨i,hi,h⟩:=h
  have h1:=aev_rel hf hg hv
  have h2:=aev_rel hf hg hi
  split at h
  ·rename_i len e b o k n hu
   replace h:=Option.bind_eq_some_iff.1 h; obtain ⟨m,hm,h⟩:=h
   split at h
   ·rename_i hc
    injection h with h; subst h
    refine res_same (s:=Instr.indexAt t (a.eval x) (a.eval ix)) rfl hI ?_
    generalize a.eval ix=q at h2
    cases h2
    exact op_indexAddr_array h1 hu hm hc.1 hc.2
   ·cases h
  ·rename_i e b o len cap k n hu
   replace h:=Option.bind_eq_some_iff.1 h; obtain ⟨m,hm,h⟩:=h
   split at h
   ·rename_i hc
    injection h with h; subst h
    refine res_same (s:=Instr.indexAt t (a.eval x) (a.eval ix)) rfl hI ?_
    generalize a.eval ix=q at h2
    cases h2
    exact op_indexAddr_slice h1 hu hm hc.1 hc.2
   ·cases h
  ·cases h
 ·
  rename_i t x ix
  replace h:=Option.bind_eq_some_iff.1 h; obtain ⟨v,hv,h⟩:=h
  replace h:=Option.bind_eq_some_iff.1 h; obtain ⟨i,hi,h⟩:=h
  have h1:=aev_rel hf hg hv
  have h2:=aev_rel hf hg hi
  split at h
  ·rename_i len e cs k n hu
   replace h:=Option.bind_eq_some_iff.1 h; obtain ⟨m,hm,h⟩:=h
   split at h
   ·rename_i hc
    obtain ⟨y,hy,rfl⟩:=Option.map_eq_some_iff.1 h
    refine res_same (s:=Instr.index t (a.eval x) (a.eval ix)) rfl hI ?_
    generalize a.eval ix=q at h2
    cases h2
    exact op_index_array h1 hu hm hc.1 hc.2 hy
   ·cases h
  ·rename_i s k n hu
   split at h
   ·rename_i hc
    obtain ⟨y,hy,rfl⟩:=Option.map_eq_some_iff.1 h
    refine res_same (s:=Instr.index t (a.eval x) (a.eval ix)) rfl hI ?_
    generalize a.eval ix=q at h2
    cases h2
    exact ⟨_,op_index_string h1 hu hc hy,.int _ _⟩
   ·cases h
  ·cases h
 ·
  rename_i t x k ok
  replace h:=Option.bind_eq_some_iff.1 h; obtain ⟨m,hm,h⟩:=h
  replace h:=Option.bind_eq_some_iff.1 h; obtain ⟨kv,hk,h⟩:=h
  obtain ⟨y,hy,rfl⟩:=Option.map_eq_some_iff.1 h
  exact res_same (s:=Instr.lookup t (a.eval x) (a.eval k) ok) rfl hI (op_lookup hI (aev_rel hf hg hm) (aev_rel hf hg hk) hy)
 ·
  rename_i t x k y
  replace h:=Option.bind_eq_some_iff.1 h; obtain ⟨m,hm,h⟩:=h
  replace h:=Option.bind_eq_some_iff.1 h; obtain ⟨kv,hk,h⟩:=h
  replace h:=Option.bind_eq_some_iff.1 h; obtain ⟨xv,hx,h⟩:=h
  obtain ⟨H',hH,rfl⟩:=Option.map_eq_some_iff.1 h
  exact res_skip (s:=Instr.mapUpdate t (a.eval x) (a.eval k) (a.eval y)) rfl rfl (op_mapPut hI (aev_rel hf hg hm) (aev_rel hf hg hk) (aev_rel hf hg hx) hH)
 ·rename_i t x k y
  replace h:=Option.bind_eq_some_iff.1 h; obtain ⟨m,hm,h⟩:=h
  replace h:=Option.bind_eq_some_iff.1 h; obtain ⟨kv,hk,h⟩:=h
  replace h:=Option.bind_eq_some_iff.1 h; obtain ⟨xv,hx,h⟩:=h
  obtain ⟨H',hH,rfl⟩:=Option.map_eq_some_iff.1 h
  exact res_skip (s:=Instr.mapUpdate t (a.eval x) (a.eval k) (a.eval y)) rfl rfl (op_mapPut hI (aev_rel hf hg hm) (aev_rel hf hg hk) (aev_rel hf hg hx) hH)
 ·
  rename_i t x
  replace h:=Option.bind_eq_some_iff.1 h; obtain ⟨v,hv,h⟩:=h
  have h1:=aev_rel hf hg hv
  split at h
  ·rename_i s hu
   injection h with h; subst h
   refine res_val (s:=Instr.range t (a.eval x)) rfl rfl ?_
   generalize a.eval x=q at h1
   cases h1 with | str S _ hS =>
   refine ⟨ρ.put H.next ⟨w.heap.size,0,true,0,0⟩,.pointer (some ⟨w.heap.size,0,none⟩),w.alloc (.stringIter S 0),?_,?_,?_⟩
   ·simp [Instr.range,run_und hu]
   ·exact VR.ptr H.next 0 ⟨w.heap.size,0,true,0,0⟩ (by simp [Rho.put])
   ·exact Step.alloc hI _ _ ⟨w.heap.size,0,true,0,0⟩ rfl ⟨rfl,rfl,hS⟩ hl
  ·cases h
 ·
  rename_i x i
  replace h:=Option.bind_eq_some_iff.1 h; obtain ⟨v,hv,h⟩:=h
  split at h
  ·obtain ⟨y,hy,rfl⟩:=Option.map_eq_some_iff.1 h
   exact res_same (s:=Instr.extract (a.eval x) i) rfl hI (op_extract (aev_rel hf hg hv) hy)
  ·cases h
 ·
  rename_i c
  obtain ⟨callee,cargs,cts⟩:=c
  replace h:=Option.bind_eq_some_iff.1 h; obtain ⟨args,hargs,h⟩:=h
  have hra:=aevs_rel hf hg hargs
  have e1:cargs.map a.eval=(cargs.toList.map a.eval).toArray:=by apply Array.ext'; simp
  dsimp only at h hra
  split at h
  ·rename_i b
   obtain ⟨⟨z,H'⟩,hz,rfl⟩:=Option.map_eq_some_iff.1 h
   have ht:∀ i t,cts.toList[i]?=some t→cts[i]?=some t:=fun i t h=>by rw [← Array.getElem?_toList]; exact h
   have hex:∃ consts,execOp a.eval ⟨dst,.call ⟨.builtin b,cargs,cts⟩,type,pos,after,guard⟩=builtin b cts type consts (cargs.map a.eval):=⟨_,rfl⟩
   obtain ⟨consts,hex⟩:=hex
   suffices hres:∃ ρ' v' w',(builtin b cts type consts (cargs.map a.eval)).run P w=.ok (.value v') w'∧VR ρ' z v'∧Step P lim ρ H w ρ' H' w' by
    obtain ⟨ρ',v',w',h1,h2,h3⟩:=hres
    exact ⟨ρ',v',w',by rw [hex]; exact h1,h2,h3,fun h=>by cases h⟩
   rw [e1]
   generalize cargs.toList.map a.eval=vs at hra
   generalize hcts:cts.toList=ctl at hz ht
   unfold abuiltin at hz
   split at hz
   ·rename_i t t' rest s x
    split at hz
    ·rename_i k hd
     cases hra with | cons _ u _ _ hu hra =>
     cases hra with | cons _ v _ _ hv hra =>
     cases hra
     obtain ⟨ρ',r,w',h1,h2,h3⟩:=op_append (ty:=type) hI hu hv hl hd (fun h=>by cases h) (fun _=>⟨k,rfl⟩) cts (ht 0 t (by simp)) (ht 1 t' (by simp)) hz
     exact ⟨ρ',r,w',by simp [builtin,h1],h2,h3⟩
    ·rename_i d hn hd
     cases hra with | cons _ u _ _ hu hra =>
     cases hra with | cons _ v _ _ hv hra =>
     cases hra
     obtain ⟨ρ',r,w',h1,h2,h3⟩:=op_append (ty:=type) hI hu hv hl hd (fun _ k hk=>hn k (by rw [hk])) (fun h=>by cases h) cts (ht 0 t (by simp)) (ht 1 t' (by simp)) hz
     exact ⟨ρ',r,w',by simp [builtin,h1],h2,h3⟩
    ·cases hz
   ·rename_i t rest x
    obtain ⟨y,hy,hz⟩:=Option.map_eq_some_iff.1 hz
    simp only [Prod.mk.injEq] at hz
    obtain ⟨rfl,rfl⟩:=hz
    cases hra with | cons _ u _ _ hu hra =>
    cases hra
    obtain ⟨r,h1,h2⟩:=op_len (P:=P) (ty:=type) hI hu cts (ht 0 t (by simp)) hy
    exact ⟨ρ,r,w,by simp [builtin,h1],h2,Step.refl hI⟩
   ·rename_i t rest x y
    cases hra with | cons _ u _ _ hu hra =>
    cases hra with | cons _ v _ _ hv hra =>
    cases hra
    obtain ⟨r,w',h1,h2,h3⟩:=op_copy (P:=P) (ty:=type) hI hu hv cts (ht 0 t (by simp)) hz
    exact ⟨ρ,r,w',by simp [builtin,h1],h2,h3⟩
   ·rename_i k x k' y
    split at hz
    ·rename_i hk
     simp only [Option.some.injEq,Prod.mk.injEq] at hz
     obtain ⟨rfl,rfl⟩:=hz
     subst hk
     cases hra with | cons _ u _ _ hu hra =>
     cases hra with | cons _ v _ _ hv hra =>
     cases hra; cases hu; cases hv
     exact ⟨ρ,_,w,by simp [builtin,Builtin.min_,Builtin.min2],.int _ _,Step.refl hI⟩
    ·cases hz
   ·rename_i k x k' y
    split at hz
    ·rename_i hk
     simp only [Option.some.injEq,Prod.mk.injEq] at hz
     obtain ⟨rfl,rfl⟩:=hz
     subst hk
     cases hra with | cons _ u _ _ hu hra =>
     cases hra with | cons _ v _ _ hv hra =>
     cases hra; cases hu; cases hv
     exact ⟨ρ,_,w,by simp [builtin,Builtin.max_,Builtin.max2],.int _ _,Step.refl hI⟩
    ·cases hz
   ·cases hz
  ·rename_i f
   replace h:=Option.bind_eq_some_iff.1 h; obtain ⟨fv,hfv,h⟩:=h
   have h1:=aev_rel hf hg hfv
   split at h
   ·rename_i f' first captured
    split at h
    ·rename_i hcal
     injection h with h; subst h
     refine ⟨rfl,rfl,?_⟩
     generalize hq:a.eval f=q at h1
     cases h1 with | fn _ xs ys us vs hu hv =>
     refine ⟨us ++ cargs.toList.map a.eval ++ vs,?_,(hu.append hra).append hv⟩
     unfold acallee at hcal
     split at hcal
     ·rename_i fn hfn
      simp at hcal
      have hb:fn.body≠none:=Option.isSome_iff_ne_none.1 hcal.1
      simp [execOp,resolve,hq,Deferred.ofValue,invoke,callFunc,run_program,hfn,hb,hcal.2,e1]
     ·cases hcal
    ·cases h
   ·cases h
  ·cases h
 ·cases h
end
end Go.Proofs.YtoehlmiadiiimaaGreatDoor.Ex

/-
  An executor over the model's code: it is sound: regions, code, calls.
-/
namespace Go.Proofs.YtoehlmiadiiimaaGreatDoor.Ex
open Go
variable [Dec] [Env]
def CallOK (P:Program) (gl:Nat) (call:ACall) : Prop :=
 ∀ lim f args H v H',call lim f args H=some (v,H')→∀ ρ w (args':List Value),Inv P ρ H w→VRs ρ args args'→GOK ρ gl→lim≤H.next →
  Calls P f args'.toArray w fun e w'=>∃ ρ' v',e=.returned v'∧VR ρ' v v'∧Step P lim ρ H w ρ' H' w'
section
variable {P:Program} {gl lim:Nat} {call:ACall} {ops:Array Oper}
theorem yielded_eq {ρ:Rho} {fr:AFr} {a:Act} (hf:FR ρ fr a.tmps) : ayielded ops fr=yielded ops a.tmps:=by
 funext j
 unfold ayielded yielded
 cases hd:(ops[j]?).bind (·.dst) with
 | none=>rfl
 | some t =>
  have h:=hf.2 t
  simp only [Option.bind_some]
  cases ht:a.tmps[t]? with
  | none =>
   have e:a.tmps.getD t undef=undef:=by rw [Array.getD_eq_getD_getElem?,ht]; rfl
   rw [e] at h
   generalize AFr.at fr t=x at h
   unfold undef at h
   cases h
   rfl
  | some v =>
   have e:a.tmps.getD t undef=v:=by rw [Array.getD_eq_getD_getElem?,ht]; rfl
   rw [e] at h
   generalize AFr.at fr t=x at h
   cases h <;> rfl
theorem astep_wp (hcall:CallOK P gl call) {o:Oper} {fr fr':AFr} {H H':AHeap} {ρ:Rho} {a:Act} {w:World} {K:Act→World→Prop} {Q:Exit→Act→World→Prop}
  (h:astep P gl call ops lim o fr H=some (fr',H')) (hI:Inv P ρ H w) (hf:FR ρ fr a.tmps) (hg:GOK ρ gl) (hl:lim≤H.next)
  (hK:∀ ρ' v w',Step P lim ρ H w ρ' H' w'→FR ρ' fr' (a.put o.dst v).tmps→K (a.put o.dst v) w') :
  if Region.wanted o (yielded ops a.tmps) then o.wp P a w K Q else K (a.put o.dst undef) w:=by
 unfold astep at h
 rw [yielded_eq hf] at h
 split at h
 ·rename_i hw
  rw [hw,if_pos rfl]
  split at h
  ·rename_i v H1 ho
   obtain ⟨ρ',v',w',h1,h2,h3,-⟩:=aop_sound hI hf hg hl ho
   split at h
   ·rename_i fr1 hp
    simp only [Option.some.injEq,Prod.mk.injEq] at h
    obtain ⟨rfl,rfl⟩:=h
    obtain ⟨q1,q2⟩:=(hf.mono h3.ext).put (a:=a) hp h2
    unfold Oper.wp
    rw [h1]
    exact hK ρ' v' w' h3 q1
   ·cases h
  ·rename_i H1 ho
   obtain ⟨-,ρ',w',h1,h3⟩:=aop_sound hI hf hg hl ho
   split at h
   ·rename_i fr1 hp
    simp only [Option.some.injEq,Prod.mk.injEq] at h
    obtain ⟨rfl,rfl⟩:=h
    obtain ⟨q1,q2⟩:=(hf.mono h3.ext).put (a:=a) hp (vr_undef ρ')
    unfold Oper.wp
    rw [h1]
    exact hK ρ' undef w' h3 q1
   ·cases h
  ·rename_i f args H1 ho
   obtain ⟨-,rfl,args',h1,h2⟩:=aop_sound hI hf hg hl ho
   split at h
   ·rename_i v H2 hc
    split at h
    ·rename_i fr1 hp
     simp only [Option.some.injEq,Prod.mk.injEq] at h
     obtain ⟨rfl,rfl⟩:=h
     unfold Oper.wp
     rw [h1]
     refine (hcall _ _ _ _ _ _ hc ρ w args' hI h2 hg hl).mono ?_
     rintro e w' ⟨ρ',v',rfl,hv,hst⟩
     obtain ⟨q1,q2⟩:=(hf.mono hst.ext).put (a:=a) hp hv
     exact hK ρ' v' w' hst q1
    ·cases h
   ·cases h
  ·cases h
 ·rename_i hw
  rw [hw]
  split at h
  ·rename_i fr1 hp
   simp only [Option.some.injEq,Prod.mk.injEq] at h
   obtain ⟨rfl,rfl⟩:=h
   obtain ⟨q1,q2⟩:=hf.put (a:=a) hp (vr_undef ρ)
   exact hK ρ undef w (Step.refl hI) q1
  ·cases h
omit [Env] in
theorem aops_cons (o:Oper) (l:List Oper) (fr:AFr) (H:AHeap) : aops P gl call ops lim (o :: l) fr H=match astep P gl call ops lim o fr H with
  | some (fr,H)=>aops P gl call ops lim l fr H
  | none=>none:=rfl
theorem aops_sound (hcall:CallOK P gl call) {Q:Exit→Act→World→Prop} : ∀ (l:List Oper) (fr fr':AFr) (H H':AHeap) (ρ:Rho) (a:Act) (w:World),aops P gl call ops lim l fr H=some (fr',H') →
  Inv P ρ H w→FR ρ fr a.tmps→GOK ρ gl→lim≤H.next→(∀ ρ' a' w',Step P lim ρ H w ρ' H' w'→FR ρ' fr' a'.tmps→a'.defers=a.defers→Q .normal a' w')→wpList P ops Q l a w
 | [],fr,fr',H,H',ρ,a,w,h,hI,hf,hg,hl,hQ=>by
  simp only [aops,Option.some.injEq,Prod.mk.injEq] at h
  obtain ⟨rfl,rfl⟩:=h
  exact hQ ρ a w (Step.refl hI) hf rfl
 | o :: l,fr,fr',H,H',ρ,a,w,h,hI,hf,hg,hl,hQ=>by
  rw [aops_cons] at h
  split at h
  ·rename_i fr1 H1 hs
   refine wpList_step fun K hK=>astep_wp hcall hs hI hf hg hl fun ρ' v w' hst hf'=>hK _ _ ?_
   refine aops_sound hcall l fr1 fr' H1 H' ρ' _ w' h hst.inv hf' (hg.mono hst.ext) (Nat.le_trans hl hst.next) fun ρ'' a'' w'' hst' hf'' hd=>?_
   refine hQ ρ'' a'' w'' (hst.trans hst') hf'' (hd.trans ?_)
   cases o.dst <;> rfl
  ·cases h
def aexit:AExit→Exit
 | .normal=>.normal
 | .exit id=>.exit id
 | .ret=>.ret
def CodeOK (P:Program) (gl:Nat) (ex:Nat→Code→AFr→AHeap→Option (AExit×AFr×AHeap)) : Prop :=
 ∀ lim c fr H e fr' H',ex lim c fr H=some (e,fr',H')→∀ (ρ:Rho) (a:Act) (w:World) (Q:Exit→Act→World→Prop),Inv P ρ H w→FR ρ fr a.tmps→GOK ρ gl→lim≤H.next →
  (∀ ρ' a' w',Step P lim ρ H w ρ' H' w'→FR ρ' fr' a'.tmps→a'.defers=a.defers→Q (aexit e) a' w')→c.wp P Q a w
omit [Dec] [Env] in
theorem aframe_get:∀ (vs:List AV) (i:Nat) (t:T AV) (j:Nat),T.get (aframe vs i t) j=if i≤j∧j < i+vs.length then vs[j - i]? else T.get t j
 | [],i,t,j=>by
  show T.get t j=_
  simp; intro h1 h2; omega
 | v :: vs,i,t,j=>by
  show T.get (aframe vs (i+1) (T.set t i (some v))) j=_
  rw [aframe_get vs (i+1),T.get_set]
  by_cases h:i+1≤j∧j < i+1+vs.length
  ·rw [if_pos h,if_pos (by simp; omega)]
   rw [show j - i=(j - (i+1))+1 by omega]; simp
  ·rw [if_neg h]
   by_cases hj:j=i
   ·subst hj; simp
   ·rw [if_neg hj,if_neg (by simp; omega)]
theorem frame_rel {ρ:Rho} {args:List AV} {args':List Value} (h:VRs ρ args args') (n:Nat) :
  FR ρ ⟨Nat.max n args.length,aframe args 0 .leaf⟩ (args'.toArray ++ Array.replicate (n - args'.toArray.size) undef):=by
 have hl:=h.length
 refine ⟨?_,fun t=>?_⟩
 ·have:Nat.max n args.length=if n≤args.length then args.length else n:=rfl
  simp only [this]
  split <;> simp <;> omega
 unfold AFr.at
 simp only [aframe_get,Nat.zero_le,true_and,Nat.zero_add,Nat.sub_zero]
 by_cases ht:t < args.length
 ·rw [if_pos ht]
  obtain ⟨v,hv,hr⟩:=h.get t args[t] (by simp [ht])
  simp only [List.getElem?_eq_getElem ht]
  rw [Array.getD_eq_getD_getElem?,Array.getElem?_append_left (by simp; omega)]
  simp [hv]; exact hr
 ·rw [if_neg ht,T.get_leaf]
  have:(args'.toArray ++ Array.replicate (n - args'.toArray.size) undef).getD t undef=undef:=by
   rw [Array.getD_eq_getD_getElem?,Array.getElem?_append_right (by simp; omega)]
   simp [Array.getElem?_replicate]
   split <;> rfl
  rw [this]
  exact vr_undef ρ
def resOf (tmps:Array Value) : ResultVar→Sem Value
 | .tmp t=>pure (tmps.getD t undef)
 | .cell a t=>do loadVar t (← asAddr (tmps.getD a undef))
omit [Dec] [Env] in
theorem results_eq (fn:Func) (tmps:Array Value) : results fn tmps=(do
  let vs ← fn.results.mapM (resOf tmps)
  pure (if h:vs.size=1 then vs[0] else .tuple vs)):=by
 unfold results
 congr 2
theorem results_rel {ρ:Rho} {fr:AFr} {H:AHeap} {tmps:Array Value} {w:World} (hI:Inv P ρ H w) (hf:FR ρ fr tmps) : ∀ (rs:List ResultVar) (vs:List AV),aresults P fr H rs=some vs →
  ∃ us:List Value,(rs.mapM (resOf tmps)).run P w=.ok us w∧VRs ρ vs us
 | [],vs,h=>by simp [aresults] at h; subst h; exact ⟨[],by simp,.nil⟩
 | .tmp t :: rs,vs,h=>by
  simp only [aresults,Option.map_eq_some_iff] at h
  obtain ⟨ws,hw,rfl⟩:=h
  obtain ⟨us,h1,h2⟩:=results_rel hI hf rs ws hw
  exact ⟨tmps.getD t undef :: us,by simp [List.mapM_cons,resOf,h1],.cons _ _ _ _ (hf.2 t) h2⟩
 | .cell x t :: rs,vs,h=>by
  simp only [aresults] at h
  have hx:=hf.2 x
  split at h
  ·rename_i b o hb
   simp only [Option.bind_eq_some_iff,Option.map_eq_some_iff] at h
   obtain ⟨v,hv,ws,hw,rfl⟩:=h
   obtain ⟨us,h1,h2⟩:=results_rel hI hf rs ws hw
   rw [hb] at hx
   generalize hq:tmps.getD x undef=q at hx
   cases hx with | ptr _ _ r hr =>
   obtain ⟨u,hu,hrel⟩:=run_load (P:=P) hI hr hv
   exact ⟨u :: us,by simp [List.mapM_cons,resOf,hq,asAddr,hu,h1],.cons _ _ _ _ hrel h2⟩
  ·cases h
theorem acall_sound {orc:ACall} {ex:Nat→Code→AFr→AHeap→Option (AExit×AFr×AHeap)} (horc:CallOK P gl orc) (hex:CodeOK P gl ex) : CallOK P gl (acall P orc ex):=by
 intro lim f args H v H' h ρ w args' hI ha hg hl
 unfold acall at h
 split at h
 ·rename_i r hr
  injection h with h; subst h
  exact horc _ _ _ _ _ _ hr ρ w args' hI ha hg hl
 ·split at h
  ·cases h
  ·rename_i fn hfn
   split at h
   ·cases h
   ·rename_i c hb
    split at h
    ·cases h
    ·rename_i e fr H1 hne hx
     split at h
     ·rename_i vs hvs
      simp only [Option.some.injEq,Prod.mk.injEq] at h
      obtain ⟨rfl,rfl⟩:=h
      refine calls_of_wp hfn hb ?_
      refine hex _ _ _ _ _ _ _ hx ρ _ w _ hI (frame_rel ha fn.ntmps) hg hl fun ρ' a' w' hst hf' hd=>?_
      obtain ⟨us,h1,h2⟩:=results_rel (P:=P) hst.inv hf' _ _ hvs
      have hres:∃ u,(results fn a'.tmps).run P w'=.ok u w'∧VR ρ' (aresult vs) u:=by
       refine ⟨if h:us.toArray.size=1 then us.toArray[0] else .tuple us.toArray,?_,?_⟩
       ·have:(fn.results.mapM (resOf a'.tmps)).run P w'=.ok us.toArray w':=by
         rw [← Array.toArray_toList (xs:=fn.results),List.mapM_toArray]
         simp only [Sem.run_map,h1,Result.andThen_ok]
        rw [results_eq]
        simp only [Sem.run_bind,this,Result.andThen_ok,Sem.run_pure]
       ·match vs,us,h2 with
        | [],_,.nil=>exact .tup _ [] .nil
        | [_],_,.cons _ u _ _ hu .nil=>simpa [aresult] using hu
        | _ :: _ :: _,_,.cons _ u _ _ hu (.cons _ u' _ us' hu' ht)=>simpa [aresult] using VR.tup _ (u :: u' :: us') (.cons _ u _ _ hu (.cons _ u' _ us' hu' ht))
      obtain ⟨u,hu,hrel⟩:=hres
      have hpost:a'.defers=[]∧∃ v,(results fn a'.tmps).run P w'=.ok v w'∧∃ ρ'' v',Ending.returned v=.returned v'∧VR ρ'' (aresult vs) v'∧Step P lim ρ H w ρ'' H1 w' :=
       ⟨hd,u,hu,ρ',u,rfl,hrel,hst⟩
      cases e with
      | normal=>exact hpost
      | ret=>exact hpost
      | exit id=>exact absurd rfl (hne id)
     ·cases h
    ·cases h
end
end Go.Proofs.YtoehlmiadiiimaaGreatDoor.Ex

