import Derived.Test.YtoehlmiadiiimaaGreatDoorTExRel
import Derived.Laws.BytesString
import Derived.Lib.Strings
import Derived.Laws.Strings
import Derived.Laws.StructEq
import Derived.Lib.ConvBytes
namespace Go.Proofs.YtoehlmiadiiimaaGreatDoor.Ex
open Go
variable [Dec] [Env]
section
variable {P:Program} {w:World} {ρ:Rho} {H:AHeap}
omit [Dec] [Env] in
theorem run_und {t:TypeId} {d:TypeDesc} (h:und P t=some d) : (underlying t).run P w=.ok d w:=run_underlying h w
omit [Dec] [Env] in
theorem run_info {t:TypeId} {i:TypeInfo} (h:P.info? t=some i) : (typeInfo t).run P w=.ok i w:=by
 simp [typeInfo,h]
omit [Dec] [Env] in
theorem run_sz {t:TypeId} {n:Nat} (h:sz P t=some n) : (sizeOf t).run P w=.ok n w:=by
 unfold sz at h
 obtain ⟨i,hi,rfl⟩:=Option.map_eq_some_iff.1 h
 simp [sizeOf,run_info hi]
theorem run_zero {t:TypeId} {z:AV} (h:zero P t=some z) : ∃ v,(∀ w,(zeroValue t).run P w=.ok v w)∧∀ ρ,VR ρ z v:=by
 unfold zero at h
 obtain ⟨v,hv,hz⟩:=Option.bind_eq_some_iff.1 h
 obtain ⟨i,hi,hiz⟩:=Option.bind_eq_some_iff.1 hv
 exact ⟨v,fun w=>by simp [zeroValue,run_info hi,hiz],fun ρ=>ofV_rel v z hz⟩
omit [Dec] [Env] in
theorem run_agg {t:TypeId} {b:Bool} (h:agg? P t=some b) : (isAgg t).run P w=.ok b w:=by
 unfold agg? at h
 split at h
 ·rename_i hu; injection h with h; subst h; simp [isAgg,run_und hu]
 ·rename_i hu; injection h with h; subst h; simp [isAgg,run_und hu]
 ·rename_i d h1 h2 hu
  injection h with h; subst h
  simp only [isAgg,Sem.run_bind,run_und hu,Result.andThen_ok]
  cases d with
  | struct fs=>exact absurd rfl (h1 _)
  | array n e=>exact absurd rfl (h2 _ _)
  | _=>simp
 ·cases h
omit [Dec] [Env] in
theorem cell_of {b o:Nat} {C:Array Value} {e:TypeId} {fr:Nat×Nat} (h:w.heap[b]?=some (.cells C e fr)) : w.cell? ⟨b,o,none⟩=C[o]?:=by
 simp [World.cell?,h]
omit [Dec] [Env] in
theorem frozen_of {b o:Nat} {C:Array Value} {e:TypeId} {fr:Nat×Nat} (h:w.heap[b]?=some (.cells C e fr)) : w.frozen? ⟨b,o,none⟩=(decide (fr.1≤o) && decide (o < fr.2)):=by
 obtain ⟨lo,hi⟩:=fr
 simp [World.frozen?,h]
omit [Dec] [Env] in
theorem add_none (b o n:Nat) : (⟨b,o,none⟩ : Addr).add n=⟨b,o+n,none⟩:=by
 unfold Addr.add; split <;> simp_all
theorem run_part {t:TypeId} {cs:List AV} {vs:List Value} {off:Nat} {x:AV} (h:VRs ρ cs vs) (hx:apart P t cs off=some x) :
  ∃ v,(part t vs.toArray off).run P w=.ok v w∧VR ρ x v:=by
 unfold apart at hx
 split at hx
 ·rename_i ha
  obtain ⟨n,hn,rfl⟩:=Option.map_eq_some_iff.1 hx
  refine ⟨.agg (((vs.drop off).take n)).toArray,?_,.agg _ _ ((h.drop off).take n)⟩
  simp [part,run_agg ha,run_sz hn]
 ·rename_i ha
  obtain ⟨v,hv,hr⟩:=h.get off x hx
  refine ⟨v,?_,hr⟩
  simp [part,run_agg ha,hv]
 ·cases hx
theorem Inv.block (h:Inv P ρ H w) {b:Nat} {c:List AV} {e:TypeId} {t:Bool} {r:RB} (hb:H.get b=some (.cells c e t)) (hr:ρ b=some r) :
  ∃ C fr,w.heap[r.cb]?=some (.cells C e fr)∧t=r.tight∧C.size=r.size∧r.co+c.length≤C.size∧VRs ρ c ((C.toList.drop r.co).take c.length) ∧
   (∀ i,i < c.length→¬ (fr.1≤r.co+i∧r.co+i < fr.2))∧(t=false→(∀ i,i < C.size→¬ (fr.1≤i∧i < fr.2))∧P.cellsOf e=r.esz):=by
 obtain ⟨C,hC,hO⟩:=h.obj b _ r hb hr
 cases C <;> try exact hO.elim
 rename_i C E fr
 obtain ⟨h1,h2,h3,h4,h5,h6,h7⟩:=hO
 subst h1
 exact ⟨C,fr,hC,h2,h3,h4,h5,h6,h7⟩
theorem get_cells (h:Inv P ρ H w) {b:Nat} {c:List AV} {e:TypeId} {t:Bool} {r:RB} (hb:H.get b=some (.cells c e t)) (hr:ρ b=some r) (o n:Nat) (hn:o+n≤c.length) :
  ∃ vs:List Value,(∀ j v,vs[j]?=some v→w.cell? ((⟨r.cb,r.co+o,none⟩ : Addr).add j)=some v)∧VRs ρ ((c.drop o).take n) vs∧vs.length=n:=by
 obtain ⟨C,fr,hC,_,_,h4,h5,_,_⟩:=h.block hb hr
 have hl:((c.drop o).take n).length=n:=by simp; omega
 have hlen:((((C.toList.drop r.co).take c.length).drop o).take n).length=n:=by
  rw [← ((h5.drop o).take n).length]; exact hl
 refine ⟨(((C.toList.drop r.co).take c.length).drop o).take n,fun j v hj=>?_,(h5.drop o).take n,hlen⟩
 rw [add_none,cell_of hC]
 have hjn:j < n:=by
  have:=(List.getElem?_eq_some_iff.1 hj).1
  rw [hlen] at this; exact this
 rw [List.getElem?_take_of_lt hjn,List.getElem?_drop,List.getElem?_take_of_lt (by omega),List.getElem?_drop] at hj
 rw [← Array.getElem?_toList,show r.co+o+j=r.co+(o+j) by omega]
 exact hj
theorem run_cells (h:Inv P ρ H w) {b:Nat} {c:List AV} {e:TypeId} {t:Bool} {r:RB} (hb:H.get b=some (.cells c e t)) (hr:ρ b=some r) (o n:Nat) (hn:o+n≤c.length) :
  ∃ vs:List Value,(∀ a:Addr,a=⟨r.cb,r.co+o,none⟩→(loadCells a n).run P w=.ok vs.toArray w)∧VRs ρ ((c.drop o).take n) vs∧vs.length=n:=by
 obtain ⟨vs,h1,h2,h3⟩:=get_cells h hb hr o n hn
 refine ⟨vs,?_,h2,h3⟩
 rintro a rfl
 have:=run_loadCells_list (P:=P) w ⟨r.cb,r.co+o,none⟩ vs h1
 rw [h3] at this
 exact this
theorem run_load (h:Inv P ρ H w) {t:TypeId} {b o:Nat} {x:AV} {r:RB} (hr:ρ b=some r) (hx:aload P H t b o=some x) :
  ∃ v,(loadVar t ⟨r.cb,r.co+o,none⟩).run P w=.ok v w∧VR ρ x v:=by
 unfold aload at hx
 split at hx
 ·rename_i c e tt hb
  split at hx
  ·rename_i ha
   obtain ⟨n,hn,hx⟩:=Option.bind_eq_some_iff.1 hx
   split at hx
   ·rename_i hlt
    injection hx with hx; subst hx
    obtain ⟨vs,hvs,hrel,_⟩:=run_cells h hb hr o n hlt
    refine ⟨.agg vs.toArray,?_,.agg _ _ hrel⟩
    simp [loadVar,run_agg ha,run_sz hn,hvs _ rfl]
   ·cases hx
  ·rename_i ha
   obtain ⟨C,fr,hC,_,_,h4,h5,_,_⟩:=h.block hb hr
   obtain ⟨v,hv,hrel⟩:=h5.get o x hx
   refine ⟨v,?_,hrel⟩
   have ho:o < c.length:=(List.getElem?_eq_some_iff.1 hx).1
   rw [List.getElem?_take_of_lt ho,List.getElem?_drop] at hv
   have hc:w.cell? ⟨r.cb,r.co+o,none⟩=some v:=by rw [cell_of hC,← Array.getElem?_toList]; exact hv
   simp [loadVar,run_agg ha,hc]
  ·cases hx
 ·cases hx
omit [Dec] [Env] in
theorem setCells_heap (b:Nat) : ∀ (vs:List Value) (o:Nat) (w:World) (C:Array Value) (e:TypeId) (fr:Nat×Nat),w.heap[b]?=some (.cells C e fr)→o+vs.length≤C.size →
  (w.setCells b o vs).heap=w.heap.setIfInBounds b (.cells (C.toList.take o ++ vs ++ C.toList.drop (o+vs.length)).toArray e fr)∧(w.setCells b o vs).os=w.os∧(w.setCells b o vs).tape=w.tape∧(w.setCells b o vs).output=w.output
 | [],o,w,C,e,fr,h,hl=>by
  refine ⟨?_,rfl,rfl,rfl⟩
  simp only [World.setCells,List.append_nil,List.length_nil,Nat.add_zero,List.take_append_drop,Array.toArray_toList]
  apply Array.ext'
  apply List.ext_getElem?
  intro i
  rw [Array.getElem?_toList,Array.getElem?_toList,Array.getElem?_setIfInBounds]
  split
  ·subst_vars; split
   ·exact h
   ·rename_i hx; exact Array.getElem?_eq_none (by omega)
  ·rfl
 | v :: vs,o,w,C,e,fr,h,hl=>by
  simp at hl
  have h1:(w.setCell ⟨b,o,none⟩ v).heap[b]?=some (.cells (C.setIfInBounds o v) e fr):=by
   simp only [World.setCell,Array.getElem?_modify,h]; simp
  obtain ⟨k1,k2,k3,k4⟩:=setCells_heap b vs (o+1) (w.setCell ⟨b,o,none⟩ v) (C.setIfInBounds o v) e fr h1 (by simp; omega)
  refine ⟨?_,k2,k3,k4⟩
  rw [World.setCells,k1]
  have hlt:b < w.heap.size:=(Array.getElem?_eq_some_iff.1 h).1
  have e1:(C.setIfInBounds o v).toList.take (o+1) ++ vs ++ (C.setIfInBounds o v).toList.drop (o+1+vs.length)=C.toList.take o ++ (v :: vs) ++ C.toList.drop (o+(v :: vs).length):=by
   rw [Array.toList_setIfInBounds]
   have e2:(C.toList.set o v).take (o+1)=C.toList.take o ++ [v]:=by
    rw [List.take_succ_eq_append_getElem (by simp; omega)]
    simp [List.take_set_of_le]
   rw [e2,List.drop_set_of_lt (by omega)]
   simp [Nat.add_assoc,Nat.add_comm 1]
  rw [e1]
  apply Array.ext'
  apply List.ext_getElem?
  intro i
  simp only [Array.getElem?_toList,Array.getElem?_setIfInBounds,World.setCell,Array.size_modify,Array.getElem?_modify]
  by_cases e:b=i
  ·simp [e]
  ·simp [e]
theorem run_write (h:Inv P ρ H w) {lim b o:Nat} {xs:List AV} {vs:List Value} {r:RB} {H':AHeap} (hr:ρ b=some r) (hv:VRs ρ xs vs) (hx:awrite H lim b o xs=some H') :
  ∃ w',(∀ a:Addr,a=⟨r.cb,r.co+o,none⟩→(storeCells a vs).run P w=.ok () w')∧Step P lim ρ H w ρ H' w'∧H'.next=H.next:=by
 unfold awrite at hx
 split at hx
 ·rename_i hlim
  split at hx
  ·rename_i c e t hb
   split at hx
   ·rename_i hc
    injection hx with hx; subst hx
    obtain ⟨hlen,hone⟩:=hc
    obtain ⟨C,fr,hC,h2,h3,h4,h5,h6,h7⟩:=h.block hb hr
    have hvl:=hv.length
    have hones:=hv.ones hone
    refine ⟨w.setCells r.cb (r.co+o) vs,?_,?_,rfl⟩
    ·rintro a rfl
     have:=run_storeCells_cells (P:=P) r.cb (r.co+o) vs 0 w (fun j hj=>by
       rw [cell_of hC]; simp; omega)
      (fun j hj=>by
        rw [frozen_of hC]
        have:=h6 (o+j) (by omega)
        rw [show r.co+(o+j)=r.co+o+0+j by omega] at this
        simpa using this) hones
     simpa using this
    ·obtain ⟨k1,k2,k3,k4⟩:=setCells_heap r.cb vs (r.co+o) w C e fr hC (by omega)
     refine Step.put h b _ _ r hb hr hlim _ ?_ k1 k2 k3 k4
     refine ⟨rfl,h2,?_,?_,?_,?_,?_⟩
     ·simp; omega
     ·simp [splice]; omega
     ·have hs:=VRs.splice (c:=c) (vs:=xs) o h5 hv
      have hl:(splice c o xs).length=c.length:=by simp [splice]; omega
      rw [hl]
      have:(List.drop r.co ((C.toList.take (r.co+o) ++ vs ++ C.toList.drop (r.co+o+vs.length)).toArray).toList).take c.length
        = List.take o ((C.toList.drop r.co).take c.length) ++ vs ++ List.drop (o+vs.length) ((C.toList.drop r.co).take c.length):=by
       dsimp only
       apply List.ext_getElem?
       intro i
       by_cases hi:i < c.length
       ·rw [List.getElem?_take_of_lt hi,List.getElem?_drop]
        by_cases h1:i < o
        ·rw [List.append_assoc,List.getElem?_append_left (by simp; omega),List.getElem?_take_of_lt (by omega),List.append_assoc,List.getElem?_append_left (by simp; omega),List.getElem?_take_of_lt h1,
          List.getElem?_take_of_lt hi,List.getElem?_drop]
        ·by_cases h1':i < o+vs.length
         ·rw [List.append_assoc,List.getElem?_append_right (by simp; omega),List.getElem?_append_left (by simp; omega),List.append_assoc,List.getElem?_append_right (by simp; omega),List.getElem?_append_left (by simp; omega)]
          congr 1
          simp; omega
         ·rw [List.getElem?_append_right (by simp; omega),List.getElem?_drop,List.getElem?_append_right (by simp; omega),List.getElem?_drop,List.getElem?_take_of_lt (by simp; omega),List.getElem?_drop]
          congr 1
          simp; omega
       ·rw [List.getElem?_eq_none (by simp; omega),List.getElem?_eq_none (by simp; omega)]
      rw [this]; exact hs
     ·intro i hi
      have hl:(splice c o xs).length=c.length:=by simp [splice]; omega
      rw [hl] at hi
      exact h6 i hi
     ·intro ht
      obtain ⟨g1,g2⟩:=h7 ht
      refine ⟨fun i hi=>g1 i ?_,g2⟩
      simp at hi; omega
   ·cases hx
  ·cases hx
 ·cases hx
theorem run_store {v:Value} (h:Inv P ρ H w) {lim b o:Nat} {t:TypeId} {x:AV} {r:RB} {H':AHeap} (hr:ρ b=some r) (hv:VR ρ x v) (hx:astore P H lim t b o x=some H') :
  ∃ w',(storeVar t ⟨r.cb,r.co+o,none⟩ v).run P w=.ok () w'∧Step P lim ρ H w ρ H' w':=by
 unfold astore at hx
 split at hx
 ·rename_i hs
  have hc:=hv.cells
  obtain ⟨w',hw,hst,_⟩:=run_write h hr hc hx
  refine ⟨w',?_,hst⟩
  have hl:=hc.length
  have hz:v.cells.size=x.cells.length:=by rw [hl]; simp
  simp [storeVar,run_sz hs.symm,hz,hw _ rfl]
 ·cases hx
end
end Go.Proofs.YtoehlmiadiiimaaGreatDoor.Ex
namespace Go.Proofs.YtoehlmiadiiimaaGreatDoor.Ex
open Go
variable [Dec] [Env]
section
variable {P:Program} {w:World} {ρ:Rho} {H:AHeap}
omit [Dec] [Env] in
theorem foldl_set (off:Nat) : ∀ (vs:List Value) (k:Nat) (C:Array Value),off+k+vs.length≤C.size →
  (vs.zipIdx k).foldl (fun cs (x:Value×Nat)=>cs.setIfInBounds (off+x.2) x.1) C=(C.toList.take (off+k) ++ vs ++ C.toList.drop (off+k+vs.length)).toArray
 | [],k,C,h=>by simp
 | v :: vs,k,C,h=>by
  simp at h
  rw [List.zipIdx_cons,List.foldl_cons,foldl_set off vs (k+1) _ (by simp; omega)]
  congr 1
  rw [Array.toList_setIfInBounds]
  have e2:(C.toList.set (off+k) v).take (off+(k+1))=C.toList.take (off+k) ++ [v]:=by
   rw [show off+(k+1)=off+k+1 by omega,List.take_succ_eq_append_getElem (by simp; omega)]
   simp [List.take_set_of_le]
  rw [e2,List.drop_set_of_lt (by omega)]
  simp [Nat.add_assoc,Nat.add_comm 1]
theorem fill_rel {place:Nat→Option (Nat×Nat)} : ∀ {ps:List (Nat×AV)} {qs:List (Nat×Value)} {cells cs:List AV} {C:List Value},
  ps.map (·.1)=qs.map (·.1)→VRs ρ (ps.map (·.2)) (qs.map (·.2))→VRs ρ cells C→afill place cells ps=some cs →
  ∃ D:List Value,Instr.fill place C.toArray qs=some D.toArray∧VRs ρ cs D
 | [],[],cells,cs,C,_,_,hC,h=>by simp [afill] at h; subst h; exact ⟨C,rfl,hC⟩
 | [],_ :: _,_,_,_,h,_,_,_=>by simp at h
 | _ :: _,[],_,_,_,h,_,_,_=>by simp at h
 | (i,x) :: ps,(j,v) :: qs,cells,cs,C,h1,h2,hC,h=>by
   simp at h1
   obtain ⟨rfl,h1⟩:=h1
   cases h2 with
   | cons _ _ _ _ hv h2 =>
   simp only [afill] at h
   split at h
   · cases h
   · rename_i off size hp
     split at h
     · rename_i hc
       obtain ⟨hsz,hlt⟩:=hc
       have hcells:=hv.cells
       have hl:x.cells.length=v.cells.size:=by rw [hcells.length]; simp
       have hCl:=hC.length
       have:=VRs.splice off hC hcells
       obtain ⟨D,hD,hrel⟩:=fill_rel h1 h2 this h
       refine ⟨D,?_,hrel⟩
       simp only [Instr.fill,hp]
       have hcond:((v.cells.size≠size) || decide (off+v.cells.size > C.toArray.size))=false:=by
         simp; omega
       simp only [hcond]
       have hfold:=foldl_set off v.cells.toList 0 C.toArray (by simp; omega)
       have e:(v.cells.zipIdx.foldl (fun cs (x:Value×Nat)=>cs.setIfInBounds (off+x.2) x.1) C.toArray)=(C.take off ++ v.cells.toList ++ C.drop (off+v.cells.toList.length)).toArray:=by
         rw [← Array.foldl_toList,Array.toList_zipIdx]
         simpa using hfold
       show Instr.fill place (v.cells.zipIdx.foldl (fun cs (x:Value×Nat)=>cs.setIfInBounds (off+x.2) x.1) C.toArray) qs=_
       rw [e]
       exact hD
     · cases h
omit [Dec] [Env] in
theorem run_mapM {α β:Type} (g:α→Sem β) (f:α→β) : ∀ (l:List α),(∀ a∈l,(g a).run P w=.ok (f a) w)→(l.mapM g).run P w=.ok (l.map f) w
 | [],_=>by simp
 | a :: l,h=>by
  simp [List.mapM_cons,h a (by simp),run_mapM g f l (fun b hb=>h b (by simp [hb]))]
theorem pair_rel {gl:Nat} {fr:AFr} {a:Act} (hf:FR ρ fr a.tmps) (hg:GOK ρ gl) {parts:Array (Nat×Operand)} {vs:List AV} (h:aevs gl fr (parts.toList.map (·.2))=some vs) :
  (aparts (parts.toList.map (·.1)) vs).map (·.1)=(parts.toList.map fun p=>(p.1,a.eval p.2)).map (·.1) ∧
  VRs ρ ((aparts (parts.toList.map (·.1)) vs).map (·.2)) ((parts.toList.map fun p=>(p.1,a.eval p.2)).map (·.2)):=by
 have hr:=aevs_rel hf hg h
 have hl:=hr.length
 simp at hl
 constructor
 ·simp only [aparts]
  rw [List.map_fst_zip (by simp [hl])]
  simp
 ·simp only [aparts]
  rw [List.map_snd_zip (by simp [hl])]
  simpa [Function.comp_def] using hr
theorem build_struct {t:TypeId} {fs:Array Field} {z:AV} {ps:List (Nat×AV)} {qs:List (Nat×Value)} {cs:List AV} (hu:und P t=some (.struct fs))
  (ha:fs.all (fun f=>(sz P f.type).isSome)=true) (hz:zero P t=some z) (h1:ps.map (·.1)=qs.map (·.1)) (h2:VRs ρ (ps.map (·.2)) (qs.map (·.2)))
  (h:afill (aplaces P fs) z.cells ps=some cs) : ∃ v,(Instr.build t qs.toArray).run P w=.ok v w∧VR ρ (.agg cs) v:=by
 obtain ⟨zv,hzr,hzv⟩:=run_zero hz
 obtain ⟨D,hD,hrel⟩:=fill_rel h1 h2 (hzv ρ).cells h
 refine ⟨.agg D.toArray,?_,.agg _ _ hrel⟩
 have hm:(fs.mapM (fun f=>do pure (f.offset,← sizeOf f.type) : Field→Sem (Nat×Nat))).run P w=.ok (fs.toList.map fun f=>(f.offset,(sz P f.type).getD 0)).toArray w:=by
  obtain ⟨l⟩:=fs
  rw [List.mapM_toArray]
  simp only [Sem.run_map]
  rw [run_mapM _ (fun f=>(f.offset,(sz P f.type).getD 0)) l]
  ·rfl
  ·intro f hf
   have hs:(sz P f.type).isSome=true:=by
    have:=Array.all_eq_true_iff_forall_mem.1 ha f (by simpa using hf)
    exact this
   obtain ⟨n,hn⟩:=Option.isSome_iff_exists.1 hs
   simp [run_sz hn,hn]
 have hpl:(fun i=>(fs.toList.map fun f=>(f.offset,(sz P f.type).getD 0)).toArray[i]?)=aplaces P fs:=by
  funext i
  simp only [aplaces,List.getElem?_toArray,List.getElem?_map,Array.getElem?_toList]
  cases hi:fs[i]? with
  | none=>simp
  | some f =>
   have hs:(sz P f.type).isSome=true:=Array.all_eq_true_iff_forall_mem.1 ha f (Array.mem_of_getElem? hi)
   obtain ⟨n,hn⟩:=Option.isSome_iff_exists.1 hs
   simp [hn]
 simp only [Instr.build,Sem.run_bind,hzr,Result.andThen_ok,run_und hu,hm]
 simp only [Array.toArray_toList] at hD
 rw [hpl,show zv.cells=zv.cells.toList.toArray by simp]
 simp [hD]
theorem build_array {t e n k:Nat} {z:AV} {ps:List (Nat×AV)} {qs:List (Nat×Value)} {cs:List AV} (hu:und P t=some (.array k e))
  (hs:sz P e=some n) (hz:zero P t=some z) (h1:ps.map (·.1)=qs.map (·.1)) (h2:VRs ρ (ps.map (·.2)) (qs.map (·.2)))
  (h:afill (fun i=>some (i*n,n)) z.cells ps=some cs) : ∃ v,(Instr.build t qs.toArray).run P w=.ok v w∧VR ρ (.agg cs) v:=by
 obtain ⟨zv,hzr,hzv⟩:=run_zero hz
 obtain ⟨D,hD,hrel⟩:=fill_rel h1 h2 (hzv ρ).cells h
 refine ⟨.agg D.toArray,?_,.agg _ _ hrel⟩
 simp only [Array.toArray_toList] at hD
 simp only [Instr.build,Sem.run_bind,hzr,Result.andThen_ok,run_und hu,run_sz hs]
 simp [hD]
omit [Dec] [Env] in
theorem zeros_eq (Z:List Value) (n:Nat) (_hZ:0 < Z.length) :
  (Array.range (n*Z.length)).map (fun i=>Z.toArray[i % Z.toArray.size]!)=((List.replicate n Z).flatten).toArray:=by
 apply Array.ext'
 simp only [Array.toList_map,Array.toList_range]
 induction n with
 | zero=>simp
 | succ n ih =>
  rw [Nat.succ_mul,Nat.add_comm,List.range_add,List.map_append,List.replicate_succ,List.flatten_cons]
  congr 1
  ·apply List.ext_getElem?
   intro i
   by_cases hi:i < Z.length
   ·simp [hi,Nat.mod_eq_of_lt hi]
   ·rw [List.getElem?_eq_none (by simp; omega),List.getElem?_eq_none (by omega)]
  ·rw [← ih,List.map_map]
   apply List.map_congr_left
   intro i _
   simp
theorem OR.row {c:List AV} {C:List Value} {e:TypeId} {t:Bool} {k esz:Nat} (h:VRs ρ c C) (he:t=false→P.cellsOf e=esz) :
  OR P ρ ⟨k,0,t,C.length,esz⟩ (.cells c e t) (.cells C.toArray e (0,0)):=by
 refine ⟨rfl,rfl,by simp,by simp [h.length],?_,?_,?_⟩
 ·simp [h.length]; exact h
 ·intro i _; simp
 ·intro ht; exact ⟨fun i _=>by simp,he ht⟩
theorem Step.row {lim:Nat} (h:Inv P ρ H w) {c:List AV} {C:List Value} {e:TypeId} (hc:VRs ρ c C) (hl:lim≤H.next) :
  ∃ ρ',Step P lim ρ H w ρ' (H.alloc (.cells c e true)) (w.alloc (.cells C.toArray e))∧ρ' H.next=some ⟨w.heap.size,0,true,C.length,0⟩ :=
 ⟨_,Step.alloc h _ _ ⟨w.heap.size,0,true,C.length,0⟩ rfl (OR.row (hc.mono (Rho.put_ext (h.fresh _ (Nat.le_refl _)))) (by simp)) hl,by simp [Rho.put]⟩
theorem new_ptr {ρ':Rho} {b k n s:Nat} {t:Bool} (h:ρ' b=some ⟨k,0,t,n,s⟩) : VR ρ' (.ptr b 0) (.pointer (some ⟨k,0,none⟩)):=VR.ptr b 0 _ h
theorem new_sl {ρ':Rho} {b k n s l c:Nat} (h:ρ' b=some ⟨k,0,true,n,s⟩) (hl:l≤c) : VR ρ' (.sl b 0 l c) (.slice (some ⟨k,0,none⟩) l c) :=
 VR.sl b 0 l c c _ h hl (Nat.le_refl _) (fun _=>rfl) (by simp)
omit [Dec] [Env] in
theorem run_newRow (e:TypeId) (C:Array Value) : (newRow e C).run P w=.ok ⟨w.heap.size,0,none⟩ (w.alloc (.cells C e)):=by
 simp [newRow]
theorem op_alloc {lim e:Nat} {z:AV} (h:Inv P ρ H w) (hz:zero P e=some z) (hl:lim≤H.next) :
  ∃ ρ' v w',(Instr.alloc e true (.tuple #[])).run P w=.ok v w'∧VR ρ' (.ptr H.next 0) v∧Step P lim ρ H w ρ' (H.alloc (.cells z.cells e true)) w':=by
 obtain ⟨zv,hzr,hzv⟩:=run_zero hz
 obtain ⟨ρ',hst,hn⟩:=Step.row (e:=e) h (hzv ρ).cells hl
 refine ⟨ρ',_,_,?_,new_ptr hn,hst⟩
 simp [Instr.alloc,hzr,newVar,run_newRow]
theorem op_box {lim e:Nat} {x:AV} {v:Value} (h:Inv P ρ H w) (hv:VR ρ x v) (hl:lim≤H.next) :
  ∃ ρ' v' w',(Instr.box e v).run P w=.ok v' w'∧VR ρ' (.ptr H.next 0) v'∧Step P lim ρ H w ρ' (H.alloc (.cells x.cells e true)) w':=by
 obtain ⟨ρ',hst,hn⟩:=Step.row (e:=e) h hv.cells hl
 refine ⟨ρ',_,_,?_,new_ptr hn,hst⟩
 simp [Instr.box,newVar,run_newRow]
theorem op_buildSlice {lim t e n len:Nat} {z:AV} {ps:List (Nat×AV)} {qs:List (Nat×Value)} {cs:List AV} (h:Inv P ρ H w) (hu:und P t=some (.slice e))
  (hs:sz P e=some n) (hz:zero P e=some z) (hzl:z.cells.length=n) (hb:len*n≤16777216) (h1:ps.map (·.1)=qs.map (·.1)) (h2:VRs ρ (ps.map (·.2)) (qs.map (·.2)))
  (hf:afill (fun i=>some (i*n,n)) (azeros z.cells len) ps=some cs) (hl:lim≤H.next) :
  ∃ ρ' v w',(Instr.buildSlice t len qs.toArray).run P w=.ok v w'∧VR ρ' (.sl H.next 0 len len) v∧Step P lim ρ H w ρ' (H.alloc (.cells cs e true)) w':=by
 obtain ⟨zv,hzr,hzv⟩:=run_zero hz
 have hzc:=(hzv ρ).cells
 have hzn:zv.cells.toList.length=n:=by rw [← hzc.length]; exact hzl
 obtain ⟨D,hD,hrel⟩:=fill_rel h1 h2 (VRs.azeros hzc len) hf
 obtain ⟨ρ',hst,hn⟩:=Step.row (e:=e) h hrel hl
 refine ⟨ρ',_,_,?_,new_sl hn (Nat.le_refl _),hst⟩
 have hb':¬ (len*n > 2 ^ 24):=by omega
 by_cases h0:len*n=0
 ·have hD':Instr.fill (fun i=>some (i*n,n)) #[] qs=some D.toArray:=by
   have:(List.replicate len zv.cells.toList).flatten=[]:=by
    rcases Nat.mul_eq_zero.1 h0 with h0 | h0
    ·subst h0; rfl
    ·rw [h0] at hzn
     have:zv.cells.toList=[]:=List.length_eq_zero_iff.1 hzn
     rw [this]; simp
   rw [this] at hD
   exact hD
  have hD2:Instr.fill (fun i=>some (i*n,n)) ((Array.range (len*n)).map fun x=>(#[] : Array Value)[x % (#[] : Array Value).size]!) qs=some D.toArray:=by
   rw [h0]; simpa [Array.range_zero'] using hD'
  simp only [Instr.buildSlice,Sem.run_bind,run_und hu,run_sz hs,Result.andThen_ok,h0,if_true]
  simp [hD',run_newRow,Array.range_zero']
 ·have hz0:0 < zv.cells.toList.length:=by
   rw [hzn]; exact Nat.pos_of_ne_zero fun e=>h0 (by simp [e])
  have hz:=zeros_eq zv.cells.toList len hz0
  rw [hzn] at hz
  simp only [Array.toArray_toList] at hz
  simp only [Instr.buildSlice,Sem.run_bind,run_und hu,run_sz hs,Result.andThen_ok,hb',if_false,h0,Sem.run_pure,hzr]
  rw [hz]
  simp [hD,run_newRow]
theorem op_makeSlice {lim t e:Nat} {k k':IntKind} {l c:Int} {z:AV} {info:TypeInfo} (h:Inv P ρ H w) (hu:und P t=some (.slice e))
  (hi:P.info? e=some info) (hz:zero P e=some z) (h0:0≤l) (h1:l≤c) (h2:c≤16777216) (hby:info.bytes≤65536) (hzl:z.cells.length=info.size) (hl:lim≤H.next) :
  ∃ ρ' v w',(Instr.makeSlice t (.int k l) (.int k' c)).run P w=.ok v w'∧VR ρ' (.sl H.next 0 l.toNat c.toNat) v∧Step P lim ρ H w ρ' (H.alloc (.cells (azeros z.cells c.toNat) e true)) w':=by
 obtain ⟨zv,hzr,hzv⟩:=run_zero hz
 have hzc:=(hzv ρ).cells
 have hzn:zv.cells.toList.length=info.size:=by rw [← hzc.length]; exact hzl
 obtain ⟨ρ',hst,hn⟩:=Step.row (e:=e) h (VRs.azeros hzc c.toNat) hl
 refine ⟨ρ',_,_,?_,new_sl hn (by omega),hst⟩
 have hs:sz P e=some info.size:=by simp [sz,hi]
 have wl:IntKind.i64.wrap l=l:=by unfold IntKind.wrap IntKind.bits IntKind.signed; simp; omega
 have wc:IntKind.i64.wrap c=c:=by unfold IntKind.wrap IntKind.bits IntKind.signed; simp; omega
 have hbc:(info.bytes:Int)*c≤65536*16777216:=Int.mul_le_mul (by omega) h2 (by omega) (by omega)
 have hbn:c.toNat*info.bytes≤16777216*65536:=Nat.mul_le_mul (by omega) hby
 have tl:(decide (c < 0) || decide ((info.bytes:Int)*c > 2 ^ 48))=false:=by
  simp; omega
 have hc1:((decide (c < 0) || decide ((info.bytes:Int)*c > 2 ^ 48)) || decide (l < 0) || decide (l > c))=false:=by
  rw [tl]; simp; omega
 have hroom:¬ (c.toNat*info.bytes > roomBytes):=by unfold roomBytes; omega
 have hcond:(c < 0∨281474976710656 < (info.bytes:Int)*c)=False:=by simp; omega
 have hl0:¬ l < 0:=by omega
 have hlc:¬ c < l:=by omega
 by_cases hz0:c.toNat*info.size=0
 ·have hfl:(List.replicate c.toNat zv.cells.toList).flatten=[]:=by
   rcases Nat.mul_eq_zero.1 hz0 with h0 | h0
   ·rw [h0]; rfl
   ·rw [h0] at hzn
    have:zv.cells.toList=[]:=List.length_eq_zero_iff.1 hzn
    rw [this]; simp
  rw [hfl]
  simp [Instr.makeSlice,run_und hu,asInt,asIntOf,run_info hi,wl,wc,hl0,hlc,askRoom,run_sz hs,hz0,run_newRow,hcond,Array.range_zero']
 ·have hz1:0 < zv.cells.toList.length:=by
   rw [hzn]; exact Nat.pos_of_ne_zero fun e=>hz0 (by simp [e])
  have hzz:=zeros_eq zv.cells.toList c.toNat hz1
  rw [hzn] at hzz
  simp only [Array.toArray_toList] at hzz
  rw [← hzz]
  simp [Instr.makeSlice,run_und hu,asInt,asIntOf,run_info hi,wl,wc,hl0,hlc,askRoom,run_sz hs,hz0,run_newRow,hzr,hcond]
end
end Go.Proofs.YtoehlmiadiiimaaGreatDoor.Ex
namespace Go.Proofs.YtoehlmiadiiimaaGreatDoor.Ex
open Go
variable [Dec] [Env]
inductive OVR (ρ:Rho) : Option AV→Option Value→Prop
 | none:OVR ρ none none
 | some (a:AV) (v:Value) (h:VR ρ a v) : OVR ρ (some a) (some v)
section
variable {P:Program} {w:World} {ρ:Rho} {H:AHeap}
theorem run_bound {x:AV} {v:Value} {y y' n:Nat} {code:BoundsCode} (h:VR ρ x v) (hx:abound x y=some n) (hy:y≤y') :
  (Instr.sliceBound v y' code).run P w=.ok n w∧n≤y:=by
 cases h <;> simp [abound] at hx
 rename_i k i
 obtain ⟨⟨h0,h1⟩,rfl⟩:=hx
 refine ⟨?_,by omega⟩
 have:0≤i∧i≤(y':Int):=⟨h0,by omega⟩
 simp [Instr.sliceBound,asIntOf,this]
theorem run_bounds {isSlice:Bool} {len cap cap' l h m:Nat} {lo hi mx:Option AV} {vl vh vm:Option Value} (hlo:OVR ρ lo vl) (hhi:OVR ρ hi vh) (hmx:OVR ρ mx vm)
  (hb:abounds len cap lo hi mx=some (l,h,m)) (hc:cap≤cap') (hlen:len≤cap) :
  ∃ m',(Instr.sliceBounds isSlice len cap' vl vh vm).run P w=.ok (l,h,m') w∧l≤h∧h≤m∧m≤cap∧m≤m'∧(mx=none→m=cap∧m'=cap')∧(mx≠none→m'=m):=by
 simp only [abounds] at hb
 obtain ⟨m0,hm,hb⟩:=Option.bind_eq_some_iff.1 hb
 obtain ⟨h0,hh,hb⟩:=Option.bind_eq_some_iff.1 hb
 obtain ⟨l0,hl,hb⟩:=Option.bind_eq_some_iff.1 hb
 injection hb with hb
 simp only [Prod.mk.injEq] at hb
 obtain ⟨rfl,rfl,rfl⟩:=hb
 cases hmx with
 | none =>
  simp at hm; subst hm
  cases hhi with
  | none =>
   simp at hh; subst hh
   cases hlo with
   | none =>
    simp at hl; subst hl
    exact ⟨cap',by simp [Instr.sliceBounds],Nat.zero_le _,hlen,Nat.le_refl _,hc,fun _=>⟨rfl,rfl⟩,fun e=>absurd rfl e⟩
   | some a v hv =>
    obtain ⟨e1,e2⟩:=run_bound (P:=P) (w:=w) (code:=.sliceB) hv hl (Nat.le_refl _)
    exact ⟨cap',by simp [Instr.sliceBounds,e1],e2,hlen,Nat.le_refl _,hc,fun _=>⟨rfl,rfl⟩,fun e=>absurd rfl e⟩
  | some a v hv =>
   obtain ⟨g1,g2⟩:=run_bound (P:=P) (w:=w) (code:=if isSlice then .sliceAcap else .sliceAlen) hv hh hc
   cases hlo with
   | none =>
    simp at hl; subst hl
    exact ⟨cap',by simp [Instr.sliceBounds,g1],Nat.zero_le _,g2,Nat.le_refl _,hc,fun _=>⟨rfl,rfl⟩,fun e=>absurd rfl e⟩
   | some b u hu =>
    obtain ⟨e1,e2⟩:=run_bound (P:=P) (w:=w) (code:=.sliceB) hu hl (Nat.le_refl _)
    exact ⟨cap',by simp [Instr.sliceBounds,g1,e1],e2,g2,Nat.le_refl _,hc,fun _=>⟨rfl,rfl⟩,fun e=>absurd rfl e⟩
 | some b u hu =>
  obtain ⟨f1,f2⟩:=run_bound (P:=P) (w:=w) (code:=if isSlice then .slice3Acap else .slice3Alen) hu hm hc
  cases hhi with
  | none=>simp at hh
  | some a v hv =>
   obtain ⟨g1,g2⟩:=run_bound (P:=P) (w:=w) (code:=.slice3B) hv hh (Nat.le_refl m0)
   cases hlo with
   | none =>
    simp at hl; subst hl
    exact ⟨m0,by simp [Instr.sliceBounds,f1,g1],Nat.zero_le _,g2,f2,Nat.le_refl _,fun e=>by simp at e,fun _=>rfl⟩
   | some b u hu =>
    obtain ⟨e1,e2⟩:=run_bound (P:=P) (w:=w) (code:=.slice3C) hu hl (Nat.le_refl _)
    exact ⟨m0,by simp [Instr.sliceBounds,f1,g1,e1],e2,g2,f2,Nat.le_refl _,fun e=>by simp at e,fun _=>rfl⟩
theorem op_slice {t:TypeId} {x y:AV} {v:Value} {lo hi mx:Option AV} {vl vh vm:Option Value} (hI:Inv P ρ H w) (hv:VR ρ x v) (hlo:OVR ρ lo vl) (hhi:OVR ρ hi vh) (hmx:OVR ρ mx vm)
  (hx:aslice P H t x lo hi mx=some y) : ∃ u,(Instr.sliceAt t v vl vh vm).run P w=.ok u w∧VR ρ y u:=by
 unfold aslice at hx
 split at hx
 ·rename_i s hu
  cases hv with
  | str S l hl =>
  split at hx
  ·cases hx
  ·obtain ⟨⟨l,h,m⟩,hb,rfl⟩:=Option.map_eq_some_iff.1 hx
   cases hmx
   have hsz:s.length=S.size:=by rw [hl]; simp
   rw [hsz] at hb
   obtain ⟨m',e1,e2,e3,e4,-,-,-⟩:=run_bounds (P:=P) (w:=w) (isSlice:=false) (cap':=S.size) hlo hhi .none hb (Nat.le_refl _) (Nat.le_refl _)
   refine ⟨.string (S.extract l h),?_,.str _ _ ?_⟩
   ·simp [Instr.sliceAt,Instr.slice,run_und hu,e1]
   ·rw [hl,Lib.extract_data]
    simp [List.map_take,List.map_drop]
 ·rename_i e b o len cap hu
  cases hv with
  | sl _ _ _ _ ccap r hr hll hcc htt hss =>
   split at hx
   ·rename_i c e' tight hb
    split at hx
    ·rename_i hte
     obtain ⟨n,hn,hx⟩:=Option.bind_eq_some_iff.1 hx
     obtain ⟨⟨l,h,m⟩,hbd,rfl⟩:=Option.map_eq_some_iff.1 hx
     obtain ⟨m',e1,e2,e3,e4,e5,e6,e7⟩:=run_bounds (P:=P) (w:=w) (isSlice:=true) (cap':=ccap) hlo hhi hmx hbd hcc hll
     obtain ⟨C,fr,hC,k2,k3,k4,k5,k6,k7⟩:=hI.block hb hr
     refine ⟨.slice (if m'=l then some ⟨r.cb,r.co+o,none⟩ else some ⟨r.cb,r.co+o+l*n,none⟩) (h - l) (m' - l),?_,?_⟩
     ·simp only [Instr.sliceAt,Instr.slice,run_und hu,Sem.run_bind,Result.andThen_ok,e1,run_sz hn,Sem.run_pure]
      simp [add_none]
     ·show VR ρ (.sl b (o+l*n) (h - l) (m - l)) _
      by_cases hml:m'=l
      ·rw [if_pos hml]
       have h1:h - l=0:=by omega
       have h2:m - l=0:=by omega
       have h3:m' - l=0:=by omega
       rw [h1,h2,h3]
       exact .sl0 _ _ _
      ·rw [if_neg hml,Nat.add_assoc]
       refine .sl b (o+l*n) (h - l) (m - l) (m' - l) r hr (by omega) (by omega) ?_ ?_
       ·intro ht
        have:=htt ht
        cases mx with
        | none=>obtain ⟨q1,q2⟩:=e6 rfl; omega
        | some _=>have:=e7 (by simp); omega
       ·intro ht
        have hs:=hss ht
        have he:e'=e:=by
         rcases hte with h1 | h1
         ·rw [k2,ht] at h1; cases h1
         ·exact h1
        have hesz:=(k7 (by rw [k2]; exact ht)).2
        have hne:n=r.esz:=by
         rw [← hesz,he]
         obtain ⟨i,hi,rfl⟩:=Option.map_eq_some_iff.1 hn
         simp [Program.cellsOf,hi]
        have hm:m'≤ccap:=by
         cases mx with
         | none=>have:=e6 rfl; omega
         | some _=>have:=e7 (by simp); omega
        rw [hne]
        have:l*r.esz+(m' - l)*r.esz=m'*r.esz:=by
         rw [← Nat.add_mul]; congr 1; omega
        have h9:m'*r.esz≤ccap*r.esz:=Nat.mul_le_mul_right _ hm
        omega
    ·cases hx
   ·cases hx
  | sl0 _ _ a =>
   split at hx
   ·split at hx
    ·obtain ⟨n,hn,hx⟩:=Option.bind_eq_some_iff.1 hx
     obtain ⟨⟨l,h,m⟩,hbd,rfl⟩:=Option.map_eq_some_iff.1 hx
     obtain ⟨m',e1,e2,e3,e4,e5,e6,e7⟩:=run_bounds (P:=P) (w:=w) (isSlice:=true) (cap':=0) hlo hhi hmx hbd (Nat.le_refl _) (Nat.le_refl _)
     have hm0:m'=0:=by
      cases mx with
      | none=>exact (e6 rfl).2
      | some _=>have:=e7 (by simp); omega
     have hl0:l=0:=by omega
     have hh0:h=0:=by omega
     have hmm:m=0:=by omega
     subst hm0; subst hl0; subst hh0; subst hmm
     refine ⟨.slice (some a) 0 0,?_,.sl0 _ _ _⟩
     simp only [Instr.sliceAt,Instr.slice,run_und hu,Sem.run_bind,Result.andThen_ok,e1,run_sz hn,Sem.run_pure]
     simp
    ·cases hx
   ·cases hx
 ·rename_i e hu
  cases hv
  split at hx
  case isFalse=>cases hx
  rename_i hsz
  obtain ⟨⟨l,h,m⟩,hbd,rfl⟩:=Option.map_eq_some_iff.1 hx
  obtain ⟨n,hn⟩:=Option.isSome_iff_exists.1 hsz
  obtain ⟨m',e1,e2,e3,e4,e5,e6,e7⟩:=run_bounds (P:=P) (w:=w) (isSlice:=true) (cap':=0) hlo hhi hmx hbd (Nat.le_refl _) (Nat.le_refl _)
  have hm0:m'=0:=by
   cases mx with
   | none=>exact (e6 rfl).2
   | some _=>have:=e7 (by simp); omega
  have hl0:l=0:=by omega
  have hh0:h=0:=by omega
  subst hm0; subst hl0; subst hh0
  refine ⟨.slice none 0 0,?_,.nilsl⟩
  simp only [Instr.sliceAt,Instr.slice,run_und hu,Sem.run_bind,Result.andThen_ok,e1,run_sz hn,Sem.run_pure]
  simp
 ·rename_i k e b o hu
  cases hv with
  | ptr _ _ r hr =>
  obtain ⟨n,hn,hx⟩:=Option.bind_eq_some_iff.1 hx
  obtain ⟨tt,ht,hx⟩:=Option.bind_eq_some_iff.1 hx
  split at hx
  ·rename_i htt
   obtain ⟨⟨l,h,m⟩,hbd,rfl⟩:=Option.map_eq_some_iff.1 hx
   obtain ⟨m',e1,e2,e3,e4,e5,e6,e7⟩:=run_bounds (P:=P) (w:=w) (isSlice:=false) (cap':=k) hlo hhi hmx hbd (Nat.le_refl _) (Nat.le_refl _)
   have hmm:m'=m:=by
    cases mx with
    | none=>obtain ⟨q1,q2⟩:=e6 rfl; omega
    | some _=>exact e7 (by simp)
   subst hmm
   have htr:r.tight=true:=by
    unfold tightAt at ht
    split at ht
    ·rename_i hb
     injection ht with ht; subst ht
     obtain ⟨C,fr,hC,k2,-⟩:=hI.block hb hr
     rw [← k2]; exact htt
    ·cases ht
   refine ⟨.slice (some (if m'=l then ⟨r.cb,r.co+o,none⟩ else ⟨r.cb,r.co+o+l*n,none⟩)) (h - l) (m' - l),?_,?_⟩
   ·simp only [Instr.sliceAt,run_und hu,Sem.run_bind,Result.andThen_ok,Instr.sureAddr,Sem.run_pure,e1,run_sz hn]
    simp [add_none]
   ·show VR ρ (.sl b (o+l*n) (h - l) (m' - l)) _
    by_cases hml:m'=l
    ·rw [if_pos hml]
     have h1:h - l=0:=by omega
     have h2:m' - l=0:=by omega
     rw [h1,h2]
     exact .sl0 _ _ _
    ·rw [if_neg hml,Nat.add_assoc]
     exact .sl b (o+l*n) (h - l) (m' - l) (m' - l) r hr (by omega) (Nat.le_refl _) (fun _=>rfl) (fun h=>by rw [htr] at h; cases h)
  ·cases hx
 ·cases hx
end
end Go.Proofs.YtoehlmiadiiimaaGreatDoor.Ex
namespace Go.Proofs.YtoehlmiadiiimaaGreatDoor.Ex
open Go
variable [Dec] [Env]
section
variable {P:Program} {w:World} {ρ:Rho} {H:AHeap}
theorem op_fieldAddr {t f:Nat} {b o n:Nat} {v:Value} {fs:Array Field} {g:Field} (hv:VR ρ (.ptr b o) v) (hu:und P t=some (.struct fs)) (hf:fs[f]?=some g)
  (hs:sz P g.type=some n) (hn:n≠0) : ∃ u,(Instr.fieldAt t v f).run P w=.ok u w∧VR ρ (.ptr b (o+g.offset)) u:=by
 cases hv with
 | ptr _ _ r hr =>
 refine ⟨_,?_,.ptr b (o+g.offset) r hr⟩
 simp [Instr.fieldAt,run_und hu,hf,Instr.sureAddr,fieldPlace,run_sz hs,hn,add_none,Nat.add_assoc]
theorem op_field {t f:Nat} {cs:List AV} {x:AV} {v:Value} {fs:Array Field} {g:Field} (hv:VR ρ (.agg cs) v) (hu:und P t=some (.struct fs)) (hf:fs[f]?=some g)
  (hx:apart P g.type cs g.offset=some x) : ∃ u,(Instr.field t v f).run P w=.ok u w∧VR ρ x u:=by
 cases hv with
 | agg _ vs h =>
 obtain ⟨u,hu',hr⟩:=run_part (P:=P) (w:=w) h hx
 exact ⟨u,by simp [Instr.field,run_und hu,hf,asAgg,hu'],hr⟩
theorem op_indexAddr_array {t e len b o n:Nat} {i:Int} {k:IntKind} {v:Value} (hv:VR ρ (.ptr b o) v) (hu:und P t=some (.array len e)) (hs:sz P e=some n) (h0:0≤i) (h1:i < len) :
  ∃ u,(Instr.indexAt t v (.int k i)).run P w=.ok u w∧VR ρ (.ptr b (o+i.toNat*n)) u:=by
 cases hv with
 | ptr _ _ r hr =>
 refine ⟨_,?_,.ptr b (o+i.toNat*n) r hr⟩
 simp [Instr.indexAt,asIntOf,run_und hu,Instr.sureAddr,h0,h1,run_sz hs,add_none,Nat.add_assoc]
theorem op_indexAddr_slice {t e b o len cap n:Nat} {i:Int} {k:IntKind} {v:Value} (hv:VR ρ (.sl b o len cap) v) (hu:und P t=some (.slice e)) (hs:sz P e=some n) (h0:0≤i) (h1:i < len) :
  ∃ u,(Instr.indexAt t v (.int k i)).run P w=.ok u w∧VR ρ (.ptr b (o+i.toNat*n)) u:=by
 cases hv with
 | sl _ _ _ _ cc r hr _ _ _ _ =>
  refine ⟨_,?_,.ptr b (o+i.toNat*n) r hr⟩
  simp [Instr.indexAt,asIntOf,run_und hu,h0,h1,run_sz hs,add_none,Nat.add_assoc]
 | sl0=>omega
theorem op_index_array {t e len n:Nat} {cs:List AV} {x:AV} {i:Int} {k:IntKind} {v:Value} (hv:VR ρ (.agg cs) v) (hu:und P t=some (.array len e)) (hs:sz P e=some n) (h0:0≤i) (h1:i < len)
  (hx:apart P e cs (i.toNat*n)=some x) : ∃ u,(Instr.index t v (.int k i)).run P w=.ok u w∧VR ρ x u:=by
 cases hv with
 | agg _ vs h =>
 obtain ⟨u,hu',hr⟩:=run_part (P:=P) (w:=w) h hx
 exact ⟨u,by simp [Instr.index,asIntOf,run_und hu,h0,h1,run_sz hs,hu'],hr⟩
theorem op_index_string {t n:Nat} {s:List Nat} {i:Int} {k:IntKind} {v:Value} (hv:VR ρ (.str s) v) (hu:und P t=some .string) (h0:0≤i) (hx:s[i.toNat]?=some n) :
  (Instr.index t v (.int k i)).run P w=.ok (.int .u8 n) w:=by
 cases hv with
 | str S _ h =>
 subst h
 simp only [List.getElem?_map,Option.map_eq_some_iff] at hx
 obtain ⟨b,hb,rfl⟩:=hx
 have hb':S[i.toNat]?=some b:=by
  have:i.toNat < S.size:=by
   have:=(List.getElem?_eq_some_iff.1 hb).1
   simpa using this
  rw [getElem?_pos S i.toNat this]
  rw [Array.getElem?_toList] at hb
  have h2:=(Array.getElem?_eq_some_iff.1 hb).2
  exact congrArg some h2
 simp [Instr.index,asIntOf,run_und hu,h0,hb']
theorem op_extract {xs:List AV} {i:Nat} {x:AV} {v:Value} (hv:VR ρ (.tup xs) v) (hx:xs[i]?=some x) : ∃ u,(Instr.extract v i).run P w=.ok u w∧VR ρ x u:=by
 cases hv with
 | tup _ vs h =>
 obtain ⟨u,hu,hr⟩:=h.get i x hx
 exact ⟨u,by simp [Instr.extract,hu],hr⟩
omit [Dec] [Env] in
theorem bytes_eq {s t:ByteArray} : (s.data.toList.map UInt8.toNat == t.data.toList.map UInt8.toNat)=(s.toList == t.toList):=by
 rw [Bool.eq_iff_iff]
 simp only [beq_iff_eq]
 rw [ByteArray.toList_eq,ByteArray.toList_eq]
 constructor
 ·intro h
  exact (List.map_inj_right (fun a b h=>UInt8.toNat_inj.1 h)).1 h
 ·intro h; rw [h]
omit [Dec] [Env] in
theorem bytes_lss:∀ (s t:List UInt8),alss (s.map UInt8.toNat) (t.map UInt8.toNat)=Op.bytesLess s t
 | _,[]=>by simp [alss,Op.bytesLess]
 | [],_ :: _=>by simp [alss,Op.bytesLess]
 | a :: x,b :: y=>by
  simp only [List.map_cons,alss,Op.bytesLess,bytes_lss x y]
  have h1:decide (a.toNat < b.toNat)=decide (a < b):=by simp [UInt8.lt_iff_toNat_lt]
  have h2:(a.toNat == b.toNat)=(a == b):=by rw [Bool.eq_iff_iff]; simp [UInt8.toNat_inj]
  rw [h1,h2]
def allg {α:Type} (g:α→Option Bool) : List α→Option Bool
 | []=>some true
 | a :: l=>(g a).bind fun b=>match b with
  | true=>allg g l
  | false=>some false
omit [Dec] [Env] in
theorem run_forIn_all {α:Type} (g:α→Option Bool) (F:α→Option Bool×Unit→Sem (ForInStep (Option Bool×Unit))) : ∀ (l:List α) (b:Bool),
  (∀ a∈l,∀ b,g a=some b→(F a (none,())).run P w=.ok (if b then .yield (none,()) else .done (some false,())) w)→allg g l=some b →
  (forIn l (none,()) F).run P w=.ok (if b then (none,()) else (some false,())) w
 | [],b,_,h=>by simp [allg] at h; subst h; simp
 | a :: l,b,hF,h=>by
  simp only [allg,Option.bind_eq_some_iff] at h
  obtain ⟨c,hc,h⟩:=h
  have h1:=hF a (by simp) c hc
  simp only [List.forIn_cons,Sem.run_bind,h1,Result.andThen_ok]
  cases c with
  | true =>
   simp only [if_true]
   exact run_forIn_all g F l b (fun a ha=>hF a (by simp [ha])) h
  | false =>
   simp at h; subst h
   simp
omit [Dec] [Env] in
theorem aeqFields_all (eq:TypeId→AV→AV→Option Bool) (xs ys:List AV) : ∀ fs:List Field,aeqFields P eq xs ys fs =
  allg (fun f=>if f.name≠"_" then (apart P f.type xs f.offset).bind fun x=>(apart P f.type ys f.offset).bind fun y=>eq f.type x y else some true) fs
 | []=>rfl
 | f :: fs=>by
  simp only [aeqFields,allg,aeqFields_all eq xs ys fs]
  split
  ·cases apart P f.type xs f.offset <;> simp
   cases apart P f.type ys f.offset <;> simp
   rename_i x y
   cases eq f.type x y <;> simp
   rename_i b
   cases b <;> rfl
  ·rfl
omit [Dec] [Env] in
theorem aeqElems_all (eq:AV→AV→Option Bool) (e n:Nat) (xs ys:List AV) : ∀ is:List Nat,aeqElems P eq e n xs ys is =
  allg (fun i=>(apart P e xs (i*n)).bind fun x=>(apart P e ys (i*n)).bind fun y=>eq x y) is
 | []=>rfl
 | i :: is=>by
  simp only [aeqElems,allg,aeqElems_all eq e n xs ys is]
  cases apart P e xs (i*n) <;> simp
  cases apart P e ys (i*n) <;> simp
  rename_i x y
  cases eq x y <;> simp
  rename_i b
  cases b <;> rfl
theorem run_equalIn:∀ (d D:Nat) (t:TypeId) (x y:AV) (u v:Value) (b:Bool),d≤D→aeqD P d t x y=some b→VR ρ x u→VR ρ y v→(Op.equalIn D t u v).run P w=.ok b w:=by
 intro d
 induction d with
 | zero=>intro D t x y u v b _ h; simp [aeqD] at h
 | succ d ih =>
  intro D t x y u v b hD h hx hy
  obtain ⟨D,rfl⟩ : ∃ E,D=E+1:=⟨D - 1,by omega⟩
  simp only [aeqD] at h
  split at h
  ·rename_i hu
   injection h with h; subst h
   cases hx; cases hy
   simp [Op.equalIn,run_und hu]
  ·rename_i hu
   split at h
   ·rename_i hk
    injection h with h; subst h; subst hk
    cases hx; cases hy
    simp [Op.equalIn,run_und hu]
   ·cases h
  ·rename_i hu _
   obtain ⟨p,hp,h⟩:=Option.bind_eq_some_iff.1 h
   obtain ⟨q,hq,h⟩:=Option.bind_eq_some_iff.1 h
   split at h
   ·rename_i hk
    have e:=look_eq h
    rw [ival_rel hp hx,ival_rel hq hy,hk]
    simp [Op.equalIn,run_und hu,← e]
   ·cases h
  ·rename_i hu
   injection h with h; subst h
   cases hx with | str s _ hs =>
   cases hy with | str t _ ht =>
   subst hs; subst ht
   rw [bytes_eq,← beq_toListBytes]
   simp only [Op.equalIn,Sem.run_bind,run_und hu,Result.andThen_ok,Sem.run_pure]
  ·rename_i fs xs ys hu
   split at h
   ·cases h
   ·rename_i hst
    cases hx with | agg _ us hus =>
    cases hy with | agg _ vs hvs =>
    obtain ⟨l⟩:=fs
    rw [aeqFields_all] at h
    simp only [Op.equalIn,Sem.run_bind,run_und hu,Result.andThen_ok,run_program,hst,List.forIn_toArray]
    simp only [Bool.false_eq_true,if_false,Sem.run_bind]
    rw [run_forIn_all _ _ l b (fun f _ c hc=>by
      split at hc
      ·rename_i hn
       obtain ⟨x1,hx1,hc⟩:=Option.bind_eq_some_iff.1 hc
       obtain ⟨y1,hy1,hc⟩:=Option.bind_eq_some_iff.1 hc
       obtain ⟨u1,hu1,r1⟩:=run_part (P:=P) (w:=w) hus hx1
       obtain ⟨v1,hv1,r2⟩:=run_part (P:=P) (w:=w) hvs hy1
       have:=ih D f.type x1 y1 u1 v1 c (by omega) hc r1 r2
       simp only [hn,if_true,Sem.run_bind,hu1,hv1,this,Result.andThen_ok,ne_eq,not_false_eq_true]
       cases c <;> simp
      ·rename_i hn
       injection hc with hc; subst hc
       simp only [hn,if_false,Sem.run_pure,if_true]) h]
    cases b <;> simp
  ·rename_i len e xs ys hu
   obtain ⟨n,hn,h⟩:=Option.bind_eq_some_iff.1 h
   cases hx with | agg _ us hus =>
   cases hy with | agg _ vs hvs =>
   rw [aeqElems_all] at h
   simp only [Op.equalIn,Sem.run_bind,run_und hu,Result.andThen_ok,run_sz hn]
   rw [Std.Legacy.Range.forIn_eq_forIn_range']
   simp only [Std.Legacy.Range.size,Nat.sub_zero,Nat.add_sub_cancel,Nat.div_one]
   rw [run_forIn_all _ _ (List.range' 0 len) b (fun i _ c hc => by
         obtain ⟨x1,hx1,hc⟩:=Option.bind_eq_some_iff.1 hc
         obtain ⟨y1,hy1,hc⟩:=Option.bind_eq_some_iff.1 hc
         obtain ⟨u1,hu1,r1⟩:=run_part (P:=P) (w:=w) hus hx1
         obtain ⟨v1,hv1,r2⟩:=run_part (P:=P) (w:=w) hvs hy1
         have:=ih D e x1 y1 u1 v1 c (by omega) hc r1 r2
         simp only [Sem.run_bind,hu1,hv1,this,Result.andThen_ok]
         cases c <;> simp) h]
   cases b <;> simp
  ·cases h
theorem op_aeqD {D:Nat} {t:TypeId} {x y:AV} {u v:Value} {b:Bool} (hD:11≤D) (hx:VR ρ x u) (hy:VR ρ y v) (h:aeqT P t x y=some b) :
  (Op.equalIn (D+1) t u v).run P w=.ok b w:=by
 unfold aeqT at h
 split at h
 ·rename_i hu; injection h with h; subst h; cases hx; cases hy; simp [Op.equalIn,run_und hu]
 ·rename_i hu; injection h with h; subst h; cases hx; cases hy; simp [Op.equalIn,run_und hu]
 ·rename_i hu; injection h with h; subst h; cases hx; cases hy; simp [Op.equalIn,run_und hu]
 ·rename_i hu; injection h with h; subst h; cases hx; cases hy; simp [Op.equalIn,run_und hu]
 ·rename_i hu; injection h with h; subst h; cases hx; cases hy; simp [Op.equalIn,run_und hu]
 ·rename_i hu; injection h with h; subst h; cases hx; cases hy <;> simp [Op.equalIn,run_und hu]
 ·rename_i hu; injection h with h; subst h; cases hy; cases hx <;> simp [Op.equalIn,run_und hu]
 ·rename_i hu; injection h with h; subst h; cases hx; cases hy; simp [Op.equalIn,run_und hu]
 ·rename_i hu; injection h with h; subst h; cases hx; cases hy; simp [Op.equalIn,run_und hu]
 ·rename_i hu; injection h with h; subst h; cases hx; cases hy; simp [Op.equalIn,run_und hu]
 ·rename_i hu; injection h with h; subst h; cases hx; cases hy; simp [Op.equalIn,run_und hu]
 ·rename_i hu; injection h with h; subst h; cases hx; cases hy; simp [Op.equalIn,run_und hu]
 ·rename_i hu; injection h with h; subst h; cases hx; cases hy; simp [Op.equalIn,run_und hu]
 ·rename_i hu; injection h with h; subst h; cases hx; cases hy; simp [Op.equalIn,run_und hu]
 ·rename_i hu; injection h with h; subst h; cases hx; cases hy; simp [Op.equalIn,run_und hu]
 ·rename_i hu
  cases hx with | iface _ _ _ h1 =>
  cases hy with | iface _ _ _ h2 =>
  split at h
  ·rename_i hne
   injection h with h; subst h
   simp [Op.equalIn,run_und hu,hne]
  ·rename_i heq
   have heq:_=_:=Decidable.of_not_not heq
   subst heq
   split at h
   ·rename_i i hi
    split at h
    ·rename_i hc
     have:=run_equalIn (P:=P) (w:=w) 10 D _ _ _ _ _ b (by omega) h h1 h2
     simp [Op.equalIn,run_und hu,run_info hi,hc]
     exact this
    ·cases h
   ·cases h
 ·split at h
  ·cases h
  ·exact run_equalIn 10 (D+1) _ _ _ _ _ b (by omega) h hx hy
 ·split at h
  ·cases h
  ·exact run_equalIn 10 (D+1) _ _ _ _ _ b (by omega) h hx hy
 ·cases h
theorem op_aeqT {t:TypeId} {x y:AV} {u v:Value} {b:Bool} (hx:VR ρ x u) (hy:VR ρ y v) (h:aeqT P t x y=some b) :
  (Op.equal t u v).run P w=.ok b w:=op_aeqD (D:=9999) (by omega) hx hy h
theorem guard_rel {op:BinOp} {t:TypeId} {a a':Operand} {x y:AV} {u v:Value} {b:Bool} (hx:VR ρ x u) (hy:VR ρ y v) (h:aeqT P t x y=some b) :
  (eqGuard op t a a' u v).run P w=.ok () w:=by
 cases hx with
 | nilif =>
  cases hy with
  | nilif=>simp [aeqT] at h
  | _=>cases op <;> rfl
 | agg xs us hxs =>
  cases hy with
  | agg ys vs hys =>
   have hg:P.eqGuardType P.depth t=false:=by
    unfold aeqT at h
    split at h <;> simp_all
   cases op <;> first | rfl | simp [eqGuard,run_program,hg]
  | _=>cases op <;> rfl
 | _=>cases op <;> rfl
end
end Go.Proofs.YtoehlmiadiiimaaGreatDoor.Ex
namespace Go.Proofs.YtoehlmiadiiimaaGreatDoor.Ex
open Go
variable [Dec] [Env]
section
variable {P:Program} {w:World} {ρ:Rho} {H:AHeap}
omit [Dec] [Env] in
theorem guard_int {op:BinOp} {t:TypeId} {a a':Operand} {k:IntKind} {n:Int} {v:Value} : (eqGuard op t a a' (.int k n) v).run P w=.ok () w:=by cases op <;> rfl
omit [Dec] [Env] in
theorem guard_str {op:BinOp} {t:TypeId} {a a':Operand} {s:ByteArray} {v:Value} : (eqGuard op t a a' (.string s) v).run P w=.ok () w:=by cases op <;> rfl
theorem op_abin {op:BinOp} {t:TypeId} {x y z:AV} {u v:Value} (hx:VR ρ x u) (hy:VR ρ y v) (h:abin op x y=some z) :
  ∃ r,(binOp op t u v).run P w=.ok r w∧VR ρ z r:=by
 unfold abin at h
 split at h
 ·rename_i k a k' b
  cases hx; cases hy
  split at h
  ·split at h
   ·cases h
   ·rename_i hb
    injection h with h; subst h
    exact ⟨_,by simp [binOp,Op.shift,hb],.int _ _⟩
  ·split at h
   ·cases h
   ·rename_i hb
    injection h with h; subst h
    exact ⟨_,by simp [binOp,Op.shift,hb],.int _ _⟩
  ·split at h
   ·cases h
   ·rename_i hk
    have hk:k=k':=Decidable.of_not_not hk
    subst hk
    split at h
    ·injection h with h; subst h; exact ⟨_,by simp [binOp,Op.intArith],.int _ _⟩
    ·injection h with h; subst h; exact ⟨_,by simp [binOp,Op.intArith],.int _ _⟩
    ·injection h with h; subst h; exact ⟨_,by simp [binOp,Op.intArith],.int _ _⟩
    ·split at h
     ·cases h
     ·rename_i hb
      injection h with h; subst h; exact ⟨_,by simp [binOp,Op.intDiv,hb],.int _ _⟩
    ·split at h
     ·cases h
     ·rename_i hb
      injection h with h; subst h; exact ⟨_,by simp [binOp,Op.intDiv,hb],.int _ _⟩
    ·injection h with h; subst h; exact ⟨_,by simp [binOp,Op.intBits],.int _ _⟩
    ·injection h with h; subst h; exact ⟨_,by simp [binOp,Op.intBits],.int _ _⟩
    ·injection h with h; subst h; exact ⟨_,by simp [binOp,Op.intBits],.int _ _⟩
    ·injection h with h; subst h; exact ⟨_,by simp [binOp,Op.intBits],.int _ _⟩
    ·injection h with h; subst h; exact ⟨_,by simp [binOp,Op.intCmp],.bool _⟩
    ·injection h with h; subst h; exact ⟨_,by simp [binOp,Op.intCmp],.bool _⟩
    ·injection h with h; subst h; exact ⟨_,by simp [binOp,Op.intCmp],.bool _⟩
    ·injection h with h; subst h; exact ⟨_,by simp [binOp,Op.intCmp],.bool _⟩
    ·injection h with h; subst h; exact ⟨_,by simp [binOp,Op.intCmp],.bool _⟩
    ·injection h with h; subst h; exact ⟨_,by simp [binOp,Op.intCmp],.bool _⟩
    ·cases h
 ·rename_i a b
  cases hx with | str s _ hs =>
  cases hy with | str t' _ ht =>
  subst hs; subst ht
  rw [bytes_eq,bytes_lss,← ByteArray.toList_eq,← ByteArray.toList_eq] at h
  split at h
  ·injection h with h; subst h; exact ⟨_,by simp [binOp,Op.stringOp],.bool _⟩
  ·injection h with h; subst h; exact ⟨_,by simp [binOp,Op.stringOp],.bool _⟩
  ·split at h
   ·rename_i hl
    injection h with h; subst h
    refine ⟨.string (s ++ t'),?_,.str _ _ (by simp [ByteArray.toList_eq])⟩
    have:¬ (IntKind.i64.max < ((s.size+t'.size:Nat) : Int)):=by
     simp [ByteArray.toList_eq] at hl
     have:IntKind.i64.max=9223372036854775807:=by decide
     rw [this]; omega
    simp only [binOp,Op.stringOp,gt_iff_lt,this,if_false,Sem.run_pure]
   ·cases h
  ·injection h with h; subst h; exact ⟨_,by simp [binOp,Op.stringOp],.bool _⟩
  ·injection h with h; subst h; exact ⟨_,by simp [binOp,Op.stringOp],.bool _⟩
  ·injection h with h; subst h; exact ⟨_,by simp [binOp,Op.stringOp],.bool _⟩
  ·injection h with h; subst h; exact ⟨_,by simp [binOp,Op.stringOp],.bool _⟩
  ·cases h
 ·cases h
omit [Env] in
theorem aeqT_s1 {t:TypeId} {k:IntKind} {e:SE} {y:AV} : aeqT P t (.sint k e) y=none:=by
 unfold aeqT; split <;> simp_all
omit [Env] in
theorem aeqT_s2 {t:TypeId} {k:IntKind} {e:SE} {x:AV} : aeqT P t x (.sint k e)=none:=by
 unfold aeqT; split <;> simp_all
theorem op_bin {op:BinOp} {t:TypeId} {a a':Operand} {x y z:AV} {u v:Value} (hx:VR ρ x u) (hy:VR ρ y v) (h:abinT P op t x y=some z) :
  ∃ r,(do eqGuard op t a a' u v; binOp op t u v:Sem Value).run P w=.ok r w∧VR ρ z r:=by
 unfold abinT at h
 split at h
 ·obtain ⟨r,h1,h2⟩:=op_abin (P:=P) (w:=w) (t:=t) hx hy h
  refine ⟨r,?_,h2⟩
  cases hx
  simp only [Sem.run_bind,guard_int,Result.andThen_ok,h1]
 ·obtain ⟨r,h1,h2⟩:=op_abin (P:=P) (w:=w) (t:=t) hx hy h
  refine ⟨r,?_,h2⟩
  cases hx
  simp only [Sem.run_bind,guard_str,Result.andThen_ok,h1]
 ·rename_i n1 n2
  split at h
  ·obtain ⟨b,hb,rfl⟩:=Option.map_eq_some_iff.1 h
   refine ⟨.bool b,?_,.bool _⟩
   simp only [Sem.run_bind,guard_rel hx hy hb,Result.andThen_ok]
   have:=op_aeqT (P:=P) (w:=w) hx hy hb
   have e:binOp .eql t u v=(do pure (.bool (← Op.equal t u v))):=by
    cases hx <;> cases hy <;> first | rfl | (rw [aeqT_s1] at hb; cases hb; done) | (rw [aeqT_s2] at hb; cases hb; done) | (exact absurd rfl (n1 _ _ _ _ rfl)) | (exact absurd rfl (n2 _ _ rfl)) | simp_all
   rw [e]
   simp [this]
  ·obtain ⟨b,hb,rfl⟩:=Option.map_eq_some_iff.1 h
   refine ⟨.bool !b,?_,.bool _⟩
   simp only [Sem.run_bind,guard_rel hx hy hb,Result.andThen_ok]
   have:=op_aeqT (P:=P) (w:=w) hx hy hb
   have e:binOp .neq t u v=(do pure (.bool (!(← Op.equal t u v)))):=by
    cases hx <;> cases hy <;> first | rfl | (rw [aeqT_s1] at hb; cases hb; done) | (rw [aeqT_s2] at hb; cases hb; done) | (exact absurd rfl (n1 _ _ _ _ rfl)) | (exact absurd rfl (n2 _ _ rfl)) | simp_all
   rw [e]
   simp [this]
  ·cases h
theorem op_un {op:UnOp} {x z:AV} {u:Value} (hx:VR ρ x u) (h:aun op x=some z) : ∃ r,(Op.unary op u).run P w=.ok r w∧VR ρ z r:=by
 unfold aun at h
 split at h
 ·injection h with h; subst h; cases hx; exact ⟨_,by simp [Op.unary,Op.intArith],.int _ _⟩
 ·injection h with h; subst h; cases hx; exact ⟨_,by simp [Op.unary,Op.intBits],.int _ _⟩
 ·injection h with h; subst h; cases hx; exact ⟨_,by simp [Op.unary],.bool _⟩
 ·cases h
theorem sbin_conc {op:BinOp} {k k':IntKind} {a b:SE} {z:AV} (h:sbin op k a k' b=some z) :
  ∃ z',abin op (.int k (sev a)) (.int k' (sev b))=some z'∧∀ r,VR ρ z' r→VR ρ z r:=by
 have key:∀ (o:BinOp) (e e':SE),(∃ n,abin o (.int k (sev e)) (.int k (sev e'))=some (.int k n))→∃ z',abin o (.int k (sev e)) (.int k (sev e'))=some z'∧∀ r,VR ρ z' r→VR ρ (mkInt k (.bin o k e e')) r:=by
  intro o e e' ⟨n,hn⟩
  refine ⟨_,hn,fun r hr=>?_⟩
  rw [hr.int_inv]
  have:n=sev (.bin o k e e'):=by
   show n=ibin o k (sev e) (sev e')
   unfold ibin
   rw [hn]
  rw [this]
  exact mkInt_rel ρ k _
 unfold sbin at h
 split at h
 ·split at h
  ·rename_i n
   split at h
   ·cases h
   ·rename_i hn
    injection h with h; subst h
    have:abin .shl (.int k (sev a)) (.int k' (sev (.lit n)))=abin .shl (.int k (sev a)) (.int k (sev (.lit n))):=rfl
    rw [this]
    have e:sev (.lit n)=n:=rfl
    exact key .shl a (.lit n) ⟨_,by simp [abin,e,hn]; rfl⟩
  ·split at h
   ·rename_i hl
    injection h with h; subst h
    have hn:¬ sev b < 0:=by have h0:sev (.lit 0)=0:=rfl; have:=look_lt hl; rw [h0] at this; exact of_decide_eq_false this
    have:abin .shl (.int k (sev a)) (.int k' (sev b))=abin .shl (.int k (sev a)) (.int k (sev b)):=rfl
    rw [this]
    exact key .shl a b ⟨_,by simp [abin,hn]; rfl⟩
   ·cases h
 ·split at h
  ·rename_i n
   split at h
   ·cases h
   ·rename_i hn
    injection h with h; subst h
    have:abin .shr (.int k (sev a)) (.int k' (sev (.lit n)))=abin .shr (.int k (sev a)) (.int k (sev (.lit n))):=rfl
    rw [this]
    have e:sev (.lit n)=n:=rfl
    exact key .shr a (.lit n) ⟨_,by simp [abin,e,hn]; rfl⟩
  ·split at h
   ·rename_i hl
    injection h with h; subst h
    have hn:¬ sev b < 0:=by have h0:sev (.lit 0)=0:=rfl; have:=look_lt hl; rw [h0] at this; exact of_decide_eq_false this
    have:abin .shr (.int k (sev a)) (.int k' (sev b))=abin .shr (.int k (sev a)) (.int k (sev b)):=rfl
    rw [this]
    exact key .shr a b ⟨_,by simp [abin,hn]; rfl⟩
   ·cases h
 ·split at h
  ·cases h
  ·rename_i hk
   have hk:k=k':=Decidable.of_not_not hk
   subst hk
   split at h
   ·injection h with h; subst h; exact key .add a b ⟨_,by simp [abin]; rfl⟩
   ·injection h with h; subst h; exact key .sub a b ⟨_,by simp [abin]; rfl⟩
   ·injection h with h; subst h; exact key .mul a b ⟨_,by simp [abin]; rfl⟩
   ·split at h
    ·rename_i n
     split at h
     ·cases h
     ·rename_i hn
      injection h with h; subst h
      have e:sev (.lit n)=n:=rfl
      exact key .quo a (.lit n) ⟨_,by simp [abin,e,hn]; rfl⟩
    ·split at h
     ·rename_i hl
      injection h with h; subst h
      have hn:¬ sev b=0:=by have h0:sev (.lit 0)=0:=rfl; have:=look_eq hl; rw [h0] at this; exact beq_eq_false_iff_ne.1 this
      exact key .quo a b ⟨_,by simp [abin,hn]; rfl⟩
     ·cases h
   ·split at h
    ·rename_i n
     split at h
     ·cases h
     ·rename_i hn
      injection h with h; subst h
      have e:sev (.lit n)=n:=rfl
      exact key .rem a (.lit n) ⟨_,by simp [abin,e,hn]; rfl⟩
    ·split at h
     ·rename_i hl
      injection h with h; subst h
      have hn:¬ sev b=0:=by have h0:sev (.lit 0)=0:=rfl; have:=look_eq hl; rw [h0] at this; exact beq_eq_false_iff_ne.1 this
      exact key .rem a b ⟨_,by simp [abin,hn]; rfl⟩
     ·cases h
   ·injection h with h; subst h; exact key .and a b ⟨_,by simp [abin]; rfl⟩
   ·injection h with h; subst h; exact key .or a b ⟨_,by simp [abin]; rfl⟩
   ·injection h with h; subst h; exact key .xor a b ⟨_,by simp [abin]; rfl⟩
   ·injection h with h; subst h; exact key .andNot a b ⟨_,by simp [abin]; rfl⟩
   ·obtain ⟨r,hr,rfl⟩:=Option.map_eq_some_iff.1 h
    refine ⟨.bool r,?_,fun _ h=>h⟩
    simp [abin,← look_eq hr]
   ·obtain ⟨r,hr,rfl⟩:=Option.map_eq_some_iff.1 h
    refine ⟨.bool !r,?_,fun _ h=>h⟩
    rw [← look_eq hr]
    simp [abin,bne]
   ·obtain ⟨r,hr,rfl⟩:=Option.map_eq_some_iff.1 h
    refine ⟨.bool r,?_,fun _ h=>h⟩
    simp [abin,← look_lt hr]
   ·obtain ⟨r,hr,rfl⟩:=Option.map_eq_some_iff.1 h
    refine ⟨.bool !r,?_,fun _ h=>h⟩
    have e:decide (sev b≤sev a) = !decide (sev a < sev b):=by
     by_cases hh:sev a < sev b
     ·rw [decide_eq_true hh,decide_eq_false (by omega)]; rfl
     ·rw [decide_eq_false hh,decide_eq_true (by omega)]; rfl
    rw [← look_lt hr,← e]
    simp [abin]
   ·obtain ⟨r,hr,rfl⟩:=Option.map_eq_some_iff.1 h
    refine ⟨.bool r,?_,fun _ h=>h⟩
    simp [abin,← look_lt hr]
   ·obtain ⟨r,hr,rfl⟩:=Option.map_eq_some_iff.1 h
    refine ⟨.bool !r,?_,fun _ h=>h⟩
    have e:decide (sev a≤sev b) = !decide (sev b < sev a):=by
     by_cases hh:sev b < sev a
     ·rw [decide_eq_true hh,decide_eq_false (by omega)]; rfl
     ·rw [decide_eq_false hh,decide_eq_true (by omega)]; rfl
    rw [← look_lt hr,← e]
    simp [abin]
   ·cases h
theorem op_binS {op:BinOp} {t:TypeId} {a a':Operand} {x y z:AV} {u v:Value} (hx:VR ρ x u) (hy:VR ρ y v) (h:abinS P op t x y=some z) :
  ∃ r,(do eqGuard op t a a' u v; binOp op t u v:Sem Value).run P w=.ok r w∧VR ρ z r:=by
 unfold abinS at h
 split at h
 ·exact op_bin hx hy h
 ·obtain ⟨p,hp,h⟩:=Option.bind_eq_some_iff.1 h
  obtain ⟨q,hq,h⟩:=Option.bind_eq_some_iff.1 h
  obtain ⟨z',hz,hr⟩:=sbin_conc (ρ:=ρ) h
  rw [ival_rel hp hx,ival_rel hq hy]
  obtain ⟨r,h1,h2⟩:=op_bin (P:=P) (w:=w) (t:=t) (a:=a) (a':=a') (ρ:=ρ) (.int p.1 (sev p.2)) (.int q.1 (sev q.2)) (show abinT P op t (.int p.1 (sev p.2)) (.int q.1 (sev q.2))=some z' from hz)
  exact ⟨r,h1,hr r h2⟩
theorem op_binN {op:BinOp} {t:TypeId} {a a':Operand} {x y z:AV} {u v:Value} (hx:VR ρ x u) (hy:VR ρ y v) (h:abinN P op t a a' x y=some z) :
  ∃ r,(do eqGuard op t a a' u v; binOp op t u v:Sem Value).run P w=.ok r w∧VR ρ z r:=by
 unfold abinN at h
 split at h
 ·rename_i b hb
  injection h with h
  subst h
  unfold nilNil at hb
  split at hb
  ·rename_i ms hu
   cases hx; cases hy
   split at hb
   ·rename_i hc
    have hg:∀ op,(eqGuard op t a a' .nilIface .nilIface).run P w=.ok () w:=by
     intro op
     cases op <;> first
      | rfl
      | (cases a <;> cases a' <;> first | rfl | (simp [isC] at hc))
    have hD:∀ D,(Op.equalIn (D+1) t .nilIface .nilIface).run P w=.ok true w:=fun D=>by simp [Op.equalIn,run_und hu]
    have hq:(Op.equal t .nilIface .nilIface).run P w=.ok true w:=hD 9999
    split at hb
    ·injection hb with hb; subst hb
     refine ⟨.bool true,?_,.bool true⟩
     have e:binOp .eql t .nilIface .nilIface=(do pure (.bool (← Op.equal t .nilIface .nilIface))):=rfl
     rw [e]
     simp [hg,hq]
    ·injection hb with hb; subst hb
     refine ⟨.bool false,?_,.bool false⟩
     have e:binOp .neq t .nilIface .nilIface=(do pure (.bool (!(← Op.equal t .nilIface .nilIface)))):=rfl
     rw [e]
     simp [hg,hq]
    ·cases hb
   ·cases hb
  ·cases hb
 ·exact op_binS hx hy h
theorem op_unS {op:UnOp} {x z:AV} {u:Value} (hx:VR ρ x u) (h:aunS op x=some z) : ∃ r,(Op.unary op u).run P w=.ok r w∧VR ρ z r:=by
 have key:∀ (o:UnOp) (k:IntKind) (e:SE),(∃ n,aun o (.int k (sev e))=some (.int k n))→∃ r,(Op.unary o (.int k (sev e))).run P w=.ok r w∧VR ρ (mkInt k (.un o k e)) r:=by
  intro o k e ⟨n,hn⟩
  obtain ⟨r,h1,h2⟩:=op_un (P:=P) (w:=w) (ρ:=ρ) (.int k (sev e)) hn
  refine ⟨r,h1,?_⟩
  rw [h2.int_inv]
  have:n=sev (.un o k e):=by
   show n=iun o k (sev e)
   unfold iun
   rw [hn]
  rw [this]
  exact mkInt_rel ρ k _
 unfold aunS at h
 split at h
 ·injection h with h; subst h; cases hx; exact key .neg _ _ ⟨_,rfl⟩
 ·injection h with h; subst h; cases hx; exact key .xor _ _ ⟨_,rfl⟩
 ·exact op_un hx h
end
end Go.Proofs.YtoehlmiadiiimaaGreatDoor.Ex
namespace Go.Proofs.YtoehlmiadiiimaaGreatDoor.Ex
open Go
variable [Dec] [Env]
section
variable {P:Program} {w:World} {ρ:Rho} {H:AHeap}
theorem OR.loose {c:List AV} {C:Array Value} {Cs:List Value} {e:TypeId} {k esz:Nat} {fr:Nat×Nat} (h:VRs ρ c Cs) (hC:C.toList.take Cs.length=Cs) (hl:Cs.length≤C.size) (he:P.cellsOf e=esz)
  (hf:∀ i,i < C.size→¬ (fr.1≤i∧i < fr.2)) : OR P ρ ⟨k,0,false,C.size,esz⟩ (.cells c e false) (.cells C e fr):=by
 have hlen:=h.length
 refine ⟨rfl,rfl,rfl,by simp; omega,?_,?_,?_⟩
 ·simp [hlen,hC]; exact h
 ·intro i hi; simp only [Nat.zero_add]; exact hf i (by omega)
 ·intro _; exact ⟨hf,he⟩
theorem abytes_rel (s:ByteArray) : VRs ρ (abytes (s.data.toList.map UInt8.toNat)) (s.data.toList.map fun b=>Value.int .u8 b.toNat):=VRs.map_bytes _
omit [Dec] [Env] in
theorem cellsOf_sz {e n:Nat} (h:sz P e=some n) : P.cellsOf e=n:=by
 obtain ⟨i,hi,rfl⟩:=Option.map_eq_some_iff.1 h
 simp [Program.cellsOf,hi]
theorem aofBytes_rel:∀ {as:List AV} {vs:List Value} {l:List Nat},VRs ρ as vs→aofBytes as=some l →
  ∃ ns:List Int,vs=ns.map (Value.int .u8)∧l=ns.map fun n=>n.toNat % 256
 | _,_,l,.nil,h=>by simp [aofBytes] at h; subst h; exact ⟨[],rfl,rfl⟩
 | _,_,l,.cons a v as vs hv t,h=>by
  cases hv with
  | int k n =>
   cases k with
   | u8 =>
    simp only [aofBytes,Option.map_eq_some_iff] at h
    obtain ⟨l',hl,rfl⟩:=h
    obtain ⟨ns,rfl,rfl⟩:=aofBytes_rel t hl
    exact ⟨n :: ns,rfl,rfl⟩
   | _=>simp [aofBytes] at h
  | _=>simp [aofBytes] at h
omit [Dec] [Env] in
theorem foldl_bytes:∀ (ns:List Int) (s:ByteArray),(ns.foldl (fun r n=>r.push (UInt8.ofNat n.toNat)) s).data.toList.map UInt8.toNat=s.data.toList.map UInt8.toNat ++ ns.map fun n=>n.toNat % 256
 | [],s=>by simp
 | n :: ns,s=>by
  rw [List.foldl_cons,foldl_bytes ns]
  simp [ByteArray.push]
theorem op_conv {lim:Nat} {src dst:TypeId} {x y:AV} {v:Value} {H':AHeap} (hI:Inv P ρ H w) (hv:VR ρ x v) (h:aconv P H src dst x=some (y,H')) (hl:lim≤H.next) :
  ∃ ρ' u w',(convert src dst v).run P w=.ok u w'∧VR ρ' y u∧Step P lim ρ H w ρ' H' w':=by
 unfold aconv at h
 split at h
 ·rename_i d k _ n hs hd
  simp only [Option.some.injEq,Prod.mk.injEq] at h
  obtain ⟨rfl,rfl⟩:=h
  cases hv
  exact ⟨ρ,_,w,by simp [convert,run_und hs,run_und hd,Conv.intToInt],.int _ _,Step.refl hI⟩
 ·rename_i s hs hd
  simp only [Option.some.injEq,Prod.mk.injEq] at h
  obtain ⟨rfl,rfl⟩:=h
  cases hv with | str S _ hS =>
  exact ⟨ρ,.string S,w,by simp [convert,run_und hs,run_und hd],.str _ _ hS,Step.refl hI⟩
 ·rename_i e s hs hd
  split at h
  ·rename_i he
   split at h
   ·rename_i hsz
    simp only [Option.some.injEq,Prod.mk.injEq] at h
    obtain ⟨rfl,rfl⟩:=h
    cases hv with | str S _ hS =>
    have hrun:=Lib.run_convert_string_bytes w src dst e S hs hd he
    have hn:s.length=S.size:=by rw [hS]; simp
    have hcap:S.size≤grownCap w S.size 0 e:=by simp [grownCap,Question.cut]
    have hbc:(Lib.bytesCells w e S).size=grownCap w S.size 0 e:=by
     simp [Lib.bytesCells]; omega
    have hrel:VRs ρ (abytes s) (S.data.toList.map fun b=>Value.int .u8 b.toNat):=by rw [hS]; exact abytes_rel S
    have hOR:OR P (ρ.put H.next ⟨w.heap.size,0,false,(Lib.bytesCells w e S).size,P.cellsOf e⟩) ⟨w.heap.size,0,false,(Lib.bytesCells w e S).size,P.cellsOf e⟩ (.cells (abytes s) e false)
      (.cells (Lib.bytesCells w e S) e ((Lib.bytesCells w e S).size,(Lib.bytesCells w e S).size+1)) :=
     OR.loose (hrel.mono (Rho.put_ext (hI.fresh _ (Nat.le_refl _)))) (by simp [Lib.bytesCells]) (by simp; omega) rfl (fun i hi=>by simp; omega)
    refine ⟨_,_,_,hrun,?_,Step.new hI _ _ _ rfl hOR hl (Lib.bytesWorld_size w e S) (Lib.bytesWorld_at_new w e S) (fun k hk=>Lib.bytesWorld_at_old w e S k hk) ?_ ?_ ?_⟩
    ·rw [hn]
     have h1:P.cellsOf e=1:=cellsOf_sz hsz.2
     exact VR.sl H.next 0 S.size S.size _ ⟨w.heap.size,0,false,(Lib.bytesCells w e S).size,P.cellsOf e⟩ (by simp [Rho.put]) (Nat.le_refl _) hcap (by simp) (fun _=>by rw [h1]; simp; omega)
    ·simp [Lib.bytesWorld,World.freeze,World.alloc,World.drew,-World.alloc_eq,-World.drew_eq]
    ·simp [Lib.bytesWorld,World.freeze,World.alloc,World.drew,-World.alloc_eq,-World.drew_eq]
    ·simp [Lib.bytesWorld,World.freeze,World.alloc,World.drew,-World.alloc_eq,-World.drew_eq]
   ·cases h
  ·cases h
 ·rename_i e hs hd
  split at h
  ·rename_i he
   simp only [Option.some.injEq,Prod.mk.injEq] at h
   obtain ⟨rfl,rfl⟩:=h
   cases hv
   exact ⟨ρ,.string .empty,w,by simp [convert,run_und hs,run_und hd,run_und he,Conv.bytesToString],.str _ _ (by simp),Step.refl hI⟩
  ·cases h
 ·rename_i e b o n c hs hd
  split at h
  ·rename_i c' e' t he hb
   split at h
   ·rename_i hlen
    simp only [Option.map_eq_some_iff,Prod.mk.injEq] at h
    obtain ⟨l,hl',rfl,rfl⟩:=h
    cases hv with
    | sl _ _ _ _ cc r hr _ _ _ _ =>
     obtain ⟨vs,hvs,hrel,hlen'⟩:=run_cells (P:=P) hI hb hr o n hlen
     obtain ⟨ns,rfl,rfl⟩:=aofBytes_rel hrel hl'
     have:=run_bytesToString (P:=P) w ⟨r.cb,r.co+o,none⟩ n cc ns (hvs _ rfl)
     exact ⟨ρ,_,w,(run_convert_bytes_string w src dst e _ n cc hs he hd).trans this,.str _ _ (by rw [foldl_bytes]; simp),Step.refl hI⟩
    | sl0 _ _ a =>
     simp [aofBytes] at hl'
     subst hl'
     have:=run_bytesToString (P:=P) w a 0 0 [] (by simp [loadCells,loadCellsFrom])
     exact ⟨ρ,_,w,(run_convert_bytes_string w src dst e _ 0 0 hs he hd).trans this,.str _ _ (by simp),Step.refl hI⟩
   ·cases h
  ·cases h
 ·cases h
theorem op_convS {lim:Nat} {src dst:TypeId} {x y:AV} {v:Value} {H':AHeap} (hI:Inv P ρ H w) (hv:VR ρ x v) (h:aconvS P H src dst x=some (y,H')) (hl:lim≤H.next) :
  ∃ ρ' u w',(convert src dst v).run P w=.ok u w'∧VR ρ' y u∧Step P lim ρ H w ρ' H' w':=by
 unfold aconvS at h
 split at h
 ·rename_i k e
  split at h
  ·rename_i d k' hs hd
   simp only [Option.some.injEq,Prod.mk.injEq] at h
   obtain ⟨rfl,rfl⟩:=h
   cases hv
   exact ⟨ρ,.int k' (sev (.wrap k' e)),w,by simp [convert,run_und hs,run_und hd,Conv.intToInt]; rfl,mkInt_rel ρ k' _,Step.refl hI⟩
  ·cases h
 ·exact op_conv hI hv h hl
end
end Go.Proofs.YtoehlmiadiiimaaGreatDoor.Ex
namespace Go.Proofs.YtoehlmiadiiimaaGreatDoor.Ex
open Go
variable [Dec] [Env]
section
variable {P:Program} {w:World} {ρ:Rho} {H:AHeap}
theorem src_rel (hI:Inv P ρ H w) {size n:Nat} {x:AV} {v:Value} {new:List AV} (hv:VR ρ x v) (h:asrc H size x=some (n,new)) :
  (Builtin.lenOf v).run P w=.ok n w∧∃ vs:List Value,(∀ w',(∀ a,w'.cell? a=w.cell? a)→(Builtin.firstCells size n v).run P w'=.ok vs.toArray w')∧VRs ρ new vs:=by
 unfold asrc at h
 split at h
 ·simp only [Option.some.injEq,Prod.mk.injEq] at h
  obtain ⟨rfl,rfl⟩:=h
  cases hv
  exact ⟨by simp [Builtin.lenOf],[],fun w' _=>by simp [Builtin.firstCells],.nil⟩
 ·rename_i b o n' c
  split at h
  ·rename_i cs e t hb
   split at h
   ·rename_i hlen
    simp only [Option.some.injEq,Prod.mk.injEq] at h
    obtain ⟨rfl,rfl⟩:=h
    cases hv with
    | sl _ _ _ _ cc r hr _ _ _ _ =>
     obtain ⟨vs,hvs,hrel,hl⟩:=get_cells hI hb hr o (n'*size) hlen
     refine ⟨by simp [Builtin.lenOf],vs,fun w' hw'=>?_,hrel⟩
     simp only [Builtin.firstCells]
     have:=run_loadCells_list (P:=P) w' ⟨r.cb,r.co+o,none⟩ vs (fun j v hj=>by rw [hw']; exact hvs j v hj)
     rw [hl] at this
     exact this
    | sl0 _ _ a =>
     refine ⟨by simp [Builtin.lenOf],[],fun w' _=>by simp [Builtin.firstCells,loadCells,loadCellsFrom],?_⟩
     simpa using VRs.nil
   ·cases h
  ·cases h
 ·rename_i s
  simp only [Option.some.injEq,Prod.mk.injEq] at h
  obtain ⟨rfl,rfl⟩:=h
  cases hv with | str S _ hS =>
  subst hS
  refine ⟨by simp [Builtin.lenOf],S.data.toList.map fun b=>.int .u8 b.toNat,fun w' _=>?_,abytes_rel S⟩
  have:(S.extract 0 S.size).data=S.data:=by
   apply Array.ext'
   rw [Lib.extract_data]
   simp only [List.drop_zero,Nat.sub_zero]
   exact List.take_of_length_le (by simp)
  simp only [Builtin.firstCells,List.length_map,Array.length_toList,Sem.run_pure]
  congr 1
  rw [show S.data.size=S.size from rfl,this]
  apply Array.ext'; simp
 ·cases h
omit [Dec] [Env] in
theorem growBy_le (N:Nat) : ∀ r c,c≤N+(N+768) / 4→Builtin.growBy N r c≤N+(N+768) / 4
 | 0,c,h=>h
 | r+1,c,h=>by
  unfold Builtin.growBy
  split
  ·exact h
  ·exact growBy_le N r _ (by omega)
omit [Dec] [Env] in
theorem nextcap_le {N c:Nat} (h:c < N) : Builtin.nextslicecap N c≤2*N+1000:=by
 unfold Builtin.nextslicecap
 split
 ·omega
 ·split
  ·omega
  ·have:=growBy_le N 4 c (by omega); omega
omit [Dec] [Env] in
theorem zeroCells_size (z:Array Value) (n:Nat) : (Builtin.zeroCells z n).size=n*z.size:=by simp [Builtin.zeroCells]
def AppSrc (P:Program) (ts:Array TypeId) (size:Nat) (zv v:Value) (n:Nat) (vs:List Value) (w:World) : Prop :=
 (∃ t' d',ts[1]?=some t'∧und P t'=some d'∧(∀ k,d'≠.int k)∧(Builtin.lenOf v).run P w=.ok n w∧∀ w',(∀ a,w'.cell? a=w.cell? a)→(Builtin.firstCells size n v).run P w'=.ok vs.toArray w') ∨
 (∃ t' k,ts[1]?=some t'∧und P t'=some (.int k)∧v=.int .i64 (n:Int)∧n≤65536∧(zv.cells.size=size∧size≠0)∧vs.toArray=Builtin.zeroCells zv.cells n)
omit [Dec] [Env] in
theorem run_append_grow {t ty elem n need sLen sCap:Nat} {info:TypeInfo} {base:Option Addr} {v zv:Value} {old new:List Value}
  (hu:und P t=some (.slice elem)) (hi:P.info? elem=some info) (hz:info.zero=some zv) (ts:Array TypeId) (h0:ts[0]?=some t) (hs:AppSrc P ts info.size zv v n new w)
  (hold:(Builtin.firstCells info.size sLen (.slice base sLen sCap)).run P w.drew=.ok old.toArray w.drew)
  (hneed:need=sLen+n) (hcap:¬ need≤sCap) (hsmall:need≤1048576) (hb:info.bytes≤65536) :
  (Builtin.append_ ts ty #[.slice base sLen sCap,v]).run P w=.ok (.slice (some ⟨w.heap.size,0,none⟩) need (grownCap w need sCap elem))
    (w.drew.alloc (.cells (old.toArray ++ new.toArray ++ Builtin.zeroCells zv.cells (grownCap w need sCap elem - need)) elem)):=by
 have hnc:=nextcap_le (N:=need) (c:=sCap) (by omega)
 have hmul:Builtin.nextslicecap need sCap*info.bytes≤(2*need+1000)*65536:=Nat.mul_le_mul hnc hb
 have hnc2:¬ (281474976710656 < Builtin.nextslicecap need sCap*info.bytes):=by omega
 have hmx:¬ (9223372036854775807 < (need:Int)):=by omega
 subst hneed
 have hmx':¬ (9223372036854775807 < ((sLen:Int)+(n:Int))):=by omega
 rcases hs with ⟨t',d',h1,hu',hd',hlen,hvs⟩ | ⟨t',k,h1,hu',rfl,hn,⟨hsz,hs0⟩,hzc⟩
 ·have hnew:=hvs w.drew (fun a=>by simp)
  simp [Builtin.append_,h0,h1,run_underlying hu,run_underlying hu',sizeOf,typeInfo,zeroValue,hi,hz,hlen,hcap,hmx',hnc2,Question.forced,hold,hnew,newRow,grownCap]
  congr 2
  apply Array.ext'
  simp [List.append_assoc]
 ·have hw:IntKind.wrap .i64 (n:Int)=n:=by simp [IntKind.wrap,IntKind.signed,IntKind.bits]; omega
  have hnb:¬ ((281474976710656:Int) < (n:Int)*(info.bytes:Int)):=by
   have:n*info.bytes≤65536*65536:=Nat.mul_le_mul hn hb
   have h2:((n*info.bytes:Nat) : Int)≤((4294967296:Nat) : Int):=Int.ofNat_le.2 this
   rw [Int.natCast_mul] at h2
   omega
  have hneg:¬ ((n:Int) < 0):=by omega
  have hw0:IntKind.wrap .i64 0=0:=rfl
  by_cases h00:n=0
  ·have hnew:new=[]:=by
    have:=congrArg Array.size hzc
    rw [zeroCells_size,h00,Nat.zero_mul] at this
    exact List.length_eq_zero_iff.1 (by simpa using this)
   subst hnew; subst h00
   simp only [Nat.add_zero,Int.natCast_zero,Int.add_zero] at hcap hmx' hnc2
   simp [Builtin.append_,h0,h1,run_underlying hu,run_underlying hu',sizeOf,typeInfo,zeroValue,hi,hz,hcap,hmx',hnc2,Question.forced,hold,newRow,grownCap,asInt,asIntOf,hw0]
  ·have h000:n*info.size≠0:=Nat.mul_ne_zero h00 hs0
   simp [Builtin.append_,h0,h1,run_underlying hu,run_underlying hu',sizeOf,typeInfo,zeroValue,hi,hz,hcap,hmx',hnc2,Question.forced,hold,newRow,grownCap,asInt,asIntOf,hw,hnb,hneg,h000,← hzc]
   congr 2
   apply Array.ext'
   simp [List.append_assoc]
omit [Dec] [Env] in
theorem run_append_fits {t ty elem n sLen sCap:Nat} {info:TypeInfo} {base:Option Addr} {v zv:Value} {new:List Value} {w':World}
  (hu:und P t=some (.slice elem)) (hi:P.info? elem=some info) (hz:info.zero=some zv) (hb:info.bytes≤65536) (ts:Array TypeId) (h0:ts[0]?=some t) (hs:AppSrc P ts info.size zv v n new w) (hcap:sLen+n≤sCap)
  (hst:∀ a,base=some a→(storeCells (a.add (sLen*info.size)) new).run P w=.ok () w') (hnil:base=none→w'=w) :
  (Builtin.append_ ts ty #[.slice base sLen sCap,v]).run P w=.ok (.slice base (sLen+n) sCap) w':=by
 rcases hs with ⟨t',d',h1,hu',hd',hlen,hvs⟩ | ⟨t',k,h1,hu',rfl,hn,⟨hsz,hs0⟩,hzc⟩
 ·have hnew:=hvs w (fun a=>rfl)
  cases base with
  | none =>
   have:=hnil rfl; subst this
   simp [Builtin.append_,h0,h1,run_underlying hu,run_underlying hu',sizeOf,typeInfo,hi,hlen,hcap,hnew]
  | some a =>
   simp [Builtin.append_,h0,h1,run_underlying hu,run_underlying hu',sizeOf,typeInfo,hi,hlen,hcap,hnew,hst a rfl]
 ·have hw:IntKind.wrap .i64 (n:Int)=n:=by simp [IntKind.wrap,IntKind.signed,IntKind.bits]; omega
  have hnb:¬ ((281474976710656:Int) < (n:Int)*(info.bytes:Int)):=by
   have:n*info.bytes≤65536*65536:=Nat.mul_le_mul hn hb
   have h2:((n*info.bytes:Nat) : Int)≤((4294967296:Nat) : Int):=Int.ofNat_le.2 this
   rw [Int.natCast_mul] at h2
   omega
  have hneg:¬ ((n:Int) < 0):=by omega
  have hw0:IntKind.wrap .i64 0=0:=rfl
  by_cases h00:n=0
  ·have hnew:new=[]:=by
    have:=congrArg Array.size hzc
    rw [zeroCells_size,h00,Nat.zero_mul] at this
    exact List.length_eq_zero_iff.1 (by simpa using this)
   subst hnew; subst h00
   simp only [Nat.add_zero] at hcap
   cases base with
   | none =>
    have:=hnil rfl; subst this
    simp [Builtin.append_,h0,h1,run_underlying hu,run_underlying hu',sizeOf,typeInfo,hi,hcap,asInt,asIntOf,hw0]
   | some a =>
    simp [Builtin.append_,h0,h1,run_underlying hu,run_underlying hu',sizeOf,typeInfo,hi,hcap,asInt,asIntOf,hw0,hst a rfl]
  ·have h000:n*info.size≠0:=Nat.mul_ne_zero h00 hs0
   cases base with
   | none =>
    have:=hnil rfl; subst this
    simp [Builtin.append_,h0,h1,run_underlying hu,run_underlying hu',sizeOf,typeInfo,zeroValue,hi,hz,hcap,asInt,asIntOf,hw,hnb,hneg]
   | some a =>
    have h9:=hst a rfl
    rw [show new=(Builtin.zeroCells zv.cells n).toList by rw [← hzc]] at h9
    simp [Builtin.append_,h0,h1,run_underlying hu,run_underlying hu',sizeOf,typeInfo,zeroValue,hi,hz,hcap,asInt,asIntOf,hw,hnb,hneg,h000,h9]
theorem op_append {lim:Nat} {t t' ty:TypeId} {zs:Bool} {d':TypeDesc} {s x y:AV} {u v:Value} {H':AHeap} (hI:Inv P ρ H w) (hs:VR ρ s u) (hx:VR ρ x v) (hl:lim≤H.next)
  (hu':und P t'=some d') (hd':zs=false→∀ k,d'≠.int k) (hd2:zs=true→∃ k,d'=.int k) (ts:Array TypeId) (h0:ts[0]?=some t) (h1:ts[1]?=some t') (h:aappend P lim H t s x zs=some (y,H')) :
  ∃ ρ' r w',(Builtin.append_ ts ty #[u,v]).run P w=.ok r w'∧VR ρ' y r∧Step P lim ρ H w ρ' H' w':=by
 unfold aappend at h
 split at h
 ·rename_i elem hu
  replace h:=Option.bind_eq_some_iff.1 h
  obtain ⟨info,hi,h⟩:=h
  replace h:=Option.bind_eq_some_iff.1 h
  obtain ⟨z,hz,h⟩:=h
  obtain ⟨zv,hzv,hzz⟩:=Option.bind_eq_some_iff.1 hz
  replace h:=Option.bind_eq_some_iff.1 h
  obtain ⟨⟨n,new⟩,hsrc,h⟩:=h
  have hcell:∀ a,w.drew.cell? a=w.cell? a:=fun a=>by simp
  have hzl:zv.cells.toList.length=z.cells.length:=by rw [(ofV_rel (ρ:=ρ) zv z hzz).cells.length]
  dsimp only at h
  split at h
  ·rename_i hc
   obtain ⟨hb,hsz,hzs,hone⟩:=hc
   obtain ⟨vs,hS,hrel⟩ : ∃ vs,AppSrc P ts info.size zv v n vs w∧VRs ρ new vs:=by
    cases zs with
    | false =>
     obtain ⟨hlen,vs,hvs,hrel⟩:=src_rel hI hx hsrc
     exact ⟨vs,.inl ⟨t',d',h1,hu',hd' rfl,hlen,hvs⟩,hrel⟩
    | true =>
     obtain ⟨k,rfl⟩:=hd2 rfl
     unfold asrcZ at hsrc
     simp only at hsrc
     split at hsrc
     ·rename_i m
      split at hsrc
      ·rename_i hm
       simp only [Option.some.injEq,Prod.mk.injEq] at hsrc
       obtain ⟨rfl,rfl⟩:=hsrc
       cases hx
       refine ⟨(List.replicate m.toNat zv.cells.toList).flatten,.inr ⟨t',k,h1,hu',by rw [Int.toNat_of_nonneg hm.1],by have:=hm.2.1; omega,⟨by rw [← Array.length_toList,hzl,hzs],by have:=hm.2.2; omega⟩,?_⟩,VRs.azeros (ofV_rel zv z hzz).cells _⟩
       have:=zeros_eq zv.cells.toList m.toNat (by rw [hzl]; exact hm.2.2)
       simpa [Builtin.zeroCells] using this.symm
      ·cases hsrc
     ·cases hsrc
   clear hz
   have fresh:∀ (H0:AHeap) (old:List AV) (olds:List Value) (base:Option Addr) (sLen sCap:Nat),Inv P ρ H0 w→H0.next=H.next→VRs ρ old olds→olds.length=sLen*info.size→vs.length=n*info.size→¬ (sLen+n≤sCap)→sLen+n≤1048576 →
     (Builtin.firstCells info.size sLen (.slice base sLen sCap)).run P w.drew=.ok olds.toArray w.drew →
     ∃ ρ' r w',(Builtin.append_ ts ty #[.slice base sLen sCap,v]).run P w=.ok r w'∧VR ρ' (.sl H.next 0 (sLen+n) (sLen+n)) r∧Step P lim ρ H0 w ρ' (H0.alloc (.cells (old ++ new) elem false)) w':=by
    intro H0 old olds base sLen sCap hI0 hn0 hor hol hvl hcap hsmall hold
    have hrun:=run_append_grow (P:=P) (ty:=ty) hu hi hzv ts h0 hS hold rfl hcap hsmall hb
    have hg:sLen+n≤grownCap w (sLen+n) sCap elem:=by simp [grownCap,Question.cut]
    have hsize:(olds.toArray ++ vs.toArray ++ Builtin.zeroCells zv.cells (grownCap w (sLen+n) sCap elem - (sLen+n))).size=grownCap w (sLen+n) sCap elem*info.size:=by
     simp only [Array.size_append,List.size_toArray,zeroCells_size]
     rw [← Array.length_toList,hzl,hzs,hol,hvl,← Nat.add_mul,← Nat.add_mul]
     congr 1; omega
    have hes:P.cellsOf elem=info.size:=by simp [Program.cellsOf,hi]
    have hlist:(olds.toArray ++ vs.toArray ++ Builtin.zeroCells zv.cells (grownCap w (sLen+n) sCap elem - (sLen+n))).toList=(olds ++ vs) ++ (Builtin.zeroCells zv.cells (grownCap w (sLen+n) sCap elem - (sLen+n))).toList:=by
     simp
    generalize olds.toArray ++ vs.toArray ++ Builtin.zeroCells zv.cells (grownCap w (sLen+n) sCap elem - (sLen+n))=CN at hrun hsize hlist
    have hOR:=OR.loose (P:=P) (ρ:=ρ.put H0.next ⟨w.heap.size,0,false,CN.size,info.size⟩) (c:=old ++ new) (Cs:=olds ++ vs) (e:=elem) (k:=w.heap.size) (esz:=info.size) (fr:=(0,0))
     (C:=CN) ((hor.append hrel).mono (Rho.put_ext (hI0.fresh _ (Nat.le_refl _)))) (by rw [hlist]; exact List.take_left) (by rw [← Array.length_toList,hlist]; simp) hes (fun i _=>by simp)
    refine ⟨_,_,_,hrun,?_,Step.new hI0 _ _ ⟨w.heap.size,0,false,CN.size,info.size⟩ rfl hOR (by omega) (by simp) (heap_alloc_new w.drew _) (fun k hk=>RowKit.Below.heap_alloc w.drew _ _ hk) rfl rfl rfl⟩
    refine VR.sl H.next 0 (sLen+n) (sLen+n) _ ⟨w.heap.size,0,false,CN.size,info.size⟩ (by rw [← hn0]; simp [Rho.put]) (Nat.le_refl _) hg (by simp) (fun _=>?_)
    rw [hsize]; simp
   have hvl:vs.length=n*info.size:=by rw [← hrel.length]; exact hsz
   split at h
   ·
    cases hs
    split at h
    ·rename_i hn
     simp only [Option.some.injEq,Prod.mk.injEq] at h
     obtain ⟨rfl,rfl⟩:=h
     subst hn
     exact ⟨ρ,_,w,run_append_fits hu hi hzv hb ts h0 hS (by omega) (by simp) (fun _=>rfl),.nilsl,Step.refl hI⟩
    ·rename_i hn
     split at h
     ·rename_i hn2
      simp only [Option.some.injEq,Prod.mk.injEq] at h
      obtain ⟨rfl,rfl⟩:=h
      have:=fresh H [] [] none 0 0 hI rfl .nil (by simp) hvl (by omega) (by omega) (by simp [Builtin.firstCells])
      simpa using this
     ·cases h
   ·rename_i b o len cap
    split at h
    ·rename_i hn
     simp only [Option.some.injEq,Prod.mk.injEq] at h
     obtain ⟨rfl,rfl⟩:=h
     subst hn
     have hvs0:vs=[]:=List.length_eq_zero_iff.1 (by simpa using hvl)
     subst hvs0
     cases hs with
     | sl _ _ _ _ cc r hr hll hcc htt hss =>
      exact ⟨ρ,_,w,run_append_fits hu hi hzv hb ts h0 hS (by omega) (fun a _=>by simp [storeCells]) (by simp),.sl b o len cap cc r hr hll hcc htt hss,Step.refl hI⟩
     | sl0 _ _ a =>
      exact ⟨ρ,_,w,run_append_fits hu hi hzv hb ts h0 hS (by omega) (fun a _=>by simp [storeCells]) (by simp),.sl0 b o a,Step.refl hI⟩
    ·rename_i hn
     split at h
     ·rename_i hfit
      obtain ⟨H1,hw,h⟩:=Option.map_eq_some_iff.1 h
      simp only [Prod.mk.injEq] at h
      obtain ⟨rfl,rfl⟩:=h
      cases hs with
      | sl _ _ _ _ cc r hr hll hcc htt hss =>
       obtain ⟨w',hrun,hst,-⟩:=run_write (P:=P) hI hr hrel hw
       refine ⟨ρ,_,w',run_append_fits hu hi hzv hb ts h0 hS (by omega) (fun a ha=>?_) (by simp),.sl b o (len+n) cap cc r hr hfit hcc htt hss,hst⟩
       injection ha with ha
       subst ha
       exact hrun _ (by rw [add_none,Nat.add_assoc])
      | sl0=>omega
     ·rename_i hfit
      split at h
      ·rename_i hsmall
       replace h:=Option.bind_eq_some_iff.1 h
       obtain ⟨⟨n',old⟩,hso,h⟩:=h
       obtain ⟨hlo,olds,hold,hor⟩:=src_rel hI hs hso
       have hnl:n'=len:=by
        simp only [asrc] at hso
        split at hso
        ·split at hso
         ·injection hso with hso; exact (Prod.mk.inj hso).1.symm
         ·cases hso
        ·cases hso
       subst hnl
       have holen:olds.length=n'*info.size:=by
        rw [← hor.length]
        simp only [asrc] at hso
        split at hso
        ·split at hso
         ·rename_i hlt
          injection hso with hso
          rw [← (Prod.mk.inj hso).2]; simp; omega
         ·cases hso
        ·cases hso
       dsimp only at h
       split at h
       ·rename_i c e tight hgb
        split at h
        ·rename_i he
         subst he
         split at h
         ·rename_i ht
          simp only [Option.some.injEq,Prod.mk.injEq] at h
          obtain ⟨rfl,rfl⟩:=h
          cases hs with
          | sl _ _ _ _ cc r hr hll hcc htt hss =>
           obtain ⟨C,fr,hC,k2,-⟩:=hI.block hgb hr
           have:=htt (by rw [← k2]; exact ht)
           subst this
           exact fresh H old olds _ _ _ hI rfl hor holen hvl hfit hsmall (hold _ hcell)
          | sl0 _ _ a =>
           exact fresh H old olds _ _ _ hI rfl hor holen hvl hfit hsmall (hold _ hcell)
         ·rename_i ht
          split at h
          ·rename_i hlb
           simp only [Option.some.injEq,Prod.mk.injEq] at h
           obtain ⟨rfl,rfl⟩:=h
           have hd:=Step.drop hI b hlb
           have grow:∀ base cc,¬ (n'+n≤cc)→(Builtin.firstCells info.size n' (.slice base n' cc)).run P w.drew=.ok olds.toArray w.drew →
             ∃ ρ' r w',(Builtin.append_ ts ty #[.slice base n' cc,v]).run P w=.ok r w'∧VR ρ' (.sl H.next 0 (n'+n) (n'+n)) r∧Step P lim ρ H w ρ' ((H.put b none).alloc (.cells (old ++ new) e false)) w':=by
            intro base cc hcc hold'
            obtain ⟨ρ',r,w',q1,q2,q3⟩:=fresh (H.put b none) old olds base n' cc hd.inv rfl hor holen hvl hcc hsmall hold'
            exact ⟨ρ',r,w',q1,q2,hd.trans q3⟩
           cases hs with
           | sl _ _ _ _ cc r hr hll hcc htt hss =>
            by_cases hroom:n'+n≤cc
            ·obtain ⟨C,fr,hC,k2,k3,k4,k5,k6,k7⟩:=hI.block hgb hr
             have hrt:r.tight=false:=by rw [← k2]; simpa using ht
             have hss':=hss hrt
             obtain ⟨k7a,k7b⟩:=k7 (by simpa using ht)
             have hes:info.size=r.esz:=by rw [← k7b]; simp [Program.cellsOf,hi]
             have hm1:(n'+n)*r.esz≤cc*r.esz:=Nat.mul_le_mul_right _ hroom
             have hm2:(n'+n)*r.esz=n'*r.esz+n*r.esz:=Nat.add_mul _ _ _
             rw [hes] at hvl holen
             have hcl:olds.length≤c.length - o:=by
              have:=hor.length
              simp only [asrc] at hso
              rw [hgb] at hso
              simp only at hso
              split at hso
              ·rename_i hlt; rw [holen,← hes]; omega
              ·cases hso
             have hones:=hrel.ones hone
             have hrun:=run_storeCells_cells (P:=P) r.cb (r.co+o+n'*r.esz) vs 0 w (fun j hj=>by
               rw [cell_of hC]; simp; omega)
              (fun j hj=>by
                rw [frozen_of hC]
                have:=k7a (r.co+o+n'*r.esz+0+j) (by omega)
                simpa using this) hones
             obtain ⟨s1,s2,s3,s4⟩:=setCells_heap r.cb vs (r.co+o+n'*r.esz) w C e fr hC (by omega)
             refine ⟨ρ.put H.next ⟨r.cb,r.co+o,false,r.size,r.esz⟩,_,_,run_append_fits hu hi hzv hb ts h0 hS hroom (fun a ha=>?_) (by simp),
              VR.sl H.next 0 (n'+n) (n'+n) cc ⟨r.cb,r.co+o,false,r.size,r.esz⟩ (by simp [Rho.put]) (Nat.le_refl _) hroom (by simp) (fun _=>by simp; exact hss'),
              Step.take hI b _ r ⟨r.cb,r.co+o,false,r.size,r.esz⟩ hr ⟨_,hgb⟩ hlb rfl _ ?_ s1 s2 s3 s4 hl⟩
             ·injection ha with ha
              subst ha
              rw [add_none,hes]
              simpa using hrun
             ·have hlen2:=(hor.append hrel).length
              refine ⟨rfl,rfl,?_,?_,?_,?_,?_⟩
              ·simp; omega
              ·simp [hlen2]; omega
              ·rw [hlen2]
               have:(List.drop (r.co+o) ((C.toList.take (r.co+o+n'*r.esz) ++ vs ++ C.toList.drop (r.co+o+n'*r.esz+vs.length)).toArray).toList).take (olds ++ vs).length=olds ++ vs:=by
                have h1:=hold w (fun _=>rfl)
                simp only [Builtin.firstCells] at h1
                have hl3:((C.toList.drop (r.co+o)).take (n'*info.size)).length=n'*info.size:=by
                 rw [hes]; simp; omega
                have h2:=run_loadCells_list (P:=P) w ⟨r.cb,r.co+o,none⟩ ((C.toList.drop (r.co+o)).take (n'*info.size)) (fun j v hj=>by
                 rw [add_none,cell_of hC,← Array.getElem?_toList]
                 have hjn:=(List.getElem?_eq_some_iff.1 hj).1
                 rw [hl3] at hjn
                 rw [List.getElem?_take_of_lt hjn,List.getElem?_drop] at hj
                 exact hj)
                rw [hl3,h1] at h2
                injection h2 with h2
                have h3:olds=(C.toList.drop (r.co+o)).take (n'*info.size):=by simpa using congrArg Array.toList h2
                rw [hes] at h3
                dsimp only
                apply List.ext_getElem?
                intro i
                by_cases hi':i < (olds ++ vs).length
                ·rw [List.getElem?_take_of_lt hi',List.getElem?_drop]
                 simp at hi'
                 by_cases hi1:i < olds.length
                 ·rw [List.append_assoc,List.getElem?_append_left (by simp; omega),List.getElem?_take_of_lt (by omega),List.getElem?_append_left hi1,h3,List.getElem?_take_of_lt (by omega),List.getElem?_drop]
                 ·rw [List.append_assoc,List.getElem?_append_right (by simp; omega),List.getElem?_append_left (by simp; omega),List.getElem?_append_right (by omega)]
                  congr 1
                  simp; omega
                ·rw [List.getElem?_eq_none (by simp at hi' ⊢; omega),List.getElem?_eq_none (by omega)]
               rw [this]
               exact (hor.append hrel).mono (Rho.put_ext (hI.fresh _ (Nat.le_refl _)))
              ·intro i hi
               exact k7a _ (by simp [hlen2] at hi; simp; omega)
              ·intro _
               exact ⟨fun i hi=>k7a i (by simp at hi; omega),k7b⟩
            ·exact grow _ cc hroom (hold _ hcell)
           | sl0 _ _ a=>exact grow _ 0 hfit (hold _ hcell)
          ·cases h
        ·cases h
       ·cases h
      ·cases h
   ·cases h
  ·cases h
 ·cases h
end
end Go.Proofs.YtoehlmiadiiimaaGreatDoor.Ex
namespace Go.Proofs.YtoehlmiadiiimaaGreatDoor.Ex
open Go
variable [Dec] [Env]
section
variable {P:Program} {w:World} {ρ:Rho} {H:AHeap}
theorem Inv.map (h:Inv P ρ H w) {b:Nat} {es:List Ent} {k:Nat} {r:RB} (hb:H.get b=some (.map es k)) (hr:ρ b=some r) :
  ∃ ES:Array MapEntry,w.heap[r.cb]?=some (.map ES k)∧ER ρ es ES.toList:=by
 obtain ⟨C,hC,hO⟩:=h.obj b _ r hb hr
 cases C <;> try exact hO.elim
 obtain ⟨rfl,h2⟩:=hO
 exact ⟨_,hC,h2⟩
omit [Dec] [Env] in
theorem run_getMap {r k:Nat} {ES:Array MapEntry} (h:w.heap[r]?=some (.map ES k)) : (getObj r).run P w=.ok (.map ES k) w:=by
 simp [getObj,Sem.run,h]
theorem ER.length:∀ {es:List Ent} {ms:List MapEntry},ER ρ es ms→es.length=ms.length
 | _,_,.nil=>rfl
 | _,_,.cons _ _ _ _ _ _ _ t=>by simp [t.length]
theorem op_len {t ty:TypeId} {x y:AV} {v:Value} (hI:Inv P ρ H w) (hv:VR ρ x v) (ts:Array TypeId) (h0:ts[0]?=some t) (h:alen P H t x=some y) :
  ∃ r,(Builtin.len_ ts ty #[v]).run P w=.ok r w∧VR ρ y r:=by
 unfold alen at h
 split at h
 ·rename_i s hu
  injection h with h; subst h
  cases hv with | str S _ hS =>
  refine ⟨.int .i64 S.size,by simp [Builtin.len_,h0,run_und hu,goInt],?_⟩
  have:s.length=S.size:=by rw [hS]; simp
  rw [this]; exact .int _ _
 ·rename_i n e hu
  injection h with h; subst h
  exact ⟨_,by simp [Builtin.len_,h0,run_und hu,goInt],.int _ _⟩
 ·rename_i e b o n c hu
  injection h with h; subst h
  cases hv with
  | sl=>exact ⟨_,by simp [Builtin.len_,h0,run_und hu,goInt],.int _ _⟩
  | sl0=>exact ⟨_,by simp [Builtin.len_,h0,run_und hu,goInt],.int _ _⟩
 ·rename_i e hu
  injection h with h; subst h
  cases hv
  exact ⟨_,by simp [Builtin.len_,h0,run_und hu,goInt],.int _ _⟩
 ·rename_i k e hu
  injection h with h; subst h
  cases hv
  exact ⟨_,by simp [Builtin.len_,h0,run_und hu,goInt],.int _ _⟩
 ·rename_i k e r hu
  split at h
  ·rename_i es c hb
   injection h with h; subst h
   cases hv with | map _ r hr =>
   obtain ⟨ES,hES,hER⟩:=hI.map hb hr
   refine ⟨.int .i64 ES.size,by simp [Builtin.len_,h0,run_und hu,run_getMap hES,goInt],?_⟩
   rw [hER.length]
   simpa using VR.int _ _
  ·cases h
 ·cases h
theorem op_copy {lim:Nat} {t ty:TypeId} {d s y:AV} {u v:Value} {H':AHeap} (hI:Inv P ρ H w) (hd:VR ρ d u) (hs:VR ρ s v) (ts:Array TypeId) (h0:ts[0]?=some t)
  (h:acopy P lim H t d s=some (y,H')) : ∃ r w',(Builtin.copy_ ts ty #[u,v]).run P w=.ok r w'∧VR ρ y r∧Step P lim ρ H w ρ H' w':=by
 unfold acopy at h
 split at h
 ·rename_i elem b o dl dc hu
  replace h:=Option.bind_eq_some_iff.1 h
  obtain ⟨size,hsz,h⟩:=h
  split at h
  ·rename_i h0'
   subst h0'
   have hn:∀ (a:Option Addr) (cc:Nat),(Builtin.copy_ ts ty #[.slice a 0 cc,v]).run P w=.ok (goInt 0) w:=by
    intro a cc
    split at h
    ·cases hs <;> cases a <;> simp [Builtin.copy_,h0,run_und hu,run_sz hsz,Builtin.lenOf,Builtin.firstCells,loadCells,loadCellsFrom,storeCells]
    ·cases hs <;> cases a <;> simp [Builtin.copy_,h0,run_und hu,run_sz hsz,Builtin.lenOf,Builtin.firstCells,storeCells]
    ·cases hs with | str S _ hS =>
     have h2:S.extract 0 0=.empty:=by simp
     cases a <;> simp [Builtin.copy_,h0,run_und hu,run_sz hsz,Builtin.lenOf,Builtin.firstCells,storeCells]
    ·cases h
   have hy:y=.int .i64 0∧H'=H:=by
    split at h <;> simp at h <;> exact ⟨h.1.symm,h.2.symm⟩
   obtain ⟨rfl,rfl⟩:=hy
   cases hd with
   | sl _ _ _ _ cc r hr _ _ _ _=>exact ⟨_,w,hn _ cc,.int _ _,Step.refl hI⟩
   | sl0 _ _ a=>exact ⟨_,w,hn _ 0,.int _ _,Step.refl hI⟩
  rename_i hdl
  replace h:=Option.bind_eq_some_iff.1 h
  obtain ⟨⟨n,new⟩,hsrc,h⟩:=h
  have hread:∃ vs:List Value,(Builtin.lenOf v >>= fun l=>Builtin.firstCells size (Nat.min l dl) v).run P w=.ok vs.toArray w∧(Builtin.lenOf v >>= fun l=>pure (Nat.min l dl)).run P w=.ok n w∧VRs ρ new vs:=by
   split at hsrc
   ·rename_i b' o' n' c'
    have hv':∃ v',VR ρ (.sl b' o' (min n' dl) c') v'∧∃ a k cc,v=.slice a k cc∧k=n'∧v'=.slice a (min n' dl) cc:=by
     cases hs with
     | sl _ _ _ _ cc r hr hll hcc htt hss=>exact ⟨_,.sl b' o' (min n' dl) c' cc r hr (by omega) hcc htt hss,_,_,_,rfl,rfl,rfl⟩
     | sl0 _ _ a=>exact ⟨.slice (some a) 0 0,by simpa using VR.sl0 (ρ:=ρ) b' o' a,_,_,_,rfl,rfl,by simp⟩
    obtain ⟨v',hv',a,k,cc,rfl,rfl,rfl⟩:=hv'
    obtain ⟨hlen,vs,hvs,hrel⟩:=src_rel hI hv' hsrc
    have h1:=hvs w (fun _=>rfl)
    simp [Builtin.lenOf] at hlen
    subst hlen
    refine ⟨vs,?_,by simp [Builtin.lenOf],hrel⟩
    cases a <;> simpa [Builtin.lenOf,Builtin.firstCells] using h1
   ·rename_i l
    simp only [asrc,Option.some.injEq,Prod.mk.injEq] at hsrc
    obtain ⟨rfl,rfl⟩:=hsrc
    cases hs with | str S _ hS =>
    subst hS
    have hl:(List.take dl (S.data.toList.map UInt8.toNat)).length=min S.size dl:=by simp [Nat.min_comm]
    refine ⟨(S.data.toList.take (min S.size dl)).map fun b=>.int .u8 b.toNat,?_,by simp [Builtin.lenOf,hl],?_⟩
    ·simp only [Builtin.lenOf,Builtin.firstCells,Sem.run_bind,Sem.run_pure,Result.andThen_ok]
     congr 1
     apply Array.ext'
     simp only [Array.toList_map,Lib.extract_data]
     simp
    ·rw [← List.map_take]
     have e:List.take dl S.data.toList=List.take (min S.size dl) S.data.toList:=by
      apply List.ext_getElem?
      intro i
      simp only [List.getElem?_take]
      have:S.size=S.data.toList.length:=by simp
      by_cases h1:i < dl <;> by_cases h2:i < min S.size dl
      ·simp [h1,h2]
      ·rw [if_pos h1,if_neg h2]; exact List.getElem?_eq_none (by omega)
      ·omega
      ·simp [h1,h2]
     rw [e]
     exact VRs.map_bytes _
   ·simp only [Option.some.injEq,Prod.mk.injEq] at hsrc
    obtain ⟨rfl,rfl⟩:=hsrc
    cases hs
    exact ⟨[],by simp [Builtin.lenOf,Builtin.firstCells],by simp [Builtin.lenOf],.nil⟩
   ·cases hsrc
  obtain ⟨vs,hr1,hr2,hrel⟩:=hread
  dsimp only at h
  split at h
  ·rename_i hone
   obtain ⟨H1,hw,h⟩:=Option.map_eq_some_iff.1 h
   simp only [Prod.mk.injEq] at h
   obtain ⟨rfl,rfl⟩:=h
   have hrun:∀ (a:Addr) (cc:Nat) (w':World),(storeCells a vs).run P w=.ok () w'→(Builtin.copy_ ts ty #[.slice (some a) dl cc,v]).run P w=.ok (goInt n) w':=by
    intro a cc w' hst
    obtain ⟨l,hl,hl2⟩ : ∃ l,(Builtin.lenOf v).run P w=.ok l w∧Nat.min l dl=n:=by
     cases v <;> simp [Builtin.lenOf] at hr2 ⊢ <;> exact hr2
    rw [Sem.run_bind,hl,Result.andThen_ok,hl2] at hr1
    have h2:ts[0]?=some t:=h0
    simp [Builtin.copy_,h2,run_und hu,hl,hl2,run_sz hsz,hr1,hst]
   cases hd with
   | sl _ _ _ _ cc r hr _ _ _ _ =>
    obtain ⟨w',hst,hstep,-⟩:=run_write (P:=P) hI hr hrel hw
    exact ⟨_,w',hrun _ cc w' (hst _ rfl),.int _ _,hstep⟩
   | sl0 _ _ a=>exact absurd rfl hdl
  ·cases h
 ·rename_i e hu
  cases hd
  split at h
  ·rename_i hsz
   obtain ⟨size,hsz⟩:=Option.isSome_iff_exists.1 hsz
   have hn:(Builtin.copy_ ts ty #[.slice none 0 0,v]).run P w=.ok (goInt 0) w:=by
    split at h
    ·cases hs <;> simp [Builtin.copy_,h0,run_und hu,run_sz hsz,Builtin.lenOf,Builtin.firstCells,loadCells,loadCellsFrom]
    ·cases hs <;> simp [Builtin.copy_,h0,run_und hu,run_sz hsz,Builtin.lenOf,Builtin.firstCells]
    ·cases hs with | str S _ hS =>
     simp [Builtin.copy_,h0,run_und hu,run_sz hsz,Builtin.lenOf,Builtin.firstCells]
    ·cases h
   have hy:y=.int .i64 0∧H'=H:=by
    split at h <;> simp at h <;> exact ⟨h.1.symm,h.2.symm⟩
   obtain ⟨rfl,rfl⟩:=hy
   exact ⟨_,w,hn,.int _ _,Step.refl hI⟩
  ·cases h
 ·cases h
end
end Go.Proofs.YtoehlmiadiiimaaGreatDoor.Ex
namespace Go.Proofs.YtoehlmiadiiimaaGreatDoor.Ex
open Go
variable [Dec] [Env]
section
variable {P:Program} {w:World} {ρ:Rho} {H:AHeap}
omit [Dec] [Env] in
theorem keyType_cases {kt:TypeId} {k:AV} (h:keyType P kt k=true) : ∃ d,und P kt=some d ∧
  ((d=.bool∧∃ b,k=.bool b)∨((∃ j,d=.int j)∧∃ i n,k=.int i n)∨(d=.string∧∃ s,k=.str s)):=by
 unfold keyType at h
 split at h
 ·rename_i hu; exact ⟨_,hu,.inl ⟨rfl,_,rfl⟩⟩
 ·rename_i hu; exact ⟨_,hu,.inr (.inl ⟨⟨_,rfl⟩,_,_,rfl⟩)⟩
 ·rename_i hu; exact ⟨_,hu,.inr (.inr ⟨rfl,_,rfl⟩)⟩
 ·cases h
omit [Dec] [Env] in
theorem run_checkKey {kt:TypeId} {k:AV} (h:keyType P kt k=true) (e:Bool) (n:Nat) (v:Value) : (Instr.checkKey e (n+1) kt v).run P w=.ok () w:=by
 obtain ⟨d,hu,hd⟩:=keyType_cases h
 simp only [Instr.checkKey,Sem.run_bind,run_und hu,Result.andThen_ok]
 rcases hd with ⟨rfl,-⟩ | ⟨⟨j,rfl⟩,-⟩ | ⟨rfl,-⟩ <;> cases v <;> simp
theorem sameNow_rel {kt:TypeId} {d:TypeDesc} {k x:AV} {kv xv:Value} {b:Bool} (h:keyType P kt k=true) (hu:und P kt=some d) (hk:VR ρ k kv) (hx:VR ρ x xv) (he:keyEq k x=some b) :
  Instr.sameNow d kv xv=some b∧(b=true→∀ n,Instr.sameBits n xv kv=true):=by
 obtain ⟨d',hu',hd⟩:=keyType_cases h
 rw [hu'] at hu; injection hu with hu; subst hu
 rcases hd with ⟨rfl,b1,rfl⟩ | ⟨⟨j,rfl⟩,i,m,rfl⟩ | ⟨rfl,s,rfl⟩
 ·cases x <;> simp [keyEq] at he
  subst he
  cases hk; cases hx
  refine ⟨by simp [Instr.sameNow],fun h n=>?_⟩
  cases n <;> simp [Instr.sameBits] at h ⊢ <;> exact h.symm
 ·cases x <;> simp [keyEq] at he
  obtain ⟨rfl,rfl⟩:=he
  cases hk; cases hx
  refine ⟨by simp [Instr.sameNow],fun h n=>?_⟩
  cases n <;> simp [Instr.sameBits] at h ⊢ <;> exact h.symm
 ·cases x <;> simp [keyEq] at he
  subst he
  cases hk with | str S _ hS =>
  cases hx with | str T _ hT =>
  subst hS; subst hT
  refine ⟨by simp only [Instr.sameNow]; rw [bytes_eq,beq_toListBytes],fun h n=>?_⟩
  rw [bytes_eq,← beq_toListBytes] at h
  have h2:(T == S)=true:=by
   rw [beq_toListBytes] at h ⊢
   simp at h ⊢; exact h.symm
  cases n <;> simpa [Instr.sameBits] using h2
theorem find_rel {kt:TypeId} {d:TypeDesc} {k:AV} {kv:Value} (h:keyType P kt k=true) (hu:und P kt=some d) (hk:VR ρ k kv) : ∀ {es:List Ent} {ms:List MapEntry} {i:Nat} {r:Option (Nat×AV)},ER ρ es ms→afind k es i=some r →
  (r=none∧Instr.findNow d kv ms i=some none)∨(∃ j x v m,r=some (i+j,x)∧Instr.findNow d kv ms i=some (some (i+j,v))∧VR ρ x v∧ms[j]?=some m∧∀ n,Instr.sameBits n m.key kv=true)
 | _,_,i,r,.nil,h=>by simp [afind] at h; subst h; exact .inl ⟨rfl,rfl⟩
 | _,_,i,r,.cons e m es ms hek hev hb t,hf=>by
  simp only [afind] at hf
  split at hf
  ·rename_i he
   injection hf with hf; subst hf
   obtain ⟨h1,h2⟩:=sameNow_rel h hu hk hek he
   exact .inr ⟨0,e.val,m.val,m,by simp,by simp [Instr.findNow,h1],hev,by simp,h2 rfl⟩
  ·rename_i he
   obtain ⟨h1,-⟩:=sameNow_rel h hu hk hek he
   rcases find_rel h hu hk t hf with ⟨rfl,h3⟩ | ⟨j,x,v,m',rfl,h3,h4,h5,h6⟩
   ·exact .inl ⟨rfl,by simp [Instr.findNow,h1,h3]⟩
   ·refine .inr ⟨j+1,x,v,m',by simp; omega,?_,h4,by simpa using h5,h6⟩
    simp only [Instr.findNow,h1,h3]
    congr 3; omega
  ·cases hf
theorem op_lookup {t:TypeId} {m k y:AV} {mv kv:Value} {ok:Bool} (hI:Inv P ρ H w) (hm:VR ρ m mv) (hk:VR ρ k kv) (h:alookup P H t m k ok=some y) :
  ∃ r,(Instr.lookup t mv kv ok).run P w=.ok r w∧VR ρ y r:=by
 unfold alookup at h
 split at h
 ·rename_i kt et hu
  split at h
  ·rename_i hkt
   replace h:=Option.bind_eq_some_iff.1 h
   obtain ⟨es,hes,h⟩:=h
   replace h:=Option.bind_eq_some_iff.1 h
   obtain ⟨r,hr,h⟩:=h
   obtain ⟨d,hud,-⟩:=keyType_cases hkt
   have hck:=fun e=>run_checkKey (w:=w) hkt e 9999 kv
   have hfk:∀ ms q,Instr.findNow d kv ms 0=some q→(Instr.findKey kt kv ms).run P w=.ok q w:=by
    intro ms q hq
    simp [Instr.findKey,run_und hud,hq]
   have hcases:(mv=.map none∧es=[])∨∃ r c,∃ ES:Array MapEntry,mv=.map (some r)∧w.heap[r]?=some (.map ES c)∧ER ρ es ES.toList:=by
    unfold amapOf at hes
    split at hes
    ·injection hes with hes; subst hes
     cases hm
     exact .inl ⟨rfl,rfl⟩
    ·split at hes
     ·rename_i hb
      injection hes with hes; subst hes
      cases hm with | map _ r hr =>
      obtain ⟨ES,hES,hER⟩:=hI.map hb hr
      exact .inr ⟨_,_,ES,rfl,hES,hER⟩
     ·cases hes
    ·cases hes
   rcases hcases with ⟨rfl,rfl⟩ | ⟨r',c,ES,rfl,hES,hER⟩
   ·simp [afind] at hr; subst hr
    obtain ⟨z,hz,rfl⟩:=Option.map_eq_some_iff.1 h
    obtain ⟨zv,hzr,hzv⟩:=run_zero hz
    have hf:=hfk [] none (by simp [Instr.findNow])
    refine ⟨if ok then .tuple #[zv,.bool false] else zv,?_,?_⟩
    ·simp [Instr.lookup,run_und hu,hck,hf,hzr]
    ·cases ok
     ·exact hzv ρ
     ·exact .tup _ [zv,.bool false] (.cons _ _ _ _ (hzv ρ) (.cons _ _ _ _ (.bool _) .nil))
   ·rcases find_rel hkt hud hk hER hr with ⟨rfl,h1⟩ | ⟨j,x,v,e,rfl,h1,h2,h3,h4⟩
    ·obtain ⟨z,hz,rfl⟩:=Option.map_eq_some_iff.1 h
     obtain ⟨zv,hzr,hzv⟩:=run_zero hz
     refine ⟨if ok then .tuple #[zv,.bool false] else zv,?_,?_⟩
     ·simp [Instr.lookup,run_und hu,hck,hfk _ _ h1,hzr,run_getMap hES]
     ·cases ok
      ·exact hzv ρ
      ·exact .tup _ [zv,.bool false] (.cons _ _ _ _ (hzv ρ) (.cons _ _ _ _ (.bool _) .nil))
    ·simp only [Option.some.injEq] at h; subst h
     refine ⟨if ok then .tuple #[v,.bool true] else v,?_,?_⟩
     ·simp [Instr.lookup,run_und hu,hck,hfk _ _ h1,run_getMap hES]
     ·cases ok
      ·exact h2
      ·exact .tup _ [v,.bool true] (.cons _ _ _ _ h2 (.cons _ _ _ _ (.bool _) .nil))
  ·cases h
 ·cases h
theorem ER.modify:∀ {es:List Ent} {ms:List MapEntry},ER ρ es ms→∀ {k x:AV} {kv v:Value},VR ρ k kv→VR ρ x v→∀ i,ER ρ (es.modify i fun e=>{ e with key:=k,val:=x }) (ms.modify i fun e=>{ e with key:=kv,val:=v })
 | _,_,.nil,_,_,_,_,_,_,i=>by simpa using ER.nil
 | _,_,.cons e m es ms hk hv hb t,k,x,kv,v,h1,h2,i=>by
  cases i with
  | zero=>exact .cons { e with key:=k,val:=x } { m with key:=kv,val:=v } es ms h1 h2 hb t
  | succ i=>simpa using ER.cons e m _ _ hk hv hb (t.modify h1 h2 i)
theorem ER.push:∀ {es:List Ent} {ms:List MapEntry},ER ρ es ms→∀ {e:Ent} {m:MapEntry},VR ρ e.key m.key→VR ρ e.val m.val→m.born=e.born→ER ρ (es ++ [e]) (ms ++ [m])
 | _,_,.nil,_,_,h1,h2,h3=>.cons _ _ _ _ h1 h2 h3 .nil
 | _,_,.cons e m es ms hk hv hb t,_,_,h1,h2,h3=>.cons e m _ _ hk hv hb (t.push h1 h2 h3)
omit [Dec] [Env] in
theorem run_setMap {r k k':Nat} {ES ES':Array MapEntry} (h:w.heap[r]?=some (.map ES k)) : (setObj r (.map ES' k')).run P w=.ok () { w with heap:=w.heap.setIfInBounds r (.map ES' k') }:=by
 simp [setObj,Sem.run,h]
theorem op_mapPut {lim:Nat} {t:TypeId} {m k x:AV} {mv kv xv:Value} {H':AHeap} (hI:Inv P ρ H w) (hm:VR ρ m mv) (hk:VR ρ k kv) (hx:VR ρ x xv) (h:amapPut P lim H t m k x=some H') :
  ∃ w',(Instr.mapUpdate t mv kv xv).run P w=.ok () w'∧Step P lim ρ H w ρ H' w':=by
 unfold amapPut at h
 split at h
 ·rename_i kt et b hu
  split at h
  ·rename_i hc
   obtain ⟨hkt,hlim⟩:=hc
   split at h
   ·rename_i es c hb
    replace h:=Option.bind_eq_some_iff.1 h
    obtain ⟨r,hr,h⟩:=h
    cases hm with | map _ rb hrb =>
    obtain ⟨ES,hES,hER⟩:=hI.map hb hrb
    obtain ⟨d,hud,-⟩:=keyType_cases hkt
    have hck:=fun e=>run_checkKey (w:=w) hkt e 9999 kv
    have hfk:∀ ms q,Instr.findNow d kv ms 0=some q→(Instr.findKey kt kv ms).run P w=.ok q w:=by
     intro ms q hq
     simp [Instr.findKey,run_und hud,hq]
    have hco:=hI.obj b _ rb hb hrb
    rcases find_rel hkt hud hk hER hr with ⟨rfl,h1⟩ | ⟨j,y,v,e,rfl,h1,h2,h3,h4⟩
    ·simp only [Option.some.injEq] at h; subst h
     refine ⟨{ w with heap:=w.heap.setIfInBounds rb.cb (.map (ES.push { key:=kv,val:=xv,born:=c }) (c+1)) },?_,Step.put (w':={ w with heap:=w.heap.setIfInBounds rb.cb (.map (ES.push { key:=kv,val:=xv,born:=c }) (c+1)) }) hI b _ (.map (es ++ [⟨k,x,c⟩]) (c+1)) rb hb hrb hlim (.map (ES.push { key:=kv,val:=xv,born:=c }) (c+1)) ⟨rfl,?_⟩ rfl rfl rfl rfl⟩
     ·simp [Instr.mapUpdate,run_und hu,hck,hfk _ _ h1,run_getMap hES,run_setMap hES]
     ·simp only [Array.toList_push]
      exact hER.push hk hx rfl
    ·simp only [Option.some.injEq] at h; subst h
     simp only [Nat.zero_add] at h1 ⊢
     have hkk:((ES[j]?).map (·.key)).getD kv=e.key:=by
      rw [← Array.getElem?_toList,h3]; rfl
     have hstay:∀ o,o=e.key→(Instr.keyThatStays o kv).run P w=.ok kv w:=by
      rintro o rfl
      simp [Instr.keyThatStays,h4]
     refine ⟨{ w with heap:=w.heap.setIfInBounds rb.cb (.map (ES.modify j fun e=>{ e with key:=kv,val:=xv }) c) },?_,Step.put (w':={ w with heap:=w.heap.setIfInBounds rb.cb (.map (ES.modify j fun e=>{ e with key:=kv,val:=xv }) c) }) hI b _ (.map (es.modify j fun e=>{ e with key:=k,val:=x }) c) rb hb hrb hlim (.map (ES.modify j fun e=>{ e with key:=kv,val:=xv }) c) ⟨rfl,?_⟩ rfl rfl rfl rfl⟩
     ·simp [Instr.mapUpdate,run_und hu,hck,hfk _ _ h1,run_getMap hES,run_setMap hES,hstay _ hkk]
     ·rw [Array.toList_modify]
      exact hER.modify hk hx j
   ·cases h
  ·cases h
 ·cases h
end
end Go.Proofs.YtoehlmiadiiimaaGreatDoor.Ex
