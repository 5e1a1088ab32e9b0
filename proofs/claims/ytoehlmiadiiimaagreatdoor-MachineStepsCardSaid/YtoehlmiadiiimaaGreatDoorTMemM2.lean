import Derived.Test.YtoehlmiadiiimaaGreatDoorTMemR5
/-
  Same: at two machines, whatever they are.
-/
namespace Go.Proofs.YtoehlmiadiiimaaGreatDoor
open Go.ChangeShapes Go.WideShapes Go.RowKit Go.Proofs.YtoehlmiadiiimaaGreatDoor.Ex
def eqB (r s:Rn) : Bool:=decide (r.pc=s.pc∧r.base=s.base∧r.done=s.done∧r.regs=s.regs∧r.mem=s.mem∧r.told=s.told)
theorem lists_eq {l m:List Int} (h:l.length=m.length) (he:∀ i,i < l.length→l.getD i 0=m.getD i 0) : l=m:=by
 apply List.ext_getElem h
 intro i h1 h2
 have:=he i h1
 simpa [List.getD,List.getElem?_eq_getElem h1,List.getElem?_eq_getElem h2] using this
theorem str_inj:∀ {l m:List Int},(∀ x∈l,0≤x∧x < 256)→(∀ x∈m,0≤x∧x < 256)→strOfNums l=strOfNums m→l=m:=by
 intro l m hl hm h
 have e:l.map (fun n=>UInt8.ofNat n.toNat)=m.map fun n=>UInt8.ofNat n.toNat:=by rw [← strOfNums_data,← strOfNums_data,h]
 clear h
 induction l generalizing m with
 | nil=>cases m with
  | nil=>rfl
  | cons y m=>simp at e
 | cons x l ih=>cases m with
  | nil=>simp at e
  | cons y m =>
   simp only [List.map_cons,List.cons.injEq] at e
   have hx:=hl x (by simp)
   have hy:=hm y (by simp)
   have:=congrArg UInt8.toNat e.1
   simp at this
   rw [ih (fun z hz=>hl z (by simp [hz])) (fun z hz=>hm z (by simp [hz])) e.2,show x=y from by omega]
def SamePost (b:Bool) (w:World) (e:Ending) (w':World) : Prop:=e=.returned (.bool b)∧Below w.heap.size w w'
set_option maxRecDepth 100000 in
set_option maxHeartbeats 2000000 in
theorem same2_c (v1 v2:Value) (r s:Rn) (w:World) (h1:MachR w v1 r) (h2:MachR w v2 s) (hr:∀ x∈r.mem,0≤x∧x < 256) (hs:∀ x∈s.mem,0≤x∧x < 256) (_hm:r.mem.length≤1000000) (_hm':s.mem.length≤1000000) (ht:r.told.length≤1000000) (_ht':s.told.length≤1000000) :
  Calls Tryz.prog 16 #[v1,v2] w (SamePost (eqB r s) w):=by
 have hl1:=h1.len
 have hl2:=h2.len
 obtain ⟨mv1,tv1,hv1,hm1,ht1⟩:=h1.form
 obtain ⟨mv2,tv2,hv2,hm2,ht2⟩:=h2.form
 obtain ⟨A1,q1,rfl,-,-⟩:=hm1.form
 obtain ⟨A2,q2,rfl,-,-⟩:=hm2.form
 obtain ⟨B1,p1,rfl,-,-⟩:=ht1.form
 obtain ⟨B2,p2,rfl,-,-⟩:=ht2.form
 subst hv1; subst hv2
 have F:∀ (x:Rn),x.regs.length=32→∀ (mv tv:Value) (cs:Array Value),cs=(mcells x mv tv).toArray→cs[0]?=some (.int .u64 x.pc)∧cs[33]?=some (.int .u64 x.base)∧cs[34]?=some mv∧cs[35]?=some tv∧cs[36]?=some (.bool x.done)∧Hid (∀ i,i < 32→cs[1+i]?=some (.int .u64 (x.regs.getD i 0))):=by
  rintro x hlen mv tv cs rfl
  exact ⟨mc0,mc33 hlen,mc34 hlen,mc35 hlen,mc36 hlen,Lib.hid (mcR hlen)⟩
 obtain ⟨c0,c33,c34,c35,c36,cR⟩:=F r hl1 _ _ _ (Eq.refl (mcells r (.slice A1 (r.mem.map (Value.int .u8)).length q1) (.slice B1 (r.told.map (Value.int .u64)).length p1)).toArray)
 obtain ⟨d0,d33,d34,d35,d36,dR⟩:=F s hl2 _ _ _ (Eq.refl (mcells s (.slice A2 (s.mem.map (Value.int .u8)).length q2) (.slice B2 (s.told.map (Value.int .u64)).length p2)).toArray)
 clear F
 simp only [List.length_map] at *
 generalize (mcells r (.slice A1 r.mem.length q1) (.slice B1 r.told.length p1)).toArray=cs at *
 generalize (mcells s (.slice A2 s.mem.length q2) (.slice B2 s.told.length p2)).toArray=ds at *
 have K1:(convert 24 9 (.slice A1 r.mem.length q1)).run Tryz.prog ((w.alloc (.cells cs 27)).alloc (.cells ds 27))=.ok (.string (strOfNums r.mem)) ((w.alloc (.cells cs 27)).alloc (.cells ds 27)):=conv_rd (hm1.keep (((Below.refl _ _).alloc (Nat.le_refl _) _).alloc (by simp) _))
 have K2:(convert 24 9 (.slice A2 s.mem.length q2)).run Tryz.prog ((w.alloc (.cells cs 27)).alloc (.cells ds 27))=.ok (.string (strOfNums s.mem)) ((w.alloc (.cells cs 27)).alloc (.cells ds 27)):=conv_rd (hm2.keep (((Below.refl _ _).alloc (Nat.le_refl _) _).alloc (by simp) _))
 have HT1:=Lib.hid ht1
 have HT2:=Lib.hid ht2
 have HB:Hid (Below w.heap.size w ((w.alloc (.cells cs 27)).alloc (.cells ds 27))):=Lib.hid (((Below.refl _ _).alloc (Nat.le_refl _) _).alloc (by simp) _)
 have HI:=Lib.hid (fun e=>str_inj hr hs e:strOfNums r.mem=strOfNums s.mem→r.mem=s.mem)
 clear h1 h2 hm1 hm2 ht1 ht2 hr hs
 by_cases H:r.pc=s.pc∧r.base=s.base∧r.done=s.done∧r.mem.length=s.mem.length∧r.told.length=s.told.length
 ·obtain ⟨e1,e2,e3,e4,e5⟩:=H
  rw [← e1] at d0
  rw [← e2] at d33
  rw [← e3] at d36
  rw [← e4] at d34 K2
  rw [← e5] at d35
  have HT2':=HT2.out
  rw [← e5] at HT2'
  have HT2:=Lib.hid HT2'
  have HEQ:=Lib.hid (And.intro e1 (And.intro e2 (And.intro e3 e5)))
  clear e1 e2 e3 e4 e5 HT2'
  by_cases hmm:r.mem=s.mem
  ·rw [← hmm] at K2
   have HMM:=Lib.hid hmm
   clear hmm
   obtain ⟨q,hq⟩ : ∃ q,eqB r s=q:=⟨_,rfl⟩
   have HQ:=Lib.hid hq
   rw [hq]
   clear hq
   generalize strOfNums r.mem=str at *
   go_enter Tryz.func16,Tryz.ntmps16
   go_wp2
   go_loopw [5] (fun i wr=>∃ j:Nat,j≤32∧i=.int .i64 j∧Blk wr w.heap.size 27 cs∧Blk wr (w.heap.size+1) 27 ds∧Hid (Below w.heap.size w wr)∧Hid (∀ k,k < j→r.regs.getD k 0=s.regs.getD k 0)) (fun i _=>32 - (intOf i).toNat)
   case atStart=>exact ⟨0,by omega,rfl,(Blk.new w 27 cs).alloc _,by simpa using Blk.new (w.alloc (.cells cs 27)) 27 ds,HB,Lib.hid (fun k hk=>by omega)⟩
   case round =>
    obtain ⟨j,hj,rfl,hD,hE,hB,hP⟩:=hrel
    by_cases hlt:j < 32
    ·have q1':=(hD.cell (1+j)).trans (cR.out j hlt)
     have q2':=(hE.cell (1+j)).trans (dR.out j hlt)
     by_cases hg:r.regs.getD j 0=s.regs.getD j 0
     ·rw [← hg] at q2'
      go_wp2
      go_region
      go_wp2
      go_roundw
      case rel=>exact ⟨j+1,by omega,by go_num,hD,hE,Lib.hid hB.out.drew,Lib.hid fun k hk=>by rcases Nat.lt_or_ge k j with h | h; exact hP.out k h; rw [show k=j by omega]; exact hg⟩
      case measure=>simp [intOf]; omega
     ·have hq:q=false:=by
       rw [← HQ.out]
       simp only [eqB,decide_eq_false_iff_not]
       rintro ⟨-,-,-,h,-⟩
       exact hg (by rw [h])
      have hg':(r.regs.getD j 0 == s.regs.getD j 0)=false:=by simpa using hg
      generalize r.regs.getD j 0=x1 at *
      generalize s.regs.getD j 0=x2 at *
      go_wp2
      go_region
      go_wp2
      go_ret
      exact ⟨by rw [hq]; rfl,hB.out.drew⟩
    ·obtain rfl:j=32:=by omega
     go_wp2
     obtain ⟨wo,rfl⟩ : ∃ wo:World,wo=wr:=⟨_,rfl⟩
     go_loopw [6] (fun i wr=>∃ j:Nat,j≤r.told.length∧i=.int .i64 j∧Blk wr w.heap.size 27 cs∧Blk wr (w.heap.size+1) 27 ds∧Hid (Below w.heap.size w wr)∧Hid (∀ k,k < j→r.told.getD k 0=s.told.getD k 0)) (fun i _=>r.told.length - (intOf i).toNat)
     case atStart=>exact ⟨0,Nat.zero_le _,rfl,hD,hE,hB,Lib.hid (fun k hk=>by omega)⟩
     case round =>
      obtain ⟨k,hk,rfl,hD2,hE2,hB2,hT⟩:=hrel
      have s35:=(hD2.cell 35).trans c35
      have u35:=(hE2.cell 35).trans d35
      by_cases hlt:k < r.told.length
      ·have X1:=rd_at (HT1.out.keep hB2.out) hlt
       have X2:=rd_at (HT2.out.keep hB2.out) (HEQ.out.2.2.2 ▸ hlt)
       obtain ⟨ad1,rfl,hx1⟩:=X1
       obtain ⟨ad2,rfl,hx2⟩:=X2
       by_cases hg:r.told.getD k 0=s.told.getD k 0
       ·rw [← hg] at hx2
        go_wp2
        go_region
        go_wp2
        go_roundw
        case rel=>exact ⟨k+1,by omega,by go_num,hD2,hE2,Lib.hid hB2.out.drew,Lib.hid fun i hi=>by rcases Nat.lt_or_ge i k with h | h; exact hT.out i h; rw [show i=k by omega]; exact hg⟩
        case measure=>simp [intOf]; omega
       ·have hq:q=false:=by
         rw [← HQ.out]
         simp only [eqB,decide_eq_false_iff_not]
         rintro ⟨-,-,-,-,-,h⟩
         exact hg (by rw [h])
        have hg':(r.told.getD k 0 == s.told.getD k 0)=false:=by simpa using hg
        generalize r.told.getD k 0=x1 at *
        generalize s.told.getD k 0=x2 at *
        go_wp2
        go_region
        go_wp2
        go_ret
        exact ⟨by rw [hq]; rfl,hB2.out.drew⟩
      ·obtain rfl:k=r.told.length:=by omega
       have hq:q=true:=by
        rw [← HQ.out]
        simp only [eqB,decide_eq_true_eq]
        exact ⟨HEQ.out.1,HEQ.out.2.1,HEQ.out.2.2.1,lists_eq (by rw [hl1,hl2]) (fun i hi=>hP.out i (by omega)),HMM.out,lists_eq HEQ.out.2.2.2 hT.out⟩
       go_wp2
       go_ret
       exact ⟨by rw [hq]; rfl,hB2.out⟩
  ·have hE:eqB r s=false:=by
    simp only [eqB,decide_eq_false_iff_not]
    rintro ⟨-,-,-,-,h,-⟩
    exact hmm h
   rw [hE]
   have hne:strOfNums r.mem≠strOfNums s.mem:=fun e=>hmm (HI.out e)
   clear hE hmm HI
   generalize strOfNums r.mem=str at *
   generalize strOfNums s.mem=str2 at *
   have hne':(str.toList == str2.toList)=false:=by
    rw [beq_eq_false_iff_ne]
    intro e
    exact hne (bytes_inj (by rw [← ByteArray.toList_eq,← ByteArray.toList_eq,e]))
   go_enter Tryz.func16,Tryz.ntmps16
   go_wp2
   go_ret
   exact ⟨rfl,HB.out⟩
 ·have hE:eqB r s=false:=by
   simp only [eqB,decide_eq_false_iff_not]
   rintro ⟨a,b,c,d,e,f⟩
   exact H ⟨a,b,c,by rw [e],by rw [f]⟩
  rw [hE]
  clear hE
  by_cases e1:r.pc=s.pc
  ·rw [← e1] at d0
   by_cases e2:r.base=s.base
   ·rw [← e2] at d33
    by_cases e3:r.done=s.done
    ·rw [← e3] at d36
     by_cases e4:r.mem.length=s.mem.length
     ·rw [← e4] at d34
      have e5:¬ (r.told.length:Int)=(s.told.length:Int):=fun e=>H ⟨e1,e2,e3,e4,by omega⟩
      clear e1 e2 e3 e4 H
      go_enter Tryz.func16,Tryz.ntmps16
      go_wp2
      go_ret
      exact ⟨rfl,HB.out⟩
     ·have e5:¬ (r.mem.length:Int)=(s.mem.length:Int):=by omega
      clear e1 e2 e3 e4 H
      go_enter Tryz.func16,Tryz.ntmps16
      go_wp2
      go_ret
      exact ⟨rfl,HB.out⟩
    ·clear e1 e2 H
     go_enter Tryz.func16,Tryz.ntmps16
     go_wp2
     go_ret
     exact ⟨rfl,HB.out⟩
   ·clear e1 H
    go_enter Tryz.func16,Tryz.ntmps16
    go_wp2
    go_ret
    exact ⟨rfl,HB.out⟩
  ·clear H
   go_enter Tryz.func16,Tryz.ntmps16
   go_wp2
   go_ret
   exact ⟨rfl,HB.out⟩
end Go.Proofs.YtoehlmiadiiimaaGreatDoor

/-
  machine.Same: at two machines, whatever they are.
-/
set_option maxRecDepth 100000
set_option maxHeartbeats 2000000
namespace Go.Proofs.YtoehlmiadiiimaaGreatDoor
open Go.ChangeShapes Go.WideShapes Go.RowKit Go.Proofs.YtoehlmiadiiimaaGreatDoor.Ex
theorem eq38_c (v1 v2:Value) (l m:List Int) (w:World) (h1:RdS w v1 (l.map (.int .u8))) (h2:RdS w v2 (m.map (.int .u8))) (hl:l.length≤1000000) (_hm:m.length≤1000000) : Calls Tryz.prog 38 #[v1,v2] w (SamePost (decide (l=m)) w):=by
 have HT1:=Lib.hid h1
 have HT2:=Lib.hid h2
 obtain ⟨A1,q1,rfl,-,-⟩:=h1.form
 obtain ⟨A2,q2,rfl,-,-⟩:=h2.form
 clear h1 h2
 simp only [List.length_map] at *
 obtain ⟨q,hq⟩ : ∃ q,decide (l=m)=q:=⟨_,rfl⟩
 have HQ:=Lib.hid hq
 rw [hq]
 clear hq
 by_cases he:l.length=m.length
 ·rw [← he] at HT2 ⊢
  go_enter Tryz.func38,Tryz.ntmps38
  go_wp2
  go_loopw [13] (fun i wr=>∃ j:Nat,j≤l.length∧i=.int .i64 j∧Hid (Below w.heap.size w wr)∧Hid (∀ k,k < j→l.getD k 0=m.getD k 0)) (fun i _=>l.length - (intOf i).toNat)
  case atStart=>exact ⟨0,Nat.zero_le _,rfl,Lib.hid (Below.refl _ _),Lib.hid (fun k hk=>by omega)⟩
  case round =>
   obtain ⟨j,hj,rfl,hB,hP⟩:=hrel
   by_cases hlt:j < l.length
   ·obtain ⟨ad1,rfl,hx1⟩:=rd_at (HT1.out.keep hB.out) hlt
    obtain ⟨ad2,rfl,hx2⟩:=rd_at (HT2.out.keep hB.out) (he ▸ hlt)
    by_cases hg:l.getD j 0=m.getD j 0
    ·rw [← hg] at hx2
     go_wp2
     go_region
     go_wp2
     go_roundw
     case rel=>exact ⟨j+1,by omega,by go_num,Lib.hid hB.out.drew,Lib.hid fun k hk=>by rcases Nat.lt_or_ge k j with h | h; exact hP.out k h; rw [show k=j by omega]; exact hg⟩
     case measure=>simp [intOf]; omega
    ·have hq:q=false:=by
      rw [← HQ.out]
      simp only [decide_eq_false_iff_not]
      exact fun h=>hg (by rw [h])
     have hg':(l.getD j 0 == m.getD j 0)=false:=by simpa using hg
     generalize l.getD j 0=x1 at *
     generalize m.getD j 0=x2 at *
     go_wp2
     go_region
     go_wp2
     go_ret
     exact ⟨by rw [hq]; rfl,hB.out.drew⟩
   ·obtain rfl:j=l.length:=by omega
    have hq:q=true:=by
     rw [← HQ.out]
     simp only [decide_eq_true_eq]
     exact lists_eq he hP.out
    go_wp2
    go_ret
    exact ⟨by rw [hq]; rfl,hB.out⟩
 ·have hq:q=false:=by
   rw [← HQ.out]
   simp only [decide_eq_false_iff_not]
   exact fun h=>he (by rw [h])
  generalize l.length=n at *
  generalize m.length=n' at *
  go_enter Tryz.func38,Tryz.ntmps38
  go_wp2
  go_ret
  exact ⟨by rw [hq]; rfl,Below.refl _ _⟩
theorem eq39_c (v1 v2:Value) (l m:List Int) (w:World) (h1:RdS w v1 (l.map (.int .u64))) (h2:RdS w v2 (m.map (.int .u64))) (hl:l.length≤1000000) (_hm:m.length≤1000000) : Calls Tryz.prog 39 #[v1,v2] w (SamePost (decide (l=m)) w):=by
 have HT1:=Lib.hid h1
 have HT2:=Lib.hid h2
 obtain ⟨A1,q1,rfl,-,-⟩:=h1.form
 obtain ⟨A2,q2,rfl,-,-⟩:=h2.form
 clear h1 h2
 simp only [List.length_map] at *
 obtain ⟨q,hq⟩ : ∃ q,decide (l=m)=q:=⟨_,rfl⟩
 have HQ:=Lib.hid hq
 rw [hq]
 clear hq
 by_cases he:l.length=m.length
 ·rw [← he] at HT2 ⊢
  go_enter Tryz.func39,Tryz.ntmps39
  go_wp2
  go_loopw [13] (fun i wr=>∃ j:Nat,j≤l.length∧i=.int .i64 j∧Hid (Below w.heap.size w wr)∧Hid (∀ k,k < j→l.getD k 0=m.getD k 0)) (fun i _=>l.length - (intOf i).toNat)
  case atStart=>exact ⟨0,Nat.zero_le _,rfl,Lib.hid (Below.refl _ _),Lib.hid (fun k hk=>by omega)⟩
  case round =>
   obtain ⟨j,hj,rfl,hB,hP⟩:=hrel
   by_cases hlt:j < l.length
   ·obtain ⟨ad1,rfl,hx1⟩:=rd_at (HT1.out.keep hB.out) hlt
    obtain ⟨ad2,rfl,hx2⟩:=rd_at (HT2.out.keep hB.out) (he ▸ hlt)
    by_cases hg:l.getD j 0=m.getD j 0
    ·rw [← hg] at hx2
     go_wp2
     go_region
     go_wp2
     go_roundw
     case rel=>exact ⟨j+1,by omega,by go_num,Lib.hid hB.out.drew,Lib.hid fun k hk=>by rcases Nat.lt_or_ge k j with h | h; exact hP.out k h; rw [show k=j by omega]; exact hg⟩
     case measure=>simp [intOf]; omega
    ·have hq:q=false:=by
      rw [← HQ.out]
      simp only [decide_eq_false_iff_not]
      exact fun h=>hg (by rw [h])
     have hg':(l.getD j 0 == m.getD j 0)=false:=by simpa using hg
     generalize l.getD j 0=x1 at *
     generalize m.getD j 0=x2 at *
     go_wp2
     go_region
     go_wp2
     go_ret
     exact ⟨by rw [hq]; rfl,hB.out.drew⟩
   ·obtain rfl:j=l.length:=by omega
    have hq:q=true:=by
     rw [← HQ.out]
     simp only [decide_eq_true_eq]
     exact lists_eq he hP.out
    go_wp2
    go_ret
    exact ⟨by rw [hq]; rfl,hB.out⟩
 ·have hq:q=false:=by
   rw [← HQ.out]
   simp only [decide_eq_false_iff_not]
   exact fun h=>he (by rw [h])
  generalize l.length=n at *
  generalize m.length=n' at *
  go_enter Tryz.func39,Tryz.ntmps39
  go_wp2
  go_ret
  exact ⟨by rw [hq]; rfl,Below.refl _ _⟩
theorem run_equalIn_ints {P:Program} (w:World) (d:Nat) (t e:TypeId) (n:Nat) (k:IntKind) (ht:P.underlying t=some (.array n e)) (he:P.underlying e=some (.int k)) (hsz:∀ w,(sizeOf e).run P w=.ok 1 w)
  (xs ys:List Int) (hx:xs.length=n) (hy:ys.length=n) :
  (Op.equalIn (d+2) t (.agg (xs.map (Value.int k)).toArray) (.agg (ys.map (Value.int k)).toArray)).run P w=.ok (decide (xs=ys)) w:=by
 rw [Op.equalIn]
 simp only [Sem.run_bind,run_underlying ht,Result.andThen_ok,hsz,Std.Legacy.Range.forIn_eq_forIn_range',Std.Legacy.Range.size,Nat.sub_zero,Nat.add_sub_cancel,Nat.div_one]
 have hl:∀ i∈List.range' 0 n 1,i < n:=fun i hi=>by simpa using (List.mem_range'_1.1 hi).2
 have hall:decide (xs=ys)=(List.range' 0 n 1).all fun i=>xs.getD i 0 == ys.getD i 0:=by
  rw [Bool.eq_iff_iff,decide_eq_true_eq,List.all_eq_true]
  refine ⟨fun h i _=>by rw [h]; simp,fun h=>lists_eq (by rw [hx,hy]) fun i hi=>by have:=h i (by rw [List.mem_range'_1]; omega); simpa using this⟩
 rw [hall]
 clear hall
 generalize List.range' 0 n 1=l at hl ⊢
 induction l with
 | nil=>simp
 | cons i l ih =>
  have hi:i < n:=hl i (by simp)
  have px:∀ zs:List Int,zs.length=n→(part e (zs.map (Value.int k)).toArray (i*1)).run P w=.ok (.int k (zs.getD i 0)) w:=fun zs hz=>by
   simp [part,isAgg,run_underlying he,List.getD,List.getElem?_eq_getElem (show i < zs.length by omega)]
  have pe:(Op.equalIn (d+1) e (.int k (xs.getD i 0)) (.int k (ys.getD i 0))).run P w=.ok (xs.getD i 0 == ys.getD i 0) w:=by
   rw [run_equalIn_int w d e k k _ _ he]
  simp only [List.forIn_cons,Sem.run_bind,px xs hx,px ys hy,pe,Result.andThen_ok,List.all_cons]
  cases xs.getD i 0 == ys.getD i 0 with
  | false=>simp
  | true =>
   simp only [Bool.not_true,Bool.false_eq_true,if_false,Sem.run_pure,Result.andThen_ok,Bool.true_and]
   exact ih fun j hj=>hl j (by simp [hj])
theorem size22':∀ w,(sizeOf 22).run Tryz.prog w=.ok 1 w:=fun w=>by
 kernel_rfl
theorem wpList_load_mid_w' {P:Program} {ops:Array Oper} {rest:List Oper} {op:Oper} {a:Act} {w:World} {Q:Exit→Act→World→Prop} (hw:Region.wanted op (yielded ops a.tmps)=true) (ty:TypeId) (x:Operand) (ho:op.op=.load ty x)
  (b o:Nat) (hx:a.eval x=.pointer (some ⟨b,o,none⟩)) (cs:List Value) (d:TypeDesc) (hc:w.rangeAt b o cs)
  (hu:P.underlying ty=some d) (hd:d.isRow=true) (hi:(P.info? ty).map (·.size)=some cs.length)
  (h:wpList P ops Q rest (a.put op.dst (.agg cs.toArray)) w) : wpList P ops Q (op :: rest) a w :=
 wpList_step fun K hK=>by rw [if_pos hw]; exact wp_load_mid ty x ho b o hx cs d hc hu hd hi (hK _ _ h)
theorem msame2_c (v1 v2:Value) (r s:Rn) (w:World) (h1:MachR w v1 r) (h2:MachR w v2 s) (hm:r.mem.length≤1000000) (hm':s.mem.length≤1000000) (ht:r.told.length≤1000000) (ht':s.told.length≤1000000) : Calls Tryz.prog 19 #[v1,v2] w (SamePost (eqB r s) w):=by
 have hl1:=h1.len
 have hl2:=h2.len
 obtain ⟨mv1,tv1,hv1,hm1,ht1⟩:=h1.form
 obtain ⟨mv2,tv2,hv2,hm2,ht2⟩:=h2.form
 obtain ⟨A1,q1,rfl,-,-⟩:=hm1.form
 obtain ⟨A2,q2,rfl,-,-⟩:=hm2.form
 obtain ⟨B1,p1,rfl,-,-⟩:=ht1.form
 obtain ⟨B2,p2,rfl,-,-⟩:=ht2.form
 subst hv1; subst hv2
 have F:∀ (x:Rn),x.regs.length=32→∀ (mv tv:Value) (cs:Array Value),cs=(mcells x mv tv).toArray→cs[0]?=some (.int .u64 x.pc)∧cs[33]?=some (.int .u64 x.base)∧cs[34]?=some mv∧cs[35]?=some tv∧cs[36]?=some (.bool x.done)∧Hid (∀ i,i < 32→cs[1+i]?=some (.int .u64 (x.regs.getD i 0))):=by
  rintro x hlen mv tv cs rfl
  exact ⟨mc0,mc33 hlen,mc34 hlen,mc35 hlen,mc36 hlen,Lib.hid (mcR hlen)⟩
 obtain ⟨c0,c33,c34,c35,c36,cR⟩:=F r hl1 _ _ _ (Eq.refl (mcells r (.slice A1 (r.mem.map (Value.int .u8)).length q1) (.slice B1 (r.told.map (Value.int .u64)).length p1)).toArray)
 obtain ⟨d0,d33,d34,d35,d36,dR⟩:=F s hl2 _ _ _ (Eq.refl (mcells s (.slice A2 (s.mem.map (Value.int .u8)).length q2) (.slice B2 (s.told.map (Value.int .u64)).length p2)).toArray)
 clear F
 simp only [List.length_map] at *
 generalize (mcells r (.slice A1 r.mem.length q1) (.slice B1 r.told.length p1)).toArray=cs at *
 generalize (mcells s (.slice A2 s.mem.length q2) (.slice B2 s.told.length p2)).toArray=ds at *
 have E38:∀ W,Below w.heap.size w W→Calls Tryz.prog 38 #[.slice A1 r.mem.length q1,.slice A2 s.mem.length q2] W (SamePost (decide (r.mem=s.mem)) W):=fun W hb=>eq38_c _ _ r.mem s.mem W (hm1.keep hb) (hm2.keep hb) hm hm'
 have E39:∀ W,Below w.heap.size w W→Calls Tryz.prog 39 #[.slice B1 r.told.length p1,.slice B2 s.told.length p2] W (SamePost (decide (r.told=s.told)) W):=fun W hb=>eq39_c _ _ r.told s.told W (ht1.keep hb) (ht2.keep hb) ht ht'
 have H38:=Lib.hid E38
 have H39:=Lib.hid E39
 have hR:∀ (x:Rn),x.regs.length=32→∀ (c:Array Value) (b:Nat) (W:World),Blk W b 27 c→Hid (∀ i,i < 32→c[1+i]?=some (.int .u64 (x.regs.getD i 0)))→W.rangeAt b 1 (x.regs.map (Value.int .u64)):=by
  intro x hlen c b W hb hc j u hu
  have hj:j < 32:=by
   rcases Nat.lt_or_ge j 32 with h | h
   ·exact h
   ·rw [List.getElem?_eq_none (by simp; omega)] at hu; cases hu
  rw [hb.cell (1+j),hc.out j hj]
  have hjl:j < x.regs.length:=by omega
  simp [hjl] at hu
  simp [List.getD,hjl,hu]
 have hS1:=hR r hl1 cs w.heap.size ((w.alloc (.cells cs 27)).alloc (.cells ds 27)) ((Blk.new w 27 cs).alloc _) cR
 have hS2:=hR s hl2 ds (w.heap.size+1) ((w.alloc (.cells cs 27)).alloc (.cells ds 27)) (by simpa using Blk.new (w.alloc (.cells cs 27)) 27 ds) dR
 have hEq:∀ W,(Op.equalIn 10000 23 (.agg (r.regs.map (Value.int .u64)).toArray) (.agg (s.regs.map (Value.int .u64)).toArray)).run Tryz.prog W=.ok (decide (r.regs=s.regs)) W:=fun W=>run_equalIn_ints W 9998 23 22 32 .u64 Tryz.underlying23 Tryz.underlying22 size22' r.regs s.regs hl1 hl2
 have hsz1:(Tryz.prog.info? 23).map (·.size)=some (r.regs.map (Value.int .u64)).length:=by rw [List.length_map,hl1]; kernel_rfl
 have hsz2:(Tryz.prog.info? 23).map (·.size)=some (s.regs.map (Value.int .u64)).length:=by rw [List.length_map,hl2]; kernel_rfl
 have hE:eqB r s=((r.pc == s.pc) && decide (r.regs=s.regs) && (r.base == s.base) && decide (r.mem=s.mem) && decide (r.told=s.told) && (r.done == s.done)):=by
  unfold eqB
  rw [Bool.eq_iff_iff]
  simp only [decide_eq_true_eq,Bool.and_eq_true,beq_iff_eq]
  exact ⟨fun ⟨a,b,c,d,e,f⟩=>⟨⟨⟨⟨⟨a,d⟩,b⟩,e⟩,f⟩,c⟩,fun ⟨⟨⟨⟨⟨a,d⟩,b⟩,e⟩,f⟩,c⟩=>⟨a,b,c,d,e,f⟩⟩
 rw [hE]
 clear h1 h2 hm1 hm2 ht1 ht2 hR E38 E39 hE
 generalize r.regs.map (Value.int .u64)=rs1 at *
 generalize s.regs.map (Value.int .u64)=rs2 at *
 generalize decide (r.regs=s.regs)=bR at *
 generalize decide (r.mem=s.mem)=bM at *
 generalize decide (r.told=s.told)=bT at *
 generalize r.done=g1 at *
 generalize s.done=g2 at *
 generalize r.pc=n1 at *
 generalize s.pc=n2 at *
 generalize r.base=m1 at *
 generalize s.base=m2 at *
 have HB:Hid (Below w.heap.size w ((w.alloc (.cells cs 27)).alloc (.cells ds 27))):=Lib.hid (((Below.refl _ _).alloc (Nat.le_refl _) _).alloc (by simp) _)
 obtain ⟨q,hq⟩ : ∃ q,(n1 == n2 && bR && m1 == m2 && bM && bT && g1 == g2)=q:=⟨_,rfl⟩
 have HQ:=Lib.hid hq
 rw [hq]
 clear hq
 by_cases e1:n1=n2
 ·subst e1
  cases bR with
  | false =>
   obtain rfl:q=false:=by rw [← HQ.out]; simp
   go_enter Tryz.func19,Tryz.ntmps19
   go_wp2_with (first
    | (refine wpList_load_mid_w' (by rfl) 23 (.tmp 11) rfl w.heap.size 1 rfl rs1 _ hS1 Tryz.underlying23 rfl hsz1 ?_)
    | (refine wpList_load_mid_w' (by rfl) 23 (.tmp 13) rfl (w.heap.size+1) 1 rfl rs2 _ hS2 Tryz.underlying23 rfl hsz2 ?_))
   go_ret
   exact ⟨rfl,HB.out⟩
  | true =>
   by_cases e2:m1=m2
   ·subst e2
    go_enter Tryz.func19,Tryz.ntmps19
    go_wp2_with (first
     | (refine wpList_load_mid_w' (by rfl) 23 (.tmp 11) rfl w.heap.size 1 rfl rs1 _ hS1 Tryz.underlying23 rfl hsz1 ?_)
     | (refine wpList_load_mid_w' (by rfl) 23 (.tmp 13) rfl (w.heap.size+1) 1 rfl rs2 _ hS2 Tryz.underlying23 rfl hsz2 ?_))
    refine (H38.out _ HB.out).mono ?_
    rintro e w1 ⟨rfl,hb1⟩
    have D1:Blk w1 w.heap.size 27 cs:=((Blk.new w 27 cs).alloc _).below hb1 (by simp; omega)
    have E1:Blk w1 (w.heap.size+1) 27 ds:=(show Blk ((w.alloc (.cells cs 27)).alloc (.cells ds 27)) (w.heap.size+1) 27 ds by simpa using Blk.new (w.alloc (.cells cs 27)) 27 ds).below hb1 (by simp)
    have HW1:=Lib.hid (HB.out.trans (hb1.mono (by simp; omega)))
    have hz1:w.heap.size+2≤w1.heap.size:=by have:=hb1.size; simpa using this
    have s35:=(D1.cell 35).trans c35
    have u35:=(E1.cell 35).trans d35
    clear hb1
    cases bM with
    | false =>
     obtain rfl:q=false:=by rw [← HQ.out]; simp
     go_wp2
     go_ret
     exact ⟨rfl,HW1.out⟩
    | true =>
     go_wp2_with fail
     refine (H39.out _ HW1.out).mono ?_
     rintro e w2 ⟨rfl,hb2⟩
     have s36:=((D1.below hb2 (by omega)).cell 36).trans c36
     have u36:=((E1.below hb2 (by omega)).cell 36).trans d36
     have HW2:=Lib.hid (HW1.out.trans (hb2.mono (by omega)))
     clear hb2
     cases bT with
     | false =>
      obtain rfl:q=false:=by rw [← HQ.out]; simp
      go_wp2
      go_ret
      exact ⟨rfl,HW2.out⟩
     | true =>
      obtain rfl:q=(g1 == g2):=by rw [← HQ.out]; simp
      cases g1 <;> cases g2 <;> (
       go_wp2
       go_ret
       exact ⟨rfl,HW2.out⟩)
   ·obtain rfl:q=false:=by rw [← HQ.out]; simp [e2]
    go_enter Tryz.func19,Tryz.ntmps19
    go_wp2_with (first
     | (refine wpList_load_mid_w' (by rfl) 23 (.tmp 11) rfl w.heap.size 1 rfl rs1 _ hS1 Tryz.underlying23 rfl hsz1 ?_)
     | (refine wpList_load_mid_w' (by rfl) 23 (.tmp 13) rfl (w.heap.size+1) 1 rfl rs2 _ hS2 Tryz.underlying23 rfl hsz2 ?_))
    go_ret
    exact ⟨rfl,HB.out⟩
 ·obtain rfl:q=false:=by rw [← HQ.out]; simp [e1]
  go_enter Tryz.func19,Tryz.ntmps19
  go_wp2
  go_ret
  exact ⟨rfl,HB.out⟩
end Go.Proofs.YtoehlmiadiiimaaGreatDoor

