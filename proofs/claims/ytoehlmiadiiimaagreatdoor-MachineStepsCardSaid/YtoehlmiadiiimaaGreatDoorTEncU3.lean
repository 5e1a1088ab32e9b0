import Derived.Test.YtoehlmiadiiimaaGreatDoorTEncJ
import Derived.Test.YtoehlmiadiiimaaGreatDoorTEncI2
/-
  Half words: by which row of the chapter a half word is read: plain, and the kernel's checks.
-/
namespace Go.Proofs.YtoehlmiadiiimaaGreatDoor.Ex
open Go
def matchM (n:Nat) (r:RowL) : Bool:=Nat.beq (Nat.land n (fixm r)) r.base
def masksL:List (Nat×Nat):=rowsL.map fun r=>(fixm r,r.base)
noncomputable def idxM (n:Nat) (l:List (Nat×Nat)) : Nat→Nat :=
 List.rec (motive:=fun _=>Nat→Nat) (fun k=>k) (fun x _ ih k=>Bool.rec (motive:=fun _=>Nat) (ih (Nat.succ k)) k (Nat.beq (Nat.land n x.1) x.2)) l
theorem idxM_eq (n:Nat) : ∀ (l:List RowL) (k:Nat),idxM n (l.map fun r=>(fixm r,r.base)) k=k+l.findIdx (matchM n)
 | [],k=>rfl
 | r :: l,k=>by
  show Bool.rec (motive:=fun _=>Nat) (idxM n (l.map fun r=>(fixm r,r.base)) (k+1)) k (matchM n r)=_
  rw [List.findIdx_cons]
  cases matchM n r with
  | true=>rfl
  | false =>
   rw [show (Bool.rec (motive:=fun _=>Nat) (idxM n (l.map fun r=>(fixm r,r.base)) (k+1)) k false)=idxM n (l.map fun r=>(fixm r,r.base)) (k+1) from rfl,idxM_eq n l (k+1)]
   simp only [cond_false]
   omega
noncomputable def idxK (k:Nat) (ms:List (Nat×Nat)) (r:RowL) (d s t m:Int) (x:Int) : Bool:=Int.rec (motive:=fun _=>Bool) (fun n=>andB (Nat.beq (idxM n ms (nat_lit 0)) k) (eqK (decRow r n) r.op d s t m)) (fun _=>false) x
noncomputable def idxP (ms:List (Nat×Nat)) (k:Nat) (r:RowL) (d s t m:Int) : Bool :=
 Bool.rec (motive:=fun _=>Bool) true (Bool.rec (motive:=fun _=>Bool) true (idxK k ms r d s t m (ior .u16 (ior .u16 (r.base:Nat) (regsW r.form d s t)) (wVK r m))) (numOk r.kind r.unit r.places.length m)) (regsOk r.form d s t)
noncomputable def idxRow (ms:List (Nat×Nat)) (k:Nat) : Bool:=match rowsL[k]? with
 | some r=>allRow (idxP ms k r) r
 | none=>true
theorem idx_spec {k:Nat} {r:RowL} (hk:rowsL[k]?=some r) (h:idxRow masksL k=true) {d s t m:Int} (hm:mayI r.op d s t m=true) (h1:regsOk r.form d s t=true) (h2:numOk r.kind r.unit r.places.length m=true)
  {n:Nat} (hn:aV r d s t m=(n:Int)) : rowsL.findIdx (matchM n)=k∧decRow r n=⟨r.op,d,s,t,m⟩:=by
 unfold idxRow at h
 rw [hk] at h
 have h:=allRow_spec (List.mem_of_getElem? hk) h hm h1 h2
 unfold idxP at h
 rw [h1,h2] at h
 replace h:idxK k masksL r d s t m (ior .u16 (ior .u16 (r.base:Nat) (regsW r.form d s t)) (wVK r m))=true:=h
 have e:aV r d s t m=ior .u16 (ior .u16 (r.base:Nat) (regsW r.form d s t)) (wVK r m):=by unfold aV; rw [or_K,or_K,wVK_eq]
 rw [← e,hn] at h
 replace h:andB (Nat.beq (idxM n masksL 0) k) (eqK (decRow r n) r.op d s t m)=true:=h
 rw [andB_eq,Bool.and_eq_true] at h
 have h3:=Nat.eq_of_beq_eq_true h.1
 unfold masksL at h3
 rw [idxM_eq,Nat.zero_add] at h3
 exact ⟨h3,eqK_eq h.2⟩
noncomputable def regRow (r:RowL) : Bool:=(List.range 32).all fun u=>(List.range 32).all fun l =>
 regI (shapeL (formI r.op)).d (decRegs r.form u l).1 && (regI (shapeL (formI r.op)).s (decRegs r.form u l).2.1 && regI (shapeL (formI r.op)).t (decRegs r.form u l).2.2)
noncomputable def quoRow (r:RowL) : Bool:=(List.range (2 ^ r.places.length)).all fun v=>!(numOk r.kind r.unit r.places.length (r.unit*decQ r.kind r.places.length v)) || numI (formI r.op) (r.unit*decQ r.kind r.places.length v)
theorem regs_may:(rowsL.all regRow)=true:=by kernel_rfl
theorem quos_may:(rowsL.all quoRow)=true:=by kernel_rfl
theorem known_rows:(rowsL.all fun r=>knownI r.op)=true:=by kernel_rfl
theorem bitsAt_lt (n:Nat) : ∀ ps:List Nat,bitsAt n ps < 2 ^ ps.length
 | []=>by simp [bitsAt]
 | p :: ps=>by
  have:=bitsAt_lt n ps
  simp only [bitsAt,List.length_cons,Nat.pow_succ]
  omega
theorem dec_may {r:RowL} (hr:r∈rowsL) (n:Nat) (h:numOk r.kind r.unit r.places.length (decRow r n).m=true) : mayI r.op (decRow r n).d (decRow r n).s (decRow r n).t (decRow r n).m=true:=by
 have h1:=List.all_eq_true.1 (List.all_eq_true.1 (List.all_eq_true.1 regs_may r hr) (n / 128 % 32) (List.mem_range.2 (by omega))) (n / 4 % 32) (List.mem_range.2 (by omega))
 have h2:=List.all_eq_true.1 (List.all_eq_true.1 quos_may r hr) (bitsAt n r.places) (List.mem_range.2 (bitsAt_lt n r.places))
 simp only [Bool.and_eq_true] at h1
 obtain ⟨a1,a2,a3⟩:=h1
 unfold mayI
 rw [List.all_eq_true.1 known_rows r hr,mayF_eq,Bool.true_and]
 replace h:numOk r.kind r.unit r.places.length (r.unit*decQ r.kind r.places.length (bitsAt n r.places))=true:=h
 rw [h] at h2
 simp only [Bool.not_true,Bool.false_or] at h2
 show (regI _ (decRegs r.form (n / 128 % 32) (n / 4 % 32)).1 && (regI _ (decRegs r.form (n / 128 % 32) (n / 4 % 32)).2.1 && (regI _ (decRegs r.form (n / 128 % 32) (n / 4 % 32)).2.2 && numI _ (r.unit*decQ r.kind r.places.length (bitsAt n r.places)))))=true
 rw [a1,a2,a3,h2]; rfl
end Go.Proofs.YtoehlmiadiiimaaGreatDoor.Ex

namespace Go.Proofs.YtoehlmiadiiimaaGreatDoor.Ex
theorem idx0:idxRow masksL 0=true:=by kernel_rfl
theorem idx1:idxRow masksL 1=true:=by kernel_rfl
theorem idx2:idxRow masksL 2=true:=by kernel_rfl
theorem idx3:idxRow masksL 3=true:=by kernel_rfl
theorem idx4:idxRow masksL 4=true:=by kernel_rfl
end Go.Proofs.YtoehlmiadiiimaaGreatDoor.Ex
namespace Go.Proofs.YtoehlmiadiiimaaGreatDoor.Ex
theorem idx5:idxRow masksL 5=true:=by kernel_rfl
theorem idx6:idxRow masksL 6=true:=by kernel_rfl
theorem idx7:idxRow masksL 7=true:=by kernel_rfl
theorem idx8:idxRow masksL 8=true:=by kernel_rfl
theorem idx9:idxRow masksL 9=true:=by kernel_rfl
theorem idx10:idxRow masksL 10=true:=by kernel_rfl
theorem idx11:idxRow masksL 11=true:=by kernel_rfl
end Go.Proofs.YtoehlmiadiiimaaGreatDoor.Ex
namespace Go.Proofs.YtoehlmiadiiimaaGreatDoor.Ex
theorem idx12:idxRow masksL 12=true:=by kernel_rfl
theorem idx13:idxRow masksL 13=true:=by kernel_rfl
theorem idx14:idxRow masksL 14=true:=by kernel_rfl
theorem idx15:idxRow masksL 15=true:=by kernel_rfl
theorem idx16:idxRow masksL 16=true:=by kernel_rfl
theorem idx17:idxRow masksL 17=true:=by kernel_rfl
theorem idx18:idxRow masksL 18=true:=by kernel_rfl
theorem idx19:idxRow masksL 19=true:=by kernel_rfl
theorem idx20:idxRow masksL 20=true:=by kernel_rfl
theorem idx21:idxRow masksL 21=true:=by kernel_rfl
end Go.Proofs.YtoehlmiadiiimaaGreatDoor.Ex
namespace Go.Proofs.YtoehlmiadiiimaaGreatDoor.Ex
theorem idx22:idxRow masksL 22=true:=by kernel_rfl
theorem idx23:idxRow masksL 23=true:=by kernel_rfl
theorem idx24:idxRow masksL 24=true:=by kernel_rfl
theorem idx25:idxRow masksL 25=true:=by kernel_rfl
theorem idx26:idxRow masksL 26=true:=by kernel_rfl
theorem idx27:idxRow masksL 27=true:=by kernel_rfl
theorem idx28:idxRow masksL 28=true:=by kernel_rfl
theorem idx29:idxRow masksL 29=true:=by kernel_rfl
theorem idx30:idxRow masksL 30=true:=by kernel_rfl
theorem idx31:idxRow masksL 31=true:=by kernel_rfl
theorem idx32:idxRow masksL 32=true:=by kernel_rfl
end Go.Proofs.YtoehlmiadiiimaaGreatDoor.Ex
namespace Go.Proofs.YtoehlmiadiiimaaGreatDoor.Ex
theorem idx_all:∀ k,k < 33→idxRow masksL k=true:=by
 intro k hk
 have h:k=0∨k=1∨k=2∨k=3∨k=4∨k=5∨k=6∨k=7∨k=8∨k=9∨k=10∨k=11∨k=12∨k=13∨k=14∨k=15∨k=16∨k=17∨k=18∨k=19∨k=20∨k=21∨k=22∨k=23∨k=24∨k=25∨k=26∨k=27∨k=28∨k=29∨k=30∨k=31∨k=32:=by omega
 rcases h with rfl | rfl | rfl | rfl | rfl | rfl | rfl | rfl | rfl | rfl | rfl | rfl | rfl | rfl | rfl | rfl | rfl | rfl | rfl | rfl | rfl | rfl | rfl | rfl | rfl | rfl | rfl | rfl | rfl | rfl | rfl | rfl | rfl
 ·exact idx0
 ·exact idx1
 ·exact idx2
 ·exact idx3
 ·exact idx4
 ·exact idx5
 ·exact idx6
 ·exact idx7
 ·exact idx8
 ·exact idx9
 ·exact idx10
 ·exact idx11
 ·exact idx12
 ·exact idx13
 ·exact idx14
 ·exact idx15
 ·exact idx16
 ·exact idx17
 ·exact idx18
 ·exact idx19
 ·exact idx20
 ·exact idx21
 ·exact idx22
 ·exact idx23
 ·exact idx24
 ·exact idx25
 ·exact idx26
 ·exact idx27
 ·exact idx28
 ·exact idx29
 ·exact idx30
 ·exact idx31
 ·exact idx32
end Go.Proofs.YtoehlmiadiiimaaGreatDoor.Ex

/-
  Half words: the chapter's rows, one behind the other, read a half word as the program does: plain.
-/
namespace Go.Proofs.YtoehlmiadiiimaaGreatDoor.Ex
open Go
def ofB (r:RowL) (h:Nat) : Bool:=matchM h r && (regsOk r.form (decRow r h).d (decRow r h).s (decRow r h).t && (numOk r.kind r.unit r.places.length (decRow r h).m && (aV r (decRow r h).d (decRow r h).s (decRow r h).t (decRow r h).m == (h:Int))))
theorem ofB_parts {r:RowL} {h:Nat} (hb:ofB r h=true) : matchM h r=true∧regsOk r.form (decRow r h).d (decRow r h).s (decRow r h).t=true∧numOk r.kind r.unit r.places.length (decRow r h).m=true ∧
  aV r (decRow r h).d (decRow r h).s (decRow r h).t (decRow r h).m=(h:Int):=by
 unfold ofB at hb
 simp only [Bool.and_eq_true,beq_iff_eq] at hb
 exact ⟨hb.1,hb.2.1,hb.2.2.1,hb.2.2.2⟩
theorem len33:rowsL.length=33:=rfl
def insnL (i:InsnL) : InsnR:=⟨i.op,i.d,i.s,i.t,i.m⟩
theorem ofB_raw {r:RowL} (hr:r∈rowsL) {h:Nat} (hb:ofB r h=true) : rawR h=insnL (decRow r h):=by
 obtain ⟨-,h1,h2,h3⟩:=ofB_parts hb
 obtain ⟨n,e1,e2,e3⟩:=raw_spec hr (raws_all r hr) (dec_may hr h h2) h1 h2
 have:n=h:=by rw [h3] at e1; exact (Int.ofNat_inj.1 e1).symm
 subst this
 exact e3
theorem sel_first {op d s t m:Int} : ∀ {rs:List RowL} {k0 k:Nat} {r:RowL},rs[k]?=some r→(r.op:Int)=op→regsOk r.form d s t=true→numOk r.kind r.unit r.places.length m=true→∃ k' r',sel op d s t m rs k0=some (k',r')∧k'≤k0+k
 | [],_,_,_,h,_,_,_=>by cases h
 | x :: rs,k0,k,r,h,h1,h2,h3=>by
  unfold sel
  cases hx:decide ((x.op:Int)=op) && (regsOk x.form d s t && numOk x.kind x.unit x.places.length m) with
  | true=>exact ⟨k0,x,rfl,by omega⟩
  | false =>
   cases k with
   | zero =>
    simp only [List.getElem?_cons_zero,Option.some.injEq] at h
    subst h
    rw [h1,h2,h3] at hx
    simp at hx
   | succ k =>
    rw [List.getElem?_cons_succ] at h
    obtain ⟨k',r',e1,e2⟩:=sel_first (k0:=k0+1) h h1 h2 h3
    exact ⟨k',r',e1,by omega⟩
noncomputable def pairOk (i j:Nat) : Bool:=match rowsL[i]?,rowsL[j]? with
 | some r,some r'=>!(Nat.beq r.op r'.op) || (Nat.beq i j || ((Nat.beq i 9 && Nat.beq j 6) || ((Nat.beq i 6 && Nat.beq j 9) || ((List.range (regN r.form).1).all fun a=>(List.range (regN r.form).2).all fun b=>!(regsOk r'.form (regF r.form a b).1 (regF r.form a b).2.1 (regF r.form a b).2.2)))))
 | _,_=>true
theorem pairs_ok:((List.range 33).all fun i=>(List.range 33).all fun j=>pairOk i j)=true:=by kernel_rfl
theorem pair_of {i j:Nat} {r r':RowL} (hi:rowsL[i]?=some r) (hj:rowsL[j]?=some r') (ho:(r.op:Int)=r'.op) {d s t m:Int} (hm:mayI r.op d s t m=true) (h1:regsOk r.form d s t=true) (h2:regsOk r'.form d s t=true) :
  i=j∨(i=9∧j=6)∨(i=6∧j=9):=by
 have li:i < 33:=(List.getElem?_eq_some_iff.1 hi).1
 have lj:j < 33:=(List.getElem?_eq_some_iff.1 hj).1
 have h:=List.all_eq_true.1 (List.all_eq_true.1 pairs_ok i (List.mem_range.2 li)) j (List.mem_range.2 lj)
 unfold pairOk at h
 rw [hi,hj] at h
 have hr:=List.mem_of_getElem? hi
 obtain ⟨hz,hd,hs,ht,-⟩:=may_facts hr hm
 obtain ⟨a,ha,b,hb,e⟩:=cover_regs r.form (form_mem hr) d s t ((regsOk_P _ (form_mem hr) _ _ _).1 h1) hz hd hs ht
 simp only [Bool.or_eq_true,Bool.and_eq_true,Bool.not_eq_true',nat_beq,decide_eq_false_iff_not,decide_eq_true_eq] at h
 rcases h with h | h | h | h | h
 ·omega
 ·exact .inl h
 ·exact .inr (.inl h)
 ·exact .inr (.inr h)
 ·have:=List.all_eq_true.1 (List.all_eq_true.1 h a (List.mem_range.2 ha)) b (List.mem_range.2 hb)
  rw [← e] at this
  simp only [h2] at this
  cases this
def nine:RowL:=⟨22,[97,100,100,105],24833,112,110,16,[6,2,5,3,4,12]⟩
theorem nine_at:rowsL[9]?=some nine:=rfl
noncomputable def p9 (r:RowL) (d s t m:Int) : Bool:=!(regsOk r.form d s t) || (!(numOk r.kind r.unit r.places.length m) || (Nat.beq ((aV r d s t m).toNat / 8192) 3 && twiceB ⟨r.op,d,s,t,m⟩))
theorem nine_ok:allRow (p9 nine) nine=true:=by kernel_rfl
theorem of_read {k:Nat} {r:RowL} (hk:rowsL[k]?=some r) {h:Nat} (hb:ofB r h=true) : readB h=true:=by
 have hr:=List.mem_of_getElem? hk
 obtain ⟨-,h1,h2,h3⟩:=ofB_parts hb
 have hm:=dec_may hr h h2
 have e:=ofB_raw hr hb
 obtain ⟨k',r',e1,e2⟩:=sel_first (k0:=0) (op:=(r.op:Int)) hk rfl h1 h2
 obtain ⟨f1,f2,f3,f4⟩:=sel_facts e1
 have hk':=(sel_index e1).2
 rw [Nat.sub_zero] at hk'
 have hE:encE r.op (decRow r h).d (decRow r h).s (decRow r h).t (decRow r h).m=0:=by unfold encE halfB; rw [hm,e1]; rfl
 have hV:encV r.op (decRow r h).d (decRow r h).s (decRow r h).t (decRow r h).m=aV r' (decRow r h).d (decRow r h).s (decRow r h).t (decRow r h).m:=by unfold encV halfV; rw [hm,e1]
 unfold readB
 rw [e]
 show (encE r.op (decRow r h).d (decRow r h).s (decRow r h).t (decRow r h).m == 0 && (encV r.op (decRow r h).d (decRow r h).s (decRow r h).t (decRow r h).m == (h:Int) || (twiceB ⟨r.op,(decRow r h).d,(decRow r h).s,(decRow r h).t,(decRow r h).m⟩ && Nat.beq (h / 8192) 3)))=true
 rw [hE,hV]
 rcases pair_of hk hk' f2.symm hm h1 f3 with h4 | ⟨h4,h5⟩ | ⟨h4,h5⟩
 ·subst h4
  rw [hk] at hk'
  injection hk' with hk'
  subst hk'
  rw [h3]; simp
 ·subst h4
  rw [nine_at] at hk
  injection hk with hk
  subst hk
  have:=allRow_spec hr nine_ok hm h1 h2
  unfold p9 at this
  rw [h1,h2,h3] at this
  simp only [Bool.not_true,Bool.false_or,Bool.and_eq_true,Int.toNat_natCast] at this
  rw [this.1,this.2]; simp
 ·omega
noncomputable def chkT (h:Nat) : Bool:=!(twiceB (rawR h)) || ofB nine h
theorem nine1:((List.range 1024).all fun j=>chkT (24577+4*j))=true:=by kernel_rfl
theorem nine2:((List.range' 1024 1024).all fun j=>chkT (24577+4*j))=true:=by kernel_rfl
theorem nines (h:Nat) (_:h < 65536) (h3:h / 8192=3) : chkT h=true:=by
 by_cases h1:h % 4=1
 ·by_cases hj:h < 24577+4096
  ·have:=List.all_eq_true.1 nine1 ((h - 24577) / 4) (List.mem_range.2 (by omega))
   rwa [show 24577+4*((h - 24577) / 4)=h by omega] at this
  ·have:=List.all_eq_true.1 nine2 ((h - 24577) / 4) (List.mem_range'_1.2 (by omega))
   rwa [show 24577+4*((h - 24577) / 4)=h by omega] at this
 ·have hc:clsN h=3∨clsN h=19∨clsN h=27:=by
   have:Nat.beq (8*(h % 4)+h / 8192) 12=false:=by rw [nat_beq]; exact decide_eq_false (by omega)
   unfold clsN
   rw [this]
   simp only
   omega
  have tab:([3,19,27].all fun n=>(rawTr n).all opNot)=true:=by kernel_rfl
  obtain ⟨v,hv,hk⟩:=Tr.all_at (η:=ηh h) (φ:=fun _ _=>0) (List.all_eq_true.1 tab (clsN h) (by simp; omega))
  have ht:twiceB (rawR h)=false:=by
   unfold rawR
   rw [hv]
   unfold opNot at hk
   split at hk
   ·rename_i n _ _ _ _
    have hk:(n == (22:Int))=false:=by simpa using hk
    unfold twiceB
    simp only [insnOf,fieldV]
    rw [hk]; rfl
   ·cases hk
  unfold chkT
  rw [ht]; rfl
theorem read_of {h:Nat} (hh:h < 65536) (hb:readB h=true) : ∃ (k:Nat) (r:RowL),rowsL[k]?=some r∧ofB r h=true:=by
 have hb':=hb
 unfold readB at hb
 rw [Bool.and_eq_true,beq_iff_eq] at hb
 obtain ⟨hE,hV⟩:=hb
 cases hm:mayI (rawR h).op (rawR h).d (rawR h).s (rawR h).t (rawR h).m with
 | false=>unfold encE at hE; rw [hm] at hE; cases hE
 | true =>
 cases hs:sel (rawR h).op (rawR h).d (rawR h).s (rawR h).t (rawR h).m rowsL 0 with
 | none=>unfold encE halfB at hE; rw [hm,hs] at hE; cases hE
 | some x =>
  obtain ⟨k,r⟩:=x
  obtain ⟨hr,ho,h1,h2⟩:=sel_facts hs
  have hk:=(sel_index hs).2
  rw [Nat.sub_zero] at hk
  have hlt:k < 33:=(List.getElem?_eq_some_iff.1 hk).1
  have e1:encV (rawR h).op (rawR h).d (rawR h).s (rawR h).t (rawR h).m=aV r (rawR h).d (rawR h).s (rawR h).t (rawR h).m:=by unfold encV halfV; rw [hm,hs]
  rw [e1] at hV
  by_cases hc:aV r (rawR h).d (rawR h).s (rawR h).t (rawR h).m=(h:Int)
  ·rw [← ho] at hm
   obtain ⟨hi,b2⟩:=idx_spec hk (idx_all k hlt) hm h1 h2 hc
   refine ⟨k,r,hk,?_⟩
   have hmm:matchM h r=true:=by
    have hl:=List.findIdx_getElem (p:=matchM h) (xs:=rowsL) (w:=by rw [hi]; exact hlt)
    have:rowsL[rowsL.findIdx (matchM h)]'(by rw [hi]; exact hlt)=r:=by
     have:=(List.getElem?_eq_some_iff.1 hk).2
     simp only [hi]; exact this
    rw [this] at hl
    exact hl
   unfold ofB
   rw [b2,hmm]
   simp only [h1,h2,hc]
   simp
  ·have hc':(aV r (rawR h).d (rawR h).s (rawR h).t (rawR h).m == (h:Int))=false:=by simpa using hc
   rw [hc',Bool.false_or,Bool.and_eq_true] at hV
   have h3:=Nat.eq_of_beq_eq_true hV.2
   have:=nines h hh h3
   unfold chkT at this
   rw [hV.1] at this
   exact ⟨9,nine,nine_at,by simpa using this⟩
end Go.Proofs.YtoehlmiadiiimaaGreatDoor.Ex

/-
  Half words: the chapter's rows in the document's own reading: contracts out of a heap of one block.
-/
namespace Go.Proofs.YtoehlmiadiiimaaGreatDoor.Ex
open Go
def cellsA (ps:List Nat) : List AV:=ps.map fun (n:Nat)=>.int .i64 (n:Int)
noncomputable def heap1 (c:List AV) (e:TypeId) (t:Bool) : AHeap:=(⟨0,.leaf⟩ : AHeap).alloc (.cells c e t)
def PlC (P:Program) (ps:List Nat) (pl:Value) (w:World) : Prop:=∃ (ρ:Rho) (e:TypeId) (t:Bool),(∀ b,1≤b→ρ b=none)∧(∀ b r,ρ b=some r→r.cb < w.heap.size) ∧
 (∀ (D:Dec) (E : @Env D) r,ρ 0=some r→∃ C,w.heap[r.cb]?=some C∧@OR D E P ρ r (.cells (cellsA ps) e t) C)∧∀ (D:Dec) (E : @Env D),@VR D E ρ (.sl 0 0 ps.length ps.length) pl
noncomputable def runO (P:Program) (orc:Fa→ACall) (n:Nat) (f:FuncId) (args:List AV) (c:List AV) (e:TypeId) (t:Bool) (F:Fa) : Option AV :=
 (acallT P (orc F) (@execT F.dec P 0 (orc F) n) 1 f args (heap1 c e t) fun v H=>some (v,H)).map (·.1)
theorem heap1_get (c:List AV) (e:TypeId) (t:Bool) (b:Nat) (o:AObj) (h:(heap1 c e t).get b=some o) : b=0∧o=.cells c e t:=by
 unfold heap1 at h
 rw [AHeap.get_alloc] at h
 split at h
 ·rename_i hb
  injection h with h
  exact ⟨hb,h.symm⟩
 ·rw [show AHeap.get (⟨0,.leaf⟩ : AHeap) b=none from T.get_leaf b] at h
  cases h
end Go.Proofs.YtoehlmiadiiimaaGreatDoor.Ex

namespace Go.Proofs.YtoehlmiadiiimaaGreatDoor.Ex
theorem sums0:((grp 0).all fun r=>allRow (sumP' r) r)=true:=by kernel_rfl
theorem sums1:((grp 1).all fun r=>allRow (sumP' r) r)=true:=by kernel_rfl
theorem sums2:((grp 2).all fun r=>allRow (sumP' r) r)=true:=by kernel_rfl
theorem sums3:((grp 3).all fun r=>allRow (sumP' r) r)=true:=by kernel_rfl
theorem sums4:((grp 4).all fun r=>allRow (sumP' r) r)=true:=by kernel_rfl
end Go.Proofs.YtoehlmiadiiimaaGreatDoor.Ex
namespace Go.Proofs.YtoehlmiadiiimaaGreatDoor.Ex
theorem sums5:((grp 5).all fun r=>allRow (sumP' r) r)=true:=by kernel_rfl
theorem sums6:((grp 6).all fun r=>allRow (sumP' r) r)=true:=by kernel_rfl
theorem sums7:((grp 7).all fun r=>allRow (sumP' r) r)=true:=by kernel_rfl
theorem sums8:((grp 8).all fun r=>allRow (sumP' r) r)=true:=by kernel_rfl
theorem stands:(rowsL.all standRow)=true:=by kernel_rfl
end Go.Proofs.YtoehlmiadiiimaaGreatDoor.Ex
namespace Go.Proofs.YtoehlmiadiiimaaGreatDoor.Ex
theorem nums0:((grp 0).all numRow)=true:=by kernel_rfl
theorem nums1:((grp 1).all numRow)=true:=by kernel_rfl
theorem nums2:((grp 2).all numRow)=true:=by kernel_rfl
theorem nums3:((grp 3).all numRow)=true:=by kernel_rfl
theorem nums4:((grp 4).all numRow)=true:=by kernel_rfl
theorem nums5:((grp 5).all numRow)=true:=by kernel_rfl
theorem nums6:((grp 6).all numRow)=true:=by kernel_rfl
theorem nums7:((grp 7).all numRow)=true:=by kernel_rfl
theorem nums8:((grp 8).all numRow)=true:=by kernel_rfl
end Go.Proofs.YtoehlmiadiiimaaGreatDoor.Ex
namespace Go.Proofs.YtoehlmiadiiimaaGreatDoor.Ex
theorem sums_all:∀ r∈rowsL,(fun r=>allRow (sumP' r) r=true) r:=by
 refine grp_mem fun k hk r hr=>?_
 match k,hk with
 | 0,_=>exact List.all_eq_true.1 sums0 r hr
 | 1,_=>exact List.all_eq_true.1 sums1 r hr
 | 2,_=>exact List.all_eq_true.1 sums2 r hr
 | 3,_=>exact List.all_eq_true.1 sums3 r hr
 | 4,_=>exact List.all_eq_true.1 sums4 r hr
 | 5,_=>exact List.all_eq_true.1 sums5 r hr
 | 6,_=>exact List.all_eq_true.1 sums6 r hr
 | 7,_=>exact List.all_eq_true.1 sums7 r hr
 | 8,_=>exact List.all_eq_true.1 sums8 r hr
theorem nums_all:∀ r∈rowsL,(fun r=>numRow r=true) r:=by
 refine grp_mem fun k hk r hr=>?_
 match k,hk with
 | 0,_=>exact List.all_eq_true.1 nums0 r hr
 | 1,_=>exact List.all_eq_true.1 nums1 r hr
 | 2,_=>exact List.all_eq_true.1 nums2 r hr
 | 3,_=>exact List.all_eq_true.1 nums3 r hr
 | 4,_=>exact List.all_eq_true.1 nums4 r hr
 | 5,_=>exact List.all_eq_true.1 nums5 r hr
 | 6,_=>exact List.all_eq_true.1 nums6 r hr
 | 7,_=>exact List.all_eq_true.1 nums7 r hr
 | 8,_=>exact List.all_eq_true.1 nums8 r hr
theorem stands_all:∀ r∈rowsL,standRow r=true:=fun r hr=>List.all_eq_true.1 stands r hr
end Go.Proofs.YtoehlmiadiiimaaGreatDoor.Ex

