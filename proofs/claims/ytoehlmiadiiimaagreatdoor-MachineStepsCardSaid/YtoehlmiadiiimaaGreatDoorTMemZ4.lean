import Derived.Test.YtoehlmiadiiimaaGreatDoorTMemZ2
import Derived.Test.YtoehlmiadiiimaaGreatDoorTMemY4
import Derived.Deep.MidRow
set_option maxRecDepth 100000
set_option maxHeartbeats 2000000
namespace Go.Proofs.YtoehlmiadiiimaaGreatDoor
open Go.ChangeShapes Go.WideShapes Go.RowKit Go.Proofs.YtoehlmiadiiimaaGreatDoor.Ex
theorem blit:∀ (l:List Value) (k:Nat) (a b:List Value),l.length≤b.length→a.length=k →
  (l.zipIdx k).foldl (fun (cs:Array Value) (x:Value×Nat)=>cs.setIfInBounds (0+x.2) x.1) (a ++ b).toArray=(a ++ l ++ b.drop l.length).toArray
 | [],k,a,b,_,_=>by simp
 | x :: l,k,a,[],h,_=>by simp at h
 | x :: l,k,a,y :: b,h,ha=>by
  have e:(a ++ y :: b).toArray.setIfInBounds (0+k) x=((a ++ [x]) ++ b).toArray:=by
   subst ha
   simp
  rw [List.zipIdx_cons,List.foldl_cons,e,blit l (k+1) (a ++ [x]) b (by simpa using h) (by simp [ha])]
  simp
theorem built88 (l:List Value) (h:l.length=37) : Tryz.prog.built 88 [(0,.agg l.toArray)]=some (l ++ [Value.int .u64 0,Value.bool false]).toArray:=by
 have hi:(Tryz.prog.info? 88).map (fun i=>i.zero)=some (some (.agg (List.replicate 33 (Value.int .u64 0) ++ [Value.int .u64 0,.slice none 0 0,.slice none 0 0,.bool false,.int .u64 0,.bool false]).toArray)):=by kernel_rfl
 obtain ⟨it,h1,h2⟩:=Option.map_eq_some_iff.1 hi
 unfold Program.built
 rw [h1,Tryz.underlying88]
 simp only [h2]
 have hp : List.mapM (fun f => Option.map (fun i => (f.offset, i.size)) (Tryz.prog.info? f.type))
       ([{ name:="Machine",type:=27,offset:=0,embedded:=true,tag:="",pkgPath:="",byteOffset:=0 },
         { name:="on",type:=22,offset:=37,embedded:=false,tag:="",pkgPath:="quoin/machine",
           byteOffset:=328 },
         { name:="stop",type:=4,offset:=38,embedded:=false,tag:="",pkgPath:="quoin/machine",
           byteOffset:=336 }] : List Field)=some [(0,37),(37,1),(38,1)]:=by kernel_rfl
 rw [hp]
 have hb:=blit l 0 [] (List.replicate 33 (Value.int IntKind.u64 0) ++ [Value.int IntKind.u64 0,Value.slice none 0 0,Value.slice none 0 0,Value.bool false,Value.int IntKind.u64 0,Value.bool false]) (by simp [h]) rfl
 simp only [List.nil_append] at hb
 simp only [Instr.fill,Value.cells,List.size_toArray,h]
 simp only [List.getElem?_toArray,List.getElem?_cons_zero]
 rw [if_neg (by simp)]
 have e:∀ (f:Array Value→Value×Nat→Array Value) (z:Array Value),Array.foldl f z l.toArray.zipIdx=List.foldl f z l.zipIdx:=fun f z=>by
  rw [← Array.foldl_toList]; simp
 rw [e,hb,h]
 rfl
theorem wpList_build_to {P:Program} {w:World} {ops:Array Oper} {rest:List Oper} {o:Oper} {a:Act} {Q:Exit→Act→World→Prop} (hg:o.guard=none) (t:TypeId) (k:Nat) (x:Operand) (ho:o.op=.build t #[(k,x)]) (v:Value) (hv:a.eval x=v) (cells:Array Value)
  (hf:P.built t [(k,v)]=some cells) (h:wpList P ops Q rest (a.put o.dst (.agg cells)) w) : wpList P ops Q (o :: rest) a w:=by
 have e:P.built t ((#[(k,x)].map fun (i,x)=>(i,a.eval x)).toList)=some cells:=by simpa [hv] using hf
 exact wpList_build hg t #[(k,x)] ho (by rw [e]; rfl) (by rw [e]; exact h)
theorem mcells_len {r:Rn} {mv tv:Value} (h:r.regs.length=32) : (mcells r mv tv).length=37:=by simp [mcells,h]
theorem rcells_eq (r:Rn) (mv tv:Value) : mcells r mv tv ++ [Value.int .u64 0,Value.bool false]=rcells { r with on:=0,stop:=false } mv tv:=by simp [mcells,rcells]
theorem results_cell_tmp {P:Program} {fn:Func} {p q:Tmp} {ty:TypeId} (h:fn.results=#[.cell p ty,.tmp q]) (tmps:Array Value) (w:World) (g:Nat) (t:TypeId) (cs:Array Value) (fr:Nat×Nat) (d:TypeDesc)
  (hp:tmps.getD p undef=.pointer (some ⟨g,0,none⟩)) (hg:w.heap[g]?=some (.cells cs t fr))
  (hu:P.underlying ty=some d) (hd:(match d with | .struct _ | .array _ _=>true | _=>false)=true) (hi:(P.info? ty).map (·.size)=some cs.size) :
  (results fn tmps).run P w=.ok (.tuple #[.agg cs,tmps.getD q undef]) w:=by
 have hp':tmps[p]?.getD undef=.pointer (some ⟨g,0,none⟩):=by simpa using hp
 simp [results,h,hp',asAddr,run_loadVar_row w g t ty cs fr d hg hu hd hi]
structure WFm (r:Rn) : Prop where
 pc:0≤r.pc
 regs:Regs64 r.regs
 mem:r.mem.length≤65536
 told:r.told.length≤1000000
def stepF (r:Rn) : Option Rn :=
 match r.done with
 | true=>none
 | false=>match fetch { r with on:=0,stop:=false } with
  | none=>none
  | some (i,on)=>match doF i { r with on:=on,stop:=false } with
   | none=>none
   | some (to,r')=>some { r' with pc:=to }
def StepPost (w:World) (v:Value) (o:Option Rn) (e:Ending) (w':World) : Prop :=
 Below w.heap.size w w'∧match o with
 | none=>e=.returned (.tuple #[v,.bool false])
 | some r'=>∃ v',e=.returned (.tuple #[v',.bool true])∧MachO w.heap.size w' v' r'
theorem rds_one {w:World} {v:Value} {xs:List Value} (h:RdS w v xs) : v.oneCell'=true:=by
 obtain ⟨A,c,rfl,_,_⟩:=h.form
 rfl
theorem step_done (v:Value) (r:Rn) (w:World) (h:MachR w v r) (hd:r.done=true) : Calls Tryz.prog 33 #[v] w (StepPost w v none):=by
 obtain ⟨mv,tv,rfl,hmv,htv⟩:=h.form
 have hlen:=h.len
 have c36:=mc36 (r:=r) (mv:=mv) (tv:=tv) hlen
 rw [hd] at c36
 have hsz:(Tryz.prog.info? 27).map (·.size)=some (mcells r mv tv).toArray.size:=by rw [mc_size hlen]; exact info27
 have h37:=Lib.hid (mc_size (r:=r) (mv:=mv) (tv:=tv) hlen)
 have hall:=mc_one (r:=r) (rds_one hmv) (rds_one htv)
 generalize (mcells r mv tv).toArray=cs at *
 clear hd
 go_enter Tryz.func33,Tryz.ntmps33
 go_wp2_with (first
  | (refine wpList_load_row rfl 27 (.tmp 1) rfl w.heap.size rfl 27 cs (0,0) _ (heap_alloc2_old w _ _) Tryz.underlying27 rfl hsz ?_)
  | (refine wpList_store_row rfl 27 (.tmp 2) (.tmp 8) rfl (w.heap.size+1) cs rfl rfl 27 _ (heap_alloc2_new w _ _) hsz (by rw [h37.out]; rfl) hall ?_))
 refine bodyPost_ret (results_cell_tmp rfl _ _ (w.heap.size+1) 27 cs (0,0) _ rfl (setRow_heap _ _ _ _ _ _ (heap_alloc2_new w _ _)) Tryz.underlying27 rfl hsz) rfl ?_
 exact ⟨below_setRow (((Below.refl _ _).alloc (Nat.le_refl _) _).alloc (by simp) _) (Nat.le_succ _) _,rfl⟩
theorem doF_stop {i:Ins} {r r':Rn} {to:Int} (h:doF i r=some (to,r')) : r'.stop=r.stop:=by
 unfold doF at h
 split at h
 all_goals first
  | cases h; done
  | (injection h with h; injection h with _ h; subst h; rfl)
  | skip
 ·split at h
  ·injection h with h; injection h with _ h; subst h; rfl
  ·split at h
   ·cases h
   ·injection h with h; injection h with _ h; subst h; rfl
 ·split at h
  ·cases h
  ·injection h with h; injection h with _ h; subst h; rfl
 ·split at h
  ·split at h
   ·injection h with h; injection h with _ h; subst h; rfl
   ·cases h
  ·cases h
theorem step_go (v:Value) (r:Rn) (w:World) (h:MachR w v r) (hd:r.done=false) (hwf:WFm r) (hL:LG w) (h13:3≤w.heap.size) : Calls Tryz.prog 33 #[v] w (StepPost w v (stepF r)):=by
 obtain ⟨mv,tv,rfl,hmv,htv⟩:=h.form
 have hlen:=h.len
 have c36:=mc36 (r:=r) (mv:=mv) (tv:=tv) hlen
 rw [hd] at c36
 have hsz:(Tryz.prog.info? 27).map (·.size)=some (mcells r mv tv).toArray.size:=by rw [mc_size hlen]; exact info27
 have h37:=Lib.hid (mc_size (r:=r) (mv:=mv) (tv:=tv) hlen)
 have hall:=mc_one (r:=r) (rds_one hmv) (rds_one htv)
 have htw:∀ W,Below w.heap.size w W→Calls Tryz.prog 15 #[.agg (mcells r mv tv).toArray] W (TwinPost W r):=fun W hb=>twin_c _ r W (h.keep hb) (by have:=hwf.mem; omega) hwf.told
 have HTW:=Lib.hid htw
 have HST:Hid (stepF r=match fetch { r with on:=0,stop:=false } with
  | none=>none
  | some (i,on)=>match doF i { r with on:=on,stop:=false } with
   | none=>none
   | some (to,r')=>some { r' with pc:=to }):=Lib.hid (by unfold stepF; rw [hd])
 have HL:=Lib.hid hL
 clear htw hL hd
 generalize (mcells r mv tv).toArray=cs at *
 have h13':=Lib.hid h13
 clear h13
 go_enter Tryz.func33,Tryz.ntmps33
 go_wp2_with (refine wpList_load_row rfl 27 (.tmp 1) rfl w.heap.size rfl 27 cs (0,0) _ (heap_alloc2_old w _ _) Tryz.underlying27 rfl hsz ?_)
 refine (HTW.out _ (((Below.refl _ _).alloc (Nat.le_refl _) _).alloc (by simp) _)).mono ?_
 intro e w1 htp
 obtain ⟨v',rfl,ho,hb1⟩:=htp
 obtain ⟨mv',tv',rfl,hm',ht'⟩:=ho.form
 have D1:=(hb1.block w.heap.size (by simp; omega)).trans (heap_alloc2_old w _ _)
 have E1:=(hb1.block (w.heap.size+1) (by simp)).trans (heap_alloc2_new w _ _)
 have hb1':w.heap.size+2≤w1.heap.size:=by have:=hb1.size; simpa using this
 have hw1:Below w.heap.size w w1:=(((Below.refl _ _).alloc (Nat.le_refl _) _).alloc (by simp) _).trans (hb1.mono (by simp; omega))
 have hbu:=built88 (mcells r mv' tv') (mcells_len hlen)
 rw [rcells_eq] at hbu
 have HBU:=Lib.hid hbu
 clear hbu
 have hm2:w1.ownsRow (w.heap.size+2) 5 1 mv' r.mem.length (r.mem.map (.int .u8)):=by simpa using hm'
 have ht2:w1.ownsRow (w.heap.size+2) 22 1 tv' r.told.length (r.told.map (.int .u64)):=by simpa using ht'
 clear hm' ht' ho hb1
 go_wp2_with (refine wpList_build_to rfl 88 0 (.tmp 10) rfl _ rfl _ HBU.out ?_)
 have hrun:RunW (w.heap.size+2) (w1.alloc (.cells (rcells { r with on:=0,stop:=false } mv' tv').toArray 88)) w1.heap.size { r with on:=0,stop:=false } mv' tv':=⟨hlen,hb1',Blk.new _ _ _,hm2.alloc _,ht2.alloc _⟩
 have hL2:LG (w1.alloc (.cells (rcells { r with on:=0,stop:=false } mv' tv').toArray 88)):=laidG_below HL.out ((hw1.mono h13'.out).alloc (by have:=h13'.out; have:=hw1.size; omega) _)
 have hB13:3≤w.heap.size+2:=by have:=h13'.out; omega
 refine (next_c (w.heap.size+2) w1.heap.size { r with on:=0,stop:=false } mv' tv' _ hrun hL2 hB13 rfl hwf.pc hwf.mem).mono ?_
 intro e w3 hnp
 have D2:=(Below.heap_alloc w1 (.cells (rcells { r with on:=0,stop:=false } mv' tv').toArray 88) w.heap.size (by omega)).trans D1
 have E2:=(Below.heap_alloc w1 (.cells (rcells { r with on:=0,stop:=false } mv' tv').toArray 88) (w.heap.size+1) (by omega)).trans E1
 have hw2:Below w.heap.size w (w1.alloc (.cells (rcells { r with on:=0,stop:=false } mv' tv').toArray 88)):=hw1.alloc (by omega) _
 cases hf:fetch { r with on:=0,stop:=false } with
 | none =>
  rw [hf] at hnp
  have HS0:Hid (stepF r=none):=Lib.hid (HST.out.trans (by rw [hf]))
  obtain ⟨i,on,rfl,R3⟩:=hnp
  have q38:w3.cell? ⟨w1.heap.size,38,none⟩=some (.bool true):=R3.run.c38
  have lg3:=R3.run.blk.lt
  have D3:=(Below.heap_alloc w3 (.cells #[.int .u8 i.op,.int .i64 i.rd,.int .i64 i.s1,.int .i64 i.s2,.int .i64 i.imm] 57) w.heap.size (by omega)).trans ((R3.low.block w.heap.size (by omega)).trans D2)
  have E3:=(Below.heap_alloc w3 (.cells #[.int .u8 i.op,.int .i64 i.rd,.int .i64 i.s1,.int .i64 i.s2,.int .i64 i.imm] 57) (w.heap.size+1) (by omega)).trans ((R3.low.block (w.heap.size+1) (by omega)).trans E2)
  have hw3:=hw2.trans (R3.low.mono (by omega))
  have Hw3:=Lib.hid hw3
  clear hw3 hw2 hw1 R3 D2 E2 D1 E1 hrun hL2
  go_wp2_with (first
   | (refine wpList_load_row rfl 27 (.tmp 1) rfl w.heap.size rfl 27 cs (0,0) _ D3 Tryz.underlying27 rfl hsz ?_)
   | (refine wpList_store_row rfl 27 (.tmp 2) (.tmp 19) rfl (w.heap.size+1) cs rfl rfl 27 _ E3 hsz (by rw [h37.out]; rfl) hall ?_))
  refine bodyPost_ret (results_cell_tmp rfl _ _ (w.heap.size+1) 27 cs (0,0) _ rfl (setRow_heap _ _ _ _ _ _ E3) Tryz.underlying27 rfl hsz) rfl ?_
  unfold StepPost
  rw [HS0.out]
  exact ⟨below_setRow (Hw3.out.alloc (by omega) _) (Nat.le_succ _) _,rfl⟩
 | some io =>
  obtain ⟨i,on⟩:=io
  rw [hf] at hnp
  obtain ⟨rfl,R3⟩:=hnp
  have hok:=fetch_ok hf
  have q38:w3.cell? ⟨w1.heap.size,38,none⟩=some (.bool false):=R3.run.c38
  have lg3:=R3.run.blk.lt
  have D3:=(Below.heap_alloc w3 (.cells #[.int .u8 i.op,.int .i64 i.rd,.int .i64 i.s1,.int .i64 i.s2,.int .i64 i.imm] 57) w.heap.size (by omega)).trans ((R3.low.block w.heap.size (by omega)).trans D2)
  have E3:=(Below.heap_alloc w3 (.cells #[.int .u8 i.op,.int .i64 i.rd,.int .i64 i.s1,.int .i64 i.s2,.int .i64 i.imm] 57) (w.heap.size+1) (by omega)).trans ((R3.low.block (w.heap.size+1) (by omega)).trans E2)
  have hw3:=hw2.trans (R3.low.mono (by omega))
  have R4:=R3.alloc (.cells #[.int .u8 i.op,.int .i64 i.rd,.int .i64 i.s1,.int .i64 i.s2,.int .i64 i.imm] 57)
  have hw4:Below w.heap.size w (w3.alloc (.cells #[.int .u8 i.op,.int .i64 i.rd,.int .i64 i.s1,.int .i64 i.s2,.int .i64 i.imm] 57)):=hw3.alloc (by omega) _
  have hL4:=laidG_below HL.out (hw4.mono h13'.out)
  have hdo:=Lib.hid (do_c (w.heap.size+2) w1.heap.size _ mv' tv' _ R4.run i hok rfl hL4 hB13 hwf.mem hwf.told hwf.regs)
  have HW4:=Lib.hid hw4
  clear hw4 hw3 hw2 hw1 D2 E2 D1 E1 hrun hL2 hL4
  go_wp2_with fail
  refine hdo.out.mono ?_
  intro e w5 hpo
  cases hdf:doF i { r with on:=on,stop:=false } with
  | none =>
   have HS0:Hid (stepF r=none):=Lib.hid (HST.out.trans (by rw [hf]; simp only; rw [hdf]))
   have hpo':StopPost (w.heap.size+2) (w3.alloc (.cells #[.int .u8 i.op,.int .i64 i.rd,.int .i64 i.s1,.int .i64 i.s2,.int .i64 i.imm] 57)) w1.heap.size mv' tv' e w5:=by
    have h:=hpo
    unfold DoAll at h
    rw [show doF i { pc:=r.pc,regs:=r.regs,base:=r.base,mem:=r.mem,told:=r.told,done:=r.done,on:=on,stop:=false }=none from hdf] at h
    exact h
   obtain ⟨to,r',rfl,R5,hs5⟩:=hpo'
   have q0:=R5.run.c0
   have f0:=R5.run.fz 0
   have t38:w5.cell? ⟨w1.heap.size,38,none⟩=some (.bool true):=by rw [R5.run.c38,hs5]
   have lg5:=R5.run.blk.lt
   have R6:=R5.pc_ to
   have D5:=(R6.low.block w.heap.size (by omega)).trans D3
   have E5:=(R6.low.block (w.heap.size+1) (by omega)).trans E3
   have Hw5:=Lib.hid (HW4.out.trans (R6.low.mono (by omega)))
   clear hpo R3 R4 R5 R6 D3 E3 hs5
   go_wp2_with (first
    | (refine wpList_load_row rfl 27 (.tmp 1) rfl w.heap.size rfl 27 cs (0,0) _ D5 Tryz.underlying27 rfl hsz ?_)
    | (refine wpList_store_row rfl 27 (.tmp 2) (.tmp 31) rfl (w.heap.size+1) cs rfl rfl 27 _ E5 hsz (by rw [h37.out]; rfl) hall ?_))
   refine bodyPost_ret (results_cell_tmp rfl _ _ (w.heap.size+1) 27 cs (0,0) _ rfl (setRow_heap _ _ _ _ _ _ E5) Tryz.underlying27 rfl hsz) rfl ?_
   unfold StepPost
   rw [HS0.out]
   exact ⟨below_setRow Hw5.out (Nat.le_succ _) _,rfl⟩
  | some tr =>
   obtain ⟨to,r'⟩:=tr
   have HS0:Hid (stepF r=some { r' with pc:=to }):=Lib.hid (HST.out.trans (by rw [hf]; simp only; rw [hdf]))
   have hpo':∃ tv',e=.returned (.int .u64 to)∧RunB (w.heap.size+2) (w3.alloc (.cells #[.int .u8 i.op,.int .i64 i.rd,.int .i64 i.s1,.int .i64 i.s2,.int .i64 i.imm] 57)) w5 w1.heap.size r' mv' tv':=by
    have h:=hpo
    unfold DoAll at h
    rw [show doF i { pc:=r.pc,regs:=r.regs,base:=r.base,mem:=r.mem,told:=r.told,done:=r.done,on:=on,stop:=false }=some (to,r') from hdf] at h
    exact h
   obtain ⟨tv2,rfl,R5⟩:=hpo'
   have hs5:r'.stop=false:=doF_stop hdf
   have q0:=R5.run.c0
   have f0:=R5.run.fz 0
   have t38:w5.cell? ⟨w1.heap.size,38,none⟩=some (.bool false):=by rw [R5.run.c38,hs5]
   have lg5:=R5.run.blk.lt
   have R6:=R5.pc_ to
   have hlen6:=R6.run.len
   have hrange:(w5.setCell ⟨w1.heap.size,0,none⟩ (.int .u64 to)).rangeAt w1.heap.size 0 (mcells { r' with pc:=to } mv' tv2):=by
    intro j u hu
    have hj:j < (mcells { r' with pc:=to } mv' tv2).length:=by
     rcases Nat.lt_or_ge j (mcells { r' with pc:=to } mv' tv2).length with h | h
     ·exact h
     ·rw [List.getElem?_eq_none h] at hu; cases hu
    rw [Nat.zero_add,R6.run.blk.cell j]
    have e:rcells { r' with pc:=to } mv' tv2=mcells { r' with pc:=to } mv' tv2 ++ [Value.int .u64 r'.on,Value.bool r'.stop]:=by simp [mcells,rcells]
    rw [e,List.getElem?_toArray,List.getElem?_append_left hj]
    exact hu
   have hsz':(Tryz.prog.info? 27).map (·.size)=some (mcells { r' with pc:=to } mv' tv2).length:=by rw [mcells_len hlen6]; exact info27
   have hsz2:(Tryz.prog.info? 27).map (·.size)=some (mcells { r' with pc:=to } mv' tv2).toArray.size:=by rw [mc_size hlen6]; exact info27
   have hall2:=mc_one (r:={ r' with pc:=to }) (mv:=mv') (tv:=tv2) (by obtain ⟨A1,q1,rfl,-,-⟩:=own_slice R6.run.mem; rfl) (by obtain ⟨A1,q1,rfl,-,-⟩:=own_slice R6.run.told; rfl)
   have h372:Hid ((mcells { r' with pc:=to } mv' tv2).toArray.size=37):=Lib.hid (mc_size hlen6)
   have E5:=(R6.low.block (w.heap.size+1) (by omega)).trans E3
   have Hw5:=Lib.hid (HW4.out.trans (R6.low.mono (by omega)))
   have HR6:=Lib.hid R6.run
   clear hpo R3 R4 R5 R6 D3 E3 hs5
   obtain ⟨vs2,hvs⟩ : ∃ vs2,vs2=mcells { r' with pc:=to } mv' tv2:=⟨_,rfl⟩
   rw [← hvs] at hrange hsz' hsz2 hall2 h372
   have HVS:=Lib.hid hvs
   clear hvs
   go_wp2_with (first
    | (refine wpList_load_mid rfl 27 (.tmp 34) rfl w1.heap.size 0 rfl vs2 _ hrange Tryz.underlying27 rfl hsz' ?_)
    | (refine wpList_store_row rfl 27 (.tmp 2) (.tmp 35) rfl (w.heap.size+1) vs2.toArray rfl rfl 27 _ E5 hsz2 (by rw [h372.out]; rfl) hall2 ?_))
   refine bodyPost_ret (results_cell_tmp rfl _ _ (w.heap.size+1) 27 vs2.toArray (0,0) _ rfl (setRow_heap _ _ _ _ _ _ E5) Tryz.underlying27 rfl hsz2) rfl ?_
   unfold StepPost
   rw [HS0.out]
   refine ⟨below_setRow Hw5.out (Nat.le_succ _) _,_,rfl,hlen6,_,_,congrArg (fun l:List Value=>Value.agg l.toArray) HVS.out,?_,?_⟩
   ·exact (own_setRow_far HR6.out.mem (fun e=>by have:=(HR6.out.mem.lt _ e).1; omega) _).mono (by omega)
   ·exact (own_setRow_far HR6.out.told (fun e=>by have:=(HR6.out.told.lt _ e).1; omega) _).mono (by omega)
end Go.Proofs.YtoehlmiadiiimaaGreatDoor
namespace Go.Proofs.YtoehlmiadiiimaaGreatDoor
open Go.ChangeShapes Go.WideShapes Go.RowKit Go.Proofs.YtoehlmiadiiimaaGreatDoor.Ex
theorem step_c (v:Value) (r:Rn) (w:World) (h:MachR w v r) (hwf:WFm r) (hL:LG w) (h13:3≤w.heap.size) : Calls Tryz.prog 33 #[v] w (StepPost w v (stepF r)):=by
 cases hd:r.done with
 | true =>
  have e:stepF r=none:=by unfold stepF; rw [hd]
  rw [e]
  exact step_done v r w h hd
 | false=>exact step_go v r w h hd hwf hL h13
def checkF (b:Int) (m:Nat) (x:Int) (t:Nat) : Int:=if 2147483648 < b then 8 else if 65536 < m then 8 else if x≠0 then 8 else if 1000 < t then 8 else 0
def checkE (r:Rn) : Int:=checkF r.base r.mem.length (r.regs.getD 0 0) r.told.length
def CheckPost (w:World) (n:Int) (e:Ending) (w':World) : Prop:=e=.returned (.int .i64 n)∧Below w.heap.size w w'
theorem check_c (v:Value) (r:Rn) (w:World) (h:MachR w v r) : Calls Tryz.prog 17 #[v] w (CheckPost w (checkE r)):=by
 obtain ⟨mv,tv,rfl,hmv,htv⟩:=h.form
 have hlen:=h.len
 obtain ⟨A1,q1,rfl,-,-⟩:=hmv.form
 obtain ⟨A2,q2,rfl,-,-⟩:=htv.form
 have c33:=mc33 (r:=r) (mv:=.slice A1 (r.mem.map (Value.int .u8)).length q1) (tv:=.slice A2 (r.told.map (Value.int .u64)).length q2) hlen
 have c34:=mc34 (r:=r) (mv:=.slice A1 (r.mem.map (Value.int .u8)).length q1) (tv:=.slice A2 (r.told.map (Value.int .u64)).length q2) hlen
 have c35:=mc35 (r:=r) (mv:=.slice A1 (r.mem.map (Value.int .u8)).length q1) (tv:=.slice A2 (r.told.map (Value.int .u64)).length q2) hlen
 have c1:=mcR (r:=r) (mv:=.slice A1 (r.mem.map (Value.int .u8)).length q1) (tv:=.slice A2 (r.told.map (Value.int .u64)).length q2) hlen 0 (by omega)
 generalize (mcells r (.slice A1 (r.mem.map (Value.int .u8)).length q1) (.slice A2 (r.told.map (Value.int .u64)).length q2)).toArray=cs at *
 simp only [List.length_map] at c34 c35
 unfold checkE
 generalize r.base=b at *
 generalize r.mem.length=m at *
 generalize r.regs.getD 0 0=x at *
 generalize r.told.length=t at *
 clear hmv htv h hlen
 go_enter Tryz.func17,Tryz.ntmps17
 go_wp2
 all_goals go_ret
 all_goals refine ⟨?_,(Below.refl _ _).alloc (Nat.le_refl _) _⟩
 all_goals first
  | (rw [show checkF b m x t=8 by unfold checkF; (repeat' split) <;> omega]; rfl)
  | (rw [show checkF b m x t=0 by unfold checkF; (repeat' split) <;> omega]; rfl)
end Go.Proofs.YtoehlmiadiiimaaGreatDoor
