import Derived.Test.YtoehlmiadiiimaaGreatDoorTMemO3
/-
  Words: the document's word of an instruction, in the machine program's own numbers: by the executor.
-/
namespace Go.Proofs.YtoehlmiadiiimaaGreatDoor
open Go.ChangeShapes Go.WideShapes Go.RowKit Go.Proofs.YtoehlmiadiiimaaGreatDoor.Ex
noncomputable def plX (f:Nat) (H:AHeap) (x:AV) : Bool:=match placesF f with
 | []=>(match x with
  | .nilsl=>true
  | _=>false)
 | _=>plOk H (placesF f) x
noncomputable def orcP (f:Nat) (fn:FuncId) (e:SE) (v:AV) : ACall:=only fn fun args H=>match args with
 | [.sint .u32 e',x]=>match SE.beq e' e && plX f H x with
  | true=>some (v,H)
  | false=>none
 | _=>none
section
variable [Dec] [Env]
theorem plX_rel {f:Nat} (hf:f∈formsAll) {H:AHeap} {ρ:Rho} {w:World} {x:AV} {pl:Value} (hI:Inv Tryz.prog ρ H w) (h:plX f H x=true) (hv:VR ρ x pl) : PlW f pl w:=by
 unfold plX at h
 split at h
 ·rename_i h0
  split at h
  ·cases hv; exact .inr ⟨h0,rfl⟩
  ·cases h
 ·rename_i h0
  rcases forms_two f hf with hn | hn
  ·exact .inl ⟨hn,plC_of hI h hv⟩
  ·exact absurd hn (by simpa using h0)
theorem orcP_ok {gl:Nat} {f:Nat} (hf:f∈formsAll) {fn:FuncId} {e:SE} {v:AV} (hp:v.plain=true)
  (hc:∀ pl w,PlW f pl w→Calls Tryz.prog fn #[.int .u32 (sev e),pl] w fun e' w'=>e'=.returned (v.toVal Env.η Env.φ)∧Below w.heap.size w w') : CallOK Tryz.prog gl (orcP f fn e v):=by
 refine callOK_only fun args H v' H' h=>?_
 split at h
 ·rename_i e' x
  split at h
  ·rename_i hx
   simp only [Option.some.injEq,Prod.mk.injEq] at h
   obtain ⟨rfl,rfl⟩:=h
   rw [Bool.and_eq_true] at hx
   obtain ⟨hw,hx⟩:=hx
   have hw:=SE.beq_eq _ _ hw
   subst hw
   refine ⟨rfl,fun ρ w args' hI hv=>?_⟩
   cases hv with
   | cons _ vw _ _ h1 hv =>
    cases hv with
    | cons _ vx _ _ h2 hv =>
     cases hv
     cases h1
     exact ⟨_,VR.ofVal ρ _ hp,hc _ w (plX_rel hf hI hx h2)⟩
  ·cases h
 ·cases h
end
def cN (f:Nat) : SE:=match kindF f with
 | 2=>.bin .quo .i64 (.var 3) (.lit 2)
 | _=>.var 3
def cM (f:Nat) (neg:Bool) : SE:=match neg with
 | true=>.bin .add .i64 (cN f) (.lit ((2 ^ (placesF f).length:Nat) : Int))
 | false=>cN f
def cOut:AV:=.sint .u32 (.bin .add .u32 (.bin .add .u32 (.bin .add .u32 (.bin .add .u32 (.var 5) (.wrap .u32 (.bin .mul .i64 (.var 0) (.lit 128)))) (.wrap .u32 (.bin .mul .i64 (.var 1) (.lit 32768)))) (.wrap .u32 (.bin .mul .i64 (.var 2) (.lit 1048576)))) (.var 6))
noncomputable def orcC (f:Nat) (neg:Bool) (_:Fa) : ACall:=orElse (orcLit 48 [.sint .u8 (.var 4)] (.tup [.int .u8 (Int.ofNat f),.int .i64 0])) (orElse (orcLit 115 [.sint .u8 (.var 4)] (.sint .u32 (.var 5))) (orElse (orcP f 245 (.wrap .u32 (cM f neg)) (.tup [.sint .u32 (.var 6),li 0])) (orcTab 163 tab163)))
def cFa (f:Nat) (neg:Bool) : Fa:=⟨[],[(cN f,.lit 0,neg)],[]⟩
theorem codedTold:(formsAll.all fun f=>[false,true].all fun neg=>(Tr.leaf cOut).ok (Go.Proofs.YtoehlmiadiiimaaGreatDoor.Ex.runT Tryz.prog (orcC f neg) 10000 0 168 [symI]) (cFa f neg))=true:=by kernel_rfl
def ηC (op d s t:Nat) (m:Int) : Nat→Int:=ηl [(d:Int),(s:Int),(t:Int),m,(op:Int),((baseB op:Nat) : Int),((scatN (placesF (formB op)) (vN (formB op) m) : Nat) : Int)]
theorem emod_nat (x:Int) (q:Nat) (hq:0 < q) : (x % (q:Int)).toNat < q∧x % (q:Int)=(((x % (q:Int)).toNat:Nat) : Int):=by
 have h1:=Int.emod_nonneg x (show (q:Int)≠0 by omega)
 have h2:=Int.emod_lt_of_pos x (show (0:Int) < q by omega)
 omega
theorem vN_lt (f:Nat) (m:Int) : vN f m < 2 ^ (placesF f).length:=by
 unfold vN
 have e:((2:Int) ^ (placesF f).length)=((2 ^ (placesF f).length:Nat) : Int):=by simp
 rw [e]
 exact (emod_nat _ _ (Nat.two_pow_pos _)).1
theorem cN_ev (f:Nat) (hf:f∈formsAll) (η:Nat→Int) (m:Int) (h3:η 3=m) (hm:numI f m=true) : (cN f).ev η φz=(match kindF f with | 2=>m / 2 | _=>m)∧-1048576≤(match kindF f with | 2=>m / 2 | _=>m)∧(match kindF f with | 2=>m / 2 | _=>m)≤1048575:=by
 simp only [formsAll,List.mem_cons,List.not_mem_nil,or_false] at hf
 unfold numI inI at hm
 rcases hf with rfl | rfl | rfl | rfl | rfl | rfl | rfl | rfl | rfl | rfl | rfl | rfl | rfl | rfl | rfl
 all_goals simp only [shapeL,Bool.and_eq_true,decide_eq_true_eq,beq_iff_eq] at hm
 all_goals first
  | (refine ⟨h3,?_⟩; show -1048576≤m∧m≤1048575; omega)
  | (refine ⟨?_, by show -1048576 ≤ m / 2 ∧ m / 2 ≤ 1048575; omega⟩
     show IntKind.i64.wrap ((η 3).tdiv 2)=m / 2
     rw [h3,IntKind.wrap_i64]
     have e:m=2*(m / 2):=by omega
     have e2:m.tdiv 2=m / 2:=by rw [e,Int.mul_tdiv_cancel_left _ (by decide)]; omega
     rw [e2]; omega)
theorem cM_ev (f:Nat) (hf:f∈formsAll) (η:Nat→Int) (m:Int) (h3:η 3=m) (hm:numI f m=true) (neg:Bool) (hn:decide ((cN f).ev η φz < 0)=neg) : (SE.wrap .u32 (cM f neg)).ev η φz=((vN f m:Nat) : Int):=by
 obtain ⟨e1,b1,b2⟩:=cN_ev f hf η m h3 hm
 have hl:2 ^ (placesF f).length≤2 ^ 20:=Nat.pow_le_pow_right (by omega) (places_bd f hf).2
 have hm2:∀ x:Int,x=(match kindF f with | 2=>m / 2 | _=>m)→x % ((2 ^ (placesF f).length:Nat) : Int)=((vN f m:Nat) : Int)∧(0≤x→x < ((2 ^ (placesF f).length:Nat) : Int))∧-((2 ^ (placesF f).length:Nat) : Int)≤x:=by
  intro x hx
  subst hx
  have hpos:=Nat.two_pow_pos (placesF f).length
  refine ⟨?_,?_⟩
  ·unfold vN
   have e:((2:Int) ^ (placesF f).length)=((2 ^ (placesF f).length:Nat) : Int):=by simp
   rw [e]
   exact (emod_nat _ _ (Nat.two_pow_pos _)).2
  ·clear b1 b2 e1 hn
   simp only [formsAll,List.mem_cons,List.not_mem_nil,or_false] at hf
   unfold numI inI at hm
   rcases hf with rfl | rfl | rfl | rfl | rfl | rfl | rfl | rfl | rfl | rfl | rfl | rfl | rfl | rfl | rfl
   all_goals simp only [shapeL,Bool.and_eq_true,decide_eq_true_eq,beq_iff_eq] at hm
   all_goals simp only [kindF,placesF,List.length_cons,List.length_nil]
   all_goals omega
 obtain ⟨q1,q2,q3⟩:=hm2 _ rfl
 have hpos:=Nat.two_pow_pos (placesF f).length
 rw [← e1] at q1 q2 q3 b1 b2
 have hv:=vN_lt f m
 have et:(cM f true).ev η φz=ibin .add .i64 ((cN f).ev η φz) ((2 ^ (placesF f).length:Nat) : Int):=rfl
 generalize 2 ^ (placesF f).length=q at *
 cases neg with
 | true =>
  have hn:=of_decide_eq_true hn
  show IntKind.u32.wrap ((cM f true).ev η φz)=_
  rw [et,add_mid (by omega),IntKind.wrap_u32]
  have e2:((cN f).ev η φz+q) % q=(cN f).ev η φz % q:=Int.add_emod_right _ _
  rw [Int.emod_eq_of_lt (by omega) (by omega)] at e2
  omega
 | false =>
  have hn:=of_decide_eq_false hn
  show IntKind.u32.wrap ((cN f).ev η φz)=_
  rw [IntKind.wrap_u32]
  have q2:=q2 (by omega)
  rw [Int.emod_eq_of_lt (by omega) q2] at q1
  omega
theorem orcC_at (op d s t:Nat) (m:Int) (h1:1≤op) (h2:op≤94) (hm:numI (formB op) m=true) (neg:Bool) (hn:decide ((cN (formB op)).ev (ηC op d s t m) φz < 0)=neg) : OrcAt Tryz.prog 0 φz (ηC op d s t m) (orcC (formB op) neg):=by
 intro F hF
 letI:Dec:=F.dec
 letI:Env:=hF.env
 have hf:=formB_mem op h1 h2
 refine callOK_or (orcLit_ok rfl rfl fun w=>?_) (callOK_or (orcLit_ok rfl rfl fun w=>?_) (callOK_or (orcP_ok hf rfl fun pl w hpl=>?_) ((o163 φz) F _ hF)))
 ·exact formD op h1 h2 w
 ·exact bitsD op h1 h2 w
 ·have e:sev (.wrap .u32 (cM (formB op) neg))=((vN (formB op) m:Nat) : Int):=cM_ev _ hf (ηC op d s t m) m rfl hm neg hn
  rw [e]
  exact scat_c _ hf _ (vN_lt _ _) pl w hpl
set_option maxRecDepth 100000 in
theorem coded_c (op d s t:Nat) (m:Int) (h1:1≤op) (h2:op≤94) (hR:RegsOK (formB op) d s t) (hm:numI (formB op) m=true) (w:World) :
  Calls Tryz.prog 168 #[(⟨op,d,s,t,m⟩ : Ins).v] w fun e w'=>e=.returned (.int .u32 (wordS op d s t (vN (formB op) m)))∧Below w.heap.size w w':=by
 have hf:=formB_mem op h1 h2
 have hlt:wordS op d s t (vN (formB op) m) < 4294967296:=by rw [wordS_eq h1 h2 hR]; exact word_lt h1 h2 hR
 generalize hn:decide ((cN (formB op)).ev (ηC op d s t m) φz < 0)=neg
 have hT:=List.all_eq_true.1 (List.all_eq_true.1 codedTold _ hf) neg (by cases neg <;> simp)
 have hF:(cFa (formB op) neg).On (ηC op d s t m) φz:=by
  refine ⟨fun x hx=>(by cases hx),fun x hx=>?_,fun x hx=>(by cases hx)⟩
  simp only [cFa,List.mem_singleton] at hx
  subst hx
  exact hn
 refine ret_at mixed (orcC_at op d s t m h1 h2 hm neg hn) hT hF rfl rfl rfl («as»:=[(⟨op,d,s,t,m⟩ : Ins).v]) (u:=.int .u32 (wordS op d s t (vN (formB op) m))) rfl ?_ w
 show Value.int .u32 (ibin .add .u32 (ibin .add .u32 (ibin .add .u32 (ibin .add .u32 ((baseB op:Nat) : Int) (IntKind.u32.wrap (ibin .mul .i64 (d:Int) 128))) (IntKind.u32.wrap (ibin .mul .i64 (s:Int) 32768))) (IntKind.u32.wrap (ibin .mul .i64 (t:Int) 1048576))) ((scatN (placesF (formB op)) (vN (formB op) m) : Nat) : Int))=_
 obtain ⟨d1,s1,t1,-,-,-⟩:=hR
 rw [mul_small (by omega),mul_small (by omega),mul_small (by omega)]
 unfold wordS at hlt ⊢
 generalize scatN (placesF (formB op)) (vN (formB op) m)=x at *
 generalize baseB op=y at *
 have ea:∀ a b:Int,ibin .add .u32 a b=IntKind.u32.wrap (a+b):=fun a b=>by unfold ibin abin; simp only; rw [if_neg (by simp)]
 rw [ea,ea,ea,ea]
 simp only [IntKind.wrap_u32]
 congr 1
 omega
end Go.Proofs.YtoehlmiadiiimaaGreatDoor

/-
  Words: what the document reads of a word, for an operation that is tried: by the executor; and all operations: by the walk.
-/
namespace Go.Proofs.YtoehlmiadiiimaaGreatDoor
open Go.ChangeShapes Go.WideShapes Go.RowKit Go.Proofs.YtoehlmiadiiimaaGreatDoor.Ex
def rReg (has:Bool) (p:Nat) : AV:=match has with
 | true=>.sint .i64 (.wrap .i64 (.wrap .u32 (.bin .rem .i64 (.bin .quo .i64 H0 (.lit ((2 ^ p:Nat) : Int))) (.lit 32))))
 | false=>.int .i64 0
def rS (f:Nat) (up:Bool) : SE:=match up with
 | true=>.bin .sub .i64 VX (.lit ((2 ^ (placesF f).length:Nat) : Int))
 | false=>VX
def rI (f:Nat) (up:Bool) : SE:=match kindF f with
 | 1=>rS f up
 | 2=>.bin .mul .i64 (.lit 2) (rS f up)
 | _=>VX
def rInsn (f:Nat) (up:Bool) : AV:=.agg [.sint .u8 (.var 1),rReg (regsF f).1 7,rReg (regsF f).2.1 15,rReg (regsF f).2.2 20,.sint .i64 (rI f up)]
def rTr (f:Nat) (up:Bool) : Tr:=.eq (.var 3) (.var 0) (.leaf (.tup [rInsn f up,.bool true])) (.leaf (.tup [rInsn f up,.bool false]))
def rFa (f:Nat) (up:Bool) : Fa:=match kindF f with
 | 0=>⟨[],[],[]⟩
 | _=>⟨[],[(VX,.lit ((2 ^ ((placesF f).length - 1) : Nat) : Int),!up)],[]⟩
noncomputable def orcR (f:Nat) (up:Bool) (_:Fa) : ACall:=orElse (orcLit 48 [.sint .u8 (.var 1)] (.tup [.int .u8 (Int.ofNat f),.int .i64 0])) (orElse (orcP f 156 (.var 0) (.tup [.sint .u32 (.var 2),li 0])) (orElse (orcTab 165 tab165) (orElse (orcLit 167 [rInsn f up] (.bool true)) (orElse (orcLit 168 [rInsn f up] (.sint .u32 (.var 3))) (orcTab 163 tab163)))))
theorem readTold:(formsAll.all fun f=>[false,true].all fun up=>(rTr f up).ok (Go.Proofs.YtoehlmiadiiimaaGreatDoor.Ex.runT Tryz.prog (orcR f up) 10000 0 116 [.sint .u8 (.var 1),.sint .u32 (.var 0)]) (rFa f up))=true:=by kernel_rfl
theorem kind_or' (f:Nat) (hf:f∈formsAll) : kindF f=0∨kindF f=1∨kindF f=2:=by
 have h:(formsAll.all fun f=>Nat.ble (kindF f) 2)=true:=by decide
 have:=Nat.le_of_ble_eq_true (List.all_eq_true.1 h f hf)
 omega
def upV (f V:Nat) : Bool:=!decide (V < 2 ^ ((placesF f).length - 1))
def ηR (op w:Nat) : Nat→Int:=ηl [(w:Int),(op:Int),((gatN (placesF (formB op)) w:Nat) : Int),((wordS op (regW (regsF (formB op)).1 7 w) (regW (regsF (formB op)).2.1 15 w) (regW (regsF (formB op)).2.2 20 w) (gatN (placesF (formB op)) w) : Nat) : Int)]
theorem VX_ev32 (η:Nat→Int) {V:Nat} (h2:η 2=(V:Int)) (hV:V < 4294967296) : VX.ev η φz=(V:Int):=by
 show IntKind.i64.wrap (η 2)=_
 rw [h2,IntKind.wrap_i64]; omega
theorem rReg_val (has:Bool) (p:Nat) (η:Nat→Int) {w:Nat} (h0:η 0=(w:Int)) (hw:w < 4294967296) : (rReg has p).toVal η φz=.int .i64 (regW has p w:Nat):=by
 cases has with
 | false=>rfl
 | true =>
  have e1:(SE.bin .rem .i64 (.bin .quo .i64 H0 (.lit ((2 ^ p:Nat) : Int))) (.lit 32)).ev η φz=((w / 2 ^ p % 32:Nat) : Int):=by
   rw [ev_bin,ev_bin,H0_ev32 η φz h0 hw,ev_lit,ev_lit,quo_nat _ _ (Nat.two_pow_pos p) (by omega),show (32:Int)=((32:Nat) : Int) from rfl,rem_nat _ _ (by omega)]
  show Value.int .i64 ((SE.wrap .i64 (.wrap .u32 (.bin .rem .i64 (.bin .quo .i64 H0 (.lit ((2 ^ p:Nat) : Int))) (.lit 32)))).ev η φz)=.int .i64 ((w / 2 ^ p % 32:Nat) : Int)
  have hb:w / 2 ^ p % 32 < 32:=Nat.mod_lt _ (by omega)
  rw [ev_wrap,ev_wrap,e1,wrap_self .u32 _ (by show _≤4294967295; omega),wrap_nat _ (by omega)]
theorem rS_ev (f:Nat) (η:Nat→Int) {V:Nat} (h2:η 2=(V:Int)) (hV:V < 4294967296) (hl:2 ^ (placesF f).length≤1048576) : (rS f (upV f V)).ev η φz=sgnN (placesF f).length V:=by
 have e:=VX_ev32 η h2 hV
 unfold upV sgnN
 by_cases h:V < 2 ^ ((placesF f).length - 1)
 ·rw [decide_eq_true h,if_pos h]; exact e
 ·rw [decide_eq_false h,if_neg h]
  have et:(rS f true).ev η φz=ibin .sub .i64 (VX.ev η φz) ((2 ^ (placesF f).length:Nat) : Int):=rfl
  show (rS f true).ev η φz=_
  rw [et,e]
  have es:∀ a b:Int,ibin .sub .i64 a b=IntKind.i64.wrap (a - b):=fun a b=>by unfold ibin abin; simp only; rw [if_neg (by simp)]
  rw [es,IntKind.wrap_i64]
  generalize 2 ^ (placesF f).length=q at *
  omega
theorem rI_ev (f:Nat) (hf:f∈formsAll) (η:Nat→Int) {V:Nat} (h2:η 2=(V:Int)) (hV:V < 2 ^ (placesF f).length) : (rI f (upV f V)).ev η φz=immV f V:=by
 have hl:2 ^ (placesF f).length≤2 ^ 20:=Nat.pow_le_pow_right (by omega) (places_bd f hf).2
 have hV32:V < 4294967296:=by omega
 have e:=VX_ev32 η h2 hV32
 have es:=rS_ev f η h2 hV32 (by omega)
 rcases kind_or' f hf with hk | hk | hk
 ·unfold rI immV; rw [hk]; exact e
 ·unfold rI immV; rw [hk]; exact es
 ·unfold rI immV; rw [hk]
  show ibin .mul .i64 2 ((rS f (upV f V)).ev η φz)=2*_
  rw [es]
  have hb : -1048576≤sgnN (placesF f).length V∧sgnN (placesF f).length V≤1048576:=by
   unfold sgnN
   generalize 2 ^ (placesF f).length=q at *
   split <;> omega
  exact mul_small (by omega)
theorem rInsn_val (op w:Nat) (h1:1≤op) (h2:op≤94) (hw:w < 4294967296) : (rInsn (formB op) (upV (formB op) (gatN (placesF (formB op)) w))).toVal (ηR op w) φz=(fieldsI op (formB op) w).v:=by
 have hf:=formB_mem op h1 h2
 have e1:=rReg_val (regsF (formB op)).1 7 (ηR op w) (w:=w) rfl hw
 have e2:=rReg_val (regsF (formB op)).2.1 15 (ηR op w) (w:=w) rfl hw
 have e3:=rReg_val (regsF (formB op)).2.2 20 (ηR op w) (w:=w) rfl hw
 have e4:=rI_ev (formB op) hf (ηR op w) (V:=gatN (placesF (formB op)) w) rfl (gatN_lt _ _)
 unfold rInsn
 simp only [AV.toVal,AV.toVals,e1,e2,e3,e4]
 rw [← immW_V op w _ hf hw]
 rfl
theorem orcR_at (op w:Nat) (h1:1≤op) (h2:op≤94) (hw:w < 4294967296) : OrcAt Tryz.prog 0 φz (ηR op w) (orcR (formB op) (upV (formB op) (gatN (placesF (formB op)) w))):=by
 intro F hF
 letI:Dec:=F.dec
 letI:Env:=hF.env
 have hf:=formB_mem op h1 h2
 have hv:=rInsn_val op w h1 h2 hw
 have hp:∀ up,(rInsn (formB op) up).plain=true:=fun up=>by
  have hr:∀ b p,(rReg b p).plain=true:=fun b p=>by cases b <;> rfl
  unfold rInsn
  simp [AV.plain,AV.plains,hr]
 have hps:∀ up,AV.plains [rInsn (formB op) up]=true:=fun up=>by simp [AV.plains,hp]
 refine callOK_or (orcLit_ok rfl rfl fun w'=>?_) (callOK_or (orcP_ok hf rfl fun pl w' hpl=>?_) (callOK_or ((orc_of o48 told165 φz) F _ hF) (callOK_or (orcLit_ok (hps _) rfl fun w'=>?_) (callOK_or (orcLit_ok (hps _) rfl fun w'=>?_) ((o163 φz) F _ hF)))))
 ·exact formD op h1 h2 w'
 ·exact gath_c _ hf w hw pl w' hpl
 ·have k:=mayD (fieldsI op (formB op) w) (by show op < 256; omega) w'
  have em:=fields_may op w h1 h2 hw
  have k:Calls Tryz.prog 167 #[(fieldsI op (formB op) w).v] w' fun e w''=>e=.returned (.bool (mayI (op:Int) ((regW (regsF (formB op)).1 7 w:Nat) : Int) ((regW (regsF (formB op)).2.1 15 w:Nat) : Int) ((regW (regsF (formB op)).2.2 20 w:Nat) : Int) (immW op w (formB op))))∧Below w'.heap.size w' w'':=k
  rw [em] at k
  rw [← hv] at k
  exact k
 ·obtain ⟨m1,m2⟩:=immV_may (formB op) (gatN (placesF (formB op)) w) hf (gatN_lt _ _)
  have k:=coded_c op (regW (regsF (formB op)).1 7 w) (regW (regsF (formB op)).2.1 15 w) (regW (regsF (formB op)).2.2 20 w) (immV (formB op) (gatN (placesF (formB op)) w)) h1 h2 (regs_ok _ _) m1 w'
  rw [m2,← immW_V op w _ hf hw] at k
  have k:Calls Tryz.prog 168 #[(fieldsI op (formB op) w).v] w' fun e w''=>e=.returned (.int .u32 (wordS op (regW (regsF (formB op)).1 7 w) (regW (regsF (formB op)).2.1 15 w) (regW (regsF (formB op)).2.2 20 w) (gatN (placesF (formB op)) w)))∧Below w'.heap.size w' w'':=k
  rw [← hv] at k
  exact k
theorem readD (op w:Nat) (h1:1≤op) (h2:op≤94) (hw:w < 4294967296) (W:World) :
  Calls Tryz.prog 116 #[.int .u8 op,.int .u32 w] W fun e W'=>e=.returned (.tuple #[(fieldsI op (formB op) w).v,.bool (matchO op w)])∧Below W.heap.size W W':=by
 have hf:=formB_mem op h1 h2
 have hv:=rInsn_val op w h1 h2 hw
 have hT:=List.all_eq_true.1 (List.all_eq_true.1 readTold _ hf) (upV (formB op) (gatN (placesF (formB op)) w)) (by cases upV (formB op) (gatN (placesF (formB op)) w) <;> simp)
 have hF:(rFa (formB op) (upV (formB op) (gatN (placesF (formB op)) w))).On (ηR op w) φz:=by
  unfold rFa
  split
  ·exact Fa.On.nil _ _
  ·refine ⟨fun x hx=>(by cases hx),fun x hx=>?_,fun x hx=>(by cases hx)⟩
   simp only [List.mem_singleton] at hx
   subst hx
   have hl:2 ^ (placesF (formB op)).length≤2 ^ 20:=Nat.pow_le_pow_right (by omega) (places_bd _ hf).2
   have hV:=gatN_lt (placesF (formB op)) w
   show decide (VX.ev (ηR op w) φz < ((2 ^ ((placesF (formB op)).length - 1) : Nat) : Int)) = !(upV (formB op) (gatN (placesF (formB op)) w))
   rw [VX_ev32 (ηR op w) (V:=gatN (placesF (formB op)) w) rfl (by omega)]
   unfold upV
   rw [Bool.not_not]
   exact decide_eq_decide.2 (by omega)
 have hm:=wordS_match op w h1 h2 hw
 have hp:∀ up,(rInsn (formB op) up).plain=true:=fun up=>by
  have hr:∀ b p,(rReg b p).plain=true:=fun b p=>by cases b <;> rfl
  unfold rInsn
  simp [AV.plain,AV.plains,hr]
 generalize hu:upV (formB op) (gatN (placesF (formB op)) w)=up at *
 have hat:∃ b,(rTr (formB op) up).at (ηR op w) φz=some (.tup [rInsn (formB op) up,.bool b])∧b=matchO op w:=by
  unfold rTr
  rw [at_eq]
  rw [← hm]
  by_cases hc:wordS op (regW (regsF (formB op)).1 7 w) (regW (regsF (formB op)).2.1 15 w) (regW (regsF (formB op)).2.2 20 w) (gatN (placesF (formB op)) w)=w
  ·have hi:(SE.var 3).ev (ηR op w) φz=(SE.var 0).ev (ηR op w) φz:=congrArg (fun n:Nat=>(n:Int)) hc
   rw [if_pos hi]
   exact ⟨true,rfl,(decide_eq_true hc).symm⟩
  ·have hi:¬ (SE.var 3).ev (ηR op w) φz=(SE.var 0).ev (ηR op w) φz:=fun h=>hc (Int.ofNat_inj.1 h)
   rw [if_neg hi]
   exact ⟨false,rfl,(decide_eq_false hc).symm⟩
 obtain ⟨b,ha,rfl⟩:=hat
 have hO:=orcR_at op w h1 h2 hw
 rw [hu] at hO
 refine ret_at mixed hO hT hF ha (by simp [AV.plain,AV.plains,hp]) rfl («as»:=[.int .u8 op,.int .u32 w]) (u:=.tuple #[(fieldsI op (formB op) w).v,.bool (matchO op w)]) rfl ?_ W
 show Value.tuple #[(rInsn (formB op) up).toVal (ηR op w) φz,.bool (matchO op w)]=_
 rw [hv]
end Go.Proofs.YtoehlmiadiiimaaGreatDoor

/-
  Words: what the document reads of a word: all operations, one behind the other.
-/
namespace Go.Proofs.YtoehlmiadiiimaaGreatDoor
open Go.ChangeShapes Go.WideShapes Go.RowKit Go.Proofs.YtoehlmiadiiimaaGreatDoor.Ex
set_option maxRecDepth 100000 in
set_option maxHeartbeats 2000000 in
theorem docW_c (w:Nat) (hw:w < 4294967296) (W:World) : Calls Tryz.prog 75 #[.int .u32 w] W fun e W'=>e=.returned (.tuple #[(decR w).1.v,.int .i64 (decR w).2])∧Below W.heap.size W W':=by
 have S:∀ {X:World} (b j:Nat) (u:Value),Below W.heap.size W X→W.heap.size≤b→Below W.heap.size W (X.setCell ⟨b,j,none⟩ u):=fun b j u h hb=>h.setCell (p:=⟨b,j,none⟩) hb u
 go_enter Tryz.func75,Tryz.ntmps75
 go_wp2
 go_loopw [5] (fun i wr=>∃ k:Nat,k≤94∧i=.int .u8 ((k:Int)+1)∧Below W.heap.size W wr∧Blk wr W.heap.size 57 #[.int .u8 0,.int .i64 0,.int .i64 0,.int .i64 0,.int .i64 0]∧Hid (decR w=decFrom w (94 - k) k)) (fun i _=>95 - (intOf i).toNat)
 case atStart =>
  exact ⟨0,Nat.zero_le _,rfl,(Below.refl _ _).alloc (Nat.le_refl _) _,Blk.new W 57 _,Lib.hid rfl⟩
 case round =>
  obtain ⟨k,hk,rfl,hbw,B2,HD⟩:=hrel
  have hsz:=hbw.size
  by_cases hlt:k < 94
  ·have HB:=fun W'=>Lib.hid (bitsD (k+1) (by omega) (by omega) W')
   have HR:=fun W'=>Lib.hid (readD (k+1) w (by omega) (by omega) hw W')
   rw [Int.natCast_add] at HB HR
   by_cases hc:baseB (k+1) % 128=w % 128
   ·have hc':(((baseB (k+1) : Nat) : Int) % 128 == (w:Int) % 128)=true:=by rw [beq_iff_eq]; omega
    have hc'':(((baseB (k+1) : Nat) : Int) % 128 != (w:Int) % 128)=false:=by rw [bne,hc']; rfl
    have hbb:0≤((baseB (k+1) : Nat) : Int):=Int.natCast_nonneg _
    have hfo:(fieldsI (k+1) (formB (k+1)) w).op=k+1:=rfl
    cases hm:matchO (k+1) w with
    | true =>
     have HD2:Hid (decR w=(fieldsI (k+1) (formB (k+1)) w,0)):=Lib.hid (by rw [HD.out,show 94 - k=(94 - (k+1))+1 by omega,decFrom,hm])
     rw [hm] at HR
     generalize ((baseB (k+1) : Nat) : Int)=bb at *
     generalize fieldsI (k+1) (formB (k+1)) w=fi at *
     clear hc hm hfo
     go_wp2_with fail
     refine (HB _).out.mono ?_
     rintro e w1 ⟨rfl,hb1⟩
     go_wp2_with fail
     refine (HR _).out.mono ?_
     rintro e w2 ⟨rfl,hb2⟩
     have hb12:=hb1.trans (hb2.mono hb1.size)
     have D2:=B2.below hb12 B2.lt
     have l2:=D2.lt
     have c2:∀ i,w2.cell? ⟨W.heap.size,i,none⟩=(#[.int .u8 0,.int .i64 0,.int .i64 0,.int .i64 0,.int .i64 0] : Array Value)[i]?:=D2.cell
     have f2:∀ i,w2.frozen? ⟨W.heap.size,i,none⟩=false:=D2.frozen
     have k2:∀ o i,(w2.alloc o).cell? ⟨W.heap.size,i,none⟩=(#[.int .u8 0,.int .i64 0,.int .i64 0,.int .i64 0,.int .i64 0] : Array Value)[i]?:=fun o i=>(World.cell?_alloc_lt w2 o _ l2).trans (c2 i)
     have k3:∀ o i,(w2.alloc o).frozen? ⟨W.heap.size,i,none⟩=false:=fun o i=>(World.frozen?_alloc_past _ _ _ l2).trans (f2 i)
     have hn1:¬ W.heap.size=w2.heap.size:=by omega
     have hn2:¬ w2.heap.size=W.heap.size:=by omega
     have HB4:=Lib.hid (hbw.trans (hb12.mono hsz))
     clear hb1 hb2 hb12 B2 D2 hbw HB HR
     go_wp2
     try rw [Exit.noGoto_ret]
     refine bodyPost_ret (v:=.tuple #[fi.v,.int .i64 0]) (by simp [results,Tryz.results75,go_sem,c2,World.cell?_alloc_lt,l2]) rfl ?_
     refine ⟨by rw [HD2.out],?_⟩
     exact (S _ _ _ (S _ _ _ (S _ _ _ (S _ _ _ (S _ _ _ HB4.out (Nat.le_refl _)) (Nat.le_refl _)) (Nat.le_refl _)) (Nat.le_refl _)) (Nat.le_refl _)).alloc (by simp; omega) _
    | false =>
     have HD2:Hid (decR w=decFrom w (94 - (k+1)) (k+1)):=Lib.hid (by rw [HD.out,show 94 - k=(94 - (k+1))+1 by omega,decFrom,hm])
     rw [hm] at HR
     generalize ((baseB (k+1) : Nat) : Int)=bb at *
     generalize fieldsI (k+1) (formB (k+1)) w=fi at *
     clear hc hm hfo
     go_wp2_with fail
     refine (HB _).out.mono ?_
     rintro e w1 ⟨rfl,hb1⟩
     go_wp2_with fail
     refine (HR _).out.mono ?_
     rintro e w2 ⟨rfl,hb2⟩
     have hb12:=hb1.trans (hb2.mono hb1.size)
     have hz2:=hb12.size
     clear hb1 hb2
     go_wp2
     go_roundw
     case rel=>exact ⟨k+1,by omega,by go_num,(hbw.trans (hb12.mono hsz)).alloc (by omega) _,(B2.below hb12 B2.lt).alloc _,HD2⟩
     case measure=>simp [intOf]; omega
   ·have hm:=match_code (k+1) w (by omega) (by omega) hw hc
    have HD2:Hid (decR w=decFrom w (94 - (k+1)) (k+1)):=Lib.hid (by rw [HD.out,show 94 - k=(94 - (k+1))+1 by omega,decFrom,hm])
    have hc':(((baseB (k+1) : Nat) : Int) % 128 == (w:Int) % 128)=false:=by rw [beq_eq_false_iff_ne]; omega
    have hc'':(((baseB (k+1) : Nat) : Int) % 128 != (w:Int) % 128)=true:=by rw [bne,hc']; rfl
    have hbb:0≤((baseB (k+1) : Nat) : Int):=Int.natCast_nonneg _
    generalize ((baseB (k+1) : Nat) : Int)=bb at *
    clear hm hc HR
    go_wp2_with fail
    refine (HB _).out.mono ?_
    rintro e w1 ⟨rfl,hb1⟩
    go_wp2
    go_roundw
    case rel=>exact ⟨k+1,by omega,by go_num,hbw.trans (hb1.mono hsz),B2.below hb1 B2.lt,HD2⟩
    case measure=>simp [intOf]; omega
  ·obtain rfl:k=94:=by omega
   have hd0:decR w=(⟨0,0,0,0,0⟩,40):=HD.out.trans (by rw [Nat.sub_self,decFrom])
   have HDD:=Lib.hid hd0
   clear hd0
   have c2:∀ i,wr.cell? ⟨W.heap.size,i,none⟩=(#[.int .u8 0,.int .i64 0,.int .i64 0,.int .i64 0,.int .i64 0] : Array Value)[i]?:=B2.cell
   have f2:∀ i,wr.frozen? ⟨W.heap.size,i,none⟩=false:=B2.frozen
   have HB4:=Lib.hid hbw
   clear B2 hbw
   go_wp2
   try rw [Exit.noGoto_ret]
   refine bodyPost_ret (v:=.tuple #[.agg #[.int .u8 0,.int .i64 0,.int .i64 0,.int .i64 0,.int .i64 0],.int .i64 40]) (by simp [results,Tryz.results75,go_sem,c2]) rfl ?_
   refine ⟨by rw [HDD.out]; rfl,?_⟩
   exact S _ _ _ (S _ _ _ (S _ _ _ (S _ _ _ (S _ _ _ (HB4.out) (Nat.le_refl _)) (Nat.le_refl _)) (Nat.le_refl _)) (Nat.le_refl _)) (Nat.le_refl _)
end Go.Proofs.YtoehlmiadiiimaaGreatDoor

