import Derived.Test.YtoehlmiadiiimaaGreatDoorTEncQ
import Derived.Test.YtoehlmiadiiimaaGreatDoorTEncI2
namespace Go.Proofs.YtoehlmiadiiimaaGreatDoor.Ex
open Go
section defs
variable [Dec]
def rowIs (nm:List Nat) (b:Int) (fm:List Nat) (kd:List Nat) (u:Int) (n:Nat) (r:RowL) : Bool :=
 r.name == nm && (decide ((r.base:Int)=b) && (fm == [r.form] && (kd == [r.kind] && (decide ((r.unit:Int)=u) && Nat.beq r.places.length n))))
end defs
theorem isT_some {x:Option Bool} (h:isT x=true) : x=some true:=by
 cases x with
 | none=>cases h
 | some b=>cases b with
  | false=>cases h
  | true=>rfl
theorem form_mem {r:RowL} (hr:r∈rowsL) : r.form∈RegsC.regForms:=by
 have tab:(rowsL.all fun r=>RegsC.regForms.contains r.form)=true:=by decide
 simpa using List.all_eq_true.1 tab r hr
theorem right_eq {r:RowL} (hr:r∈rowsL) {d s t m:Int} (hm:mayI r.op d s t m=true) : rightV r.form d s t=regsOk r.form d s t:=by
 obtain ⟨hz,-⟩:=may_facts hr hm
 have h1:=rightV_P r.form (form_mem hr) d s t
 have h2:=regsOk_P r.form (form_mem hr) d s t
 cases e1:rightV r.form d s t <;> cases e2:regsOk r.form d s t <;> simp_all
theorem str_eq {ρ:Rho} [Dec] [Env] {l:List Nat} {v:Value} (h:VR ρ (.str l) v) : v=.string ⟨(l.map UInt8.ofNat).toArray⟩:=by
 cases h with
 | str s _ e =>
  subst e
  obtain ⟨⟨l⟩⟩:=s
  have:(UInt8.ofNat ∘ UInt8.toNat)=id:=by funext b; simp
  simp [this]
section
variable [Dec] [Env]
end
end Go.Proofs.YtoehlmiadiiimaaGreatDoor.Ex
namespace Go.Proofs.YtoehlmiadiiimaaGreatDoor.Ex
open Go
def lowT (f:Nat) : SE:=match f with
 | 97=>.bin .sub .i64 (.var 0) (.lit 8)
 | 108=>.bin .sub .i64 (.var 0) (.lit 8)
 | 115=>.bin .sub .i64 (.var 2) (.lit 8)
 | 109=>.bin .sub .i64 (.var 2) (.lit 8)
 | 118=>.var 2
 | 100=>.var 2
 | 116=>.var 2
 | _=>.lit 0
def highT (f:Nat) : SE:=match f with
 | 108=>.bin .sub .i64 (.var 1) (.lit 8)
 | 115=>.bin .sub .i64 (.var 1) (.lit 8)
 | 114=>.var 0
 | 122=>.var 0
 | 117=>.var 0
 | 119=>.var 0
 | 113=>.bin .sub .i64 (.var 0) (.lit 8)
 | 109=>.bin .sub .i64 (.var 0) (.lit 8)
 | 98=>.bin .sub .i64 (.var 1) (.lit 8)
 | 74=>.var 1
 | 75=>.var 1
 | 118=>.var 0
 | 100=>.var 0
 | _=>.lit 0
def addA (x y:SE) : SE:=match x,y with
 | .lit m,.lit n=>.lit (m+n)
 | x,y=>.bin .add .i64 x y
def mulA (c:Int) (x:SE) : SE:=match x with
 | .lit n=>.lit (c*n)
 | x=>.bin .mul .i64 (.lit c) x
def sc5 (V:SE) : List Nat→Nat→SE→SE
 | [],_,acc=>acc
 | p :: ps,i,acc=>sc5 V ps (i+1) (.bin .add .i64 acc (.bin .mul .i64 (.wrap .i64 (.wrap .u32 (.bin .rem .i64 (.bin .quo .i64 V (.lit ((2 ^ i:Nat) : Int))) (.lit 2)))) (.lit ((2 ^ p:Nat) : Int))))
def nT (r:RowL) (V:SE) : SE:=match r.places with
 | []=>.lit 0
 | _=>.wrap .i64 (.wrap .u32 (sc5 V r.places 0 (.lit 0)))
def sumT (r:RowL) (N:SE) : SE:=addA (addA (addA (.lit (r.base:Nat)) (mulA 4 (lowT r.form))) (mulA 128 (highT r.form))) N
def valA (x:SE) : AV:=match x with
 | .lit n=>.int .u16 n
 | x=>.sint .u16 (.wrap .u16 x)
def brT (leafF:SE→AV) (r:RowL) : Tr :=
 let room:Int:=((2 ^ r.places.length:Nat) : Int)
 let v0:SE:=.bin .quo .i64 (.var 3) (.lit (r.unit:Nat))
 let part (v:SE) : Tr:=let V:SE:=.wrap .i64 (.wrap .u32 (.bin .rem .i64 v (.lit room))); .lt V (.lit room) (.leaf (leafF (nT r V))) (.leaf (leafF (.lit 0)))
 .lt v0 (.lit 0) (part (.bin .add .i64 v0 (.lit room))) (part v0)
def writTr (r:RowL) : Tr:=brT (fun N=>.tup [valA (sumT r N),.int .i64 0]) r
section defs
variable [Dec]
end defs
def FW (k:Int) : Fa:=⟨[(.fn 12 eI,.lit 1,true)],opFacts,[(.fn 15 eI,k)]⟩
end Go.Proofs.YtoehlmiadiiimaaGreatDoor.Ex
namespace Go.Proofs.YtoehlmiadiiimaaGreatDoor.Ex
open Go
def sc5I (V:Int) : List Nat→Nat→Int→Int
 | [],_,acc=>acc
 | p :: ps,i,acc=>sc5I V ps (i+1) (ibin .add .i64 acc (ibin .mul .i64 (IntKind.i64.wrap (IntKind.u32.wrap (ibin .rem .i64 (ibin .quo .i64 V ((2 ^ i:Nat) : Int)) 2))) ((2 ^ p:Nat) : Int)))
def nTI (r:RowL) (V:Int) : Int:=match r.places with
 | []=>0
 | _=>IntKind.i64.wrap (IntKind.u32.wrap (sc5I V r.places 0 0))
def partI (r:RowL) (v:Int) : Int :=
 if IntKind.i64.wrap (IntKind.u32.wrap (ibin .rem .i64 v ((2 ^ r.places.length:Nat) : Int))) < ((2 ^ r.places.length:Nat) : Int) then nTI r (IntKind.i64.wrap (IntKind.u32.wrap (ibin .rem .i64 v ((2 ^ r.places.length:Nat) : Int)))) else 0
def nI (r:RowL) (m:Int) : Int :=
 if ibin .quo .i64 m (r.unit:Nat) < 0 then partI r (ibin .add .i64 (ibin .quo .i64 m (r.unit:Nat)) ((2 ^ r.places.length:Nat) : Int)) else partI r (ibin .quo .i64 m (r.unit:Nat))
theorem sc5_ev (η:Nat→Int) (φ:Nat→List Int→Int) (V:SE) : ∀ (ps:List Nat) (i:Nat) (acc:SE),(sc5 V ps i acc).ev η φ=sc5I (V.ev η φ) ps i (acc.ev η φ)
 | [],_,_=>rfl
 | _ :: ps,i,_=>sc5_ev η φ V ps (i+1) _
theorem nT_ev (η:Nat→Int) (φ:Nat→List Int→Int) (r:RowL) (V:SE) : (nT r V).ev η φ=nTI r (V.ev η φ):=by
 unfold nT nTI
 cases r.places with
 | nil=>rfl
 | cons p ps =>
  simp only
  rw [ev_wrap,ev_wrap,sc5_ev]
  rfl
theorem brT_at (leafF:SE→AV) (r:RowL) (η:Nat→Int) (φ:Nat→List Int→Int) : ∃ N,(brT leafF r).at η φ=some (leafF N)∧N.ev η φ=nI r (η 3):=by
 have part:∀ v:SE,∃ N,(Tr.lt (.wrap .i64 (.wrap .u32 (.bin .rem .i64 v (.lit ((2 ^ r.places.length:Nat) : Int))))) (.lit ((2 ^ r.places.length:Nat) : Int))
   (.leaf (leafF (nT r (.wrap .i64 (.wrap .u32 (.bin .rem .i64 v (.lit ((2 ^ r.places.length:Nat) : Int)))))))) (.leaf (leafF (.lit 0)))).at η φ=some (leafF N)∧N.ev η φ=partI r (v.ev η φ):=by
  intro v
  rw [at_lt,ev_wrap,ev_wrap,ev_bin,ev_lit]
  unfold partI
  split
  ·exact ⟨_,rfl,by rw [nT_ev,ev_wrap,ev_wrap,ev_bin,ev_lit]⟩
  ·exact ⟨_,rfl,rfl⟩
 unfold brT nI
 simp only
 rw [at_lt,ev_bin,ev_lit,ev_lit,ev_var]
 split
 ·obtain ⟨N,h1,h2⟩:=part (.bin .add .i64 (.bin .quo .i64 (.var 3) (.lit (r.unit:Nat))) (.lit ((2 ^ r.places.length:Nat) : Int)))
  exact ⟨N,h1,h2⟩
 ·obtain ⟨N,h1,h2⟩:=part (.bin .quo .i64 (.var 3) (.lit (r.unit:Nat)))
  exact ⟨N,h1,h2⟩
def lowI (f:Nat) (d t:Int) : Int:=match f with
 | 97=>d - 8
 | 108=>d - 8
 | 115=>t - 8
 | 109=>t - 8
 | 118=>t
 | 100=>t
 | 116=>t
 | _=>0
def highI (f:Nat) (d s:Int) : Int:=match f with
 | 108=>s - 8
 | 115=>s - 8
 | 114=>d
 | 122=>d
 | 117=>d
 | 119=>d
 | 113=>d - 8
 | 109=>d - 8
 | 98=>s - 8
 | 74=>s
 | 75=>s
 | 118=>d
 | 100=>d
 | _=>0
def sm (n:Int) : Prop:=-1048576≤n∧n≤1048576
theorem add_small {a b:Int} (ha:sm a) (hb:sm b) : ibin .add .i64 a b=a+b:=by
 obtain ⟨a1,a2⟩:=ha
 obtain ⟨b1,b2⟩:=hb
 have e:ibin .add .i64 a b=IntKind.i64.wrap (a+b):=by
  unfold ibin abin; simp only; rw [if_neg (by simp)]
 rw [e,wrap_small _ (by omega)]
theorem sub_small {a b:Int} (ha:sm a) (hb:sm b) : ibin .sub .i64 a b=a - b:=by
 obtain ⟨a1,a2⟩:=ha
 obtain ⟨b1,b2⟩:=hb
 have e:ibin .sub .i64 a b=IntKind.i64.wrap (a - b):=by
  unfold ibin abin; simp only; rw [if_neg (by simp)]
 rw [e,wrap_small _ (by omega)]
theorem mul_small {c a:Int} (h : -9223372036854775808≤c*a∧c*a≤9223372036854775807) : ibin .mul .i64 c a=c*a:=by
 have e:ibin .mul .i64 c a=IntKind.i64.wrap (c*a):=by
  unfold ibin abin; simp only; rw [if_neg (by simp)]
 rw [e,wrap_small _ h]
theorem addA_ev {η:Nat→Int} {φ:Nat→List Int→Int} {x y:SE} (hx:sm (x.ev η φ)) (hy:sm (y.ev η φ)) : (addA x y).ev η φ=x.ev η φ+y.ev η φ:=by
 unfold addA
 split
 ·rfl
 ·rw [ev_bin,add_small hx hy]
theorem mulA_ev {η:Nat→Int} {φ:Nat→List Int→Int} {c:Int} {x:SE} (h : -9223372036854775808≤c*x.ev η φ∧c*x.ev η φ≤9223372036854775807) : (mulA c x).ev η φ=c*x.ev η φ:=by
 unfold mulA
 split
 ·rfl
 ·rw [ev_bin,ev_lit,mul_small h]
theorem lowT_ev (f:Nat) (hf:f∈RegsC.regForms) {d s t m op:Int} (hd:r31 d) (ht:r31 t) : (lowT f).ev (ηl [d,s,t,m,op]) φ0=lowI f d t:=by
 obtain ⟨d1,d2⟩:=hd
 obtain ⟨t1,t2⟩:=ht
 have s8:∀ n:Int,0≤n∧n≤31→ibin .sub .i64 n 8=n - 8:=fun n h=>sub_small (by constructor <;> omega) (by constructor <;> omega)
 simp only [RegsC.regForms,List.mem_cons,List.not_mem_nil,or_false] at hf
 rcases hf with rfl | rfl | rfl | rfl | rfl | rfl | rfl | rfl | rfl | rfl | rfl | rfl | rfl | rfl | rfl | rfl | rfl | rfl <;> first
  | rfl
  | exact s8 _ (by constructor <;> assumption)
theorem highT_ev (f:Nat) (hf:f∈RegsC.regForms) {d s t m op:Int} (hd:r31 d) (hs:r31 s) : (highT f).ev (ηl [d,s,t,m,op]) φ0=highI f d s:=by
 obtain ⟨d1,d2⟩:=hd
 obtain ⟨t1,t2⟩:=hs
 have s8:∀ n:Int,0≤n∧n≤31→ibin .sub .i64 n 8=n - 8:=fun n h=>sub_small (by constructor <;> omega) (by constructor <;> omega)
 simp only [RegsC.regForms,List.mem_cons,List.not_mem_nil,or_false] at hf
 rcases hf with rfl | rfl | rfl | rfl | rfl | rfl | rfl | rfl | rfl | rfl | rfl | rfl | rfl | rfl | rfl | rfl | rfl | rfl <;> first
  | rfl
  | exact s8 _ (by constructor <;> assumption)
theorem ib_K (op:BinOp) (k:IntKind) (a b n:Int) (h:ibinK op k a k b=some (.int k n)) : ibin op k a b=n:=by
 unfold ibin
 rw [← ibinK_eq,h]
theorem add_K (k:IntKind) (a b:Int) : ibin .add k a b=wrapK k (iadd a b):=ib_K _ _ _ _ _ (by
 show ck (kbeq k k) (some (.int k (wrapK k (iadd a b))))=_
 rw [ck_eq,if_neg (by simp)])
theorem mul_K (k:IntKind) (a b:Int) : ibin .mul k a b=wrapK k (imul a b):=ib_K _ _ _ _ _ (by
 show ck (kbeq k k) (some (.int k (wrapK k (imul a b))))=_
 rw [ck_eq,if_neg (by simp)])
theorem and_K (k:IntKind) (a b:Int) : ibin .and k a b=iand k a b:=ib_K _ _ _ _ _ (by
 show ck (kbeq k k) (some (.int k (iand k a b)))=_
 rw [ck_eq,if_neg (by simp)])
theorem quo_K (k:IntKind) (a b:Int) (h:b≠0) : ibin .quo k a b=iquo k a b:=ib_K _ _ _ _ _ (by
 show ck (kbeq k k) (nk (ieqb b (.ofNat 0)) (some (.int k (iquo k a b))))=_
 rw [ck_eq,if_neg (by simp),nk_eq,if_neg h])
theorem rem_K (k:IntKind) (a b:Int) (h:b≠0) : ibin .rem k a b=irem a b:=ib_K _ _ _ _ _ (by
 show ck (kbeq k k) (nk (ieqb b (.ofNat 0)) (some (.int k (irem a b))))=_
 rw [ck_eq,if_neg (by simp),nk_eq,if_neg h])
theorem shl_K (k:IntKind) (a b:Int) (h:¬ b < 0) : ibin .shl k a b=ishl k a b:=ib_K _ _ _ _ _ (by
 show nk (iltb b (.ofNat 0)) (some (.int k (ishl k a b)))=_
 rw [nk_lt,if_neg h])
theorem shr_K (k:IntKind) (a b:Int) (h:¬ b < 0) : ibin .shr k a b=ishr k a b:=ib_K _ _ _ _ _ (by
 show nk (iltb b (.ofNat 0)) (some (.int k (ishr k a b)))=_
 rw [nk_lt,if_neg h])
noncomputable def scatK (v:Int) (ps:List Nat) : Nat→Int→Int :=
 List.rec (motive:=fun _=>Nat→Int→Int) (fun _ acc=>acc) (fun p _ ih i acc=>ih (Nat.succ i) (ior .u32 acc (ishl .u32 (iand .u32 (ishr .u32 v (.ofNat i)) (.ofNat (nat_lit 1))) (.ofNat p)))) ps
theorem scatK_eq (v:Int) : ∀ (ps:List Nat) (i:Nat) (acc:Int),scatK v ps i acc=scat v ps i acc
 | [],_,_=>rfl
 | p :: ps,i,acc=>by
  show scatK v ps (i+1) (ior .u32 acc (ishl .u32 (iand .u32 (ishr .u32 v (i:Nat)) 1) (p:Nat)))=scat v ps (i+1) _
  rw [scatK_eq v ps,or_K,shl_K _ _ _ (by omega),and_K,shr_K _ _ _ (by omega)]
noncomputable def sc5K (V:Int) (ps:List Nat) : Nat→Int→Int :=
 List.rec (motive:=fun _=>Nat→Int→Int) (fun _ acc=>acc) (fun p _ ih i acc=>ih (Nat.succ i) (wrapK .i64 (iadd acc (wrapK .i64 (imul (wrapK .i64 (wrapK .u32 (irem (iquo .i64 V (.ofNat (Nat.pow (nat_lit 2) i))) (.ofNat (nat_lit 2))))) (.ofNat (Nat.pow (nat_lit 2) p))))))) ps
theorem sc5K_eq (V:Int) : ∀ (ps:List Nat) (i:Nat) (acc:Int),sc5K V ps i acc=sc5I V ps i acc
 | [],_,_=>rfl
 | p :: ps,i,acc=>by
  show sc5K V ps (i+1) (wrapK .i64 (iadd acc (wrapK .i64 (imul (wrapK .i64 (wrapK .u32 (irem (iquo .i64 V ((2 ^ i:Nat) : Int)) 2))) ((2 ^ p:Nat) : Int)))))=sc5I V ps (i+1) _
  have:=Nat.two_pow_pos i
  rw [sc5K_eq V ps,add_K,mul_K,rem_K _ _ _ (by omega),quo_K _ _ _ (by omega),wrapK_eq .u32,wrapK_eq .i64 (IntKind.u32.wrap _)]
noncomputable def wVK (r:RowL) (m:Int) : Int:=List.rec (motive:=fun _=>Int) (.ofNat (nat_lit 0)) (fun _ _ _=>wrapK .u16 (scatK (numW r.kind r.unit r.places.length m) r.places (nat_lit 0) (.ofNat (nat_lit 0)))) r.places
theorem wVK_eq (r:RowL) (m:Int) : wVK r m=wV r m:=by
 unfold wVK wV
 cases r.places with
 | nil=>rfl
 | cons p ps =>
  show wrapK .u16 (scatK (numW r.kind r.unit (p :: ps).length m) (p :: ps) 0 0)=_
  rw [wrapK_eq,scatK_eq]
noncomputable def nTK (r:RowL) (V:Int) : Int:=List.rec (motive:=fun _=>Int) (.ofNat (nat_lit 0)) (fun _ _ _=>wrapK .i64 (wrapK .u32 (sc5K V r.places (nat_lit 0) (.ofNat (nat_lit 0))))) r.places
theorem nTK_eq (r:RowL) (V:Int) : nTK r V=nTI r V:=by
 unfold nTK nTI
 cases r.places with
 | nil=>rfl
 | cons p ps =>
  show wrapK .i64 (wrapK .u32 (sc5K V (p :: ps) 0 0))=_
  rw [wrapK_eq,wrapK_eq,sc5K_eq]
noncomputable def partK5 (r:RowL) (room:Int) (V:Int) : Int:=Bool.rec (motive:=fun _=>Int) (.ofNat (nat_lit 0)) (nTK r V) (iltb V room)
noncomputable def nIK (r:RowL) (room q:Int) : Int :=
 Bool.rec (motive:=fun _=>Int) (partK5 r room (wrapK .i64 (wrapK .u32 (irem q room)))) (partK5 r room (wrapK .i64 (wrapK .u32 (irem (wrapK .i64 (iadd q room)) room)))) (iltb q (.ofNat (nat_lit 0)))
theorem partK5_eq (r:RowL) (v:Int) : partK5 r ((2 ^ r.places.length:Nat) : Int) (wrapK .i64 (wrapK .u32 (irem v ((2 ^ r.places.length:Nat) : Int))))=partI r v:=by
 have:=Nat.two_pow_pos r.places.length
 unfold partK5 partI
 rw [rem_K _ _ _ (by omega),wrapK_eq .u32,wrapK_eq .i64 (IntKind.u32.wrap _),iltb_eq,nTK_eq]
 split
 ·rename_i h; rw [decide_eq_true h]
 ·rename_i h; rw [decide_eq_false h]; rfl
theorem nIK_eq (r:RowL) (hu:(r.unit:Int)≠0) (m:Int) : nIK r ((2 ^ r.places.length:Nat) : Int) (iquo .i64 m (r.unit:Nat))=nI r m:=by
 unfold nIK nI
 rw [partK5_eq,partK5_eq,iltb_eq,quo_K _ _ _ hu,add_K]
 split
 ·rename_i h; rw [decide_eq_true (show iquo .i64 m (r.unit:Nat) < Int.ofNat 0 from h)]
 ·rename_i h; rw [decide_eq_false (show ¬ iquo .i64 m (r.unit:Nat) < Int.ofNat 0 from h)]
noncomputable def inR (x:Int) : Bool:=Int.rec (motive:=fun _=>Bool) (fun n=>Nat.ble n (nat_lit 65535)) (fun _=>false) x
theorem inR_eq {x:Int} (h:inR x=true) : 0≤x∧x≤65535:=by
 cases x with
 | negSucc n=>cases h
 | ofNat n =>
  have:=Nat.le_of_ble_eq_true (show Nat.ble n 65535=true from h)
  constructor
  ·exact Int.natCast_nonneg n
  ·show ((n:Nat) : Int)≤65535; omega
noncomputable def sumP' (r:RowL) (d s t m:Int) : Bool :=
 Bool.rec (motive:=fun _=>Bool) true (andB (ieqb (ior .u16 (ior .u16 (r.base:Nat) (regsW r.form d s t)) (wVK r m)) (iadd (iadd (r.base:Nat) (regsW r.form d s t)) (wVK r m)))
  (andB (inR (wVK r m)) (inR (ior .u16 (ior .u16 (r.base:Nat) (regsW r.form d s t)) (wVK r m))))) (regsOk r.form d s t)
noncomputable def standP (r:RowL) (d s t:Int) : Bool :=
 Bool.rec (motive:=fun _=>Bool) true (ieqb (regsW r.form d s t) (iadd (imul 4 (lowI r.form d t)) (imul 128 (highI r.form d s)))) (regsOk r.form d s t)
noncomputable def standRow (r:RowL) : Bool:=(List.range (regN r.form).1).all fun a=>(List.range (regN r.form).2).all fun b=>standP r (regF r.form a b).1 (regF r.form a b).2.1 (regF r.form a b).2.2
noncomputable def numRow (r:RowL) : Bool:=(List.range (2 ^ r.places.length)).all fun j=>ieqb (nIK r ((2 ^ r.places.length:Nat) : Int) (iquo .i64 (r.unit*qF r.kind r.places.length j) (r.unit:Nat))) (wVK r (r.unit*qF r.kind r.places.length j))
theorem low_r (f:Nat) (hf:f∈RegsC.regForms) {d s t:Int} (h:regsP f d s t) (hd:r31 d) (hs:r31 s) (ht:r31 t) : (0≤lowI f d t∧lowI f d t≤31)∧(0≤highI f d s∧highI f d s≤31):=by
 obtain ⟨d1,d2⟩:=hd
 obtain ⟨s1,s2⟩:=hs
 obtain ⟨t1,t2⟩:=ht
 simp only [RegsC.regForms,List.mem_cons,List.not_mem_nil,or_false] at hf
 rcases hf with rfl | rfl | rfl | rfl | rfl | rfl | rfl | rfl | rfl | rfl | rfl | rfl | rfl | rfl | rfl | rfl | rfl | rfl <;> simp only [regsP] at h <;> simp only [lowI,highI] <;> omega
theorem valA_val {η:Nat→Int} {φ:Nat→List Int→Int} {x:SE} (h:0≤x.ev η φ∧x.ev η φ≤65535) : (AV.tup [valA x,.int .i64 0]).plain=true∧(AV.tup [valA x,.int .i64 0]).toVal η φ=.tuple #[.int .u16 (x.ev η φ),.int .i64 0]:=by
 unfold valA
 split
 ·exact ⟨rfl,rfl⟩
 ·refine ⟨rfl,?_⟩
  show Value.tuple #[.int .u16 (IntKind.u16.wrap (x.ev η φ)),.int .i64 0]=_
  obtain ⟨n,hn⟩ : ∃ n:Nat,x.ev η φ=(n:Int):=⟨(x.ev η φ).toNat,by omega⟩
  rw [hn] at h ⊢
  rw [wrap_self .u16 n (by show n≤65535; omega)]
theorem unit_ne {r:RowL} (hr:r∈rowsL) : (r.unit:Int)≠0:=by
 have tab:(rowsL.all fun r=>Nat.ble 1 r.unit)=true:=by decide
 have:=Nat.le_of_ble_eq_true (List.all_eq_true.1 tab r hr)
 omega
theorem writ_eq {r:RowL} (hr:r∈rowsL) (k1:allRow (sumP' r) r=true) (k2:standRow r=true) (k3:numRow r=true) {d s t m:Int} (hm:mayI r.op d s t m=true) (h1:regsOk r.form d s t=true)
  (h2:numOk r.kind r.unit r.places.length m=true) (op:Int) :
  ∃ v,(writTr r).at (ηl [d,s,t,m,op]) φ0=some v∧v.plain=true∧v.toVal (ηl [d,s,t,m,op]) φ0=.tuple #[.int .u16 (aV r d s t m),.int .i64 0]:=by
 obtain ⟨hz,hd,hs,ht,hb⟩:=may_facts hr hm
 have hp:=(regsOk_P _ (form_mem hr) _ _ _).1 h1
 obtain ⟨⟨l1,l2⟩,l3,l4⟩:=low_r _ (form_mem hr) hp hd hs ht
 have q1:=allRow_spec hr k1 hm h1 h2
 unfold sumP' at q1
 rw [h1] at q1
 replace q1:andB (ieqb (ior .u16 (ior .u16 (r.base:Nat) (regsW r.form d s t)) (wVK r m)) (iadd (iadd (r.base:Nat) (regsW r.form d s t)) (wVK r m)))
  (andB (inR (wVK r m)) (inR (ior .u16 (ior .u16 (r.base:Nat) (regsW r.form d s t)) (wVK r m))))=true:=q1
 rw [wVK_eq] at q1
 rw [andB_eq,andB_eq,Bool.and_eq_true,Bool.and_eq_true,ieqb_eq,iadd_eq,iadd_eq,beq_iff_eq] at q1
 obtain ⟨q1,q2,q3⟩:=q1
 have q2:=inR_eq q2
 have q3:=inR_eq q3
 rw [← or_K,← or_K] at q1 q3
 replace q1:aV r d s t m=(r.base:Nat)+regsW r.form d s t+wV r m:=q1
 replace q3:0≤aV r d s t m∧aV r d s t m≤65535:=q3
 have q4:regsW r.form d s t=4*lowI r.form d t+128*highI r.form d s:=by
  obtain ⟨a,ha,b,hb',e⟩:=cover_regs r.form (form_mem hr) d s t hp hz hd hs ht
  have:=List.all_eq_true.1 (List.all_eq_true.1 k2 a (List.mem_range.2 ha)) b (List.mem_range.2 hb')
  rw [← e] at this
  unfold standP at this
  simp only at this
  rw [h1] at this
  replace this:ieqb (regsW r.form d s t) (iadd (imul 4 (lowI r.form d t)) (imul 128 (highI r.form d s)))=true:=this
  rw [ieqb_eq,iadd_eq,imul_eq,imul_eq,beq_iff_eq] at this
  exact this
 have q5:nI r m=wV r m:=by
  obtain ⟨q,rfl,hq⟩:=(numOk_P _ _ _ (row_nums hr) m hb).1.1 h2
  obtain ⟨j,hj,rfl⟩:=cover_q (row_nums hr) hq
  have:=List.all_eq_true.1 k3 j (List.mem_range.2 hj)
  rw [nIK_eq r (unit_ne hr),wVK_eq,ieqb_eq,beq_iff_eq] at this
  exact this
 have hbase:(r.base:Int)≤65535:=by
  have tab:(rowsL.all fun r=>Nat.ble r.base 65535)=true:=by decide
  have:=Nat.le_of_ble_eq_true (List.all_eq_true.1 tab r hr)
  omega
 obtain ⟨N,e1,e2⟩:=brT_at (fun N=>.tup [valA (sumT r N),.int .i64 0]) r (ηl [d,s,t,m,op]) φ0
 have e2:N.ev (ηl [d,s,t,m,op]) φ0=wV r m:=by rw [e2,← q5]; rfl
 have el:=lowT_ev r.form (form_mem hr) (s:=s) (m:=m) (op:=op) hd ht
 have eh:=highT_ev r.form (form_mem hr) (t:=t) (m:=m) (op:=op) hd hs
 have es:(sumT r N).ev (ηl [d,s,t,m,op]) φ0=aV r d s t m:=by
  unfold sumT
  have m1:(mulA 4 (lowT r.form)).ev (ηl [d,s,t,m,op]) φ0=4*lowI r.form d t:=by rw [mulA_ev (by rw [el]; omega),el]
  have m2:(mulA 128 (highT r.form)).ev (ηl [d,s,t,m,op]) φ0=128*highI r.form d s:=by rw [mulA_ev (by rw [eh]; omega),eh]
  have b0:(SE.lit ((r.base:Nat) : Int)).ev (ηl [d,s,t,m,op]) φ0=(r.base:Nat):=rfl
  have a1:(addA (.lit ((r.base:Nat) : Int)) (mulA 4 (lowT r.form))).ev (ηl [d,s,t,m,op]) φ0=(r.base:Nat)+4*lowI r.form d t:=by
   rw [addA_ev (by rw [b0]; constructor <;> omega) (by rw [m1]; constructor <;> omega),b0,m1]
  have a2:(addA (addA (.lit ((r.base:Nat) : Int)) (mulA 4 (lowT r.form))) (mulA 128 (highT r.form))).ev (ηl [d,s,t,m,op]) φ0=(r.base:Nat)+4*lowI r.form d t+128*highI r.form d s:=by
   rw [addA_ev (by rw [a1]; constructor <;> omega) (by rw [m2]; constructor <;> omega),a1,m2]
  rw [addA_ev (by rw [a2]; constructor <;> omega) (by rw [e2]; constructor <;> omega),a2,e2,q1,q4]
  omega
 obtain ⟨p1,p2⟩:=valA_val (η:=ηl [d,s,t,m,op]) (φ:=φ0) (x:=sumT r N) (by rw [es]; exact q3)
 rw [es] at p2
 exact ⟨_,e1,p1,p2⟩
section
variable [Dec] [Env]
end
theorem sel_index {op d s t m:Int} : ∀ {rs:List RowL} {k k':Nat} {r:RowL},sel op d s t m rs k=some (k',r)→k≤k'∧rs[k' - k]?=some r
 | [],_,_,_,h=>by cases h
 | x :: rs,k,k',r,h=>by
  unfold sel at h
  split at h
  ·simp only [Option.some.injEq,Prod.mk.injEq] at h
   obtain ⟨rfl,rfl⟩:=h
   exact ⟨Nat.le_refl _,by rw [Nat.sub_self]; rfl⟩
  ·obtain ⟨h1,h2⟩:=sel_index h
   refine ⟨by omega,?_⟩
   obtain ⟨n,hn⟩ : ∃ n,k' - k=n+1:=⟨k' - k - 1,by omega⟩
   rw [hn,List.getElem?_cons_succ,← h2]
   congr 1
   omega
theorem sel_facts {op d s t m:Int} : ∀ {rs:List RowL} {k k':Nat} {r:RowL},sel op d s t m rs k=some (k',r)→r∈rs∧(r.op:Int)=op∧regsOk r.form d s t=true∧numOk r.kind r.unit r.places.length m=true
 | [],_,_,_,h=>by cases h
 | x :: rs,k,k',r,h=>by
  unfold sel at h
  split at h
  ·rename_i hc
   simp only [Option.some.injEq,Prod.mk.injEq] at h
   obtain ⟨-,rfl⟩:=h
   simp only [Bool.and_eq_true,decide_eq_true_eq] at hc
   exact ⟨List.mem_cons_self,hc.1,hc.2.1,hc.2.2⟩
  ·obtain ⟨h1,h2⟩:=sel_facts h
   exact ⟨List.mem_cons_of_mem _ h1,h2⟩
end Go.Proofs.YtoehlmiadiiimaaGreatDoor.Ex
namespace Go.Proofs.YtoehlmiadiiimaaGreatDoor.Ex
open Go
noncomputable def rawIs (x:Int) (op d s t m:Int) : Bool :=
 Int.rec (motive:=fun _=>Bool) (fun n=>andB (Nat.ble (Nat.succ n) (nat_lit 65536)) (andB (Nat.ble (Nat.succ (clsN n)) (nat_lit 39)) ((rawTr (clsN n)).isK (.ofNat n) op d s t m))) (fun _=>false) x
noncomputable def rawP (r:RowL) (d s t m:Int) : Bool :=
 Bool.rec (motive:=fun _=>Bool) true (Bool.rec (motive:=fun _=>Bool) true (rawIs (ior .u16 (ior .u16 (r.base:Nat) (regsW r.form d s t)) (wVK r m)) r.op d s t m) (numOk r.kind r.unit r.places.length m)) (regsOk r.form d s t)
theorem raw_spec {r:RowL} (hr:r∈rowsL) (h:allRow (rawP r) r=true) {d s t m:Int} (hm:mayI r.op d s t m=true) (h1:regsOk r.form d s t=true) (h2:numOk r.kind r.unit r.places.length m=true) :
  ∃ n:Nat,aV r d s t m=(n:Int)∧n < 65536∧rawR n=⟨r.op,d,s,t,m⟩:=by
 have h:=allRow_spec hr h hm h1 h2
 unfold rawP at h
 rw [h1,h2] at h
 replace h:rawIs (ior .u16 (ior .u16 (r.base:Nat) (regsW r.form d s t)) (wVK r m)) r.op d s t m=true:=h
 have e:aV r d s t m=ior .u16 (ior .u16 (r.base:Nat) (regsW r.form d s t)) (wVK r m):=by unfold aV; rw [or_K,or_K,wVK_eq]
 rw [← e] at h
 cases hx:aV r d s t m with
 | negSucc n=>rw [hx] at h; cases h
 | ofNat n =>
  rw [hx] at h
  replace h:andB (Nat.ble (Nat.succ n) 65536) (andB (Nat.ble (Nat.succ (clsN n)) 39) ((rawTr (clsN n)).isK (.ofNat n) r.op d s t m))=true:=h
  rw [andB_eq,andB_eq,Bool.and_eq_true,Bool.and_eq_true] at h
  obtain ⟨q1,q2,q3⟩:=h
  exact ⟨n,rfl,Nat.le_of_ble_eq_true q1,isK_spec _ _ (rawTr_pure _ (Nat.le_of_ble_eq_true q2)) q3⟩
end Go.Proofs.YtoehlmiadiiimaaGreatDoor.Ex
namespace Go.Proofs.YtoehlmiadiiimaaGreatDoor.Ex
theorem raws0_0:(((rowsL.drop 0).take 1).all fun r=>allRow (rawP r) r)=true:=by kernel_rfl
theorem raws0_1:(((rowsL.drop 1).take 1).all fun r=>allRow (rawP r) r)=true:=by kernel_rfl
theorem raws0_2:(((rowsL.drop 2).take 1).all fun r=>allRow (rawP r) r)=true:=by kernel_rfl
theorem raws0_3:(((rowsL.drop 3).take 1).all fun r=>allRow (rawP r) r)=true:=by kernel_rfl
theorem raws0:((grp 0).all fun r=>allRow (rawP r) r)=true:=by
 have e:grp 0=(rowsL.drop 0).take 1 ++ ((rowsL.drop 1).take 1 ++ ((rowsL.drop 2).take 1 ++ (rowsL.drop 3).take 1)):=rfl
 rw [e,List.all_append,List.all_append,List.all_append,raws0_0,raws0_1,raws0_2,raws0_3]
 rfl
theorem raws1_0:(((rowsL.drop 4).take 1).all fun r=>allRow (rawP r) r)=true:=by kernel_rfl
theorem raws1_1:(((rowsL.drop 5).take 1).all fun r=>allRow (rawP r) r)=true:=by kernel_rfl
theorem raws1_2:(((rowsL.drop 6).take 1).all fun r=>allRow (rawP r) r)=true:=by kernel_rfl
theorem raws1_3:(((rowsL.drop 7).take 1).all fun r=>allRow (rawP r) r)=true:=by kernel_rfl
theorem raws1:((grp 1).all fun r=>allRow (rawP r) r)=true:=by
 have e:grp 1=(rowsL.drop 4).take 1 ++ ((rowsL.drop 5).take 1 ++ ((rowsL.drop 6).take 1 ++ (rowsL.drop 7).take 1)):=rfl
 rw [e,List.all_append,List.all_append,List.all_append,raws1_0,raws1_1,raws1_2,raws1_3]
 rfl
end Go.Proofs.YtoehlmiadiiimaaGreatDoor.Ex
namespace Go.Proofs.YtoehlmiadiiimaaGreatDoor.Ex
theorem raws2_0:(((rowsL.drop 8).take 1).all fun r=>allRow (rawP r) r)=true:=by kernel_rfl
theorem raws2_1:(((rowsL.drop 9).take 1).all fun r=>allRow (rawP r) r)=true:=by kernel_rfl
theorem raws2_2:(((rowsL.drop 10).take 1).all fun r=>allRow (rawP r) r)=true:=by kernel_rfl
theorem raws2_3:(((rowsL.drop 11).take 1).all fun r=>allRow (rawP r) r)=true:=by kernel_rfl
theorem raws2:((grp 2).all fun r=>allRow (rawP r) r)=true:=by
 have e:grp 2=(rowsL.drop 8).take 1 ++ ((rowsL.drop 9).take 1 ++ ((rowsL.drop 10).take 1 ++ (rowsL.drop 11).take 1)):=rfl
 rw [e,List.all_append,List.all_append,List.all_append,raws2_0,raws2_1,raws2_2,raws2_3]
 rfl
theorem raws3:((grp 3).all fun r=>allRow (rawP r) r)=true:=by kernel_rfl
theorem raws4:((grp 4).all fun r=>allRow (rawP r) r)=true:=by kernel_rfl
end Go.Proofs.YtoehlmiadiiimaaGreatDoor.Ex
namespace Go.Proofs.YtoehlmiadiiimaaGreatDoor.Ex
theorem raws5_0:(((rowsL.drop 20).take 1).all fun r=>allRow (rawP r) r)=true:=by kernel_rfl
theorem raws5_1:(((rowsL.drop 21).take 1).all fun r=>allRow (rawP r) r)=true:=by kernel_rfl
theorem raws5_2:(((rowsL.drop 22).take 1).all fun r=>allRow (rawP r) r)=true:=by kernel_rfl
theorem raws5_3:(((rowsL.drop 23).take 1).all fun r=>allRow (rawP r) r)=true:=by kernel_rfl
theorem raws5:((grp 5).all fun r=>allRow (rawP r) r)=true:=by
 have e:grp 5=(rowsL.drop 20).take 1 ++ ((rowsL.drop 21).take 1 ++ ((rowsL.drop 22).take 1 ++ (rowsL.drop 23).take 1)):=rfl
 rw [e,List.all_append,List.all_append,List.all_append,raws5_0,raws5_1,raws5_2,raws5_3]
 rfl
theorem raws6_0:(((rowsL.drop 24).take 1).all fun r=>allRow (rawP r) r)=true:=by kernel_rfl
theorem raws6_1:(((rowsL.drop 25).take 1).all fun r=>allRow (rawP r) r)=true:=by kernel_rfl
theorem raws6_2:(((rowsL.drop 26).take 1).all fun r=>allRow (rawP r) r)=true:=by kernel_rfl
theorem raws6_3:(((rowsL.drop 27).take 1).all fun r=>allRow (rawP r) r)=true:=by kernel_rfl
theorem raws6:((grp 6).all fun r=>allRow (rawP r) r)=true:=by
 have e:grp 6=(rowsL.drop 24).take 1 ++ ((rowsL.drop 25).take 1 ++ ((rowsL.drop 26).take 1 ++ (rowsL.drop 27).take 1)):=rfl
 rw [e,List.all_append,List.all_append,List.all_append,raws6_0,raws6_1,raws6_2,raws6_3]
 rfl
end Go.Proofs.YtoehlmiadiiimaaGreatDoor.Ex
namespace Go.Proofs.YtoehlmiadiiimaaGreatDoor.Ex
theorem raws7:((grp 7).all fun r=>allRow (rawP r) r)=true:=by kernel_rfl
theorem raws8:((grp 8).all fun r=>allRow (rawP r) r)=true:=by kernel_rfl
end Go.Proofs.YtoehlmiadiiimaaGreatDoor.Ex
namespace Go.Proofs.YtoehlmiadiiimaaGreatDoor.Ex
theorem raws_all:∀ r∈rowsL,(fun r=>allRow (rawP r) r=true) r:=by
 refine grp_mem fun k hk r hr=>?_
 match k,hk with
 | 0,_=>exact List.all_eq_true.1 raws0 r hr
 | 1,_=>exact List.all_eq_true.1 raws1 r hr
 | 2,_=>exact List.all_eq_true.1 raws2 r hr
 | 3,_=>exact List.all_eq_true.1 raws3 r hr
 | 4,_=>exact List.all_eq_true.1 raws4 r hr
 | 5,_=>exact List.all_eq_true.1 raws5 r hr
 | 6,_=>exact List.all_eq_true.1 raws6 r hr
 | 7,_=>exact List.all_eq_true.1 raws7 r hr
 | 8,_=>exact List.all_eq_true.1 raws8 r hr
end Go.Proofs.YtoehlmiadiiimaaGreatDoor.Ex
namespace Go.Proofs.YtoehlmiadiiimaaGreatDoor.Ex
open Go
def opNot:AV→Bool
 | .agg [.int .u8 n,_,_,_,_]=>!(n == 22)
 | _=>false
end Go.Proofs.YtoehlmiadiiimaaGreatDoor.Ex
