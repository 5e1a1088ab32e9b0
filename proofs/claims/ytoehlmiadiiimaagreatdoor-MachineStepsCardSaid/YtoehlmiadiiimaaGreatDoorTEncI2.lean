import Derived.Test.YtoehlmiadiiimaaGreatDoorTEncH
import Derived.Test.YtoehlmiadiiimaaGreatDoorTEncQ
import Derived.Test.YtoehlmiadiiimaaGreatDoorTEncC
/-
  Short forms of instructions: the program's Half and Short.
-/
namespace Go.Proofs.YtoehlmiadiiimaaGreatDoor.Ex
open Go
section defs
variable [Dec]
def orcHalf (args:List AV) (H:AHeap) : Option (AV×AHeap) :=
 match args with
 | [i]=>(insn? i).bind fun e=>onE (.fn 113 e) 1 (fun r=>.tup [mkInt .u16 (.fn 13 e),.bool r]) H
 | _=>none
def orcEnc (args:List AV) (H:AHeap) : Option (AV×AHeap) :=
 match args with
 | [i]=>(insn? i).bind fun e=>some (.tup [mkInt .u16 (.fn 200 e),mkInt .i64 (.fn 201 e)],H)
 | _=>none
end defs
def EncC (P:Program) (f:FuncId) : Prop:=∀ op d s t m,u8R op→Ret P f [insnV op d s t m] (.tuple #[.int .u16 (encV op d s t m),.int .i64 (encE op d s t m)])
section
variable [Dec] [Env]
theorem orcHalf_ok {P:Program} {gl:Nat} {f:FuncId} (hφ:Env.φ=φ0) (hc:HalfI P f) : CallOK P gl (only f orcHalf):=by
 refine callOK_only fun args H v H' h=>?_
 unfold orcHalf at h
 split at h
 ·rename_i i
  rw [Option.bind_eq_some_iff] at h
  obtain ⟨e,he,h⟩:=h
  obtain ⟨r,hr,rfl,rfl⟩:=onE_some h
  refine ⟨rfl,fun ρ w args' hI hv=>?_⟩
  cases hv with
  | cons _ vo _ _ h1 hv =>
   cases hv
   obtain ⟨o,d,s,t,m,hr8,rfl,q⟩:=insn?_rel he h1
   rw [sev_fn,q,hφ] at hr
   have hr:halfB o d s t m=r:=by rw [← hr]; exact (b01_eq _).symm
   subst hr
   refine ⟨_,.tup _ [_,_] (.cons _ _ _ _ (mkInt_rel ρ .u16 (.fn 13 e)) (.cons _ _ _ _ (.bool _) .nil)),?_⟩
   rw [sev_fn,q,hφ]
   exact hc o d s t m hr8 w
 ·cases h
theorem orcEnc_ok {P:Program} {gl:Nat} {f:FuncId} (hφ:Env.φ=φ0) (hc:EncC P f) : CallOK P gl (only f orcEnc):=by
 refine callOK_only fun args H v H' h=>?_
 unfold orcEnc at h
 split at h
 ·rename_i i
  rw [Option.bind_eq_some_iff] at h
  obtain ⟨e,he,h⟩:=h
  simp only [Option.some.injEq,Prod.mk.injEq] at h
  obtain ⟨rfl,rfl⟩:=h
  refine ⟨rfl,fun ρ w args' hI hv=>?_⟩
  cases hv with
  | cons _ vo _ _ h1 hv =>
   cases hv
   obtain ⟨o,d,s,t,m,hr8,rfl,q⟩:=insn?_rel he h1
   refine ⟨_,.tup _ [_,_] (.cons _ _ _ _ (mkInt_rel ρ .u16 (.fn 200 e)) (.cons _ _ _ _ (mkInt_rel ρ .i64 (.fn 201 e)) .nil)),?_⟩
   rw [sev_fn,sev_fn,q,hφ]
   exact hc o d s t m hr8 w
 ·cases h
end
def eI:SE:=.pair (.var 4) (.pair (.var 0) (.pair (.var 1) (.pair (.var 2) (.var 3))))
def FU:Fa:=⟨[],opFacts,[]⟩
theorem FU_on {op:Int} (ho:u8R op) (d s t m:Int) : FU.On (ηl [d,s,t,m,op]) φ0:=⟨fun _ hx=>(by cases hx),opFacts_on ho d s t m,fun _ hx=>(by cases hx)⟩
def encTr:Tr:=.eq (.fn 12 eI) (.lit 1) (.eq (.fn 113 eI) (.lit 1) (.leaf (.tup [.sint .u16 (.fn 13 eI),.int .i64 0])) (.leaf (.tup [.int .u16 0,.int .i64 6]))) (.leaf (.tup [.int .u16 0,.int .i64 20]))
def orcK (check half:FuncId) (F:Fa) : ACall:=orElse (only check (@orcCheck F.dec)) (only half (@orcHalf F.dec))
theorem orcK_OK {P:Program} {check half:FuncId} (h1:CheckC P check) (h2:HalfI P half) : OrcOK P 0 φ0 (orcK check half) :=
 fun F _ h=>@callOK_or F.dec h.env P 0 _ _ (@orcCheck_ok F.dec h.env P 0 check rfl h1) (@orcHalf_ok F.dec h.env P 0 half rfl h2)
theorem e12 (d s t m op:Int) : (SE.fn 12 eI).ev (ηl [d,s,t,m,op]) φ0=b01 (mayI op d s t m):=rfl
theorem e113 (d s t m op:Int) : (SE.fn 113 eI).ev (ηl [d,s,t,m,op]) φ0=b01 (halfB op d s t m):=rfl
section
variable {P:Program}
theorem encC_of (hm:P.follows .mixedOrders=true) {f check half:FuncId} (c1:CheckC P check) (c2:HalfI P half) (h:encTr.ok (runT P (orcK check half) 10000 0 f [symI]) FU=true) : EncC P f:=by
 intro op d s t m ho
 have key:∃ v,encTr.at (ηl [d,s,t,m,op]) φ0=some v∧v.plain=true∧v.toVal (ηl [d,s,t,m,op]) φ0=.tuple #[.int .u16 (encV op d s t m),.int .i64 (encE op d s t m)]:=by
  unfold encTr encV encE
  rw [at_eq,e12,ev_lit]
  cases hmay:mayI op d s t m with
  | false=>rw [if_neg (by simp [b01])]; exact ⟨_,rfl,rfl,rfl⟩
  | true =>
   rw [if_pos (by simp [b01]),at_eq,e113,ev_lit]
   cases hb:halfB op d s t m with
   | false =>
    rw [if_neg (by simp [b01])]
    refine ⟨_,rfl,rfl,?_⟩
    have:halfV op d s t m=0:=by
     unfold halfB at hb; unfold halfV
     cases hs:sel op d s t m rowsL 0 with
     | none=>rfl
     | some x=>rw [hs] at hb; cases hb
    rw [this]
    rfl
   | true=>rw [if_pos (by simp [b01])]; exact ⟨_,rfl,rfl,rfl⟩
 obtain ⟨v,h1,h2,h3⟩:=key
 exact ret_of (η:=ηl [d,s,t,m,op]) hm (orcK_OK c1 c2) h (FU_on ho d s t m) h1 h2 rfl rfl h3
end
end Go.Proofs.YtoehlmiadiiimaaGreatDoor.Ex

/-
  Half words: a tree for the law CdecSize (written by a program), and what is known class by class.
-/
namespace Go.Proofs.YtoehlmiadiiimaaGreatDoor.Ex
open Go
def litJ (o d s t m:Int) : SE:=.pair (.lit o) (.pair (.lit d) (.pair (.lit s) (.pair (.lit t) (.lit m))))
def signF (ps:List Nat) : SE×SE×Bool:=(.bin .andNot .u32 (gT ps 0 (.lit 0)) (.lit ((2 ^ ps.length - 1:Nat) : Int)),.lit 0,true)
def aliveF : List (SE × Int) := [(.fn 200 (litJ 22 1 1 0 5), 0x95), (.fn 201 (litJ 22 1 1 0 5), 0), (.fn 200 (litJ 31 10 0 11 0), 0x852e), (.fn 201 (litJ 31 10 0 11 0), 0), (.fn 200 (litJ 4 0 1 0 0), 0x8082), (.fn 201 (litJ 4 0 1 0 0), 0),
   (.fn 200 (litJ 13 8 9 0 4),0x40c0),(.fn 201 (litJ 13 8 9 0 4),0),(.fn 201 (litJ 0 0 0 0 0),20),(.fn 200 (litJ 0 0 0 0 0),0)]
def FS (n:Nat) : Fa:=⟨((.bin .and .u16 (.var 0) (.lit 3)),.lit 3,decide (24≤clsOf n)) :: signedL.map signF,[],(swT,(clsOf n:Int)) :: ((if clsOf n=12 then [(whichT,((n - 31:Nat) : Int))] else []) ++ aliveF)⟩
section defs
variable [Dec]
end defs
section
variable [Dec] [Env]
end
theorem and_nat (k:IntKind) (a b:Nat) (ha:a≤kmax k) (hb:b≤kmax k) : ibin .and k (a:Int) (b:Int)=((Nat.land a b:Nat) : Int):=by
 have e:ibin .and k (a:Int) (b:Int)=k.wrap (BitVec.ofInt k.bits (a:Int) &&& BitVec.ofInt k.bits (b:Int)).toNat:=by
  unfold ibin abin; simp only; rw [if_neg (by simp)]
 rw [e,BitVec.toNat_and,ofInt_nat k a ha,ofInt_nat k b hb]
 exact wrap_self k _ (Nat.le_trans Nat.and_le_left ha)
theorem or_nat (k:IntKind) (a b:Nat) (ha:a≤kmax k) (hb:b≤kmax k) : ibin .or k (a:Int) (b:Int)=((Nat.lor a b:Nat) : Int):=by
 have e:ibin .or k (a:Int) (b:Int)=k.wrap (BitVec.ofInt k.bits (a:Int) ||| BitVec.ofInt k.bits (b:Int)).toNat:=by
  unfold ibin abin; simp only; rw [if_neg (by simp)]
 rw [e,BitVec.toNat_or,ofInt_nat k a ha,ofInt_nat k b hb]
 obtain ⟨n,hn⟩:=kmax_pow k
 have:=Nat.or_lt_two_pow (x:=a) (y:=b) (n:=n) (by have:=Nat.two_pow_pos n; omega) (by have:=Nat.two_pow_pos n; omega)
 exact wrap_self k _ (by omega)
theorem shr_nat (a p:Nat) (hp:p≤32) : ibin .shr .u32 (a:Int) (p:Int)=((a / 2 ^ p:Nat) : Int):=by
 have e:ibin .shr .u32 (a:Int) (p:Int)=(a:Int).fdiv (2 ^ (min p 32)):=by
  unfold ibin abin; simp only; rw [if_neg (by omega)]; rfl
 rw [e,Nat.min_eq_left hp]
 have e:((2:Int) ^ p)=((2 ^ p:Nat) : Int):=by rw [Int.natCast_pow]; rfl
 rw [e,Int.fdiv_eq_ediv_of_nonneg _ (Int.natCast_nonneg _)]
 rfl
theorem shl_nat (a p:Nat) (hp:p≤32) (h:a*2 ^ p≤kmax .u32) : ibin .shl .u32 (a:Int) (p:Int)=((a*2 ^ p:Nat) : Int):=by
 have e:ibin .shl .u32 (a:Int) (p:Int)=IntKind.u32.wrap ((a:Int)*2 ^ (min p 32)):=by
  unfold ibin abin; simp only; rw [if_neg (by omega)]; rfl
 rw [e,Nat.min_eq_left hp]
 have e:((a:Int)*(2:Int) ^ p)=((a*2 ^ p:Nat) : Int):=by rw [Int.natCast_mul,Int.natCast_pow]; rfl
 rw [e]
 exact wrap_self _ _ h
theorem wS_ev (h:Nat) (hh:h < 65536) (φ:Nat→List Int→Int) : wS.ev (ηl [(h:Int)]) φ=(h:Int):=wrap_self .u32 h (by show h≤4294967295; omega)
theorem bit_ev (h:Nat) (hh:h < 65536) (φ:Nat→List Int→Int) (p:Nat) (hp:p≤32) : ∃ b:Nat,b≤1∧(SE.bin .and .u32 (.bin .shr .u32 wS (.lit (p:Nat))) (.lit 1)).ev (ηl [(h:Int)]) φ=(b:Int):=by
 rw [ev_bin,ev_bin,wS_ev h hh,ev_lit,ev_lit,shr_nat h p hp]
 have hk:kmax .u32=4294967295:=rfl
 have h1:h / 2 ^ p≤kmax .u32:=Nat.le_trans (Nat.div_le_self _ _) (by omega)
 exact ⟨Nat.land (h / 2 ^ p) 1,Nat.and_le_right,and_nat .u32 _ 1 h1 (by decide)⟩
theorem gT_ev (h:Nat) (hh:h < 65536) (φ:Nat→List Int→Int) : ∀ (ps:List Nat) (i:Nat) (acc:SE) (a:Nat),(∀ p∈ps,p≤32)→i+ps.length≤20→acc.ev (ηl [(h:Int)]) φ=(a:Int)→a < 2 ^ i→∃ v:Nat,(gT ps i acc).ev (ηl [(h:Int)]) φ=(v:Int)∧v < 2 ^ (i+ps.length)
 | [],i,acc,a,_,_,ha,hb=>⟨a,ha,hb⟩
 | p :: ps,i,acc,a,hp,hl,ha,hb=>by
  have hk:kmax .u32=4294967295:=rfl
  simp only [List.length_cons] at hl ⊢
  have h20:2 ^ (i+1)≤2 ^ 20:=Nat.pow_le_pow_right (by omega) (by omega)
  have hpow:2 ^ (i+1)=2 ^ i*2:=Nat.pow_succ 2 i
  obtain ⟨b,hb1,hbe⟩:=bit_ev h hh φ p (hp p List.mem_cons_self)
  have hbi:b*2 ^ i≤2 ^ i:=by
   have:=Nat.mul_le_mul_right (2 ^ i) hb1
   omega
  have e1:(SE.bin .shl .u32 (.bin .and .u32 (.bin .shr .u32 wS (.lit (p:Nat))) (.lit 1)) (.lit (i:Nat))).ev (ηl [(h:Int)]) φ=((b*2 ^ i:Nat) : Int):=by
   rw [ev_bin,hbe,ev_lit,shl_nat b i (by omega) (by omega)]
  have e2:(SE.bin .or .u32 acc (.bin .shl .u32 (.bin .and .u32 (.bin .shr .u32 wS (.lit (p:Nat))) (.lit 1)) (.lit (i:Nat)))).ev (ηl [(h:Int)]) φ=((Nat.lor a (b*2 ^ i) : Nat) : Int):=by
   rw [ev_bin,e1,ha,or_nat .u32 _ _ (by omega) (by omega)]
  obtain ⟨v,hv,hlt⟩:=gT_ev h hh φ ps (i+1) _ _ (fun q hq=>hp q (List.mem_cons_of_mem _ hq)) (by omega) e2 (Nat.or_lt_two_pow (by omega) (by have:=Nat.two_pow_pos i; omega))
  exact ⟨v,hv,by rw [show i+(ps.length+1)=i+1+ps.length by omega]; exact hlt⟩
theorem sw_ev (h:Nat) (hh:h < 65536) (φ:Nat→List Int→Int) : swT.ev (ηl [(h:Int)]) φ=((8*(h % 4)+h / 8192:Nat) : Int):=by
 have hk:kmax .u32=4294967295:=rfl
 have tab:((List.range 4).all fun a=>(List.range 8).all fun b=>Nat.beq (Nat.lor (a*2 ^ 3) b) (8*a+b))=true:=by decide
 have h4:Nat.land h 3=h % 4:=Nat.and_two_pow_sub_one_eq_mod h 2
 unfold swT
 rw [ev_bin,ev_bin,ev_bin,ev_bin,wS_ev h hh,ev_lit,ev_lit,show (3:Int)=((3:Nat) : Int) from rfl,show (13:Int)=((13:Nat) : Int) from rfl,and_nat .u32 h 3 (by omega) (by omega),h4,shl_nat _ 3 (by omega) (by omega),shr_nat h 13 (by omega),
  or_nat .u32 _ _ (by omega) (by omega)]
 have:=Nat.eq_of_beq_eq_true (List.all_eq_true.1 (List.all_eq_true.1 tab (h % 4) (List.mem_range.2 (by omega))) (h / 8192) (List.mem_range.2 (by omega)))
 rw [show h / 2 ^ 13=h / 8192 from rfl,this]
theorem w1:encV 22 1 1 0 5=0x95:=by kernel_rfl
theorem w2:encE 22 1 1 0 5=0:=by kernel_rfl
theorem w3:encV 31 10 0 11 0=0x852e:=by kernel_rfl
theorem w4:encE 31 10 0 11 0=0:=by kernel_rfl
theorem w5:encV 4 0 1 0 0=0x8082:=by kernel_rfl
theorem w6:encE 4 0 1 0 0=0:=by kernel_rfl
theorem w7:encV 13 8 9 0 4=0x40c0:=by kernel_rfl
theorem w8:encE 13 8 9 0 4=0:=by kernel_rfl
theorem w9:encE 0 0 0 0 0=20:=by kernel_rfl
theorem w0:encV 0 0 0 0 0=0:=by kernel_rfl
theorem alive_on (η:Nat→Int) : ∀ x∈aliveF,x.1.ev η φ0=x.2:=by
 intro x hx
 simp only [aliveF,List.mem_cons,List.not_mem_nil,or_false] at hx
 rcases hx with rfl | rfl | rfl | rfl | rfl | rfl | rfl | rfl | rfl | rfl
 ·exact w1
 ·exact w2
 ·exact w3
 ·exact w4
 ·exact w5
 ·exact w6
 ·exact w7
 ·exact w8
 ·exact w9
 ·exact w0
end Go.Proofs.YtoehlmiadiiimaaGreatDoor.Ex

/-
  Half words: texts of one half word, told by the kernel with few steps.
-/
namespace Go.Proofs.YtoehlmiadiiimaaGreatDoor.Ex
open Go
noncomputable def binV (op:BinOp) (k:IntKind) (a b:Int) : Int:=Option.rec (motive:=fun _=>Int) 0 (fun v=>onInt v (fun _ n=>n) 0) (ibinF op k a k b)
theorem binV_eq (op:BinOp) (k:IntKind) (a b:Int) : binV op k a b=ibin op k a b:=by
 unfold binV ibin
 rw [ibinF_eq,ibinK_eq]
 cases abin op (.int k a) (.int k b) with
 | none=>rfl
 | some v=>cases v <;> rfl
noncomputable def SE.evK (h:Int) (e:SE) : Int :=
 SE.rec (motive:=fun _=>Int) (fun _=>h) (fun n=>n) (fun op k _ _ a b=>binV op k a b) (fun op k _ a=>iun op k a) (fun k _ a=>wrapK k a) (fun _ _ _=>0) (fun _ _ _ _=>0) e
def SE.pureH:SE→Bool
 | .var i=>Nat.beq i 0
 | .lit _=>true
 | .bin _ _ a b=>a.pureH && b.pureH
 | .un _ _ a=>a.pureH
 | .wrap _ a=>a.pureH
 | .fn _ _=>false
 | .pair _ _=>false
theorem evK_eq (h:Int) (φ:Nat→List Int→Int) : ∀ {e:SE},e.pureH=true→e.evK h=e.ev (ηh h) φ
 | .var i,hp=>by
  have:=Nat.eq_of_beq_eq_true hp
  subst this
  rfl
 | .lit n,_=>rfl
 | .bin op k a b,hp=>by
  simp only [SE.pureH,Bool.and_eq_true] at hp
  show binV op k (a.evK h) (b.evK h)=ibin op k (a.ev (ηh h) φ) (b.ev (ηh h) φ)
  rw [evK_eq h φ hp.1,evK_eq h φ hp.2,binV_eq]
 | .un op k a,hp=>by
  simp only [SE.pureH] at hp
  show iun op k (a.evK h)=iun op k (a.ev (ηh h) φ)
  rw [evK_eq h φ hp]
 | .wrap k a,hp=>by
  simp only [SE.pureH] at hp
  show wrapK k (a.evK h)=k.wrap (a.ev (ηh h) φ)
  rw [evK_eq h φ hp,wrapK_eq]
 | .fn i a,hp=>by cases hp
 | .pair a b,hp=>by cases hp
def fieldP:AV→Bool
 | .int _ _=>true
 | .sint _ e=>e.pureH
 | _=>false
def insnP:AV→Bool
 | .agg [o,d,s,t,m]=>fieldP o && (fieldP d && (fieldP s && (fieldP t && fieldP m)))
 | _=>false
def Tr.pureT:Tr→Bool
 | .leaf v=>insnP v
 | .eq a b t f=>a.pureH && b.pureH && (t.pureT && f.pureT)
 | .lt a b t f=>a.pureH && b.pureH && (t.pureT && f.pureT)
 | .bad=>true
noncomputable def fieldK (h:Int) (v:AV) : Int:=match v with
 | .int _ n=>n
 | .sint _ e=>e.evK h
 | _=>0
theorem fieldK_eq (h:Int) (φ:Nat→List Int→Int) {v:AV} (hp:fieldP v=true) : fieldK h v=fieldV (ηh h) φ v:=by
 cases v <;> first
  | rfl
  | exact evK_eq h φ hp
noncomputable def sameK (h:Int) (op d s t m:Int) (v:AV) : Bool:=match v with
 | .agg [o,d',s',t',m']=>andB (ieqb (fieldK h o) op) (andB (ieqb (fieldK h d') d) (andB (ieqb (fieldK h s') s) (andB (ieqb (fieldK h t') t) (ieqb (fieldK h m') m))))
 | _=>false
noncomputable def Tr.isK (h:Int) (op d s t m:Int) (x:Tr) : Bool :=
 Tr.rec (motive:=fun _=>Bool) (fun v=>sameK h op d s t m v) (fun a b _ _ t f=>Bool.rec (motive:=fun _=>Bool) f t (ieqb (a.evK h) (b.evK h))) (fun a b _ _ t f=>Bool.rec (motive:=fun _=>Bool) f t (iltb (a.evK h) (b.evK h))) false x
theorem isK_spec (h:Int) (φ:Nat→List Int→Int) {op d s t m:Int} : ∀ {x:Tr},x.pureT=true→x.isK h op d s t m=true→insnOf (ηh h) φ (x.at (ηh h) φ)=⟨op,d,s,t,m⟩
 | .leaf v,hp,hk=>by
  replace hk:sameK h op d s t m v=true:=hk
  replace hp:insnP v=true:=hp
  unfold insnP at hp
  split at hp
  ·rename_i o d' s' t' m'
   simp only [Bool.and_eq_true] at hp
   obtain ⟨p1,p2,p3,p4,p5⟩:=hp
   replace hk:andB (ieqb (fieldK h o) op) (andB (ieqb (fieldK h d') d) (andB (ieqb (fieldK h s') s) (andB (ieqb (fieldK h t') t) (ieqb (fieldK h m') m))))=true:=hk
   simp only [andB_eq,ieqb_eq,Bool.and_eq_true,beq_iff_eq,fieldK_eq h φ p1,fieldK_eq h φ p2,fieldK_eq h φ p3,fieldK_eq h φ p4,fieldK_eq h φ p5] at hk
   obtain ⟨e1,e2,e3,e4,e5⟩:=hk
   show InsnR.mk (fieldV (ηh h) φ o) (fieldV (ηh h) φ d') (fieldV (ηh h) φ s') (fieldV (ηh h) φ t') (fieldV (ηh h) φ m')=_
   rw [e1,e2,e3,e4,e5]
  ·cases hp
 | .eq a b x y,hp,hk=>by
  simp only [Tr.pureT,Bool.and_eq_true] at hp
  obtain ⟨⟨p1,p2⟩,p3,p4⟩:=hp
  replace hk:Bool.rec (motive:=fun _=>Bool) (y.isK h op d s t m) (x.isK h op d s t m) (ieqb (a.evK h) (b.evK h))=true:=hk
  rw [evK_eq h φ p1,evK_eq h φ p2,ieqb_eq] at hk
  rw [Tr.at]
  cases hc:(a.ev (ηh h) φ == b.ev (ηh h) φ) with
  | true=>rw [hc] at hk; exact isK_spec h φ p3 hk
  | false=>rw [hc] at hk; exact isK_spec h φ p4 hk
 | .lt a b x y,hp,hk=>by
  simp only [Tr.pureT,Bool.and_eq_true] at hp
  obtain ⟨⟨p1,p2⟩,p3,p4⟩:=hp
  replace hk:Bool.rec (motive:=fun _=>Bool) (y.isK h op d s t m) (x.isK h op d s t m) (iltb (a.evK h) (b.evK h))=true:=hk
  rw [evK_eq h φ p1,evK_eq h φ p2,iltb_eq] at hk
  rw [Tr.at]
  cases hc:decide (a.ev (ηh h) φ < b.ev (ηh h) φ) with
  | true=>rw [hc] at hk; exact isK_spec h φ p3 hk
  | false=>rw [hc] at hk; exact isK_spec h φ p4 hk
 | .bad,_,hk=>by cases hk
theorem rawTr_pure (n:Nat) (hn:n < 39) : (rawTr n).pureT=true:=by
 have h:((List.range 39).all fun n=>(rawTr n).pureT)=true:=by kernel_rfl
 exact List.all_eq_true.1 h n (List.mem_range.2 hn)
theorem ev_pure (h:Int) (φ φ':Nat→List Int→Int) {e:SE} (hp:e.pureH=true) : e.ev (ηh h) φ=e.ev (ηh h) φ':=(evK_eq h φ hp).symm.trans (evK_eq h φ' hp)
theorem field_pure (h:Int) (φ φ':Nat→List Int→Int) {v:AV} (hp:fieldP v=true) : fieldV (ηh h) φ v=fieldV (ηh h) φ' v:=(fieldK_eq h φ hp).symm.trans (fieldK_eq h φ' hp)
theorem at_pure (h:Int) (φ φ':Nat→List Int→Int) : ∀ {x:Tr},x.pureT=true→x.at (ηh h) φ=x.at (ηh h) φ'∧insnOf (ηh h) φ (x.at (ηh h) φ)=insnOf (ηh h) φ' (x.at (ηh h) φ')∧∀ v,x.at (ηh h) φ=some v→insnP v=true
 | .leaf v,hp=>by
  replace hp:insnP v=true:=hp
  refine ⟨rfl,?_,fun u hu=>by injection hu with hu; subst hu; exact hp⟩
  unfold insnP at hp
  split at hp
  ·rename_i o d s t m
   simp only [Bool.and_eq_true] at hp
   obtain ⟨p1,p2,p3,p4,p5⟩:=hp
   show InsnR.mk _ _ _ _ _=InsnR.mk _ _ _ _ _
   rw [field_pure h φ φ' p1,field_pure h φ φ' p2,field_pure h φ φ' p3,field_pure h φ φ' p4,field_pure h φ φ' p5]
  ·cases hp
 | .eq a b x y,hp=>by
  simp only [Tr.pureT,Bool.and_eq_true] at hp
  obtain ⟨⟨p1,p2⟩,p3,p4⟩:=hp
  rw [Tr.at,Tr.at,ev_pure h φ φ' p1,ev_pure h φ φ' p2]
  cases (a.ev (ηh h) φ' == b.ev (ηh h) φ') with
  | true=>exact at_pure h φ φ' p3
  | false=>exact at_pure h φ φ' p4
 | .lt a b x y,hp=>by
  simp only [Tr.pureT,Bool.and_eq_true] at hp
  obtain ⟨⟨p1,p2⟩,p3,p4⟩:=hp
  rw [Tr.at,Tr.at,ev_pure h φ φ' p1,ev_pure h φ φ' p2]
  cases decide (a.ev (ηh h) φ' < b.ev (ηh h) φ') with
  | true=>exact at_pure h φ φ' p3
  | false=>exact at_pure h φ φ' p4
 | .bad,_=>⟨rfl,rfl,fun v hv=>by cases hv⟩
end Go.Proofs.YtoehlmiadiiimaaGreatDoor.Ex

/-
  Half words: contracts and oracles of what reads them, out of a heap that is as laid.
-/
namespace Go.Proofs.YtoehlmiadiiimaaGreatDoor.Ex
open Go
section defs
variable [Dec]
def u16? (v:AV) : Option SE :=
 match (match v with
  | .int .u16 n=>some (SE.lit n)
  | .sint .u16 e=>some e
  | _=>none) with
 | some e=>if (isT (Dec.lts e (.lit 65536)) && isF (Dec.lts e (.lit 0)) && e.one)=true then some e else none
 | none=>none
def orcRaw (args:List AV) (H:AHeap) : Option (AV×AHeap) :=
 match args with
 | [x]=>(u16? x).bind fun e=>some (.agg [mkInt .u8 (.fn 190 e),mkInt .i64 (.fn 191 e),mkInt .i64 (.fn 192 e),mkInt .i64 (.fn 193 e),mkInt .i64 (.fn 194 e)],H)
 | _=>none
end defs
noncomputable def onlyL (chk:AHeap→Bool) (f:FuncId) (g:List AV→AHeap→Option (AV×AHeap)) : ACall:=fun _ f' args H=>match Nat.beq f' f && chk H with
 | true=>g args H
 | false=>none
def RetL (L:World→Prop) (P:Program) (f:FuncId) (args:List Value) (v:Value) : Prop:=∀ w,L w→Calls P f args.toArray w fun e w'=>e=.returned v∧RowKit.Below w.heap.size w w'
abbrev insnVR (i:InsnR) : Value:=.agg #[.int .u8 i.op,.int .i64 i.d,.int .i64 i.s,.int .i64 i.t,.int .i64 i.m]
def RawC (L:World→Prop) (P:Program) (f:FuncId) : Prop:=∀ h:Nat,h < 65536→RetL L P f [.int .u16 (h:Int)] (insnVR (rawR h))
def InsnC (L:World→Prop) (P:Program) (f:FuncId) : Prop:=∀ h:Nat,h < 65536→RetL L P f [.int .u16 (h:Int)] (.tuple #[insnVR (readR h),.int .i64 (readE h)])
section
variable [Dec] [Env]
theorem callOK_onlyL {P:Program} {gl:Nat} {L:World→Prop} {chk:AHeap→Bool} {f:FuncId} {g:List AV→AHeap→Option (AV×AHeap)} (hL:∀ ρ H w,chk H=true→Inv P ρ H w→GOK ρ gl→L w)
  (h:∀ args H v H',g args H=some (v,H')→H'=H∧∀ ρ w (args':List Value),Inv P ρ H w→VRs ρ args args'→L w→∃ u,VR ρ v u∧Calls P f args'.toArray w fun e w'=>e=.returned u∧RowKit.Below w.heap.size w w') : CallOK P gl (onlyL chk f g):=by
 intro lim f' args H v H' hc ρ w args' hI hv hg _
 unfold onlyL at hc
 split at hc
 ·rename_i hb
  obtain ⟨hf,hchk⟩:=Bool.and_eq_true_iff.1 hb
  have:=Nat.eq_of_beq_eq_true hf
  subst this
  obtain ⟨rfl,k⟩:=h args H v H' hc
  obtain ⟨u,hu,hcall⟩:=k ρ w args' hI hv (hL ρ _ w hchk hI hg)
  exact orc_case hI hcall hu
 ·cases hc
theorem u16?_rel {x:AV} {e:SE} {ρ:Rho} {v:Value} (h:u16? x=some e) (hv:VR ρ x v) : ∃ n:Nat,n < 65536∧sev e=(n:Int)∧v=.int .u16 (n:Int)∧e.evs Env.η Env.φ=[(n:Int)]:=by
 unfold u16? at h
 split at h
 ·rename_i e' he
  split at h
  ·rename_i hc
   injection h with h; subst h
   obtain ⟨h1,h3⟩:=Bool.and_eq_true_iff.1 hc
   obtain ⟨h1,h2⟩:=Bool.and_eq_true_iff.1 h1
   have k1:Dec.lts e' (.lit 65536)=some true:=by revert h1; cases Dec.lts e' (.lit 65536) with | none=>simp [isT] | some b=>cases b <;> simp [isT]
   have k2:Dec.lts e' (.lit 0)=some false:=by revert h2; cases Dec.lts e' (.lit 0) with | none=>simp [isF] | some b=>cases b <;> simp [isF]
   have l1:sev e' < 65536:=of_decide_eq_true (look_lt k1)
   have l2:¬ sev e' < 0:=of_decide_eq_false (look_lt k2)
   obtain ⟨n,hn⟩ : ∃ n:Nat,sev e'=(n:Int):=⟨(sev e').toNat,by omega⟩
   refine ⟨n,by omega,hn,?_,by rw [evs_one h3]; exact congrArg (fun x=>[x]) hn⟩
   rw [← hn]
   split at he
   ·injection he with he; subst he; cases hv; rfl
   ·injection he with he; subst he; cases hv; rfl
   ·cases he
  ·cases h
 ·cases h
theorem orcRaw_ok {P:Program} {gl:Nat} {L:World→Prop} {chk:AHeap→Bool} (hL:∀ ρ H w,chk H=true→Inv P ρ H w→GOK ρ gl→L w) {f:FuncId} (hφ:Env.φ=φ0) (hc:RawC L P f) : CallOK P gl (onlyL chk f orcRaw):=by
 refine callOK_onlyL hL fun args H v H' h=>?_
 unfold orcRaw at h
 split at h
 ·rename_i x
  rw [Option.bind_eq_some_iff] at h
  obtain ⟨e,he,h⟩:=h
  simp only [Option.some.injEq,Prod.mk.injEq] at h
  obtain ⟨rfl,rfl⟩:=h
  refine ⟨rfl,fun ρ w args' hI hv hw=>?_⟩
  cases hv with
  | cons _ vo _ _ h1 hv =>
   cases hv
   obtain ⟨n,hn,hs,rfl,q⟩:=u16?_rel he h1
   refine ⟨_,.agg _ [_,_,_,_,_] (.cons _ _ _ _ (mkInt_rel ρ .u8 (.fn 190 e)) (.cons _ _ _ _ (mkInt_rel ρ .i64 (.fn 191 e)) (.cons _ _ _ _ (mkInt_rel ρ .i64 (.fn 192 e)) (.cons _ _ _ _ (mkInt_rel ρ .i64 (.fn 193 e)) (.cons _ _ _ _ (mkInt_rel ρ .i64 (.fn 194 e)) .nil))))),?_⟩
   rw [sev_fn,sev_fn,sev_fn,sev_fn,sev_fn,q,hφ]
   exact hc n hn w hw
 ·cases h
end
def e19:SE:=.pair (.fn 190 (.var 0)) (.pair (.fn 191 (.var 0)) (.pair (.fn 192 (.var 0)) (.pair (.fn 193 (.var 0)) (.fn 194 (.var 0)))))
def gotV:AV:=.tup [.agg [.sint .u8 (.fn 190 (.var 0)),.sint .i64 (.fn 191 (.var 0)),.sint .i64 (.fn 192 (.var 0)),.sint .i64 (.fn 193 (.var 0)),.sint .i64 (.fn 194 (.var 0))],.int .i64 0]
def notV:AV:=.tup [.agg [.int .u8 0,.int .i64 0,.int .i64 0,.int .i64 0,.int .i64 0],.int .i64 60]
def insnTr:Tr:=.eq (.fn 201 e19) (.lit 0)
 (.eq (.fn 200 e19) (.var 0) (.leaf gotV)
   (.eq (.fn 190 (.var 0)) (.lit 22) (.eq (.fn 191 (.var 0)) (.lit 2) (.eq (.fn 192 (.var 0)) (.lit 2) (.eq (.bin .rem .i64 (.fn 194 (.var 0)) (.lit 16)) (.lit 0)
     (.eq (.fn 194 (.var 0)) (.lit 0) (.leaf notV) (.eq (.bin .shr .u16 (.var 0) (.lit 13)) (.lit 3) (.leaf gotV) (.leaf notV))) (.leaf notV)) (.leaf notV)) (.leaf notV)) (.leaf notV)))
 (.leaf notV)
def FI:Fa:=⟨[],[(.var 0,.lit 65536,true),(.var 0,.lit 0,false),(.fn 190 (.var 0),.lit 256,true),(.fn 190 (.var 0),.lit 0,false)],[]⟩
end Go.Proofs.YtoehlmiadiiimaaGreatDoor.Ex

/-
  Half words: what cdec.raw and cdec.Insn answer, plain.
-/
namespace Go.Proofs.YtoehlmiadiiimaaGreatDoor.Ex
open Go
theorem whichN_lt (h:Nat) : whichN h < 8:=by
 unfold whichN
 have h1:Nat.land (h / 4096) 1≤1:=Nat.and_le_right
 have h2:Nat.land (h / 32) 3≤3:=Nat.and_le_right
 exact Nat.or_lt_two_pow (n:=3) (by omega) (by omega)
theorem clsN_lt (h:Nat) (hh:h < 65536) : clsN h < 39:=by
 have:=whichN_lt h
 unfold clsN
 split
 ·split <;> omega
 ·omega
def opP:AV→Bool
 | .agg [.int .u8 n,_,_,_,_]=>decide (0≤n) && decide (n < 256)
 | _=>false
theorem rawR_op (h:Nat) (hh:h < 65536) : 0≤(rawR h).op∧(rawR h).op < 256:=by
 have tab:((List.range 39).all fun n=>(rawTr n).all opP)=true:=by kernel_rfl
 obtain ⟨v,hv,hk⟩:=Tr.all_at (η:=ηh h) (φ:=fun _ _=>0) (List.all_eq_true.1 tab (clsN h) (List.mem_range.2 (clsN_lt h hh)))
 unfold rawR
 rw [hv]
 unfold opP at hk
 split at hk
 ·simp only [Bool.and_eq_true,decide_eq_true_eq] at hk
  exact hk
 ·cases hk
theorem which_evN (h:Nat) (hh:h < 65536) (φ:Nat→List Int→Int) : whichT.ev (ηl [(h:Int)]) φ=(whichN h:Int):=by
 have hk:kmax .u32=4294967295:=rfl
 have e1:(SE.bin .and .u32 (.bin .shr .u32 wS (.lit 12)) (.lit 1)).ev (ηl [(h:Int)]) φ=((Nat.land (h / 2 ^ 12) 1:Nat) : Int):=by
  rw [ev_bin,ev_bin,wS_ev h hh,ev_lit,ev_lit,show (12:Int)=((12:Nat) : Int) from rfl,show (1:Int)=((1:Nat) : Int) from rfl,shr_nat h 12 (by omega)]
  exact and_nat .u32 _ 1 (Nat.le_trans (Nat.div_le_self _ _) (by omega)) (by omega)
 have e2:(SE.bin .and .u32 (.bin .shr .u32 wS (.lit 5)) (.lit 3)).ev (ηl [(h:Int)]) φ=((Nat.land (h / 2 ^ 5) 3:Nat) : Int):=by
  rw [ev_bin,ev_bin,wS_ev h hh,ev_lit,ev_lit,show (5:Int)=((5:Nat) : Int) from rfl,show (3:Int)=((3:Nat) : Int) from rfl,shr_nat h 5 (by omega)]
  exact and_nat .u32 _ 3 (Nat.le_trans (Nat.div_le_self _ _) (by omega)) (by omega)
 have h1:Nat.land (h / 2 ^ 12) 1≤1:=Nat.and_le_right
 have h3:Nat.land (h / 2 ^ 5) 3≤3:=Nat.and_le_right
 unfold whichT
 rw [ev_bin,ev_bin,e1,e2,ev_lit,show (2:Int)=((2:Nat) : Int) from rfl,shl_nat _ 2 (by omega) (by omega),or_nat .u32 _ _ (by omega) (by omega)]
 rfl
theorem FS_onN (h:Nat) (hh:h < 65536) : (FS (clsN h)).On (ηl [(h:Int)]) φ0:=by
 have hw:=which_evN h hh φ0
 have hlt:=whichN_lt h
 have hc:clsOf (clsN h)=8*(h % 4)+h / 8192∧(clsOf (clsN h)=12→clsN h - 31=whichN h):=by
  unfold clsN
  cases hb:Nat.beq (8*(h % 4)+h / 8192) 12 with
  | true =>
   have hb:=Nat.eq_of_beq_eq_true hb
   cases hk:Nat.beq (whichN h) 0 with
   | true =>
    have hk:=Nat.eq_of_beq_eq_true hk
    exact ⟨by rw [hb]; rfl,fun _=>(show (12:Nat) - 31=whichN h by omega)⟩
   | false =>
    have hk:whichN h≠0:=fun e=>by rw [e] at hk; cases hk
    simp only
    exact ⟨by unfold clsOf; rw [if_neg (by omega)]; omega,fun _=>by omega⟩
  | false =>
   have hb:8*(h % 4)+h / 8192≠12:=fun e=>by rw [e] at hb; cases hb
   simp only
   exact ⟨by unfold clsOf; rw [if_pos (by omega)],fun e=>by unfold clsOf at e; rw [if_pos (by omega)] at e; omega⟩
 obtain ⟨hc,h12⟩:=hc
 refine ⟨?_,fun x hx=>(by cases hx),?_⟩
 ·intro x hx
  rcases List.mem_cons.1 hx with rfl | hx
  ·show (ibin .and .u16 (h:Int) 3 == 3)=decide (24≤clsOf (clsN h))
   rw [show ibin .and .u16 (h:Int) 3=((h % 4:Nat) : Int) from (and_nat .u16 h 3 (by show h≤65535; omega) (by decide)).trans (by rw [show Nat.land h 3=h % 4 from Nat.and_two_pow_sub_one_eq_mod h 2]),hc]
   by_cases h3:h % 4=3
   ·rw [h3]; rw [decide_eq_true (by omega)]; rfl
   ·rw [decide_eq_false (by omega)]
    have:¬ (((h % 4:Nat) : Int)=3):=by omega
    simpa using this
  ·obtain ⟨ps,hps,rfl⟩:=List.mem_map.1 hx
   have tab:(signedL.all fun ps=>(ps.all fun p=>Nat.ble p 32) && (Nat.ble ps.length 20 && [0,5,6,8,11].contains ps.length))=true:=by decide
   have tb:=List.all_eq_true.1 tab ps hps
   simp only [Bool.and_eq_true] at tb
   obtain ⟨t1,t2,t3⟩:=tb
   obtain ⟨v,hv,hlt⟩:=gT_ev h hh φ0 ps 0 (.lit 0) 0 (fun p hp=>Nat.le_of_ble_eq_true (List.all_eq_true.1 t1 p hp)) (by have:=Nat.le_of_ble_eq_true t2; omega) rfl (by decide)
   show (ibin .andNot .u32 ((gT ps 0 (.lit 0)).ev _ _) ((2 ^ ps.length - 1:Nat) : Int) == 0)=true
   rw [hv]
   rw [Nat.zero_add] at hlt
   exact List.all_eq_true.1 (List.all_eq_true.1 mask_zero ps.length (by simpa using t3)) v (List.mem_range.2 hlt)
 ·intro x hx
  rcases List.mem_cons.1 hx with rfl | hx
  ·show swT.ev _ _=((clsOf (clsN h) : Nat) : Int)
   rw [sw_ev h hh,hc]
  ·rcases List.mem_append.1 hx with hx | hx
   ·split at hx
    ·rename_i e12
     simp only [List.mem_cons,List.not_mem_nil,or_false] at hx
     subst hx
     show whichT.ev _ _=((clsN h - 31:Nat) : Int)
     rw [hw,h12 e12]
    ·cases hx
   ·exact alive_on _ x hx
theorem FI_on (h:Nat) (hh:h < 65536) : FI.On (ηl [(h:Int)]) φ0 where
 es x hx:=by cases hx
 ls:=by
  intro x hx
  obtain ⟨o1,o2⟩:=rawR_op h hh
  simp only [FI,List.mem_cons,List.not_mem_nil,or_false] at hx
  rcases hx with rfl | rfl | rfl | rfl
  ·exact decide_eq_true (show (h:Int) < 65536 by omega)
  ·exact decide_eq_false (show ¬ (h:Int) < 0 by omega)
  ·exact decide_eq_true (show (rawR ((h:Nat) : Int).toNat).op < 256 from o2)
  ·exact decide_eq_false (show ¬ (rawR ((h:Nat) : Int).toNat).op < 0 by rw [Int.toNat_natCast]; omega)
 vs x hx:=by cases hx
def kd (k:IntKind) : AV→Bool
 | .int k' _=>decide (k'=k)
 | .sint k' _=>decide (k'=k)
 | _=>false
def kindsP:AV→Bool
 | .agg [o,d,s,t,m]=>kd .u8 o && (kd .i64 d && (kd .i64 s && (kd .i64 t && kd .i64 m)))
 | _=>false
theorem kd_spec {k:IntKind} {v:AV} (hk:kd k v=true) (η:Nat→Int) (φ:Nat→List Int→Int) : v.plain=true∧v.toVal η φ=.int k (fieldV η φ v):=by
 cases v <;> simp only [kd,Bool.false_eq_true,decide_eq_true_eq] at hk <;> (subst hk; exact ⟨rfl,rfl⟩)
theorem kindsP_spec {v:AV} (hk:kindsP v=true) (η:Nat→Int) (φ:Nat→List Int→Int) : v.plain=true∧v.toVal η φ=insnVR (insnOf η φ (some v)):=by
 unfold kindsP at hk
 split at hk
 ·simp only [Bool.and_eq_true] at hk
  obtain ⟨h1,h2,h3,h4,h5⟩:=hk
  obtain ⟨a1,b1⟩:=kd_spec h1 η φ
  obtain ⟨a2,b2⟩:=kd_spec h2 η φ
  obtain ⟨a3,b3⟩:=kd_spec h3 η φ
  obtain ⟨a4,b4⟩:=kd_spec h4 η φ
  obtain ⟨a5,b5⟩:=kd_spec h5 η φ
  refine ⟨?_,?_⟩
  ·simp only [AV.plain,AV.plains,a1,a2,a3,a4,a5,Bool.and_self]
  ·simp only [AV.toVal,AV.toVals,b1,b2,b3,b4,b5]
   rfl
 ·cases hk
theorem raw_at (h:Nat) (hh:h < 65536) : ∃ v,(rawTr (clsN h)).at (ηl [(h:Int)]) φ0=some v∧v.plain=true∧v.toVal (ηl [(h:Int)]) φ0=insnVR (rawR h):=by
 have tab:((List.range 39).all fun n=>(rawTr n).all kindsP)=true:=by kernel_rfl
 obtain ⟨v,hv,hk⟩:=Tr.all_at (η:=ηh h) (φ:=φ0) (List.all_eq_true.1 tab (clsN h) (List.mem_range.2 (clsN_lt h hh)))
 have hp:=(at_pure (h:Int) φ0 (fun _ _=>0) (rawTr_pure (clsN h) (clsN_lt h hh))).2.1
 have hr:rawR h=insnOf (ηh h) φ0 (some v):=by unfold rawR; rw [← hp,hv]
 obtain ⟨k1,k2⟩:=kindsP_spec hk (ηh h) φ0
 exact ⟨v,hv,k1,by rw [hr]; exact k2⟩
theorem insn_at (h:Nat) (_:h < 65536) : ∃ v,insnTr.at (ηl [(h:Int)]) φ0=some v∧v.plain=true∧v.toVal (ηl [(h:Int)]) φ0=.tuple #[insnVR (readR h),.int .i64 (readE h)]:=by
 have got:readB h=true→∃ v,some gotV=some v∧v.plain=true∧v.toVal (ηl [(h:Int)]) φ0=.tuple #[insnVR (readR h),.int .i64 (readE h)]:=by
  intro hb
  refine ⟨gotV,rfl,rfl,?_⟩
  unfold readR readE
  rw [hb]
  rfl
 have nope:readB h=false→∃ v,some notV=some v∧v.plain=true∧v.toVal (ηl [(h:Int)]) φ0=.tuple #[insnVR (readR h),.int .i64 (readE h)]:=by
  intro hb
  refine ⟨notV,rfl,rfl,?_⟩
  unfold readR readE
  rw [hb]
  rfl
 have q1:(SE.fn 201 e19).ev (ηl [(h:Int)]) φ0=encE (rawR h).op (rawR h).d (rawR h).s (rawR h).t (rawR h).m:=rfl
 have q2:(SE.fn 200 e19).ev (ηl [(h:Int)]) φ0=encV (rawR h).op (rawR h).d (rawR h).s (rawR h).t (rawR h).m:=rfl
 have q3:(SE.fn 190 (.var 0)).ev (ηl [(h:Int)]) φ0=(rawR h).op:=rfl
 have q4:(SE.fn 191 (.var 0)).ev (ηl [(h:Int)]) φ0=(rawR h).d:=rfl
 have q5:(SE.fn 192 (.var 0)).ev (ηl [(h:Int)]) φ0=(rawR h).s:=rfl
 have q6:(SE.fn 194 (.var 0)).ev (ηl [(h:Int)]) φ0=(rawR h).m:=rfl
 have q7:(SE.bin .shr .u16 (.var 0) (.lit 13)).ev (ηl [(h:Int)]) φ0=((h / 8192:Nat) : Int):=by
  show ibin .shr .u16 (h:Int) 13=_
  have e:ibin .shr .u16 (h:Int) 13=(h:Int).fdiv (2 ^ (min 13 16)):=rfl
  rw [e,Int.fdiv_eq_ediv_of_nonneg _ (by decide)]
  rfl
 have q8:((SE.bin .rem .i64 (.fn 194 (.var 0)) (.lit 16)).ev (ηl [(h:Int)]) φ0=0)=((rawR h).m % 16=0):=by
  show (ibin .rem .i64 (rawR h).m 16=0)=_
  exact rem16 _
 have v0:(SE.var 0).ev (ηl [(h:Int)]) φ0=(h:Int):=rfl
 unfold insnTr
 rw [at_eq,q1,ev_lit]
 unfold readB at got nope
 by_cases c1:encE (rawR h).op (rawR h).d (rawR h).s (rawR h).t (rawR h).m=0
 ·rw [if_pos c1,at_eq,q2,v0]
  rw [c1] at got nope
  by_cases c2:encV (rawR h).op (rawR h).d (rawR h).s (rawR h).t (rawR h).m=(h:Int)
  ·rw [if_pos c2]
   exact got (by rw [c2]; simp)
  ·rw [if_neg c2,at_eq,q3,ev_lit]
   have c2':(encV (rawR h).op (rawR h).d (rawR h).s (rawR h).t (rawR h).m == (h:Int))=false:=by simpa using c2
   rw [c2'] at got nope
   unfold twiceB at got nope
   by_cases c3:(rawR h).op=22
   ·rw [if_pos c3,at_eq,q4,ev_lit]
    rw [c3] at got nope
    by_cases c4:(rawR h).d=2
    ·rw [if_pos c4,at_eq,q5,ev_lit]
     rw [c4] at got nope
     by_cases c5:(rawR h).s=2
     ·rw [if_pos c5,at_eq,ev_lit]
      rw [c5] at got nope
      by_cases c6:(rawR h).m % 16=0
      ·rw [if_pos (q8.mpr c6),at_eq,q6,ev_lit]
       rw [c6] at got nope
       by_cases c7:(rawR h).m=0
       ·rw [if_pos c7]
        exact nope (by rw [c7]; simp)
       ·rw [if_neg c7,at_eq,q7,ev_lit]
        have c7':((rawR h).m == 0)=false:=by simpa using c7
        rw [c7'] at got nope
        by_cases c8:h / 8192=3
        ·rw [if_pos (by rw [c8]; rfl)]
         exact got (by rw [c8]; rfl)
        ·rw [if_neg (by omega)]
         refine nope ?_
         have:Nat.beq (h / 8192) 3=false:=by rw [nat_beq]; exact decide_eq_false c8
         rw [this]; rfl
      ·rw [if_neg (fun k=>c6 (q8.mp k))]
       refine nope ?_
       have:((rawR h).m % 16 == 0)=false:=by simpa using c6
       rw [this]; rfl
     ·rw [if_neg c5]
      refine nope ?_
      have:((rawR h).s == 2)=false:=by simpa using c5
      rw [this]; rfl
    ·rw [if_neg c4]
     refine nope ?_
     have:((rawR h).d == 2)=false:=by simpa using c4
     rw [this]; rfl
   ·rw [if_neg c3]
    refine nope ?_
    have:((rawR h).op == 22)=false:=by simpa using c3
    rw [this]; rfl
 ·rw [if_neg c1]
  refine nope ?_
  have:(encE (rawR h).op (rawR h).d (rawR h).s (rawR h).t (rawR h).m == 0)=false:=by simpa using c1
  rw [this]; rfl
end Go.Proofs.YtoehlmiadiiimaaGreatDoor.Ex

