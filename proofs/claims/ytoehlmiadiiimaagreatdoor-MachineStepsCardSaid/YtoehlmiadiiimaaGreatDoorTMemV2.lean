import Derived.Test.YtoehlmiadiiimaaGreatDoorTMemW3
import Derived.Test.YtoehlmiadiiimaaGreatDoorTMemG4
namespace Go.Proofs.YtoehlmiadiiimaaGreatDoor
open Go.ChangeShapes Go.WideShapes Go.RowKit Go.Proofs.YtoehlmiadiiimaaGreatDoor.Ex
def Ins.ok (i:Ins) : Prop:=1≤i.op∧i.op≤94∧i.rd < 32∧i.s1 < 32∧i.s2 < 32
theorem reg_bd {b:Bool} {n:Int} (h:regI b n=true) : 0≤n∧n≤31:=by
 cases b
 ·have:n=0:=by simpa [regI] using h
  omega
 ·simp only [regI,inI,Bool.and_eq_true,decide_eq_true_eq] at h
  exact h
theorem may_ok {op d s t m:Int} (h:mayI op d s t m=true) : (1≤op∧op≤94)∧(0≤d∧d≤31)∧(0≤s∧s≤31)∧(0≤t∧t≤31):=by
 unfold mayI knownI mayF at h
 simp only [Bool.and_eq_true,decide_eq_true_eq] at h
 exact ⟨h.1,reg_bd h.2.1,reg_bd h.2.2.1,reg_bd h.2.2.2.1⟩
theorem enc_may {op d s t m:Int} (h:(encE op d s t m == 0)=true) : mayI op d s t m=true:=by
 unfold encE at h
 cases hm:mayI op d s t m with
 | true=>rfl
 | false =>
  rw [hm] at h
  exact absurd (show ((20:Int) == 0)=true from h) (by decide)
theorem read_bd (h:Nat) : (0≤(readR h).op∧(readR h).op≤94)∧(0≤(readR h).d∧(readR h).d≤31)∧(0≤(readR h).s∧(readR h).s≤31)∧(0≤(readR h).t∧(readR h).t≤31)∧(readE h=0→1≤(readR h).op):=by
 cases hb:readB h with
 | false =>
  have e1:readR h=⟨0,0,0,0,0⟩:=by unfold readR; rw [hb]
  have e2:readE h=60:=by unfold readE; rw [hb]
  rw [e1,e2]
  exact ⟨by simp,by simp,by simp,by simp,fun h=>absurd h (by decide)⟩
 | true =>
  have e1:readR h=rawR h:=by unfold readR; rw [hb]
  unfold readB at hb
  simp only [Bool.and_eq_true] at hb
  obtain ⟨h1,h2,h3,h4⟩:=may_ok (enc_may hb.1)
  rw [e1]
  exact ⟨⟨by omega,h1.2⟩,h2,h3,h4,fun _=>h1.1⟩
def cdecR (h:Nat) : Ins×Int:=(⟨(readR h).op.toNat,(readR h).d.toNat,(readR h).s.toNat,(readR h).t.toNat,(readR h).m⟩,readE h)
theorem cdec_v (h:Nat) : insnVR (readR h)=(cdecR h).1.v:=by
 obtain ⟨h1,h2,h3,h4,_⟩:=read_bd h
 show Value.agg #[_,_,_,_,_]=.agg #[_,_,_,_,_]
 unfold cdecR
 simp only
 rw [Int.toNat_of_nonneg h1.1,Int.toNat_of_nonneg h2.1,Int.toNat_of_nonneg h3.1,Int.toNat_of_nonneg h4.1]
theorem cdec_c (h:Nat) (hh:h < 65536) (W:World) (hL:LG W) : Calls Tryz.prog 65 #[.int .u16 h] W fun e w'=>e=.returned (.tuple #[(cdecR h).1.v,.int .i64 (cdecR h).2])∧Below W.heap.size W w':=by
 have:=insn h hh W hL
 rw [cdec_v h] at this
 exact this
theorem cdec_ok (h:Nat) (h0:(cdecR h).2=0) : (cdecR h).1.ok:=by
 obtain ⟨h1,h2,h3,h4,h5⟩:=read_bd h
 have:=h5 h0
 unfold cdecR Ins.ok
 simp only
 omega
theorem decFrom_ok (w:Nat) : ∀ f k,k+f≤94→(decFrom w f k).2=0→(decFrom w f k).1.ok
 | 0,k,_,h=>by cases h
 | f+1,k,hk,h=>by
  unfold decFrom at h ⊢
  cases hm:matchO (k+1) w with
  | true=>exact ⟨by show 1≤k+1; omega,by show k+1≤94; omega,regW_lt _ _ _,regW_lt _ _ _,regW_lt _ _ _⟩
  | false=>rw [hm] at h; exact decFrom_ok w f (k+1) (by omega) h
theorem dec_ok (w:Nat) (h:(decR w).2=0) : (decR w).1.ok:=decFrom_ok w 94 0 (by omega) h
def place (r:Rn) (addr:Int) (many:Nat) : Option Nat :=
 let m:=IntKind.u64.wrap (addr - r.base)
 if m.toNat+many≤r.mem.length then some m.toNat else none
theorem u64_bd (x:Int) : 0≤IntKind.u64.wrap x∧IntKind.u64.wrap x < 18446744073709551616:=by
 rw [IntKind.wrap_u64]; omega
theorem place_some {r:Rn} {addr:Int} {many k:Nat} (h:place r addr many=some k) : IntKind.u64.wrap (addr - r.base)=(k:Int)∧k+many≤r.mem.length:=by
 unfold place at h
 simp only at h
 split at h
 ·injection h with h
  have:=(u64_bd (addr - r.base)).1
  omega
 ·cases h
theorem place_none {r:Rn} {addr:Int} {many:Nat} (h:place r addr many=none) (hl:r.mem.length≤65536) :
  ((r.mem.length:Int) < IntKind.u64.wrap (addr - r.base))∨IntKind.u64.wrap ((r.mem.length:Int) - IntKind.u64.wrap (addr - r.base)) < (many:Int):=by
 unfold place at h
 simp only at h
 split at h
 ·cases h
 ·rename_i hn
  have hb:=u64_bd (addr - r.base)
  generalize IntKind.u64.wrap (addr - r.base)=m at *
  by_cases hlt:(r.mem.length:Int) < m
  ·exact .inl hlt
  ·right
   rw [IntKind.wrap_u64]
   omega
def fetch (r:Rn) : Option (Ins×Int) :=
 match place r r.pc 2 with
 | none=>none
 | some k =>
  if r.pc % 2=0 then
   let h:=IntKind.u16.wrap (ldm r.mem k 2)
   match bits .and .u16 h 3 == 3 with
   | false=>if (cdecR h.toNat).2=0 then some ((cdecR h.toNat).1,IntKind.u64.wrap (r.pc+2)) else none
   | true=>match place r r.pc 4 with
    | none=>none
    | some _ =>
     let w:=IntKind.u32.wrap (ldm r.mem k 4)
     if (decR w.toNat).2=0 then some ((decR w.toNat).1,IntKind.u64.wrap (r.pc+4)) else none
  else none
theorem fetch_ok {r:Rn} {i:Ins} {on:Int} (h:fetch r=some (i,on)) : i.ok:=by
 unfold fetch at h
 split at h
 ·cases h
 ·split at h
  ·simp only at h
   split at h
   ·split at h
    ·rename_i h0
     simp only [Option.some.injEq,Prod.mk.injEq] at h
     rw [← h.1]; exact cdec_ok _ h0
    ·cases h
   ·split at h
    ·cases h
    ·split at h
     ·rename_i h0
      simp only [Option.some.injEq,Prod.mk.injEq] at h
      rw [← h.1]; exact dec_ok _ h0
     ·cases h
  ·cases h
theorem own_none {base:Nat} {e:TypeId} {size n:Nat} {v:Value} {xs:List Value} {w:World} (h:w.ownsRow base e size v n xs) (hn:0 < n) : ∃ g c,v=.slice (some ⟨g,0,none⟩) n c∧n≤c∧base≤g:=by
 obtain ⟨A,c,rfl,hc,hA⟩:=own_slice h
 obtain ⟨g,rfl,hg,_⟩:=hA hn
 exact ⟨g,c,rfl,hc,hg⟩
end Go.Proofs.YtoehlmiadiiimaaGreatDoor
namespace Go.Proofs.YtoehlmiadiiimaaGreatDoor
open Go.ChangeShapes Go.WideShapes Go.RowKit Go.Proofs.YtoehlmiadiiimaaGreatDoor.Ex
theorem u16_nat (x:Int) : IntKind.u16.wrap x=((IntKind.u16.wrap x).toNat:Int)∧(IntKind.u16.wrap x).toNat < 65536:=by
 have e:IntKind.u16.wrap x=x % 65536:=by simp [IntKind.wrap,IntKind.signed,IntKind.bits]
 rw [e]; omega
theorem u32_nat (x:Int) : IntKind.u32.wrap x=((IntKind.u32.wrap x).toNat:Int)∧(IntKind.u32.wrap x).toNat < 4294967296:=by
 have e:IntKind.u32.wrap x=x % 4294967296:=by simp [IntKind.wrap,IntKind.signed,IntKind.bits]
 rw [e]; omega
def stopO (stop:Bool) (i:Ins) (on:Int) : Option (Ins×Int):=match stop with
 | true=>none
 | false=>some (i,on)
theorem stop_if {e:Int} {i:Ins} {on:Int} : stopO (e != 0) i on=if e=0 then some (i,on) else none:=by
 by_cases h:e=0
 ·subst h; rfl
 ·rw [if_neg h,show (e != 0)=true from by simpa using h]; rfl
theorem raw_post {B:Nat} {w:World} {g:Nat} {r:Rn} {mv tv:Value} {i:Ins} {on:Int} {stop:Bool} {e:Ending} {w':World} (h:NextRaw B w g r mv tv i on stop e w') : NextPost B w g r mv tv (stopO stop i on) e w':=by
 cases stop
 ·exact h
 ·exact ⟨_,on,h.1,h.2⟩
theorem next_c (B g:Nat) (r:Rn) (mv tv:Value) (w:World) (hr:RunW B w g r mv tv) (hL:LG w) (hB:3≤B) (hs:r.stop=false) (h0:0≤r.pc) (hl:r.mem.length≤65536) :
  Calls Tryz.prog 44 #[.pointer (some ⟨g,0,none⟩)] w (NextPost B w g r mv tv (fetch r)):=by
 unfold fetch
 cases hp:place r r.pc 2 with
 | none =>
  obtain ⟨A,c,rfl,hc,_⟩:=own_slice hr.mem
  exact next_out B g r A r.mem.length c tv w hr _ rfl (Lib.hid (place_none hp hl)) hc (by omega)
 | some k =>
  obtain ⟨hw,hk⟩:=place_some hp
  obtain ⟨gm,c,rfl,hc,hgm⟩:=own_none hr.mem (by omega)
  simp only
  by_cases hodd:r.pc % 2=0
  ·rw [if_pos hodd]
   obtain ⟨hh,hlt⟩:=u16_nat (ldm r.mem k 2)
   have hcd:∀ W,Below B w W→Calls Tryz.prog 65 #[.int .u16 (IntKind.u16.wrap (ldm r.mem k 2))] W fun e w'=>e=.returned (.tuple #[(cdecR (IntKind.u16.wrap (ldm r.mem k 2)).toNat).1.v,.int .i64 (cdecR (IntKind.u16.wrap (ldm r.mem k 2)).toNat).2])∧Below W.heap.size W w':=by
    intro W hb
    have:=cdec_c (IntKind.u16.wrap (ldm r.mem k 2)).toNat hlt W (laidG_below hL (hb.mono hB))
    rw [← hh] at this
    exact this
   cases h3:(bits .and .u16 (IntKind.u16.wrap (ldm r.mem k 2)) 3 == 3) with
   | false =>
    simp only
    rw [← stop_if]
    exact (next_2 B g r gm c tv w hr k hw hs hk hc (by omega) hodd h0 _ rfl h3 _ _ hcd).mono fun e w' h=>raw_post h
   | true =>
    simp only
    cases hp4:place r r.pc 4 with
    | none =>
     have hx:=place_none hp4 hl
     rw [hw] at hx
     have hdd:∀ W,Below B w W→Calls Tryz.prog 66 #[.int .u32 (IntKind.u32.wrap 0)] W fun e w'=>e=.returned (.tuple #[(decR 0).1.v,.int .i64 (decR 0).2])∧Below W.heap.size W w':=by
      intro W hb
      have hsz:=hb.size
      have:=hr.blk.lt
      have:=hr.ge
      exact dec_c 0 (by omega) W (laidG_below hL (hb.mono hB)) (by omega)
     exact (next_4x B g r gm c tv w hr k hw hs hk (Lib.hid hx) hc (by omega) hodd h0 _ rfl h3 _ _ hcd _ rfl _ _ hdd).mono fun e w' h=>raw_post h
    | some k' =>
     obtain ⟨hw',hk'⟩:=place_some hp4
     have hkk:k+4≤r.mem.length:=by
      have:(k:Int)=(k':Int):=hw.symm.trans hw'
      omega
     obtain ⟨hh4,hlt4⟩:=u32_nat (ldm r.mem k 4)
     have hdd:∀ W,Below B w W→Calls Tryz.prog 66 #[.int .u32 (IntKind.u32.wrap (ldm r.mem k 4))] W fun e w'=>e=.returned (.tuple #[(decR (IntKind.u32.wrap (ldm r.mem k 4)).toNat).1.v,.int .i64 (decR (IntKind.u32.wrap (ldm r.mem k 4)).toNat).2])∧Below W.heap.size W w':=by
      intro W hb
      have hsz:=hb.size
      have:=hr.blk.lt
      have:=hr.ge
      have:=dec_c (IntKind.u32.wrap (ldm r.mem k 4)).toNat hlt4 W (laidG_below hL (hb.mono hB)) (by omega)
      rw [← hh4] at this
      exact this
     simp only
     rw [← stop_if]
     exact (next_4 B g r gm c tv w hr k hw hs hkk hc (by omega) hodd h0 _ rfl h3 _ _ hcd _ rfl _ _ hdd).mono fun e w' h=>raw_post h
  ·rw [if_neg hodd]
   exact next_odd B g r gm c tv w hr k hw hs hk hc (by omega) hodd h0
end Go.Proofs.YtoehlmiadiiimaaGreatDoor
namespace Go.Proofs.YtoehlmiadiiimaaGreatDoor
open Go.ChangeShapes Go.WideShapes Go.RowKit Go.Proofs.YtoehlmiadiiimaaGreatDoor.Ex
def ldN:Nat→Nat
 | 11=>1
 | 12=>2
 | 13=>4
 | 14=>8
 | 15=>1
 | 16=>2
 | _=>4
def ldE (op:Nat) (x:Int) : Int:=match op with
 | 11=>nar8 x
 | 12=>nar16 x
 | 13=>nar32 x
 | _=>x
def stN:Nat→Nat
 | 18=>1
 | 19=>2
 | 20=>4
 | _=>8
def doF (i:Ins) (r:Rn) : Option (Int×Rn) :=
 match formB i.op with
 | 85=>some (r.on,r.wr i.rd (if i.op=2 then IntKind.u64.wrap (nar32 (IntKind.u64.wrap (IntKind.u64.wrap i.imm*4096))+r.pc) else nar32 (IntKind.u64.wrap (IntKind.u64.wrap i.imm*4096))))
 | 74=>some (IntKind.u64.wrap (r.pc+IntKind.u64.wrap i.imm),r.wr i.rd r.on)
 | 66=>some (if brF i.op (r.regs[i.s1]?.getD 0) (r.regs[i.s2]?.getD 0)=true then IntKind.u64.wrap (r.pc+IntKind.u64.wrap i.imm) else r.on,r.wr i.rd 0)
 | 76=>if i.op=4 then some (bits .andNot .u64 (IntKind.u64.wrap (r.regs[i.s1]?.getD 0+IntKind.u64.wrap i.imm)) 1,r.wr i.rd r.on)
  else match place r (IntKind.u64.wrap (r.regs[i.s1]?.getD 0+IntKind.u64.wrap i.imm)) (ldN i.op) with
   | none=>none
   | some k=>some (r.on,r.wr i.rd (ldE i.op (ldm r.mem k (ldN i.op))))
 | 83=>match place r (IntKind.u64.wrap (r.regs[i.s1]?.getD 0+IntKind.u64.wrap i.imm)) (stN i.op) with
   | none=>none
   | some k=>some (r.on,{ r with mem:=memSet r.mem k (r.regs[i.s2]?.getD 0) (stN i.op) }.wr i.rd 0)
 | 73=>some (r.on,r.wr i.rd (twoF i.op (r.regs[i.s1]?.getD 0) (IntKind.u64.wrap i.imm)))
 | 54=>some (r.on,r.wr i.rd (twoF i.op (r.regs[i.s1]?.getD 0) (IntKind.u64.wrap i.imm)))
 | 53=>some (r.on,r.wr i.rd (twoF i.op (r.regs[i.s1]?.getD 0) (IntKind.u64.wrap i.imm)))
 | 82=>some (r.on,r.wr i.rd (twoF i.op (r.regs[i.s1]?.getD 0) (r.regs[i.s2]?.getD 0)))
 | 70=>some (r.on,r.wr i.rd 0)
 | 78=>if i.op=65 then if r.told.length < 1000 then some (r.on,{ r with told:=r.told ++ [r.regs.getD 10 0],done:=r.regs.getD 17 0 == 93 }.wr i.rd 0) else none else none
 | _=>none
def DoAll (B:Nat) (w:World) (g:Nat) (mv tv:Value) (o:Option (Int×Rn)) (e:Ending) (w':World) : Prop :=
 match o with
 | some (to,r')=>∃ tv',e=.returned (.int .u64 to)∧RunB B w w' g r' mv tv'
 | none=>StopPost B w g mv tv e w'
def Regs64 (l:List Int) : Prop:=∀ x∈l,0≤x∧x < B64
theorem reg64 {l:List Int} (h:Regs64 l) (i:Nat) : 0≤l[i]?.getD 0∧l[i]?.getD 0 < B64:=by
 cases hi:l[i]? with
 | none=>exact ⟨Int.le_refl _,by decide⟩
 | some x=>exact h x (List.mem_of_getElem? hi)
section
variable {B g:Nat} {r:Rn} {mv tv:Value} {w:World}
theorem ld_in (hr:RunW B w g r mv tv) (hl:r.mem.length≤65536) {addr:Int} {many k:Nat} (hm0:0 < many) (hm:many≤8) (hp:place r addr many=some k) {W:World} (hW:RunB B w W g r mv tv) :
  Calls Tryz.prog 63 #[.pointer (some ⟨g,0,none⟩),.int .u64 addr,.int .i64 many] W fun e w'=>e=.returned (.int .u64 (ldm r.mem k many))∧W=w':=by
 obtain ⟨hw,hk⟩:=place_some hp
 obtain ⟨gm,c,rfl,hc,hgm⟩:=own_none hr.mem (by omega)
 exact load_in g ⟨gm,0,none⟩ r.mem.length c r.base addr k many _ W hW.run.c33 hW.run.c34 hw (hW.run.bytes k many hk) hk hm0 hm hc (by omega)
theorem ld_out (hr:RunW B w g r mv tv) (hl:r.mem.length≤65536) {addr:Int} {many:Nat} (hm:many≤8) (hp:place r addr many=none) {W:World} (hW:RunB B w W g r mv tv) :
  Calls Tryz.prog 63 #[.pointer (some ⟨g,0,none⟩),.int .u64 addr,.int .i64 many] W fun e w'=>e=.returned (.int .u64 0)∧W.setCell ⟨g,38,none⟩ (.bool true)=w':=by
 obtain ⟨A,c,rfl,hc,_⟩:=own_slice hr.mem
 exact load_out g A r.mem.length c r.base addr _ many r.stop W hW.run.c33 hW.run.c34 hW.run.c38 (hW.run.fz 38) rfl (Lib.hid (place_none hp hl)) hm hc (by omega)
theorem st_in (hr:RunW B w g r mv tv) (hl:r.mem.length≤65536) {addr x:Int} {many k gm c:Nat} (hm0:0 < many) (hm:many≤8) (hp:place r addr many=some k) (hmv:mv=.slice (some ⟨gm,0,none⟩) r.mem.length c) {W:World} (hW:RunB B w W g r mv tv) :
  Calls Tryz.prog 70 #[.pointer (some ⟨g,0,none⟩),.int .u64 addr,.int .i64 many,.int .u64 x] W fun e w'=>e=.returned (.tuple #[])∧stW W gm k x many=w':=by
 obtain ⟨hw,hk⟩:=place_some hp
 subst hmv
 have hrun:=hW.run
 obtain ⟨A,c',he,hc,_⟩:=own_slice hrun.mem
 injection he with he1 he2 he3
 subst he3
 refine store_in g gm r.mem.length c r.base addr x k many W hrun.c33 hrun.c34 hw (Lib.hid fun j hj=>?_) (Lib.hid fun j hj=>?_) hk hm0 hm hc (by omega)
 ·have h1:=stW_run hrun k x j
  have hl':=memSet_len r.mem k x j
  have hb:=h1.bytes (k+j) 1 (by show k+j+1≤(memSet r.mem k x j).length; omega)
  have:=hb.out 0 (by omega)
  have e:(⟨gm,0,none⟩ : Addr).add (k+j+0)=⟨gm,k+j,none⟩:=by unfold Addr.add; split <;> simp_all
  rw [e] at this
  exact ⟨_,this⟩
 ·have h1:=(stW_run hrun k x j).mem
  have hl':=memSet_len r.mem k x j
  simp only [hl'] at h1
  exact h1.frozenAt (k+j)
theorem st_out (hr:RunW B w g r mv tv) (hl:r.mem.length≤65536) {addr x:Int} {many:Nat} (hm:many≤8) (hp:place r addr many=none) {W:World} (hW:RunB B w W g r mv tv) :
  Calls Tryz.prog 70 #[.pointer (some ⟨g,0,none⟩),.int .u64 addr,.int .i64 many,.int .u64 x] W fun e w'=>e=.returned (.tuple #[])∧W.setCell ⟨g,38,none⟩ (.bool true)=w':=by
 obtain ⟨A,c,rfl,hc,_⟩:=own_slice hr.mem
 exact store_out g A r.mem.length c r.base addr _ many x r.stop W hW.run.c33 hW.run.c34 hW.run.c38 (hW.run.fz 38) rfl (Lib.hid (place_none hp hl)) hm hc (by omega)
end
end Go.Proofs.YtoehlmiadiiimaaGreatDoor

namespace Go.Proofs.YtoehlmiadiiimaaGreatDoor
open Go.ChangeShapes Go.WideShapes Go.RowKit Go.Proofs.YtoehlmiadiiimaaGreatDoor.Ex
def scatN:List Nat→Nat→Nat
 | [],_=>0
 | p :: ps,v=>(v % 2) <<< p ||| scatN ps (v / 2)
def gatN:List Nat→Nat→Nat
 | [],_=>0
 | p :: ps,w=>(w / 2 ^ p) % 2+2*gatN ps w
theorem bit_mod2 (v k:Nat) : (v % 2).testBit k=(decide (k=0) && v.testBit 0):=by
 have h:=Nat.testBit_mod_two_pow v 1 k
 rw [Nat.pow_one] at h
 rw [h]
 cases k with
 | zero=>simp
 | succ k=>simp
theorem scatN_out:∀ (ps:List Nat) (v k:Nat),k ∉ ps→(scatN ps v).testBit k=false
 | [],v,k,_=>by simp [scatN]
 | p :: ps,v,k,h=>by
  have h1:k≠p:=fun e=>h (by simp [e])
  have h2:k ∉ ps:=fun e=>h (by simp [e])
  rw [scatN,Nat.testBit_or,scatN_out ps _ k h2,Nat.testBit_shiftLeft,bit_mod2]
  have:¬ (p≤k∧k - p=0):=by omega
  by_cases hp:p≤k
  ·have:k - p≠0:=by omega
   simp [this]
  ·simp [hp]
theorem scatN_in:∀ (ps:List Nat),ps.Nodup→∀ (v i k:Nat),ps[i]?=some k→(scatN ps v).testBit k=v.testBit i
 | [],_,v,i,k,h=>by simp at h
 | p :: ps,hn,v,i,k,h=>by
  obtain ⟨h1,h2⟩:=List.nodup_cons.1 hn
  cases i with
  | zero =>
   have e:p=k:=by simpa using h
   subst e
   rw [scatN,Nat.testBit_or,scatN_out ps _ p h1,Nat.testBit_shiftLeft,bit_mod2]
   simp
  | succ i =>
   have h':ps[i]?=some k:=by simpa using h
   have hk:k∈ps:=List.mem_of_getElem? h'
   have hne:k≠p:=fun e=>h1 (e ▸ hk)
   rw [scatN,Nat.testBit_or,scatN_in ps h2 (v / 2) i k h',Nat.testBit_shiftLeft,bit_mod2,Nat.testBit_div_two]
   by_cases hp:p≤k
   ·have:k - p≠0:=by omega
    simp [this]
   ·simp [hp]
theorem bit_div (w p:Nat) : (w / 2 ^ p) % 2=(w.testBit p).toNat:=by
 rw [Nat.toNat_testBit]
def wordN (op d s t v:Nat) : Nat:=(((baseB op ||| d <<< 7) ||| s <<< 15) ||| t <<< 20) ||| scatN (placesF (formB op)) v
def factO (op:Nat) : Bool :=
 let f:=formB op
 Nat.blt (baseB op) 4294967296 && (Nat.blt (maskF f) 4294967296 && (decide (placesF f).Nodup && ((placesF f).all (fun p=>Nat.blt p 32) && (List.range 32).all fun k =>
  let m:=(maskF f).testBit k
  let b:=(baseB op).testBit k
  let p:=(placesF f).contains k
  let D:=(regsF f).1 && (Nat.ble 7 k && Nat.blt k 12)
  let S:=(regsF f).2.1 && (Nat.ble 15 k && Nat.blt k 20)
  let T:=(regsF f).2.2 && (Nat.ble 20 k && Nat.blt k 25)
  (m || !b) && ((!m || (!p && (!D && (!S && !T)))) && (!p || (!D && (!S && !T))) && ((!D || !m) && ((!S || !m) && (!T || !m)))))))
theorem facts_all:((List.range 94).all fun o=>factO (o+1))=true:=by kernel_rfl
structure FactO (op:Nat) : Prop where
 base:baseB op < 4294967296
 mask:maskF (formB op) < 4294967296
 nodup:(placesF (formB op)).Nodup
 lt:∀ p∈placesF (formB op),p < 32
 b0:∀ k,k < 32→(maskF (formB op)).testBit k=false→(baseB op).testBit k=false
 m1:∀ k,k < 32→(maskF (formB op)).testBit k=true→k ∉ placesF (formB op)∧((regsF (formB op)).1=true→¬ (7≤k∧k < 12))∧((regsF (formB op)).2.1=true→¬ (15≤k∧k < 20))∧((regsF (formB op)).2.2=true→¬ (20≤k∧k < 25))
 p1:∀ k∈placesF (formB op),((regsF (formB op)).1=true→¬ (7≤k∧k < 12))∧((regsF (formB op)).2.1=true→¬ (15≤k∧k < 20))∧((regsF (formB op)).2.2=true→¬ (20≤k∧k < 25))
theorem fact_of (op:Nat) (h1:1≤op) (h2:op≤94) : FactO op:=by
 have h:=List.all_eq_true.1 facts_all (op - 1) (List.mem_range.2 (by omega))
 rw [Nat.sub_add_cancel h1] at h
 unfold factO at h
 simp only [Bool.and_eq_true,List.all_eq_true,List.mem_range,decide_eq_true_eq,Nat.blt_eq,Bool.or_eq_true,Bool.not_eq_true',Bool.and_eq_false_iff] at h
 obtain ⟨hb,hm,hn,hl,hk⟩:=h
 have key:∀ (c:Bool) (a b k:Nat),(c=false∨Nat.ble a k=false∨Nat.blt k b=false)→c=true→¬ (a≤k∧k < b):=by
  intro c a b k hc hct hab
  rcases hc with h | h | h
  ·rw [hct] at h; cases h
  ·rw [Nat.ble_eq_true_of_le hab.1] at h; cases h
  ·rw [show Nat.blt k b=true from by simpa using hab.2] at h; cases h
 refine ⟨hb,hm,hn,hl,fun k hk32 hmk=>?_,fun k hk32 hmk=>?_,fun k hkp=>?_⟩
 ·rcases (hk k hk32).1 with h | h
  ·rw [hmk] at h; cases h
  ·exact h
 ·rcases (hk k hk32).2.1.1 with h | h
  ·rw [hmk] at h; cases h
  ·refine ⟨fun hc=>?_,key _ _ _ k h.2.1,key _ _ _ k h.2.2.1,key _ _ _ k h.2.2.2⟩
   rw [List.contains_iff_mem.2 hc] at h
   cases h.1
 ·rcases (hk k (hl k hkp)).2.1.2 with h | h
  ·rw [List.contains_iff_mem.2 hkp] at h; cases h
  ·exact ⟨key _ _ _ k h.1,key _ _ _ k h.2.1,key _ _ _ k h.2.2⟩
structure RegsOK (f d s t:Nat) : Prop where
 d1:d < 32
 s1:s < 32
 t1:t < 32
 d0:(regsF f).1=false→d=0
 s0:(regsF f).2.1=false→s=0
 t0:(regsF f).2.2=false→t=0
theorem reg_bit (x at_ k:Nat) (hx:x < 32) : (x <<< at_).testBit k=(decide (at_≤k∧k < at_+5) && x.testBit (k - at_)):=by
 rw [Nat.testBit_shiftLeft]
 by_cases h1:at_≤k
 ·by_cases h2:k < at_+5
  ·simp [h1,h2]
  ·have:x.testBit (k - at_)=false:=Nat.testBit_lt_two_pow (Nat.lt_of_lt_of_le hx (Nat.pow_le_pow_right (by decide:0 < 2) (by omega:5≤k - at_)))
   simp [this]
 ·simp [h1]
section
variable {op d s t v:Nat}
theorem word_bit (h:RegsOK (formB op) d s t) (k:Nat) : (wordN op d s t v).testBit k=((((((baseB op).testBit k || (decide (7≤k∧k < 7+5) && d.testBit (k - 7))) || (decide (15≤k∧k < 15+5) && s.testBit (k - 15))) || (decide (20≤k∧k < 20+5) && t.testBit (k - 20)))) || (scatN (placesF (formB op)) v).testBit k):=by
 unfold wordN
 rw [Nat.testBit_or,Nat.testBit_or,Nat.testBit_or,Nat.testBit_or,reg_bit _ _ _ h.d1,reg_bit _ _ _ h.s1,reg_bit _ _ _ h.t1]
theorem no_reg {b:Bool} {x at_ k:Nat} (h0:b=false→x=0) (h1:b=true→¬ (at_≤k∧k < at_+5)) : (decide (at_≤k∧k < at_+5) && x.testBit (k - at_))=false:=by
 cases b with
 | false=>rw [h0 rfl]; simp
 | true=>simp [h1 rfl]
theorem word_lt (h1:1≤op) (h2:op≤94) (h:RegsOK (formB op) d s t) : wordN op d s t v < 4294967296:=by
 have F:=fact_of op h1 h2
 refine Nat.lt_pow_two_of_testBit (n:=32) _ fun k hk=>?_
 rw [word_bit h k,scatN_out _ _ _ (fun hm=>by have:=F.lt k hm; omega)]
 have hb:(baseB op).testBit k=false:=Nat.testBit_lt_two_pow (Nat.lt_of_lt_of_le F.base (Nat.pow_le_pow_right (by omega) hk:2 ^ 32≤2 ^ k))
 have e1:decide (7≤k∧k < 7+5)=false:=by simp; omega
 have e2:decide (15≤k∧k < 15+5)=false:=by simp; omega
 have e3:decide (20≤k∧k < 20+5)=false:=by simp; omega
 rw [hb,e1,e2,e3]
 rfl
theorem word_mask (h1:1≤op) (h2:op≤94) (h:RegsOK (formB op) d s t) : wordN op d s t v &&& maskF (formB op)=baseB op:=by
 have F:=fact_of op h1 h2
 refine Nat.eq_of_testBit_eq fun k=>?_
 rw [Nat.testBit_and]
 rcases Nat.lt_or_ge k 32 with hk | hk
 ·cases hm:(maskF (formB op)).testBit k with
  | false=>rw [F.b0 k hk hm]; simp
  | true =>
   obtain ⟨m1,m2,m3,m4⟩:=F.m1 k hk hm
   rw [word_bit h k,scatN_out _ _ _ m1,no_reg h.d0 m2,no_reg h.s0 m3,no_reg h.t0 m4]
   simp
 ·have hb:(baseB op).testBit k=false:=Nat.testBit_lt_two_pow (Nat.lt_of_lt_of_le F.base (Nat.pow_le_pow_right (by omega) hk:2 ^ 32≤2 ^ k))
  have hm:(maskF (formB op)).testBit k=false:=Nat.testBit_lt_two_pow (Nat.lt_of_lt_of_le F.mask (Nat.pow_le_pow_right (by omega) hk:2 ^ 32≤2 ^ k))
  rw [hb,hm,Bool.and_false]
theorem matchO_nat (a w:Nat) (hw:w < 4294967296) (hm:maskF (formB a) < 4294967296) : matchO a w=((w &&& maskF (formB a)) == baseB a):=by
 unfold matchO
 rw [show bits .and .u32 (w:Int) (maskF (formB a) : Int)=((w &&& maskF (formB a) : Nat) : Int) from and_nat .u32 w _ (by show w≤4294967295; omega) (by show _≤4294967295; omega)]
 cases h:((w &&& maskF (formB a)) == baseB a) with
 | true=>rw [beq_iff_eq] at h; rw [h]; simp
 | false=>rw [beq_eq_false_iff_ne] at h ⊢; omega
end
end Go.Proofs.YtoehlmiadiiimaaGreatDoor
namespace Go.Proofs.YtoehlmiadiiimaaGreatDoor
open Go.ChangeShapes Go.WideShapes Go.RowKit Go.Proofs.YtoehlmiadiiimaaGreatDoor.Ex
theorem gW_ev (op w:Nat) (hw:w < 4294967296) : ∀ (ps:List Nat) (i:Nat) (acc:SE) (a:Nat),(∀ p∈ps,p < 32)→i+ps.length≤31→acc.ev (ηW op w) φW=(a:Int)→a < 2 ^ i→(gW ps i acc).ev (ηW op w) φW=((a+2 ^ i*gatN ps w:Nat) : Int)
 | [],i,acc,a,_,_,ha,_=>by simpa [gW,gatN] using ha
 | p :: ps,i,acc,a,hp,hl,ha,hlt=>by
  simp only [List.length_cons] at hl
  have h31:2 ^ (i+1)≤2 ^ 31:=Nat.pow_le_pow_right (by omega) (by omega)
  have hpow:2 ^ (i+1)=2 ^ i*2:=Nat.pow_succ 2 i
  have hp32:=hp p List.mem_cons_self
  have hb:(w / 2 ^ p) % 2 < 2:=Nat.mod_lt _ (by omega)
  generalize hbb:(w / 2 ^ p) % 2=b at hb
  have hdiv:w / 2 ^ p≤w:=Nat.div_le_self _ _
  have e1:(SE.bin .and .u32 (.bin .shr .u32 (.var 0) (.lit (Int.ofNat p))) (.lit 1)).ev (ηW op w) φW=(b:Int):=by
   rw [ev_bin,ev_bin]
   show ibin .and .u32 (ibin .shr .u32 (w:Int) (Int.ofNat p)) 1=_
   rw [shr_u32 w p (by omega)]
   refine (and_nat .u32 (w / 2 ^ p) 1 (by show _≤4294967295; omega) (by decide)).trans ?_
   rw [show Nat.land (w / 2 ^ p) 1=w / 2 ^ p % 2 from Nat.and_one_is_mod _,hbb]
  have hbi:b*2 ^ i≤2 ^ i:=by
   have:b*2 ^ i≤1*2 ^ i:=Nat.mul_le_mul_right _ (by omega)
   omega
  have e2:(SE.bin .shl .u32 (.bin .and .u32 (.bin .shr .u32 (.var 0) (.lit (Int.ofNat p))) (.lit 1)) (.lit (Int.ofNat i))).ev (ηW op w) φW=((b*2 ^ i:Nat) : Int):=by
   rw [ev_bin,e1]
   exact shl_nat b i (by omega) (by show _≤4294967295; omega)
  have e3:(SE.bin .or .u32 acc (.bin .shl .u32 (.bin .and .u32 (.bin .shr .u32 (.var 0) (.lit (Int.ofNat p))) (.lit 1)) (.lit (Int.ofNat i)))).ev (ηW op w) φW=((a+2 ^ i*b:Nat) : Int):=by
   rw [ev_bin,ha,e2,or_nat .u32 _ _ (by show _≤4294967295; omega) (by show _≤4294967295; omega)]
   have:Nat.lor a (b*2 ^ i)=a+2 ^ i*b:=by
    show a ||| b*2 ^ i=_
    rw [Nat.mul_comm b,Nat.or_comm,← Nat.two_pow_add_eq_or_of_lt hlt]; omega
   rw [this]
  have hlt2:a+2 ^ i*b < 2 ^ (i+1):=by rw [Nat.mul_comm]; omega
  have ih:=gW_ev op w hw ps (i+1) _ _ (fun q hq=>hp q (List.mem_cons_of_mem _ hq)) (by omega) e3 hlt2
  rw [gW,ih,gatN,hbb]
  congr 1
  rw [hpow,Nat.mul_add,Nat.mul_assoc]; omega
theorem places_bd (f:Nat) (hf:f∈formsAll) : (∀ p∈placesF f,p < 32)∧(placesF f).length≤20:=by
 have h:(formsAll.all fun f=>(placesF f).all (fun p=>decide (p < 32)) && decide ((placesF f).length≤20))=true:=by decide
 have:=List.all_eq_true.1 h f hf
 simp only [Bool.and_eq_true,List.all_eq_true,decide_eq_true_eq] at this
 exact this
theorem gat_ev (op w f:Nat) (hf:f∈formsAll) (hw:w < 4294967296) : (gW (placesF f) 0 (.lit 0)).ev (ηW op w) φW=((gatN (placesF f) w:Nat) : Int):=by
 obtain ⟨h1,h2⟩:=places_bd f hf
 have:=gW_ev op w hw (placesF f) 0 (.lit 0) 0 h1 (by omega) rfl (by omega)
 simpa using this
theorem low_bits (V n:Nat) (hn:n≤32) (hV:V < 2 ^ n) : V &&& (4294967295 - (2 ^ n - 1))=0:=by
 have h32:2 ^ n*2 ^ (32 - n)=4294967296:=by rw [← Nat.pow_add,Nat.add_sub_cancel' hn]
 have hp:=Nat.two_pow_pos (32 - n)
 have e:4294967295 - (2 ^ n - 1)=2 ^ n*(2 ^ (32 - n) - 1):=by
  rw [Nat.mul_sub,h32]
  have:=Nat.two_pow_pos n
  omega
 refine Nat.eq_of_testBit_eq fun k=>?_
 rw [Nat.testBit_and,e,Nat.testBit_two_pow_mul,Nat.zero_testBit]
 rcases Nat.lt_or_ge k n with hk | hk
 ·simp; omega
 ·rw [Nat.testBit_lt_two_pow (Nat.lt_of_lt_of_le hV (Nat.pow_le_pow_right (by omega) hk))]; rfl
theorem sign_ev12 (e:SE) (η:Nat→Int) (φ:Nat→List Int→Int) (V:Nat) (hV:V < 4096) (h:e.ev η φ=(V:Int)) : (signE e 12).ev η φ=if V < 2048 then (V:Int) else (V:Int) - 4096:=by
 unfold signE
 rw [ev_wrap,ev_bin,ev_wrap,ev_bin,h]
 have e1:ibin .shl .u32 (V:Int) ((SE.lit (Int.ofNat (32 - 12))).ev η φ)=((V*2 ^ 20:Nat) : Int):=shl_nat V 20 (by omega) (by show _≤4294967295; omega)
 rw [e1]
 have e2:∀ x:Int,ibin .shr .i32 x ((SE.lit (Int.ofNat (32 - 12))).ev η φ)=x / 1048576:=fun x=>by
  show x.fdiv (2 ^ 20)=_
  rw [Int.fdiv_eq_ediv_of_nonneg _ (by decide)]
  rfl
 rw [e2,IntKind.wrap_i32,IntKind.wrap_i64]
 split <;> omega
theorem sign_ev20 (e:SE) (η:Nat→Int) (φ:Nat→List Int→Int) (V:Nat) (hV:V < 1048576) (h:e.ev η φ=(V:Int)) : (signE e 20).ev η φ=if V < 524288 then (V:Int) else (V:Int) - 1048576:=by
 unfold signE
 rw [ev_wrap,ev_bin,ev_wrap,ev_bin,h]
 have e1:ibin .shl .u32 (V:Int) ((SE.lit (Int.ofNat (32 - 20))).ev η φ)=((V*2 ^ 12:Nat) : Int):=shl_nat V 12 (by omega) (by show _≤4294967295; omega)
 rw [e1]
 have e2:∀ x:Int,ibin .shr .i32 x ((SE.lit (Int.ofNat (32 - 20))).ev η φ)=x / 4096:=fun x=>by
  show x.fdiv (2 ^ 12)=_
  rw [Int.fdiv_eq_ediv_of_nonneg _ (by decide)]
  rfl
 rw [e2,IntKind.wrap_i32,IntKind.wrap_i64]
 split <;> omega
def vN (f:Nat) (m:Int) : Nat:=((match kindF f with | 2=>m / 2 | _=>m) % 2 ^ (placesF f).length).toNat
theorem immW_leaf (op w f:Nat) (h:(fieldsTr f).at (ηW op w) φW=some (leafE f (immE f))) : immW op w f=(match immE f with | .int _ n=>n | .sint _ e=>e.ev (ηW op w) φW | _=>0):=by
 unfold immW
 rw [h]
 unfold leafE
 cases immE f <;> rfl
theorem fields_leaf (op w f:Nat) (hf:f∈formsAll) (hw:w < 4294967296) (hlt:gatN (placesF f) w < 2 ^ (placesF f).length) : (fieldsTr f).at (ηW op w) φW=some (leafE f (immE f)):=by
 unfold fieldsTr
 split
 ·rfl
 ·rw [at_eq,ev_bin,gat_ev op w f hf hw]
  have hl:=(places_bd f hf).2
  have h20:2 ^ (placesF f).length≤2 ^ 20:=Nat.pow_le_pow_right (by omega) hl
  have h0:ibin .andNot .u32 ((gatN (placesF f) w:Nat) : Int) ((2 ^ (placesF f).length - 1:Nat) : Int)=0:=by
   refine (u32_andNot_nat _ _ (by omega) (by omega)).trans ?_
   rw [low_bits _ _ (by omega) hlt]
   rfl
  exact if_pos h0
theorem formI_B (op:Nat) (h1:1≤op) (h2:op≤94) : formI (op:Int)=formB op:=by
 have h:((List.range 94).all fun o=>Nat.beq (formI ((o+1:Nat) : Int)) (formB (o+1)))=true:=by kernel_rfl
 have:=List.all_eq_true.1 h (op - 1) (List.mem_range.2 (by omega))
 rw [Nat.sub_add_cancel h1] at this
 exact Nat.eq_of_beq_eq_true this
theorem shapeF (f:Nat) (hf:f∈formsAll) : (shapeL f).d=(regsF f).1∧(shapeL f).s=(regsF f).2.1∧(shapeL f).t=(regsF f).2.2:=by
 simp only [formsAll,List.mem_cons,List.not_mem_nil,or_false] at hf
 rcases hf with rfl | rfl | rfl | rfl | rfl | rfl | rfl | rfl | rfl | rfl | rfl | rfl | rfl | rfl | rfl <;> exact ⟨rfl,rfl,rfl⟩
end Go.Proofs.YtoehlmiadiiimaaGreatDoor

