/-
  The machine, as the document has it: the next instruction is the program's.
-/
import Derived.Test.YtoehlmiadiiimaaGreatDoorTMemJ2
import Derived.Test.YtoehlmiadiiimaaGreatDoorTMemJ4
import Derived.Test.YtoehlmiadiiimaaGreatDoorTMemJ7
import Derived.Test.YtoehlmiadiiimaaGreatDoorTMemO6
import Derived.Test.YtoehlmiadiiimaaGreatDoorTMemX3
namespace Go.Proofs.YtoehlmiadiiimaaGreatDoor
open Go.ChangeShapes Go.WideShapes Go.RowKit Go.Proofs.YtoehlmiadiiimaaGreatDoor.Ex
structure Fit (r:Rn) : Prop where
 pc:0≤r.pc∧r.pc < B64
 base:0≤r.base∧r.base≤2147483648
 len:r.mem.length≤65536
 bytes:∀ x∈r.mem,0≤x∧x < 256
 regs:Regs64 r.regs
 told:r.told.length≤1000000
theorem thereM (mv tv:Value) (r:Rn) (W:World) (hl:r.regs.length=32) (hmv:∃ A q,mv=.slice A r.mem.length q) (F:Fit r) (addr:Int) (ha:0≤addr∧addr < B64) (many:Nat) (hm0:0 < many) (hm:many≤8) :
  Calls Tryz.prog 51 #[.agg (mcells r mv tv).toArray,.int .u64 addr,.int .i64 many] W fun e w'=>e=.returned (.int .i64 (thereF r addr many))∧Below W.heap.size W w':=by
 obtain ⟨A,q,rfl⟩:=hmv
 exact there_any _ r.base addr A r.mem.length q many W (Lib.hid (mc_size hl)) (mc33 hl) (mc34 hl) F.base.1 F.base.2 ha.1 ha.2 F.len hm0 hm _ (Lib.hid (thereF_eq r addr many F.base.1 F.base.2 ha.1 ha.2 F.len))
theorem getD_byte {l:List Int} (h:∀ x∈l,0≤x∧x < 256) (i:Nat) : 0≤l.getD i 0∧l.getD i 0 < 256:=by
 rw [List.getD_eq_getElem?_getD]
 cases hx:l[i]? with
 | none=>exact ⟨Int.le_refl _,by decide⟩
 | some x=>exact h x (List.mem_of_getElem? hx)
theorem readM (v:Value) (r:Rn) (w:World) (h:MachR w v r) (F:Fit r) (k many:Nat) (hk:k+many≤r.mem.length) (hm0:0 < many) (hm:many≤8) :
  Calls Tryz.prog 53 #[v,.int .i64 k,.int .i64 many] w fun e w'=>e=.returned (.int .u64 (ldm r.mem k many))∧Below w.heap.size w w':=by
 obtain ⟨mv,tv,rfl,hmv,_⟩:=h.form
 obtain ⟨A,q,rfl,hc,hA⟩:=hmv.form
 rw [List.length_map] at hA hc
 obtain ⟨ad,rfl,hlt,hcell⟩:=hA (by omega)
 have hF:=F.len
 have:=read_any (mcells r (.slice (some ad) (r.mem.map (Value.int .u8)).length q) tv).toArray ad r.mem.length q k many (fun j=>r.mem.getD (k+j) 0) w (Lib.hid (mc_size h.len)) (by rw [mc34 h.len,List.length_map]) (Lib.hid fun j=>getD_byte F.bytes _) hlt
  (Lib.hid fun j hj=>by
    have hj':k+j < r.mem.length:=by omega
    refine hcell (k+j) _ ?_
    simp [hj']) hk hm0 hm hc F.len
 rw [rdN_ldv _ _ (fun j=>getD_byte F.bytes _) hm] at this
 exact this
theorem size2D (x:Int) (hx:0≤x) (h:(x % 4 == 3)=false) (w:World) : Calls Tryz.prog 73 #[.int .u16 x] w fun e w'=>e=.returned (.int .i64 2)∧w=w':=by
 go_enter Tryz.func73,Tryz.ntmps73
 go_wp2
 go_ret
 exact ⟨rfl,rfl⟩
theorem size4D (x:Int) (hx:0≤x) (h:(x % 4 == 3)=true) (w:World) : Calls Tryz.prog 73 #[.int .u16 x] w fun e w'=>e=.returned (.int .i64 4)∧w=w':=by
 go_enter Tryz.func73,Tryz.ntmps73
 go_wp2
 go_ret
 exact ⟨rfl,rfl⟩
theorem and3 (x:Int) (h0:0≤x) (h1:x < 65536) : bits .and .u16 x 3=x % 4:=by
 obtain ⟨n,rfl⟩:=Int.eq_ofNat_of_zero_le h0
 have e:bits .and .u16 (n:Int) ((3:Nat) : Int)=((Nat.land n 3:Nat) : Int):=and_nat .u16 n 3 (by show n≤65535; omega) (by decide)
 refine e.trans ?_
 rw [show Nat.land n 3=n % 4 from Nat.and_two_pow_sub_one_eq_mod n 2]
 omega
theorem docH_c (h:Nat) (hh:h < 65536) (W:World) (hL:LG W) : Calls Tryz.prog 74 #[.int .u16 h] W fun e w'=>e=.returned (.tuple #[(cdecR h).1.v,.int .i64 (cdecR h).2])∧Below W.heap.size W w':=by
 have:=doc h hh W hL
 rw [cdec_v h] at this
 exact this
def nextV (r:Rn) : Ins×Nat×Bool:=match place r r.pc 2 with
 | none=>(i0,0,false)
 | some k =>
  if r.pc % 2=0 then
   match IntKind.u16.wrap (ldm r.mem k 2) % 4 == 3 with
   | false=>((cdecR (IntKind.u16.wrap (ldm r.mem k 2)).toNat).1,2,(cdecR (IntKind.u16.wrap (ldm r.mem k 2)).toNat).2 == 0)
   | true=>match place r r.pc 4 with
    | none=>(i0,0,false)
    | some _=>((decR (IntKind.u32.wrap (ldm r.mem k 4)).toNat).1,4,(decR (IntKind.u32.wrap (ldm r.mem k 4)).toNat).2 == 0)
  else (i0,0,false)
theorem u16_bd (x:Int) : 0≤IntKind.u16.wrap x∧IntKind.u16.wrap x < 65536:=by
 have e:IntKind.u16.wrap x=x % 65536:=rfl
 rw [e]; omega
theorem u32_bd' (x:Int) : 0≤IntKind.u32.wrap x∧IntKind.u32.wrap x < 4294967296:=by
 rw [IntKind.wrap_u32]; omega
theorem next_D (v:Value) (r:Rn) (w:World) (h:MachR w v r) (F:Fit r) (hL:LG w) (h13:3≤w.heap.size) : Calls Tryz.prog 46 #[v] w (NextD w (nextV r).1 (nextV r).2.1 (nextV r).2.2):=by
 have hv:=h.form
 obtain ⟨mv,tv,rfl,hmv,_⟩:=hv
 obtain ⟨A,q,rfl,_,_⟩:=hmv.form
 rw [List.length_map] at h ⊢
 have hs:=Lib.hid (mc_size (r:=r) (mv:=.slice A r.mem.length q) (tv:=tv) h.len)
 have hc0:=mc0 (r:=r) (mv:=.slice A r.mem.length q) (tv:=tv)
 have T:=fun W many h0 h1=>thereM (.slice A r.mem.length q) tv r W h.len ⟨A,q,rfl⟩ F r.pc F.pc many h0 h1
 have R:=fun W (hb:Below w.heap.size w W) k many=>readM _ r W (h.keep hb) F k many
 have hF:=F.len
 have hpc:=F.pc.1
 unfold nextV
 cases hp:place r r.pc 2 with
 | none =>
  have e:thereF r r.pc 2 = -1:=by unfold thereF; rw [hp]
  have T2:∀ W,Hid (Calls Tryz.prog 51 #[.agg (mcells r (.slice A r.mem.length q) tv).toArray,.int .u64 r.pc,.int .i64 2] W fun e W'=>e=.returned (.int .i64 (-1))∧Below W.heap.size W W'):=fun W=>Lib.hid (by have:=T W 2 (by omega) (by omega); rw [e] at this; exact this)
  exact nextD_off _ w r.pc hs hc0 T2
 | some k =>
  obtain ⟨_,hk⟩:=place_some hp
  have e:thereF r r.pc 2=(k:Int):=by unfold thereF; rw [hp]
  have T2:∀ W,Hid (Calls Tryz.prog 51 #[.agg (mcells r (.slice A r.mem.length q) tv).toArray,.int .u64 r.pc,.int .i64 2] W fun e W'=>e=.returned (.int .i64 k)∧Below W.heap.size W W'):=fun W=>Lib.hid (by have:=T W 2 (by omega) (by omega); rw [e] at this; exact this)
  by_cases hodd:r.pc % 2=0
  ·have ho:(r.pc % 2 == 1)=false:=by rw [beq_eq_false_iff_ne]; omega
   simp only
   rw [if_pos hodd]
   have R2:∀ W,Below w.heap.size w W→Hid (Calls Tryz.prog 53 #[.agg (mcells r (.slice A r.mem.length q) tv).toArray,.int .i64 k,.int .i64 2] W fun e W'=>e=.returned (.int .u64 (ldm r.mem k 2))∧Below W.heap.size W W'):=fun W hb=>Lib.hid (R W hb k 2 hk (by omega) (by omega))
   obtain ⟨b0,b1⟩:=u16_bd (ldm r.mem k 2)
   cases h3:IntKind.u16.wrap (ldm r.mem k 2) % 4 == 3 with
   | false =>
    simp only
    have S2:∀ W,Hid (Calls Tryz.prog 73 #[.int .u16 (IntKind.u16.wrap (ldm r.mem k 2))] W fun e W'=>e=.returned (.int .i64 2)∧W=W'):=fun W=>Lib.hid (size2D _ b0 h3 W)
    obtain ⟨n,hn⟩:=Int.eq_ofNat_of_zero_le b0
    have H74:∀ W,Below w.heap.size w W→Hid (Calls Tryz.prog 74 #[.int .u16 (IntKind.u16.wrap (ldm r.mem k 2))] W fun e W'=>e=.returned (.tuple #[(cdecR n).1.v,.int .i64 (cdecR n).2])∧Below W.heap.size W W'):=fun W hb=>Lib.hid (by rw [hn]; exact docH_c n (by omega) W (laidG_below hL (hb.mono h13)))
    have key:=nextD_two _ w r.pc hs hc0 k (by omega) hpc ho (ldm r.mem k 2) (cdecR n).1 (cdecR n).2 T2 R2 S2 H74
    rw [hn,Int.toNat_natCast]
    exact key
   | true =>
    simp only
    have S4:∀ W,Hid (Calls Tryz.prog 73 #[.int .u16 (IntKind.u16.wrap (ldm r.mem k 2))] W fun e W'=>e=.returned (.int .i64 4)∧W=W'):=fun W=>Lib.hid (size4D _ b0 h3 W)
    cases hp4:place r r.pc 4 with
    | none =>
     have e4:thereF r r.pc 4 = -1:=by unfold thereF; rw [hp4]
     have T4:∀ W,Hid (Calls Tryz.prog 51 #[.agg (mcells r (.slice A r.mem.length q) tv).toArray,.int .u64 r.pc,.int .i64 4] W fun e W'=>e=.returned (.int .i64 (-1))∧Below W.heap.size W W'):=fun W=>Lib.hid (by have:=T W 4 (by omega) (by omega); rw [e4] at this; exact this)
     exact nextD_short _ w r.pc hs hc0 k (by omega) hpc ho _ T2 R2 S4 T4
    | some k4 =>
     obtain ⟨g4,hk4⟩:=place_some hp4
     obtain ⟨g2,_⟩:=place_some hp
     obtain rfl:k4=k:=by omega
     have e4:thereF r r.pc 4=(k4:Int):=by unfold thereF; rw [hp4]
     have T4:∀ W,Hid (Calls Tryz.prog 51 #[.agg (mcells r (.slice A r.mem.length q) tv).toArray,.int .u64 r.pc,.int .i64 4] W fun e W'=>e=.returned (.int .i64 k4)∧Below W.heap.size W W'):=fun W=>Lib.hid (by have:=T W 4 (by omega) (by omega); rw [e4] at this; exact this)
     have R4:∀ W,Below w.heap.size w W→Hid (Calls Tryz.prog 53 #[.agg (mcells r (.slice A r.mem.length q) tv).toArray,.int .i64 k4,.int .i64 4] W fun e W'=>e=.returned (.int .u64 (ldm r.mem k4 4))∧Below W.heap.size W W'):=fun W hb=>Lib.hid (R W hb k4 4 hk4 (by omega) (by omega))
     obtain ⟨c0,c1⟩:=u32_bd' (ldm r.mem k4 4)
     obtain ⟨n,hn⟩:=Int.eq_ofNat_of_zero_le c0
     have H75:∀ W,Hid (Calls Tryz.prog 75 #[.int .u32 (IntKind.u32.wrap (ldm r.mem k4 4))] W fun e W'=>e=.returned (.tuple #[(decR n).1.v,.int .i64 (decR n).2])∧Below W.heap.size W W'):=fun W=>Lib.hid (by rw [hn]; exact docW_c n (by omega) W)
     have key:=nextD_four _ w r.pc hs hc0 k4 (by omega) hpc ho (ldm r.mem k4 2) (ldm r.mem k4 4) (decR n).1 (decR n).2 T2 R2 S4 T4 R4 H75
     simp only
     rw [hn,Int.toNat_natCast]
     exact key
  ·have ho:(r.pc % 2 == 1)=true:=by rw [beq_iff_eq]; omega
   simp only
   rw [if_neg hodd]
   exact nextD_odd _ w r.pc hs hc0 k (by omega) hpc ho T2
theorem fetch_next (r:Rn) : fetch r=(match (nextV r).2.2 with | true=>some ((nextV r).1,IntKind.u64.wrap (r.pc+((nextV r).2.1:Nat))) | false=>none)∧(nextV r).2.1≤4:=by
 unfold fetch nextV
 cases hp:place r r.pc 2 with
 | none=>exact ⟨rfl,by show 0≤4; omega⟩
 | some k =>
  simp only
  by_cases hodd:r.pc % 2=0
  ·rw [if_pos hodd,if_pos hodd]
   obtain ⟨b0,b1⟩:=u16_bd (ldm r.mem k 2)
   rw [and3 _ b0 b1]
   cases h3:IntKind.u16.wrap (ldm r.mem k 2) % 4 == 3 with
   | false =>
    simp only
    by_cases h0:(cdecR (IntKind.u16.wrap (ldm r.mem k 2)).toNat).2=0
    ·rw [if_pos h0,h0]; exact ⟨rfl,by omega⟩
    ·rw [if_neg h0,show ((cdecR (IntKind.u16.wrap (ldm r.mem k 2)).toNat).2 == 0)=false from by simpa using h0]; exact ⟨rfl,by omega⟩
   | true =>
    simp only
    cases hp4:place r r.pc 4 with
    | none=>exact ⟨rfl,by show 0≤4; omega⟩
    | some k4 =>
     simp only
     by_cases h0:(decR (IntKind.u32.wrap (ldm r.mem k 4)).toNat).2=0
     ·rw [if_pos h0,h0]; exact ⟨rfl,by omega⟩
     ·rw [if_neg h0,show ((decR (IntKind.u32.wrap (ldm r.mem k 4)).toNat).2 == 0)=false from by simpa using h0]; exact ⟨rfl,by omega⟩
  ·rw [if_neg hodd,if_neg hodd]; exact ⟨rfl,by show 0≤4; omega⟩
end Go.Proofs.YtoehlmiadiiimaaGreatDoor
