import Derived.Test.YtoehlmiadiiimaaGreatDoorTMemO3
import Derived.Test.YtoehlmiadiiimaaGreatDoorTMemJ3
import Derived.Test.YtoehlmiadiiimaaGreatDoorTMemV2
import Derived.Test.YtoehlmiadiiimaaGreatDoorTMemO1
/-
  The machine, as the document has it: names; places in memory; what stands there.
-/
namespace Go.Proofs.YtoehlmiadiiimaaGreatDoor
open Go.ChangeShapes Go.WideShapes Go.RowKit Go.Proofs.YtoehlmiadiiimaaGreatDoor.Ex
def lsN (op:Nat) : Nat:=if op < 18 then ldN op else stN op
def rootO:Nat→Nat
 | 22=>31
 | 23=>34
 | 24=>35
 | 25=>36
 | 26=>39
 | 27=>40
 | 28=>33
 | 29=>37
 | 30=>38
 | 41=>45
 | 42=>47
 | 43=>48
 | 44=>49
 | n=>n
def rootL:List Nat:=[22,23,24,25,26,27,28,29,30,41,42,43,44]
def tab55:List (List AV×AV):=rootL.map fun (op:Nat)=>([var0.getD (op - 1) .nilif],var0.getD (rootO op - 1) .nilif)
theorem told55:tabOk Tryz.prog (fun _=>noOrc) 55 tab55=true:=by kernel_rfl
theorem root_in (op:Nat) (h:op∈rootL) : 1≤op∧op≤94∧1≤rootO op∧rootO op≤94:=by
 have h':(rootL.all fun op=>decide (1≤op∧op≤94∧1≤rootO op∧rootO op≤94))=true:=by decide
 exact of_decide_eq_true (List.all_eq_true.1 h' op h)
theorem rootD (op:Nat) (h:op∈rootL) (w:World) : Calls Tryz.prog 55 #[.string (nameB op)] w fun e w'=>e=.returned (.string (nameB (rootO op)))∧Below w.heap.size w w':=by
 obtain ⟨h1,h2,h3,h4⟩:=root_in op h
 have k:=(tab_of mixed (fun φ=>noOrc_OK Tryz.prog 0 φ) told55).2 _ (List.mem_map.2 ⟨op,h,rfl⟩) (fun _=>0) (fun _ _=>0) w
 have e1:(AV.toVals (fun _=>0) (fun _ _=>0) [var0.getD (op - 1) .nilif]).toArray=#[.string (nameB op)]:=by
  rw [← name_val op h1 h2]; rfl
 rw [e1,name_val _ h3 h4] at k
 exact k
def thereF (r:Rn) (addr:Int) (many:Nat) : Int:=match place r addr many with
 | some k=>(k:Int)
 | none=>-1
set_option maxRecDepth 100000 in
set_option maxHeartbeats 1000000 in
theorem there_any (cs:Array Value) (base addr:Int) (A:Option Addr) (n c many:Nat) (w:World) (_hs:Hid (cs.size=37)) (h33:cs[33]?=some (.int .u64 base)) (h34:cs[34]?=some (.slice A n c))
  (hb0:0≤base) (hb:base≤2147483648) (ha0:0≤addr) (_ha:addr < B64) (hn:n≤65536) (hm0:0 < many) (hm:many≤8) (x:Int)
  (hx:Hid (x=if addr < base∨(n:Int) < addr - base∨(n:Int) - many < addr - base then -1 else addr - base)) :
  Calls Tryz.prog 51 #[.agg cs,.int .u64 addr,.int .i64 many] w fun e w'=>e=.returned (.int .i64 x)∧Below w.heap.size w w':=by
 have D:=(Blk.new w 27 cs)
 have c33:=(D.cell 33).trans h33
 have c34:=(D.cell 34).trans h34
 clear D h33 h34
 by_cases h1:addr < base
 ·have HX:Hid (x = -1):=Lib.hid (by rw [hx.out,if_pos (.inl h1)])
  have hd:decide (addr < base)=true:=decide_eq_true h1
  clear h1 hx
  go_enter Tryz.func51,Tryz.ntmps51
  go_wp2
  go_ret
  exact ⟨by rw [HX.out]; rfl,(Below.refl _ _).alloc (Nat.le_refl _) _⟩
 ·obtain ⟨m,hm'⟩ : ∃ m:Int,addr=base+m:=⟨addr - base,by omega⟩
  subst hm'
  have hm2:0≤m:=by omega
  have em:base+m - base=m:=by omega
  rw [em] at hx
  have ew:IntKind.u64.wrap (base+m - base)=m:=by rw [em,IntKind.wrap_u64]; unfold B64 at _ha; omega
  by_cases h2:(n:Int) < m
  ·have HX:Hid (x = -1):=Lib.hid (by rw [hx.out,if_pos (.inr (.inl h2))])
   clear hx h1 em
   go_enter Tryz.func51,Tryz.ntmps51
   go_wp2
   go_ret
   exact ⟨by rw [HX.out]; rfl,(Below.refl _ _).alloc (Nat.le_refl _) _⟩
  ·by_cases h3:(n:Int) - many < m
   ·have HX:Hid (x = -1):=Lib.hid (by rw [hx.out,if_pos (.inr (.inr h3))])
    clear hx h1 em
    go_enter Tryz.func51,Tryz.ntmps51
    go_wp2
    go_ret
    exact ⟨by rw [HX.out]; rfl,(Below.refl _ _).alloc (Nat.le_refl _) _⟩
   ·have HX:Hid (x=m):=Lib.hid (by rw [hx.out,if_neg (by omega)])
    clear hx h1 em
    go_enter Tryz.func51,Tryz.ntmps51
    go_wp2
    go_ret
    exact ⟨by rw [HX.out]; rfl,(Below.refl _ _).alloc (Nat.le_refl _) _⟩
theorem thereF_eq (r:Rn) (addr:Int) (many:Nat) (hb0:0≤r.base) (hb:r.base≤2147483648) (ha0:0≤addr) (ha:addr < B64) (hn:r.mem.length≤65536) :
  thereF r addr many=if addr < r.base∨(r.mem.length:Int) < addr - r.base∨(r.mem.length:Int) - many < addr - r.base then -1 else addr - r.base:=by
 unfold thereF place B64 at *
 simp only [IntKind.wrap_u64]
 by_cases h1:addr < r.base
 ·rw [if_neg (by omega),if_pos (.inl h1)]
 ·have e:(addr - r.base) % 18446744073709551616=addr - r.base:=by omega
  rw [e]
  by_cases h2:(addr - r.base).toNat+many≤r.mem.length
  ·rw [if_pos h2,if_neg (by omega)]; show (((addr - r.base).toNat:Nat) : Int)=_; omega
  ·rw [if_neg h2,if_pos (by omega)]
def rdN (b:Nat→Int) (many:Nat) : Nat→Int
 | 0=>0
 | j+1=>rdN b many j*256+b (many - (j+1))
theorem rdN_bd (b:Nat→Int) (many:Nat) (hb:∀ j,0≤b j∧b j < 256) : ∀ j,j≤8→0≤rdN b many j∧rdN b many j < 256 ^ j
 | 0,_=>by simp [rdN]
 | j+1,h=>by
  obtain ⟨h1,h2⟩:=rdN_bd b many hb j (by omega)
  obtain ⟨h3,h4⟩:=hb (many - (j+1))
  rw [rdN,Int.pow_succ]
  generalize (256:Int) ^ j=q at *
  omega
end Go.Proofs.YtoehlmiadiiimaaGreatDoor

/-
  The machine, as the document has it: numbers: what stands in memory, branches, operations of two numbers.
-/
set_option maxRecDepth 100000
namespace Go.Proofs.YtoehlmiadiiimaaGreatDoor
open Go.ChangeShapes Go.WideShapes Go.RowKit Go.Proofs.YtoehlmiadiiimaaGreatDoor.Ex
def sumN (b:Nat→Int) : Nat→Int
 | 0=>0
 | j+1=>sumN b j+b j*256 ^ j
theorem sumN_bd (b:Nat→Int) (hb:∀ j,0≤b j∧b j < 256) : ∀ j,0≤sumN b j∧sumN b j < 256 ^ j
 | 0=>by simp [sumN]
 | j+1=>by
  obtain ⟨h1,h2⟩:=sumN_bd b hb j
  obtain ⟨h3,h4⟩:=hb j
  rw [sumN,Int.pow_succ]
  have hp:(0:Int) < 256 ^ j:=Int.pow_pos (by decide)
  generalize (256:Int) ^ j=q at *
  generalize b j=v at *
  have e1:0≤v*q:=Int.mul_nonneg h3 (by omega)
  have e2:v*q≤255*q:=Int.mul_le_mul_of_nonneg_right (by omega) (by omega)
  omega
theorem ldv_sum (b:Nat→Int) (hb:∀ j,0≤b j∧b j < 256) : ∀ j,j≤8→ldv b j=sumN b j
 | 0,_=>rfl
 | j+1,h=>by
  obtain ⟨h1,h2⟩:=sumN_bd b hb j
  obtain ⟨h3,h4⟩:=hb j
  have e8:(2:Int) ^ (8*j)=256 ^ j:=by rw [Int.pow_mul]; rfl
  have hle:256 ^ j≤72057594037927936:=Nat.pow_le_pow_right (show 0 < 256 by omega) (show j≤7 by omega)
  rw [ldv,ldv_sum b hb j (by omega),sumN,e8]
  obtain ⟨a,ha⟩:=Int.eq_ofNat_of_zero_le h1
  obtain ⟨v,hv⟩:=Int.eq_ofNat_of_zero_le h3
  have ep:(256:Int) ^ j=((256 ^ j:Nat) : Int):=by simp
  rw [ha,ep] at h2
  rw [hv] at h3 h4
  rw [ha,hv,ep]
  have hnv:v < 256:=by omega
  have hna:a < 256 ^ j:=by omega
  have h255:v*256 ^ j≤255*256 ^ j:=Nat.mul_le_mul_right _ (by omega)
  have w1:IntKind.u64.wrap (v:Int)=(v:Int):=by rw [IntKind.wrap_u64]; omega
  have w2:IntKind.u64.wrap ((v:Int)*((256 ^ j:Nat) : Int))=((v*256 ^ j:Nat) : Int):=by
   rw [show (v:Int)*((256 ^ j:Nat) : Int)=((v*256 ^ j:Nat) : Int) from rfl,IntKind.wrap_u64]; omega
  rw [w1,w2]
  have hk:kmax .u64=18446744073709551615:=rfl
  have e:=or_nat .u64 a (v*256 ^ j) (by omega) (by omega)
  refine (show bits .or .u64 (a:Int) ((v*256 ^ j:Nat) : Int)=_ from e).trans ?_
  have ho:Nat.lor a (v*256 ^ j)=a+v*256 ^ j:=by
   show a ||| v*256 ^ j=_
   have e2:256 ^ j=2 ^ (8*j):=by rw [Nat.pow_mul]
   rw [e2] at hna ⊢
   rw [Nat.mul_comm v,Nat.or_comm,← Nat.two_pow_add_eq_or_of_lt hna]; omega
  rw [ho]
  rfl
theorem rdN_sum (b:Nat→Int) (many:Nat) : ∀ j,j≤many→sumN b (many - j)+256 ^ (many - j)*rdN b many j=sumN b many
 | 0,_=>by simp [rdN]
 | j+1,h=>by
  have ih:=rdN_sum b many j (by omega)
  rw [← ih,rdN,show many - j=(many - (j+1))+1 by omega,sumN,Int.pow_succ,Int.mul_add,Int.mul_assoc,Int.mul_comm 256 (rdN b many j),Int.mul_comm (b _)]
  omega
theorem rdN_ldv (b:Nat→Int) (many:Nat) (hb:∀ j,0≤b j∧b j < 256) (hm:many≤8) : rdN b many many=ldv b many:=by
 have h:=rdN_sum b many many (Nat.le_refl _)
 rw [Nat.sub_self] at h
 simp only [sumN,Int.pow_zero,Int.zero_add,Int.one_mul] at h
 rw [ldv_sum b hb many hm,h]
set_option maxHeartbeats 1000000 in
theorem read_any (cs:Array Value) (A:Addr) (n c k many:Nat) (b:Nat→Int) (w:World) (_hs:Hid (cs.size=37)) (h34:cs[34]?=some (.slice (some A) n c)) (hbd:Hid (∀ j,0≤b j∧b j < 256))
  (hlt:A.block < w.heap.size) (hb:Hid (∀ j,j < many→w.cell? (A.add (k+j))=some (.int .u8 (b j)))) (h1:k+many≤n) (_hm0:0 < many) (hm:many≤8) (_hn:n≤c) (hc:n≤65536) :
  Calls Tryz.prog 53 #[.agg cs,.int .i64 k,.int .i64 many] w fun e w'=>e=.returned (.int .u64 (rdN b many many))∧Below w.heap.size w w':=by
 have D:=(Blk.new w 27 cs)
 have c34:=(D.cell 34).trans h34
 have hb':Hid (∀ j,j < many→(w.alloc (.cells cs 27)).cell? (A.add (k+j))=some (.int .u8 (b j))):=Lib.hid fun j hj=>by
  have hbl:(A.add (k+j)).block=A.block:=by unfold Addr.add; split <;> rfl
  exact (World.cell?_alloc_lt w _ _ (by rw [hbl]; exact hlt)).trans (hb.out j hj)
 clear D h34 hb
 go_enter Tryz.func53,Tryz.ntmps53
 go_wp2
 go_loop [7,8] (fun x i=>∃ p:Nat,p≤many∧i=.int .i64 ((p:Int) - 1)∧x=.int .u64 (rdN b many (many - p))) (fun _ i=>(intOf i+1).toNat)
 case atStart=>exact ⟨many,Nat.le_refl _,rfl,by rw [Nat.sub_self]; rfl⟩
 case round =>
  obtain ⟨p,hp,rfl,rfl⟩:=hrel
  by_cases hz:p=0
  ·subst hz
   go_wp2
   go_ret
   exact ⟨rfl,(Below.refl _ _).alloc (Nat.le_refl _) _⟩
  ·obtain ⟨q,hq⟩ : ∃ q,p=q+1:=⟨p - 1,by omega⟩
   subst hq
   have eq1:(((q+1:Nat) : Int) - 1)=(q:Int):=by omega
   rw [eq1]
   have hcell:=hb'.out q (by omega)
   obtain ⟨l1,l2⟩:=rdN_bd b many hbd.out (many - (q+1)) (by omega)
   have l3:(256:Int) ^ (many - (q+1))≤72057594037927936:=by
    have:=Nat.pow_le_pow_right (show 0 < 256 by omega) (show many - (q+1)≤7 by omega)
    have e:(256:Int) ^ (many - (q+1))=((256 ^ (many - (q+1)) : Nat) : Int):=by simp
    rw [e]; omega
   have l4:rdN b many (many - (q+1)) < 72057594037927936:=by omega
   have HS:Hid (rdN b many (many - q)=rdN b many (many - (q+1))*256+b q):=Lib.hid (by
    rw [show many - q=(many - (q+1))+1 by omega,rdN,show many - (many - (q+1)+1)=q by omega])
   obtain ⟨v1,v2⟩:=hbd.out q
   clear l2 l3 eq1 hz
   generalize rdN b many (many - (q+1))=N at *
   generalize b q=B at *
   go_wp2
   go_round
   case rel=>exact ⟨q,by omega,rfl,by rw [HS.out]⟩
   case measure=>first | (simp [intOf]; done) | (simp [intOf]; omega)
theorem less_t (x y:Int) (w:World) : Calls Tryz.prog 77 #[.int .u64 x,.int .u64 y] w fun e w'=>e=.returned (.bool (decide (wrap64 x < wrap64 y)))∧w=w':=by
 rw [← less_eq]
 exact less_raw x y w
theorem tk_beq (x y:Int) (w:World) : Calls Tryz.prog 50 #[.string ⟨#[98,101,113]⟩,.int .u64 x,.int .u64 y] w fun e w'=>e=.returned (.bool (x == y))∧w=w':=by
 go_enter Tryz.func50,Tryz.ntmps50
 go_wp2
 go_ret
 exact ⟨rfl,rfl⟩
theorem tk_bne (x y:Int) (w:World) : Calls Tryz.prog 50 #[.string ⟨#[98,110,101]⟩,.int .u64 x,.int .u64 y] w fun e w'=>e=.returned (.bool (x != y))∧w=w':=by
 go_enter Tryz.func50,Tryz.ntmps50
 go_wp2
 go_ret
 exact ⟨rfl,rfl⟩
theorem tk_blt (x y:Int) (l:Bool) (h:∀ w,Hid (Calls Tryz.prog 77 #[.int .u64 x,.int .u64 y] w fun e w'=>e=.returned (.bool l)∧w=w')) (w:World) : Calls Tryz.prog 50 #[.string ⟨#[98,108,116]⟩,.int .u64 x,.int .u64 y] w fun e w'=>e=.returned (.bool l)∧w=w':=by
 go_enter Tryz.func50,Tryz.ntmps50
 go_wp2_with (go_at_call 77; refine (h _).out.mono ?_; rintro e w' ⟨rfl,rfl⟩)
 go_ret
 exact ⟨rfl,rfl⟩
theorem tk_bge (x y:Int) (l:Bool) (h:∀ w,Hid (Calls Tryz.prog 77 #[.int .u64 x,.int .u64 y] w fun e w'=>e=.returned (.bool l)∧w=w')) (w:World) : Calls Tryz.prog 50 #[.string ⟨#[98,103,101]⟩,.int .u64 x,.int .u64 y] w fun e w'=>e=.returned (.bool (!l))∧w=w':=by
 go_enter Tryz.func50,Tryz.ntmps50
 go_wp2_with (go_at_call 77; refine (h _).out.mono ?_; rintro e w' ⟨rfl,rfl⟩)
 go_ret
 exact ⟨rfl,rfl⟩
theorem tk_bltu (x y:Int) (w:World) : Calls Tryz.prog 50 #[.string ⟨#[98,108,116,117]⟩,.int .u64 x,.int .u64 y] w fun e w'=>e=.returned (.bool (decide (x < y)))∧w=w':=by
 go_enter Tryz.func50,Tryz.ntmps50
 go_wp2
 go_ret
 exact ⟨rfl,rfl⟩
theorem tk_bgeu (x y:Int) (l:Bool) (h:decide (x < y)=l) (w:World) : Calls Tryz.prog 50 #[.string ⟨#[98,103,101,117]⟩,.int .u64 x,.int .u64 y] w fun e w'=>e=.returned (.bool (!l))∧w=w':=by
 cases l
 all_goals
  go_enter Tryz.func50,Tryz.ntmps50
  go_wp2
  go_ret
  exact ⟨rfl,rfl⟩
theorem not_lt (x y:Int) : (!decide (x < y))=decide (y≤x):=by
 by_cases h:x < y
 ·rw [decide_eq_true h,decide_eq_false (by omega:¬ y≤x)]; rfl
 ·rw [decide_eq_false h,decide_eq_true (by omega:y≤x)]; rfl
theorem taken_all (op:Nat) (h1:5≤op) (h2:op≤10) (x y:Int) (w:World) : Calls Tryz.prog 50 #[.string (nameB op),.int .u64 x,.int .u64 y] w fun e w'=>e=.returned (.bool (brF op x y))∧w=w':=by
 obtain rfl | rfl | rfl | rfl | rfl | rfl:op=5∨op=6∨op=7∨op=8∨op=9∨op=10:=by omega
 ·exact tk_beq x y w
 ·exact tk_bne x y w
 ·exact tk_blt x y _ (fun w=>Lib.hid (less_t x y w)) w
 ·have:=tk_bge x y _ (fun w=>Lib.hid (less_t x y w)) w
  rw [not_lt] at this
  exact this
 ·exact tk_bltu x y w
 ·have:=tk_bgeu x y _ rfl w
  rw [not_lt] at this
  exact this
end Go.Proofs.YtoehlmiadiiimaaGreatDoor

