import Derived.Test.YtoehlmiadiiimaaGreatDoorTMemF0
import Derived.Deep.QuietTactic
import Derived.BigQuiet
import Derived.Laws.BitsAllLaws
set_option maxRecDepth 100000
namespace Go.Proofs.YtoehlmiadiiimaaGreatDoor
open Go.ChangeShapes Go.WideShapes Go.RowKit
theorem drewN_below {B:Nat} {w w':World} (n:Nat) (h:w.drewN n=w') : Below B w w':=by subst h; exact ⟨rfl,rfl,rfl,Nat.le_refl _,fun _ _=>rfl⟩
theorem quo_i64_0 (x y:Int) (w:World) (h:(y == 0)=true) : Calls Tryz.prog 149 #[.int .i64 x,.int .i64 y] w fun e w'=>e=.returned (.tuple #[.int .i64 (-1),.int .i64 x])∧Below w.heap.size w w':=by
 go_enter Tryz.func149,Tryz.ntmps149
 go_wp2
 go_ret2
 exact ⟨rfl,Below.refl _ _⟩
theorem quo_i64_m (x y:Int) (w:World) (h0:(y == 0)=false) (h:(y == -1)=true) : Calls Tryz.prog 149 #[.int .i64 x,.int .i64 y] w fun e w'=>e=.returned (.tuple #[.int .i64 (wrap64 (-x)),.int .i64 0])∧Below w.heap.size w w':=by
 go_enter Tryz.func149,Tryz.ntmps149
 go_wp2
 go_ret2
 exact ⟨rfl,Below.refl _ _⟩
theorem quo_i64_n (x y:Int) (w:World) (h0:(y == 0)=false) (h:(y == -1)=false) (hn:¬ y=0) : Calls Tryz.prog 149 #[.int .i64 x,.int .i64 y] w fun e w'=>e=.returned (.tuple #[.int .i64 (wrap64 (x.tdiv y)),.int .i64 (x.tmod y)])∧Below w.heap.size w w':=by
 go_enter Tryz.func149,Tryz.ntmps149
 go_wp2
 go_quiet (fail)
 go_wp2
 go_ret2
 exact ⟨rfl,drewN_below _ rfl⟩
theorem quo_u64_0 (x y:Int) (w:World) (h:(y == 0)=true) : Calls Tryz.prog 150 #[.int .u64 x,.int .u64 y] w fun e w'=>e=.returned (.tuple #[.int .u64 (IntKind.u64.wrap (-1)),.int .u64 x])∧Below w.heap.size w w':=by
 go_enter Tryz.func150,Tryz.ntmps150
 go_wp2
 go_ret2
 exact ⟨rfl,Below.refl _ _⟩
theorem quo_u64_n (x y:Int) (w:World) (h0:(y == 0)=false) (hn:¬ y=0) (hx:0≤x) (_hy:0≤y) : Calls Tryz.prog 150 #[.int .u64 x,.int .u64 y] w fun e w'=>e=.returned (.tuple #[.int .u64 (IntKind.u64.wrap (x.tdiv y)),.int .u64 (x % y)])∧Below w.heap.size w w':=by
 have hw:decide (IntKind.u64.wrap (-1) < 0)=false:=by decide
 go_enter Tryz.func150,Tryz.ntmps150
 go_wp2
 go_quiet (fail)
 go_wp2
 go_ret2
 exact ⟨rfl,drewN_below _ rfl⟩
theorem quo_i32_0 (x y:Int) (w:World) (h:(y == 0)=true) : Calls Tryz.prog 151 #[.int .i32 x,.int .i32 y] w fun e w'=>e=.returned (.tuple #[.int .i32 (-1),.int .i32 x])∧Below w.heap.size w w':=by
 go_enter Tryz.func151,Tryz.ntmps151
 go_wp2
 go_ret2
 exact ⟨rfl,Below.refl _ _⟩
theorem quo_i32_m (x y:Int) (w:World) (h0:(y == 0)=false) (h:(y == -1)=true) : Calls Tryz.prog 151 #[.int .i32 x,.int .i32 y] w fun e w'=>e=.returned (.tuple #[.int .i32 (wrap32 (-x)),.int .i32 0])∧Below w.heap.size w w':=by
 go_enter Tryz.func151,Tryz.ntmps151
 go_wp2
 go_ret2
 exact ⟨rfl,Below.refl _ _⟩
theorem quo_i32_n (x y:Int) (w:World) (h0:(y == 0)=false) (h:(y == -1)=false) (hn:¬ y=0) : Calls Tryz.prog 151 #[.int .i32 x,.int .i32 y] w fun e w'=>e=.returned (.tuple #[.int .i32 (wrap32 (x.tdiv y)),.int .i32 (x.tmod y)])∧Below w.heap.size w w':=by
 go_enter Tryz.func151,Tryz.ntmps151
 go_wp2
 go_quiet (fail)
 go_wp2
 go_ret2
 exact ⟨rfl,drewN_below _ rfl⟩
theorem quo_u32_0 (x y:Int) (w:World) (h:(y == 0)=true) : Calls Tryz.prog 152 #[.int .u32 x,.int .u32 y] w fun e w'=>e=.returned (.tuple #[.int .u32 (-1 % 4294967296),.int .u32 x])∧Below w.heap.size w w':=by
 go_enter Tryz.func152,Tryz.ntmps152
 go_wp2
 go_ret2
 exact ⟨rfl,Below.refl _ _⟩
theorem quo_u32_n (x y:Int) (w:World) (h0:(y == 0)=false) (hn:¬ y=0) (hx:0≤x) (_hy:0≤y) : Calls Tryz.prog 152 #[.int .u32 x,.int .u32 y] w fun e w'=>e=.returned (.tuple #[.int .u32 (x.tdiv y % 4294967296),.int .u32 (x % y)])∧Below w.heap.size w w':=by
 have hw:decide ((-1:Int) % 4294967296 < 0)=false:=by decide
 go_enter Tryz.func152,Tryz.ntmps152
 go_wp2
 go_quiet (fail)
 go_wp2
 go_ret2
 exact ⟨rfl,drewN_below _ rfl⟩
def quoS (wr:Int→Int) (x y:Int) : Int×Int:=if y=0 then (-1,x) else if y = -1 then (wr (-x),0) else (wr (x.tdiv y),x.tmod y)
def quo64 (x y:Int) : Int×Int:=if y=0 then (IntKind.u64.wrap (-1),x) else (IntKind.u64.wrap (x.tdiv y),x % y)
def quo32 (x y:Int) : Int×Int:=if y=0 then (-1 % 4294967296,x) else (x.tdiv y % 4294967296,x % y)
theorem quo_i64 (x y:Int) (w:World) : Calls Tryz.prog 149 #[.int .i64 x,.int .i64 y] w fun e w'=>e=.returned (.tuple #[.int .i64 (quoS wrap64 x y).1,.int .i64 (quoS wrap64 x y).2])∧Below w.heap.size w w':=by
 unfold quoS
 by_cases h0:y=0
 ·rw [if_pos h0]; exact quo_i64_0 x y w (by simpa using h0)
 ·rw [if_neg h0]
  by_cases h1:y = -1
  ·rw [if_pos h1]; exact quo_i64_m x y w (by simpa using h0) (by simpa using h1)
  ·rw [if_neg h1]; exact quo_i64_n x y w (by simpa using h0) (by simpa using h1) h0
theorem quo_i32 (x y:Int) (w:World) : Calls Tryz.prog 151 #[.int .i32 x,.int .i32 y] w fun e w'=>e=.returned (.tuple #[.int .i32 (quoS wrap32 x y).1,.int .i32 (quoS wrap32 x y).2])∧Below w.heap.size w w':=by
 unfold quoS
 by_cases h0:y=0
 ·rw [if_pos h0]; exact quo_i32_0 x y w (by simpa using h0)
 ·rw [if_neg h0]
  by_cases h1:y = -1
  ·rw [if_pos h1]; exact quo_i32_m x y w (by simpa using h0) (by simpa using h1)
  ·rw [if_neg h1]; exact quo_i32_n x y w (by simpa using h0) (by simpa using h1) h0
theorem quo_u64 (x y:Int) (w:World) (hx:0≤x) (hy:0≤y) : Calls Tryz.prog 150 #[.int .u64 x,.int .u64 y] w fun e w'=>e=.returned (.tuple #[.int .u64 (quo64 x y).1,.int .u64 (quo64 x y).2])∧Below w.heap.size w w':=by
 unfold quo64
 by_cases h0:y=0
 ·rw [if_pos h0]; exact quo_u64_0 x y w (by simpa using h0)
 ·rw [if_neg h0]; exact quo_u64_n x y w (by simpa using h0) h0 hx hy
theorem quo_u32 (x y:Int) (w:World) (hx:0≤x) (hy:0≤y) : Calls Tryz.prog 152 #[.int .u32 x,.int .u32 y] w fun e w'=>e=.returned (.tuple #[.int .u32 (quo32 x y).1,.int .u32 (quo32 x y).2])∧Below w.heap.size w w':=by
 unfold quo32
 by_cases h0:y=0
 ·rw [if_pos h0]; exact quo_u32_0 x y w (by simpa using h0)
 ·rw [if_neg h0]; exact quo_u32_n x y w (by simpa using h0) h0 hx hy
theorem divided_div (x y:Int) (w:World) (hx:0≤x) (hy:0≤y) : Calls Tryz.prog 112 #[.string ⟨#[100,105,118]⟩,.int .u64 x,.int .u64 y] w fun e w'=>e=.returned (.tuple #[.int .u64 (IntKind.u64.wrap (quoS wrap64 (wrap64 x) (wrap64 y)).1),.bool true])∧Below w.heap.size w w':=by
 have hx2:0≤x % 4294967296:=by omega
 have hy2:0≤y % 4294967296:=by omega
 go_enter Tryz.func112,Tryz.ntmps112
 go_wp2_with (go_at_call 149; refine (quo_i64 _ _ _).mono ?_; rintro e w1 ⟨rfl,hb1⟩)
 go_wp2_with (go_at_call 150; refine (quo_u64 _ _ _ hx hy).mono ?_; rintro e w2 ⟨rfl,hb2⟩)
 go_wp2_with (go_at_call 151; refine (quo_i32 _ _ _).mono ?_; rintro e w3 ⟨rfl,hb3⟩)
 go_wp2_with (go_at_call 152; refine (quo_u32 _ _ _ hx2 hy2).mono ?_; rintro e w4 ⟨rfl,hb4⟩)
 go_ret2
 exact ⟨rfl,((hb1.trans (hb2.mono hb1.size)).trans (hb3.mono (Nat.le_trans hb1.size hb2.size))).trans (hb4.mono (Nat.le_trans hb1.size (Nat.le_trans hb2.size hb3.size)))⟩
theorem divided_divu (x y:Int) (w:World) (hx:0≤x) (hy:0≤y) : Calls Tryz.prog 112 #[.string ⟨#[100,105,118,117]⟩,.int .u64 x,.int .u64 y] w fun e w'=>e=.returned (.tuple #[.int .u64 (quo64 x y).1,.bool true])∧Below w.heap.size w w':=by
 have hx2:0≤x % 4294967296:=by omega
 have hy2:0≤y % 4294967296:=by omega
 go_enter Tryz.func112,Tryz.ntmps112
 go_wp2_with (go_at_call 149; refine (quo_i64 _ _ _).mono ?_; rintro e w1 ⟨rfl,hb1⟩)
 go_wp2_with (go_at_call 150; refine (quo_u64 _ _ _ hx hy).mono ?_; rintro e w2 ⟨rfl,hb2⟩)
 go_wp2_with (go_at_call 151; refine (quo_i32 _ _ _).mono ?_; rintro e w3 ⟨rfl,hb3⟩)
 go_wp2_with (go_at_call 152; refine (quo_u32 _ _ _ hx2 hy2).mono ?_; rintro e w4 ⟨rfl,hb4⟩)
 go_ret2
 exact ⟨rfl,((hb1.trans (hb2.mono hb1.size)).trans (hb3.mono (Nat.le_trans hb1.size hb2.size))).trans (hb4.mono (Nat.le_trans hb1.size (Nat.le_trans hb2.size hb3.size)))⟩
theorem divided_rem (x y:Int) (w:World) (hx:0≤x) (hy:0≤y) : Calls Tryz.prog 112 #[.string ⟨#[114,101,109]⟩,.int .u64 x,.int .u64 y] w fun e w'=>e=.returned (.tuple #[.int .u64 (IntKind.u64.wrap (quoS wrap64 (wrap64 x) (wrap64 y)).2),.bool true])∧Below w.heap.size w w':=by
 have hx2:0≤x % 4294967296:=by omega
 have hy2:0≤y % 4294967296:=by omega
 go_enter Tryz.func112,Tryz.ntmps112
 go_wp2_with (go_at_call 149; refine (quo_i64 _ _ _).mono ?_; rintro e w1 ⟨rfl,hb1⟩)
 go_wp2_with (go_at_call 150; refine (quo_u64 _ _ _ hx hy).mono ?_; rintro e w2 ⟨rfl,hb2⟩)
 go_wp2_with (go_at_call 151; refine (quo_i32 _ _ _).mono ?_; rintro e w3 ⟨rfl,hb3⟩)
 go_wp2_with (go_at_call 152; refine (quo_u32 _ _ _ hx2 hy2).mono ?_; rintro e w4 ⟨rfl,hb4⟩)
 go_ret2
 exact ⟨rfl,((hb1.trans (hb2.mono hb1.size)).trans (hb3.mono (Nat.le_trans hb1.size hb2.size))).trans (hb4.mono (Nat.le_trans hb1.size (Nat.le_trans hb2.size hb3.size)))⟩
theorem divided_remu (x y:Int) (w:World) (hx:0≤x) (hy:0≤y) : Calls Tryz.prog 112 #[.string ⟨#[114,101,109,117]⟩,.int .u64 x,.int .u64 y] w fun e w'=>e=.returned (.tuple #[.int .u64 (quo64 x y).2,.bool true])∧Below w.heap.size w w':=by
 have hx2:0≤x % 4294967296:=by omega
 have hy2:0≤y % 4294967296:=by omega
 go_enter Tryz.func112,Tryz.ntmps112
 go_wp2_with (go_at_call 149; refine (quo_i64 _ _ _).mono ?_; rintro e w1 ⟨rfl,hb1⟩)
 go_wp2_with (go_at_call 150; refine (quo_u64 _ _ _ hx hy).mono ?_; rintro e w2 ⟨rfl,hb2⟩)
 go_wp2_with (go_at_call 151; refine (quo_i32 _ _ _).mono ?_; rintro e w3 ⟨rfl,hb3⟩)
 go_wp2_with (go_at_call 152; refine (quo_u32 _ _ _ hx2 hy2).mono ?_; rintro e w4 ⟨rfl,hb4⟩)
 go_ret2
 exact ⟨rfl,((hb1.trans (hb2.mono hb1.size)).trans (hb3.mono (Nat.le_trans hb1.size hb2.size))).trans (hb4.mono (Nat.le_trans hb1.size (Nat.le_trans hb2.size hb3.size)))⟩
theorem divided_divw (x y:Int) (w:World) (hx:0≤x) (hy:0≤y) : Calls Tryz.prog 112 #[.string ⟨#[100,105,118,119]⟩,.int .u64 x,.int .u64 y] w fun e w'=>e=.returned (.tuple #[.int .u64 (IntKind.u64.wrap (wrap64 (quoS wrap32 (wrap32 x) (wrap32 y)).1)),.bool true])∧Below w.heap.size w w':=by
 have hx2:0≤x % 4294967296:=by omega
 have hy2:0≤y % 4294967296:=by omega
 go_enter Tryz.func112,Tryz.ntmps112
 go_wp2_with (go_at_call 149; refine (quo_i64 _ _ _).mono ?_; rintro e w1 ⟨rfl,hb1⟩)
 go_wp2_with (go_at_call 150; refine (quo_u64 _ _ _ hx hy).mono ?_; rintro e w2 ⟨rfl,hb2⟩)
 go_wp2_with (go_at_call 151; refine (quo_i32 _ _ _).mono ?_; rintro e w3 ⟨rfl,hb3⟩)
 go_wp2_with (go_at_call 152; refine (quo_u32 _ _ _ hx2 hy2).mono ?_; rintro e w4 ⟨rfl,hb4⟩)
 go_ret2
 exact ⟨rfl,((hb1.trans (hb2.mono hb1.size)).trans (hb3.mono (Nat.le_trans hb1.size hb2.size))).trans (hb4.mono (Nat.le_trans hb1.size (Nat.le_trans hb2.size hb3.size)))⟩
theorem divided_remw (x y:Int) (w:World) (hx:0≤x) (hy:0≤y) : Calls Tryz.prog 112 #[.string ⟨#[114,101,109,119]⟩,.int .u64 x,.int .u64 y] w fun e w'=>e=.returned (.tuple #[.int .u64 (IntKind.u64.wrap (wrap64 (quoS wrap32 (wrap32 x) (wrap32 y)).2)),.bool true])∧Below w.heap.size w w':=by
 have hx2:0≤x % 4294967296:=by omega
 have hy2:0≤y % 4294967296:=by omega
 go_enter Tryz.func112,Tryz.ntmps112
 go_wp2_with (go_at_call 149; refine (quo_i64 _ _ _).mono ?_; rintro e w1 ⟨rfl,hb1⟩)
 go_wp2_with (go_at_call 150; refine (quo_u64 _ _ _ hx hy).mono ?_; rintro e w2 ⟨rfl,hb2⟩)
 go_wp2_with (go_at_call 151; refine (quo_i32 _ _ _).mono ?_; rintro e w3 ⟨rfl,hb3⟩)
 go_wp2_with (go_at_call 152; refine (quo_u32 _ _ _ hx2 hy2).mono ?_; rintro e w4 ⟨rfl,hb4⟩)
 go_ret2
 exact ⟨rfl,((hb1.trans (hb2.mono hb1.size)).trans (hb3.mono (Nat.le_trans hb1.size hb2.size))).trans (hb4.mono (Nat.le_trans hb1.size (Nat.le_trans hb2.size hb3.size)))⟩
theorem divided_divuw (x y:Int) (w:World) (hx:0≤x) (hy:0≤y) : Calls Tryz.prog 112 #[.string ⟨#[100,105,118,117,119]⟩,.int .u64 x,.int .u64 y] w fun e w'=>e=.returned (.tuple #[.int .u64 (nar32 (IntKind.u64.wrap (quo32 (x % 4294967296) (y % 4294967296)).1)),.bool true])∧Below w.heap.size w w':=by
 have hx2:0≤x % 4294967296:=by omega
 have hy2:0≤y % 4294967296:=by omega
 go_enter Tryz.func112,Tryz.ntmps112
 go_wp2_with (go_at_call 149; refine (quo_i64 _ _ _).mono ?_; rintro e w1 ⟨rfl,hb1⟩)
 go_wp2_with (go_at_call 150; refine (quo_u64 _ _ _ hx hy).mono ?_; rintro e w2 ⟨rfl,hb2⟩)
 go_wp2_with (go_at_call 151; refine (quo_i32 _ _ _).mono ?_; rintro e w3 ⟨rfl,hb3⟩)
 go_wp2_with (go_at_call 152; refine (quo_u32 _ _ _ hx2 hy2).mono ?_; rintro e w4 ⟨rfl,hb4⟩)
 go_wp2_with (go_at_call 67; refine (nar32_any _ _).mono ?_; rintro e w5 ⟨rfl,rfl⟩)
 go_ret2
 exact ⟨rfl,((hb1.trans (hb2.mono hb1.size)).trans (hb3.mono (Nat.le_trans hb1.size hb2.size))).trans (hb4.mono (Nat.le_trans hb1.size (Nat.le_trans hb2.size hb3.size)))⟩
theorem divided_remuw (x y:Int) (w:World) (hx:0≤x) (hy:0≤y) : Calls Tryz.prog 112 #[.string ⟨#[114,101,109,117,119]⟩,.int .u64 x,.int .u64 y] w fun e w'=>e=.returned (.tuple #[.int .u64 (nar32 (IntKind.u64.wrap (quo32 (x % 4294967296) (y % 4294967296)).2)),.bool true])∧Below w.heap.size w w':=by
 have hx2:0≤x % 4294967296:=by omega
 have hy2:0≤y % 4294967296:=by omega
 go_enter Tryz.func112,Tryz.ntmps112
 go_wp2_with (go_at_call 149; refine (quo_i64 _ _ _).mono ?_; rintro e w1 ⟨rfl,hb1⟩)
 go_wp2_with (go_at_call 150; refine (quo_u64 _ _ _ hx hy).mono ?_; rintro e w2 ⟨rfl,hb2⟩)
 go_wp2_with (go_at_call 151; refine (quo_i32 _ _ _).mono ?_; rintro e w3 ⟨rfl,hb3⟩)
 go_wp2_with (go_at_call 152; refine (quo_u32 _ _ _ hx2 hy2).mono ?_; rintro e w4 ⟨rfl,hb4⟩)
 go_wp2_with (go_at_call 67; refine (nar32_any _ _).mono ?_; rintro e w5 ⟨rfl,rfl⟩)
 go_ret2
 exact ⟨rfl,((hb1.trans (hb2.mono hb1.size)).trans (hb3.mono (Nat.le_trans hb1.size hb2.size))).trans (hb4.mono (Nat.le_trans hb1.size (Nat.le_trans hb2.size hb3.size)))⟩
theorem two_div (x y:Int) (w:World) (hx:0≤x) (hy:0≤y) : Calls Tryz.prog 71 #[.string ⟨#[100,105,118]⟩,.int .u64 x,.int .u64 y] w fun e w'=>e=.returned (.tuple #[.int .u64 (IntKind.u64.wrap (quoS wrap64 (wrap64 x) (wrap64 y)).1),.bool true])∧Below w.heap.size w w':=by
 go_enter Tryz.func71,Tryz.ntmps71
 go_wp2_with (go_at_call 112; refine (divided_div _ _ _ hx hy).mono ?_; rintro e w1 ⟨rfl,hb1⟩)
 go_ret2
 exact ⟨rfl,hb1⟩
theorem two_divu (x y:Int) (w:World) (hx:0≤x) (hy:0≤y) : Calls Tryz.prog 71 #[.string ⟨#[100,105,118,117]⟩,.int .u64 x,.int .u64 y] w fun e w'=>e=.returned (.tuple #[.int .u64 (quo64 x y).1,.bool true])∧Below w.heap.size w w':=by
 go_enter Tryz.func71,Tryz.ntmps71
 go_wp2_with (go_at_call 112; refine (divided_divu _ _ _ hx hy).mono ?_; rintro e w1 ⟨rfl,hb1⟩)
 go_ret2
 exact ⟨rfl,hb1⟩
theorem two_rem (x y:Int) (w:World) (hx:0≤x) (hy:0≤y) : Calls Tryz.prog 71 #[.string ⟨#[114,101,109]⟩,.int .u64 x,.int .u64 y] w fun e w'=>e=.returned (.tuple #[.int .u64 (IntKind.u64.wrap (quoS wrap64 (wrap64 x) (wrap64 y)).2),.bool true])∧Below w.heap.size w w':=by
 go_enter Tryz.func71,Tryz.ntmps71
 go_wp2_with (go_at_call 112; refine (divided_rem _ _ _ hx hy).mono ?_; rintro e w1 ⟨rfl,hb1⟩)
 go_ret2
 exact ⟨rfl,hb1⟩
theorem two_remu (x y:Int) (w:World) (hx:0≤x) (hy:0≤y) : Calls Tryz.prog 71 #[.string ⟨#[114,101,109,117]⟩,.int .u64 x,.int .u64 y] w fun e w'=>e=.returned (.tuple #[.int .u64 (quo64 x y).2,.bool true])∧Below w.heap.size w w':=by
 go_enter Tryz.func71,Tryz.ntmps71
 go_wp2_with (go_at_call 112; refine (divided_remu _ _ _ hx hy).mono ?_; rintro e w1 ⟨rfl,hb1⟩)
 go_ret2
 exact ⟨rfl,hb1⟩
theorem two_divw (x y:Int) (w:World) (hx:0≤x) (hy:0≤y) : Calls Tryz.prog 71 #[.string ⟨#[100,105,118,119]⟩,.int .u64 x,.int .u64 y] w fun e w'=>e=.returned (.tuple #[.int .u64 (IntKind.u64.wrap (wrap64 (quoS wrap32 (wrap32 x) (wrap32 y)).1)),.bool true])∧Below w.heap.size w w':=by
 go_enter Tryz.func71,Tryz.ntmps71
 go_wp2_with (go_at_call 112; refine (divided_divw _ _ _ hx hy).mono ?_; rintro e w1 ⟨rfl,hb1⟩)
 go_ret2
 exact ⟨rfl,hb1⟩
theorem two_remw (x y:Int) (w:World) (hx:0≤x) (hy:0≤y) : Calls Tryz.prog 71 #[.string ⟨#[114,101,109,119]⟩,.int .u64 x,.int .u64 y] w fun e w'=>e=.returned (.tuple #[.int .u64 (IntKind.u64.wrap (wrap64 (quoS wrap32 (wrap32 x) (wrap32 y)).2)),.bool true])∧Below w.heap.size w w':=by
 go_enter Tryz.func71,Tryz.ntmps71
 go_wp2_with (go_at_call 112; refine (divided_remw _ _ _ hx hy).mono ?_; rintro e w1 ⟨rfl,hb1⟩)
 go_ret2
 exact ⟨rfl,hb1⟩
theorem two_divuw (x y:Int) (w:World) (hx:0≤x) (hy:0≤y) : Calls Tryz.prog 71 #[.string ⟨#[100,105,118,117,119]⟩,.int .u64 x,.int .u64 y] w fun e w'=>e=.returned (.tuple #[.int .u64 (nar32 (IntKind.u64.wrap (quo32 (x % 4294967296) (y % 4294967296)).1)),.bool true])∧Below w.heap.size w w':=by
 go_enter Tryz.func71,Tryz.ntmps71
 go_wp2_with (go_at_call 112; refine (divided_divuw _ _ _ hx hy).mono ?_; rintro e w1 ⟨rfl,hb1⟩)
 go_ret2
 exact ⟨rfl,hb1⟩
theorem two_remuw (x y:Int) (w:World) (hx:0≤x) (hy:0≤y) : Calls Tryz.prog 71 #[.string ⟨#[114,101,109,117,119]⟩,.int .u64 x,.int .u64 y] w fun e w'=>e=.returned (.tuple #[.int .u64 (nar32 (IntKind.u64.wrap (quo32 (x % 4294967296) (y % 4294967296)).2)),.bool true])∧Below w.heap.size w w':=by
 go_enter Tryz.func71,Tryz.ntmps71
 go_wp2_with (go_at_call 112; refine (divided_remuw _ _ _ hx hy).mono ?_; rintro e w1 ⟨rfl,hb1⟩)
 go_ret2
 exact ⟨rfl,hb1⟩
end Go.Proofs.YtoehlmiadiiimaaGreatDoor
namespace Go.Proofs.YtoehlmiadiiimaaGreatDoor
open Go.ChangeShapes Go.WideShapes Go.RowKit
abbrev B64:Int:=18446744073709551616
theorem and32 (x:Int) (hx:0≤x) (h:x < 18446744073709551616) : bits .and .u64 x 4294967295=x % 4294967296:=by
 rw [u64_and x 4294967295 hx h (by omega) (by omega)]
 have e:x.toNat &&& (4294967295:Int).toNat=x.toNat % 4294967296:=Nat.and_two_pow_sub_one_eq_mod x.toNat 32
 rw [e]
 omega
theorem wrap_lt (x:Int) (hx:0≤x) (h:x < 18446744073709551616) : IntKind.u64.wrap x=x:=by
 rw [IntKind.wrap_u64]
 exact Int.emod_eq_of_lt hx h
theorem mul_bd (a c:Int) (h1:0≤a) (h2:a≤4294967295) (h3:0≤c) (h4:c≤4294967295) : 0≤a*c∧a*c≤18446744065119617025:=by
 refine ⟨Int.mul_nonneg h1 h3,?_⟩
 calc a*c≤4294967295*c:=Int.mul_le_mul_of_nonneg_right h2 h3
  _≤4294967295*4294967295:=Int.mul_le_mul_of_nonneg_left h4 (by omega)
  _=_:=by decide
theorem mul_parts (x y:Int) : x*y=(x / 4294967296)*(y / 4294967296)*18446744073709551616+((x / 4294967296)*(y % 4294967296)+(x % 4294967296)*(y / 4294967296))*4294967296+(x % 4294967296)*(y % 4294967296):=by
 conv=>lhs; rw [← Int.mul_ediv_add_emod x 4294967296,← Int.mul_ediv_add_emod y 4294967296]
 generalize x / 4294967296=b,x % 4294967296=a,y / 4294967296=d,y % 4294967296=c
 have h1:(4294967296*b+a)*(4294967296*d+c)=4294967296*b*(4294967296*d)+4294967296*b*c+(a*(4294967296*d)+a*c):=by rw [Int.add_mul,Int.mul_add,Int.mul_add]
 have h2:4294967296*b*(4294967296*d)=b*d*18446744073709551616:=by
  rw [Int.mul_comm 4294967296 b,Int.mul_assoc,← Int.mul_assoc 4294967296 4294967296 d,← Int.mul_assoc,Int.mul_comm b,Int.mul_assoc,Int.mul_comm]; rfl
 have h3:4294967296*b*c=b*c*4294967296:=by rw [Int.mul_assoc,Int.mul_comm]
 have h4:a*(4294967296*d)=a*d*4294967296:=by rw [Int.mul_comm 4294967296 d,← Int.mul_assoc]
 rw [h1,h2,h3,h4,Int.add_mul]
 omega
theorem mul64_raw (x y a b c d : Int) (w : World) (h1 : bits .and .u64 x 4294967295 = a) (h2 : x / 4294967296 = b) (h3 : bits .and .u64 y 4294967295 = c) (h4 : y / 4294967296 = d)
   (p1 p2 p3 p4:Int) (k1:IntKind.u64.wrap (a*c)=p1) (k2:IntKind.u64.wrap (b*c)=p2) (k3:IntKind.u64.wrap (a*d)=p3) (k4:IntKind.u64.wrap (b*d)=p4) (t t1:Int) (k5:IntKind.u64.wrap (p2+p1 / 4294967296)=t)
   (k6:bits .and .u64 t 4294967295=t1) (_hx:0≤x) (_hy:0≤y) : Calls Tryz.prog 148 #[.int .u64 x,.int .u64 y] w fun e w'=>e=.returned (.tuple #[.int .u64 (IntKind.u64.wrap (IntKind.u64.wrap (p4+t / 4294967296)+IntKind.u64.wrap (t1+p3) / 4294967296)),.int .u64 (IntKind.u64.wrap (x*y))])∧w=w':=by
  go_enter Tryz.func148,Tryz.ntmps148
  go_wp2
  go_ret2
  exact ⟨rfl,rfl⟩
theorem mul64_c (x y:Int) (w:World) (hx:0≤x) (hx1:x < B64) (hy:0≤y) (hy1:y < B64) :
  Calls Tryz.prog 148 #[.int .u64 x,.int .u64 y] w fun e w'=>e=.returned (.tuple #[.int .u64 (x*y / B64),.int .u64 (IntKind.u64.wrap (x*y))])∧w=w':=by
 unfold B64 at *
 have hm:=mul_parts x y
 obtain ⟨p10,p11⟩:=mul_bd (x % 4294967296) (y % 4294967296) (by omega) (by omega) (by omega) (by omega)
 obtain ⟨p20,p21⟩:=mul_bd (x / 4294967296) (y % 4294967296) (by omega) (by omega) (by omega) (by omega)
 obtain ⟨p30,p31⟩:=mul_bd (x % 4294967296) (y / 4294967296) (by omega) (by omega) (by omega) (by omega)
 obtain ⟨p40,p41⟩:=mul_bd (x / 4294967296) (y / 4294967296) (by omega) (by omega) (by omega) (by omega)
 have key:=mul64_raw x y _ _ _ _ w (and32 x hx hx1) rfl (and32 y hy hy1) rfl _ _ _ _ (wrap_lt _ p10 (by omega)) (wrap_lt _ p20 (by omega)) (wrap_lt _ p30 (by omega)) (wrap_lt _ p40 (by omega)) _ _ (wrap_lt _ (by omega) (by omega)) (and32 _ (by omega) (by omega)) hx hy
 generalize hp1:x % 4294967296*(y % 4294967296)=p1 at *
 generalize hp2:x / 4294967296*(y % 4294967296)=p2 at *
 generalize hp3:x % 4294967296*(y / 4294967296)=p3 at *
 generalize hp4:x / 4294967296*(y / 4294967296)=p4 at *
 generalize x*y=q at *
 rw [wrap_lt (p4+(p2+p1 / 4294967296) / 4294967296) (by omega) (by omega),wrap_lt ((p2+p1 / 4294967296) % 4294967296+p3) (by omega) (by omega),wrap_lt (p4+(p2+p1 / 4294967296) / 4294967296+((p2+p1 / 4294967296) % 4294967296+p3) / 4294967296) (by omega) (by omega),
  show p4+(p2+p1 / 4294967296) / 4294967296+((p2+p1 / 4294967296) % 4294967296+p3) / 4294967296=q / 18446744073709551616 by omega] at key
 exact key
def highF (sx sy:Bool) (x y:Int) : Int :=
 let h:=x*y / B64
 let h:=if sx=true∧wrap64 x < 0 then IntKind.u64.wrap (h - y) else h
 if sy=true∧wrap64 y < 0 then IntKind.u64.wrap (h - x) else h
theorem high_tt (x y:Int) (w:World) (hx:0≤x) (hx1:x < B64) (hy:0≤y) (hy1:y < B64) :
  Calls Tryz.prog 111 #[.int .u64 x,.int .u64 y,.bool true,.bool true] w fun e w'=>e=.returned (.int .u64 (highF true true x y))∧w=w':=by
 have hm:=Lib.hid (mul64_c x y w hx hx1 hy hy1)
 clear hx1 hy1
 unfold highF
 dsimp only
 generalize hq:x*y / B64=q at *
 clear hq
 by_cases h1:wrap64 x < 0 <;> by_cases h2:wrap64 y < 0
 ·have d1:decide (wrap64 x < 0)=true:=by simpa using h1
  have d2:decide (wrap64 y < 0)=true:=by simpa using h2
  rw [if_pos ⟨rfl,h2⟩,if_pos ⟨rfl,h1⟩]
  clear h1 h2
  go_enter Tryz.func111,Tryz.ntmps111
  go_wp2_with (go_at_call 148; refine hm.out.mono ?_; rintro e w' ⟨rfl,rfl⟩)
  go_ret
  exact ⟨rfl,rfl⟩
 ·have d1:decide (wrap64 x < 0)=true:=by simpa using h1
  have d2:decide (wrap64 y < 0)=false:=by simpa using h2
  rw [if_neg (fun k=>h2 k.2),if_pos ⟨rfl,h1⟩]
  clear h1 h2
  go_enter Tryz.func111,Tryz.ntmps111
  go_wp2_with (go_at_call 148; refine hm.out.mono ?_; rintro e w' ⟨rfl,rfl⟩)
  go_ret
  exact ⟨rfl,rfl⟩
 ·have d1:decide (wrap64 x < 0)=false:=by simpa using h1
  have d2:decide (wrap64 y < 0)=true:=by simpa using h2
  rw [if_pos ⟨rfl,h2⟩,if_neg (fun k=>h1 k.2)]
  clear h1 h2
  go_enter Tryz.func111,Tryz.ntmps111
  go_wp2_with (go_at_call 148; refine hm.out.mono ?_; rintro e w' ⟨rfl,rfl⟩)
  go_ret
  exact ⟨rfl,rfl⟩
 ·have d1:decide (wrap64 x < 0)=false:=by simpa using h1
  have d2:decide (wrap64 y < 0)=false:=by simpa using h2
  rw [if_neg (fun k=>h2 k.2),if_neg (fun k=>h1 k.2)]
  clear h1 h2
  go_enter Tryz.func111,Tryz.ntmps111
  go_wp2_with (go_at_call 148; refine hm.out.mono ?_; rintro e w' ⟨rfl,rfl⟩)
  go_ret
  exact ⟨rfl,rfl⟩
theorem high_tf (x y:Int) (w:World) (hx:0≤x) (hx1:x < B64) (hy:0≤y) (hy1:y < B64) :
  Calls Tryz.prog 111 #[.int .u64 x,.int .u64 y,.bool true,.bool false] w fun e w'=>e=.returned (.int .u64 (highF true false x y))∧w=w':=by
 have hm:=Lib.hid (mul64_c x y w hx hx1 hy hy1)
 clear hx1 hy1
 unfold highF
 dsimp only
 generalize hq:x*y / B64=q at *
 clear hq
 by_cases h1:wrap64 x < 0 <;> by_cases h2:wrap64 y < 0
 ·have d1:decide (wrap64 x < 0)=true:=by simpa using h1
  have d2:decide (wrap64 y < 0)=true:=by simpa using h2
  rw [if_neg (fun k=>Bool.noConfusion k.1),if_pos ⟨rfl,h1⟩]
  clear h1 h2
  go_enter Tryz.func111,Tryz.ntmps111
  go_wp2_with (go_at_call 148; refine hm.out.mono ?_; rintro e w' ⟨rfl,rfl⟩)
  go_ret
  exact ⟨rfl,rfl⟩
 ·have d1:decide (wrap64 x < 0)=true:=by simpa using h1
  have d2:decide (wrap64 y < 0)=false:=by simpa using h2
  rw [if_neg (fun k=>Bool.noConfusion k.1),if_pos ⟨rfl,h1⟩]
  clear h1 h2
  go_enter Tryz.func111,Tryz.ntmps111
  go_wp2_with (go_at_call 148; refine hm.out.mono ?_; rintro e w' ⟨rfl,rfl⟩)
  go_ret
  exact ⟨rfl,rfl⟩
 ·have d1:decide (wrap64 x < 0)=false:=by simpa using h1
  have d2:decide (wrap64 y < 0)=true:=by simpa using h2
  rw [if_neg (fun k=>Bool.noConfusion k.1),if_neg (fun k=>h1 k.2)]
  clear h1 h2
  go_enter Tryz.func111,Tryz.ntmps111
  go_wp2_with (go_at_call 148; refine hm.out.mono ?_; rintro e w' ⟨rfl,rfl⟩)
  go_ret
  exact ⟨rfl,rfl⟩
 ·have d1:decide (wrap64 x < 0)=false:=by simpa using h1
  have d2:decide (wrap64 y < 0)=false:=by simpa using h2
  rw [if_neg (fun k=>Bool.noConfusion k.1),if_neg (fun k=>h1 k.2)]
  clear h1 h2
  go_enter Tryz.func111,Tryz.ntmps111
  go_wp2_with (go_at_call 148; refine hm.out.mono ?_; rintro e w' ⟨rfl,rfl⟩)
  go_ret
  exact ⟨rfl,rfl⟩
theorem high_ff (x y:Int) (w:World) (hx:0≤x) (hx1:x < B64) (hy:0≤y) (hy1:y < B64) :
  Calls Tryz.prog 111 #[.int .u64 x,.int .u64 y,.bool false,.bool false] w fun e w'=>e=.returned (.int .u64 (highF false false x y))∧w=w':=by
 have hm:=Lib.hid (mul64_c x y w hx hx1 hy hy1)
 clear hx1 hy1
 unfold highF
 dsimp only
 generalize hq:x*y / B64=q at *
 clear hq
 by_cases h1:wrap64 x < 0 <;> by_cases h2:wrap64 y < 0
 ·have d1:decide (wrap64 x < 0)=true:=by simpa using h1
  have d2:decide (wrap64 y < 0)=true:=by simpa using h2
  rw [if_neg (fun k=>Bool.noConfusion k.1),if_neg (fun k=>Bool.noConfusion k.1)]
  clear h1 h2
  go_enter Tryz.func111,Tryz.ntmps111
  go_wp2_with (go_at_call 148; refine hm.out.mono ?_; rintro e w' ⟨rfl,rfl⟩)
  go_ret
  exact ⟨rfl,rfl⟩
 ·have d1:decide (wrap64 x < 0)=true:=by simpa using h1
  have d2:decide (wrap64 y < 0)=false:=by simpa using h2
  rw [if_neg (fun k=>Bool.noConfusion k.1),if_neg (fun k=>Bool.noConfusion k.1)]
  clear h1 h2
  go_enter Tryz.func111,Tryz.ntmps111
  go_wp2_with (go_at_call 148; refine hm.out.mono ?_; rintro e w' ⟨rfl,rfl⟩)
  go_ret
  exact ⟨rfl,rfl⟩
 ·have d1:decide (wrap64 x < 0)=false:=by simpa using h1
  have d2:decide (wrap64 y < 0)=true:=by simpa using h2
  rw [if_neg (fun k=>Bool.noConfusion k.1),if_neg (fun k=>Bool.noConfusion k.1)]
  clear h1 h2
  go_enter Tryz.func111,Tryz.ntmps111
  go_wp2_with (go_at_call 148; refine hm.out.mono ?_; rintro e w' ⟨rfl,rfl⟩)
  go_ret
  exact ⟨rfl,rfl⟩
 ·have d1:decide (wrap64 x < 0)=false:=by simpa using h1
  have d2:decide (wrap64 y < 0)=false:=by simpa using h2
  rw [if_neg (fun k=>Bool.noConfusion k.1),if_neg (fun k=>Bool.noConfusion k.1)]
  clear h1 h2
  go_enter Tryz.func111,Tryz.ntmps111
  go_wp2_with (go_at_call 148; refine hm.out.mono ?_; rintro e w' ⟨rfl,rfl⟩)
  go_ret
  exact ⟨rfl,rfl⟩
theorem two_mulh (x y:Int) (w:World) (hx:0≤x) (hx1:x < B64) (hy:0≤y) (hy1:y < B64) : Calls Tryz.prog 71 #[.string ⟨#[109,117,108,104]⟩,.int .u64 x,.int .u64 y] w fun e w'=>e=.returned (.tuple #[.int .u64 (highF true true x y),.bool true])∧w=w':=by
 have hm:=Lib.hid (high_tt x y w hx hx1 hy hy1)
 clear hx1 hy1
 go_enter Tryz.func71,Tryz.ntmps71
 go_wp2_with (go_at_call 111; refine hm.out.mono ?_; rintro e w' ⟨rfl,rfl⟩)
 go_ret2
 exact ⟨rfl,rfl⟩
theorem two_mulhsu (x y:Int) (w:World) (hx:0≤x) (hx1:x < B64) (hy:0≤y) (hy1:y < B64) : Calls Tryz.prog 71 #[.string ⟨#[109,117,108,104,115,117]⟩,.int .u64 x,.int .u64 y] w fun e w'=>e=.returned (.tuple #[.int .u64 (highF true false x y),.bool true])∧w=w':=by
 have hm:=Lib.hid (high_tf x y w hx hx1 hy hy1)
 clear hx1 hy1
 go_enter Tryz.func71,Tryz.ntmps71
 go_wp2_with (go_at_call 111; refine hm.out.mono ?_; rintro e w' ⟨rfl,rfl⟩)
 go_ret2
 exact ⟨rfl,rfl⟩
theorem two_mulhu (x y:Int) (w:World) (hx:0≤x) (hx1:x < B64) (hy:0≤y) (hy1:y < B64) : Calls Tryz.prog 71 #[.string ⟨#[109,117,108,104,117]⟩,.int .u64 x,.int .u64 y] w fun e w'=>e=.returned (.tuple #[.int .u64 (highF false false x y),.bool true])∧w=w':=by
 have hm:=Lib.hid (high_ff x y w hx hx1 hy hy1)
 clear hx1 hy1
 go_enter Tryz.func71,Tryz.ntmps71
 go_wp2_with (go_at_call 111; refine hm.out.mono ?_; rintro e w' ⟨rfl,rfl⟩)
 go_ret2
 exact ⟨rfl,rfl⟩
end Go.Proofs.YtoehlmiadiiimaaGreatDoor
namespace Go.Proofs.YtoehlmiadiiimaaGreatDoor
open Go.ChangeShapes Go.WideShapes Go.RowKit
def nameB:Nat→ByteArray
 | 1=>⟨#[108,117,105]⟩
 | 2=>⟨#[97,117,105,112,99]⟩
 | 3=>⟨#[106,97,108]⟩
 | 4=>⟨#[106,97,108,114]⟩
 | 5=>⟨#[98,101,113]⟩
 | 6=>⟨#[98,110,101]⟩
 | 7=>⟨#[98,108,116]⟩
 | 8=>⟨#[98,103,101]⟩
 | 9=>⟨#[98,108,116,117]⟩
 | 10=>⟨#[98,103,101,117]⟩
 | 11=>⟨#[108,98]⟩
 | 12=>⟨#[108,104]⟩
 | 13=>⟨#[108,119]⟩
 | 14=>⟨#[108,100]⟩
 | 15=>⟨#[108,98,117]⟩
 | 16=>⟨#[108,104,117]⟩
 | 17=>⟨#[108,119,117]⟩
 | 18=>⟨#[115,98]⟩
 | 19=>⟨#[115,104]⟩
 | 20=>⟨#[115,119]⟩
 | 21=>⟨#[115,100]⟩
 | 22=>⟨#[97,100,100,105]⟩
 | 23=>⟨#[115,108,116,105]⟩
 | 24=>⟨#[115,108,116,105,117]⟩
 | 25=>⟨#[120,111,114,105]⟩
 | 26=>⟨#[111,114,105]⟩
 | 27=>⟨#[97,110,100,105]⟩
 | 28=>⟨#[115,108,108,105]⟩
 | 29=>⟨#[115,114,108,105]⟩
 | 30=>⟨#[115,114,97,105]⟩
 | 31=>⟨#[97,100,100]⟩
 | 32=>⟨#[115,117,98]⟩
 | 33=>⟨#[115,108,108]⟩
 | 34=>⟨#[115,108,116]⟩
 | 35=>⟨#[115,108,116,117]⟩
 | 36=>⟨#[120,111,114]⟩
 | 37=>⟨#[115,114,108]⟩
 | 38=>⟨#[115,114,97]⟩
 | 39=>⟨#[111,114]⟩
 | 40=>⟨#[97,110,100]⟩
 | 41=>⟨#[97,100,100,105,119]⟩
 | 42=>⟨#[115,108,108,105,119]⟩
 | 43=>⟨#[115,114,108,105,119]⟩
 | 44=>⟨#[115,114,97,105,119]⟩
 | 45=>⟨#[97,100,100,119]⟩
 | 46=>⟨#[115,117,98,119]⟩
 | 47=>⟨#[115,108,108,119]⟩
 | 48=>⟨#[115,114,108,119]⟩
 | 49=>⟨#[115,114,97,119]⟩
 | 50=>⟨#[109,117,108]⟩
 | 51=>⟨#[109,117,108,104]⟩
 | 52=>⟨#[109,117,108,104,115,117]⟩
 | 53=>⟨#[109,117,108,104,117]⟩
 | 54=>⟨#[100,105,118]⟩
 | 55=>⟨#[100,105,118,117]⟩
 | 56=>⟨#[114,101,109]⟩
 | 57=>⟨#[114,101,109,117]⟩
 | 58=>⟨#[109,117,108,119]⟩
 | 59=>⟨#[100,105,118,119]⟩
 | 60=>⟨#[100,105,118,117,119]⟩
 | 61=>⟨#[114,101,109,119]⟩
 | 62=>⟨#[114,101,109,117,119]⟩
 | 63=>⟨#[102,101,110,99,101]⟩
 | 64=>⟨#[102,101,110,99,101,46,105]⟩
 | 65=>⟨#[101,99,97,108,108]⟩
 | 66=>⟨#[101,98,114,101,97,107]⟩
 | 67=>⟨#[99,115,114,114,119]⟩
 | 68=>⟨#[99,115,114,114,115]⟩
 | 69=>⟨#[99,115,114,114,99]⟩
 | 70=>⟨#[99,115,114,114,119,105]⟩
 | 71=>⟨#[99,115,114,114,115,105]⟩
 | 72=>⟨#[99,115,114,114,99,105]⟩
 | 73=>⟨#[108,114,46,119]⟩
 | 74=>⟨#[115,99,46,119]⟩
 | 75=>⟨#[97,109,111,115,119,97,112,46,119]⟩
 | 76=>⟨#[97,109,111,97,100,100,46,119]⟩
 | 77=>⟨#[97,109,111,120,111,114,46,119]⟩
 | 78=>⟨#[97,109,111,97,110,100,46,119]⟩
 | 79=>⟨#[97,109,111,111,114,46,119]⟩
 | 80=>⟨#[97,109,111,109,105,110,46,119]⟩
 | 81=>⟨#[97,109,111,109,97,120,46,119]⟩
 | 82=>⟨#[97,109,111,109,105,110,117,46,119]⟩
 | 83=>⟨#[97,109,111,109,97,120,117,46,119]⟩
 | 84=>⟨#[108,114,46,100]⟩
 | 85=>⟨#[115,99,46,100]⟩
 | 86=>⟨#[97,109,111,115,119,97,112,46,100]⟩
 | 87=>⟨#[97,109,111,97,100,100,46,100]⟩
 | 88=>⟨#[97,109,111,120,111,114,46,100]⟩
 | 89=>⟨#[97,109,111,97,110,100,46,100]⟩
 | 90=>⟨#[97,109,111,111,114,46,100]⟩
 | 91=>⟨#[97,109,111,109,105,110,46,100]⟩
 | 92=>⟨#[97,109,111,109,97,120,46,100]⟩
 | 93=>⟨#[97,109,111,109,105,110,117,46,100]⟩
 | 94=>⟨#[97,109,111,109,97,120,117,46,100]⟩
 | _=>⟨#[]⟩
def formB:Nat→Nat
 | 1=>85
 | 2=>85
 | 3=>74
 | 4=>76
 | 5=>66
 | 6=>66
 | 7=>66
 | 8=>66
 | 9=>66
 | 10=>66
 | 11=>76
 | 12=>76
 | 13=>76
 | 14=>76
 | 15=>76
 | 16=>76
 | 17=>76
 | 18=>83
 | 19=>83
 | 20=>83
 | 21=>83
 | 22=>73
 | 23=>73
 | 24=>73
 | 25=>73
 | 26=>73
 | 27=>73
 | 28=>54
 | 29=>54
 | 30=>54
 | 31=>82
 | 32=>82
 | 33=>82
 | 34=>82
 | 35=>82
 | 36=>82
 | 37=>82
 | 38=>82
 | 39=>82
 | 40=>82
 | 41=>73
 | 42=>53
 | 43=>53
 | 44=>53
 | 45=>82
 | 46=>82
 | 47=>82
 | 48=>82
 | 49=>82
 | 50=>82
 | 51=>82
 | 52=>82
 | 53=>82
 | 54=>82
 | 55=>82
 | 56=>82
 | 57=>82
 | 58=>82
 | 59=>82
 | 60=>82
 | 61=>82
 | 62=>82
 | 63=>70
 | 64=>78
 | 65=>78
 | 66=>78
 | 67=>67
 | 68=>67
 | 69=>67
 | 70=>90
 | 71=>90
 | 72=>90
 | 73=>108
 | 74=>65
 | 75=>65
 | 76=>65
 | 77=>65
 | 78=>65
 | 79=>65
 | 80=>65
 | 81=>65
 | 82=>65
 | 83=>65
 | 84=>108
 | 85=>65
 | 86=>65
 | 87=>65
 | 88=>65
 | 89=>65
 | 90=>65
 | 91=>65
 | 92=>65
 | 93=>65
 | 94=>65
 | _=>0
def twoF (op:Nat) (x y:Int) : Int:=match op with
 | 22=>IntKind.u64.wrap (x+y)
 | 23=>if wrap64 x < wrap64 y then 1 else 0
 | 24=>if x < y then 1 else 0
 | 25=>bits .xor .u64 x y
 | 26=>bits .or .u64 x y
 | 27=>bits .and .u64 x y
 | 28=>IntKind.u64.wrap (x*2 ^ (y.toNat % 64))
 | 29=>x / 2 ^ (y.toNat % 64)
 | 30=>IntKind.u64.wrap (wrap64 x / 2 ^ (y.toNat % 64))
 | 31=>IntKind.u64.wrap (x+y)
 | 32=>IntKind.u64.wrap (x - y)
 | 33=>IntKind.u64.wrap (x*2 ^ (y.toNat % 64))
 | 34=>if wrap64 x < wrap64 y then 1 else 0
 | 35=>if x < y then 1 else 0
 | 36=>bits .xor .u64 x y
 | 37=>x / 2 ^ (y.toNat % 64)
 | 38=>IntKind.u64.wrap (wrap64 x / 2 ^ (y.toNat % 64))
 | 39=>bits .or .u64 x y
 | 40=>bits .and .u64 x y
 | 41=>nar32 (IntKind.u64.wrap (x+y))
 | 42=>nar32 (IntKind.u64.wrap (x*2 ^ (y.toNat % 32)))
 | 43=>nar32 (IntKind.u64.wrap (x % 4294967296 / 2 ^ (y.toNat % 32)))
 | 44=>IntKind.u64.wrap (wrap64 (wrap32 x / 2 ^ (y.toNat % 32)))
 | 45=>nar32 (IntKind.u64.wrap (x+y))
 | 46=>nar32 (IntKind.u64.wrap (x - y))
 | 47=>nar32 (IntKind.u64.wrap (x*2 ^ (y.toNat % 32)))
 | 48=>nar32 (IntKind.u64.wrap (x % 4294967296 / 2 ^ (y.toNat % 32)))
 | 49=>IntKind.u64.wrap (wrap64 (wrap32 x / 2 ^ (y.toNat % 32)))
 | 50=>IntKind.u64.wrap (x*y)
 | 51=>highF true true x y
 | 52=>highF true false x y
 | 53=>highF false false x y
 | 54=>IntKind.u64.wrap (quoS wrap64 (wrap64 x) (wrap64 y)).1
 | 55=>(quo64 x y).1
 | 56=>IntKind.u64.wrap (quoS wrap64 (wrap64 x) (wrap64 y)).2
 | 57=>(quo64 x y).2
 | 58=>nar32 (IntKind.u64.wrap (x*y))
 | 59=>IntKind.u64.wrap (wrap64 (quoS wrap32 (wrap32 x) (wrap32 y)).1)
 | 60=>nar32 (IntKind.u64.wrap (quo32 (x % 4294967296) (y % 4294967296)).1)
 | 61=>IntKind.u64.wrap (wrap64 (quoS wrap32 (wrap32 x) (wrap32 y)).2)
 | 62=>nar32 (IntKind.u64.wrap (quo32 (x % 4294967296) (y % 4294967296)).2)
 | _=>0
theorem and_low (y:Int) (k:Nat) (hk:k < 64) (hy:0≤y) (hy1:y < B64) : bits .and .u64 y ((2 ^ k - 1:Nat) : Int)=((y.toNat % 2 ^ k:Nat) : Int):=by
 have h2:2 ^ k≤2 ^ 63:=Nat.pow_le_pow_right (by omega) (by omega)
 have h3:=Nat.two_pow_pos k
 rw [u64_and y _ hy hy1 (by omega) (by unfold B64 at *; omega)]
 have e:y.toNat &&& (((2 ^ k - 1:Nat) : Int)).toNat=y.toNat % 2 ^ k:=Nat.and_two_pow_sub_one_eq_mod y.toNat k
 rw [e]
theorem and63 (y:Int) (hy:0≤y) (hy1:y < B64) : bits .and .u64 y 63=((y.toNat % 64:Nat) : Int):=and_low y 6 (by omega) hy hy1
theorem and31 (y:Int) (hy:0≤y) (hy1:y < B64) : bits .and .u64 y 31=((y.toNat % 32:Nat) : Int):=and_low y 5 (by omega) hy hy1
theorem truth_any (b:Bool) (w:World) : Calls Tryz.prog 110 #[.bool b] w fun e w'=>e=.returned (.int .u64 (if b=true then 1 else 0))∧w=w':=by
 cases b
 ·go_enter Tryz.func110,Tryz.ntmps110
  go_wp2
  go_ret
  exact ⟨rfl,rfl⟩
 ·go_enter Tryz.func110,Tryz.ntmps110
  go_wp2
  go_ret
  exact ⟨rfl,rfl⟩
def TwoPost (v:Int) (w:World) (e:Ending) (w':World) : Prop:=e=.returned (.tuple #[.int .u64 v,.bool true])∧Below w.heap.size w w'
theorem twoP_addi (x y:Int) (w:World) (_:0≤x) (_:x < B64) (_:0≤y) (_:y < B64) : Calls Tryz.prog 71 #[.string ⟨#[97,100,100,105]⟩,.int .u64 x,.int .u64 y] w (TwoPost (IntKind.u64.wrap (x+y)) w):=by
 go_enter Tryz.func71,Tryz.ntmps71
 go_wp2_with (go_at_call 67; refine (nar32_any _ _).mono ?_; rintro e w' ⟨rfl,rfl⟩)
 go_ret2
 exact ⟨rfl,Below.refl _ _⟩
theorem twoP_slti (x y:Int) (w:World) (_:0≤x) (_:x < B64) (_:0≤y) (_:y < B64) : Calls Tryz.prog 71 #[.string ⟨#[115,108,116,105]⟩,.int .u64 x,.int .u64 y] w (TwoPost (if wrap64 x < wrap64 y then 1 else 0) w):=by
 by_cases h:wrap64 x < wrap64 y
 ·rw [if_pos h]
  have hd:decide (wrap64 x < wrap64 y)=true:=decide_eq_true h
  clear h
  go_enter Tryz.func71,Tryz.ntmps71
  go_wp2_with (go_at_call 110; refine (truth_any _ _).mono ?_; rintro e w' ⟨rfl,rfl⟩)
  go_ret2
  exact ⟨rfl,Below.refl _ _⟩
 ·rw [if_neg h]
  have hd:decide (wrap64 x < wrap64 y)=false:=decide_eq_false h
  go_enter Tryz.func71,Tryz.ntmps71
  go_wp2_with (go_at_call 110; refine (truth_any _ _).mono ?_; rintro e w' ⟨rfl,rfl⟩)
  go_ret2
  exact ⟨rfl,Below.refl _ _⟩
theorem twoP_sltiu (x y:Int) (w:World) (_:0≤x) (_:x < B64) (_:0≤y) (_:y < B64) : Calls Tryz.prog 71 #[.string ⟨#[115,108,116,105,117]⟩,.int .u64 x,.int .u64 y] w (TwoPost (if x < y then 1 else 0) w):=by
 by_cases h:x < y
 ·rw [if_pos h]
  have hd:decide (x < y)=true:=decide_eq_true h
  clear h
  go_enter Tryz.func71,Tryz.ntmps71
  go_wp2_with (go_at_call 110; refine (truth_any _ _).mono ?_; rintro e w' ⟨rfl,rfl⟩)
  go_ret2
  exact ⟨rfl,Below.refl _ _⟩
 ·rw [if_neg h]
  have hd:decide (x < y)=false:=decide_eq_false h
  go_enter Tryz.func71,Tryz.ntmps71
  go_wp2_with (go_at_call 110; refine (truth_any _ _).mono ?_; rintro e w' ⟨rfl,rfl⟩)
  go_ret2
  exact ⟨rfl,Below.refl _ _⟩
theorem twoP_xori (x y:Int) (w:World) (_:0≤x) (_:x < B64) (_:0≤y) (_:y < B64) : Calls Tryz.prog 71 #[.string ⟨#[120,111,114,105]⟩,.int .u64 x,.int .u64 y] w (TwoPost (bits .xor .u64 x y) w):=by
 go_enter Tryz.func71,Tryz.ntmps71
 go_wp2_with (go_at_call 67; refine (nar32_any _ _).mono ?_; rintro e w' ⟨rfl,rfl⟩)
 go_ret2
 exact ⟨rfl,Below.refl _ _⟩
theorem twoP_ori (x y:Int) (w:World) (_:0≤x) (_:x < B64) (_:0≤y) (_:y < B64) : Calls Tryz.prog 71 #[.string ⟨#[111,114,105]⟩,.int .u64 x,.int .u64 y] w (TwoPost (bits .or .u64 x y) w):=by
 go_enter Tryz.func71,Tryz.ntmps71
 go_wp2_with (go_at_call 67; refine (nar32_any _ _).mono ?_; rintro e w' ⟨rfl,rfl⟩)
 go_ret2
 exact ⟨rfl,Below.refl _ _⟩
theorem twoP_andi (x y:Int) (w:World) (_:0≤x) (_:x < B64) (_:0≤y) (_:y < B64) : Calls Tryz.prog 71 #[.string ⟨#[97,110,100,105]⟩,.int .u64 x,.int .u64 y] w (TwoPost (bits .and .u64 x y) w):=by
 go_enter Tryz.func71,Tryz.ntmps71
 go_wp2_with (go_at_call 67; refine (nar32_any _ _).mono ?_; rintro e w' ⟨rfl,rfl⟩)
 go_ret2
 exact ⟨rfl,Below.refl _ _⟩
theorem twoP_slli (x y:Int) (w:World) (_hx:0≤x) (_:x < B64) (hy:0≤y) (hy1:y < B64) : Calls Tryz.prog 71 #[.string ⟨#[115,108,108,105]⟩,.int .u64 x,.int .u64 y] w (TwoPost (IntKind.u64.wrap (x*2 ^ (y.toNat % 64))) w):=by
 have hs:=and63 y hy hy1
 have hs1:y.toNat % 64≤63:=by omega
 generalize y.toNat % 64=s at hs hs1 ⊢
 go_enter Tryz.func71,Tryz.ntmps71
 go_wp2_with (go_at_call 67; refine (nar32_any _ _).mono ?_; rintro e w' ⟨rfl,rfl⟩)
 go_ret2
 exact ⟨rfl,Below.refl _ _⟩
theorem twoP_srli (x y:Int) (w:World) (_hx:0≤x) (_:x < B64) (hy:0≤y) (hy1:y < B64) : Calls Tryz.prog 71 #[.string ⟨#[115,114,108,105]⟩,.int .u64 x,.int .u64 y] w (TwoPost (x / 2 ^ (y.toNat % 64)) w):=by
 have hs:=and63 y hy hy1
 have hs1:y.toNat % 64≤63:=by omega
 generalize y.toNat % 64=s at hs hs1 ⊢
 go_enter Tryz.func71,Tryz.ntmps71
 go_wp2_with (go_at_call 67; refine (nar32_any _ _).mono ?_; rintro e w' ⟨rfl,rfl⟩)
 go_ret2
 exact ⟨rfl,Below.refl _ _⟩
theorem twoP_srai (x y:Int) (w:World) (_hx:0≤x) (_:x < B64) (hy:0≤y) (hy1:y < B64) : Calls Tryz.prog 71 #[.string ⟨#[115,114,97,105]⟩,.int .u64 x,.int .u64 y] w (TwoPost (IntKind.u64.wrap (wrap64 x / 2 ^ (y.toNat % 64))) w):=by
 have hs:=and63 y hy hy1
 have hs1:y.toNat % 64≤63:=by omega
 generalize y.toNat % 64=s at hs hs1 ⊢
 go_enter Tryz.func71,Tryz.ntmps71
 go_wp2_with (go_at_call 67; refine (nar32_any _ _).mono ?_; rintro e w' ⟨rfl,rfl⟩)
 go_ret2
 exact ⟨rfl,Below.refl _ _⟩
theorem twoP_add (x y:Int) (w:World) (_:0≤x) (_:x < B64) (_:0≤y) (_:y < B64) : Calls Tryz.prog 71 #[.string ⟨#[97,100,100]⟩,.int .u64 x,.int .u64 y] w (TwoPost (IntKind.u64.wrap (x+y)) w):=by
 go_enter Tryz.func71,Tryz.ntmps71
 go_wp2_with (go_at_call 67; refine (nar32_any _ _).mono ?_; rintro e w' ⟨rfl,rfl⟩)
 go_ret2
 exact ⟨rfl,Below.refl _ _⟩
theorem twoP_sub (x y:Int) (w:World) (_:0≤x) (_:x < B64) (_:0≤y) (_:y < B64) : Calls Tryz.prog 71 #[.string ⟨#[115,117,98]⟩,.int .u64 x,.int .u64 y] w (TwoPost (IntKind.u64.wrap (x - y)) w):=by
 go_enter Tryz.func71,Tryz.ntmps71
 go_wp2_with (go_at_call 67; refine (nar32_any _ _).mono ?_; rintro e w' ⟨rfl,rfl⟩)
 go_ret2
 exact ⟨rfl,Below.refl _ _⟩
theorem twoP_sll (x y:Int) (w:World) (_hx:0≤x) (_:x < B64) (hy:0≤y) (hy1:y < B64) : Calls Tryz.prog 71 #[.string ⟨#[115,108,108]⟩,.int .u64 x,.int .u64 y] w (TwoPost (IntKind.u64.wrap (x*2 ^ (y.toNat % 64))) w):=by
 have hs:=and63 y hy hy1
 have hs1:y.toNat % 64≤63:=by omega
 generalize y.toNat % 64=s at hs hs1 ⊢
 go_enter Tryz.func71,Tryz.ntmps71
 go_wp2_with (go_at_call 67; refine (nar32_any _ _).mono ?_; rintro e w' ⟨rfl,rfl⟩)
 go_ret2
 exact ⟨rfl,Below.refl _ _⟩
theorem twoP_slt (x y:Int) (w:World) (_:0≤x) (_:x < B64) (_:0≤y) (_:y < B64) : Calls Tryz.prog 71 #[.string ⟨#[115,108,116]⟩,.int .u64 x,.int .u64 y] w (TwoPost (if wrap64 x < wrap64 y then 1 else 0) w):=by
 by_cases h:wrap64 x < wrap64 y
 ·rw [if_pos h]
  have hd:decide (wrap64 x < wrap64 y)=true:=decide_eq_true h
  clear h
  go_enter Tryz.func71,Tryz.ntmps71
  go_wp2_with (go_at_call 110; refine (truth_any _ _).mono ?_; rintro e w' ⟨rfl,rfl⟩)
  go_ret2
  exact ⟨rfl,Below.refl _ _⟩
 ·rw [if_neg h]
  have hd:decide (wrap64 x < wrap64 y)=false:=decide_eq_false h
  go_enter Tryz.func71,Tryz.ntmps71
  go_wp2_with (go_at_call 110; refine (truth_any _ _).mono ?_; rintro e w' ⟨rfl,rfl⟩)
  go_ret2
  exact ⟨rfl,Below.refl _ _⟩
theorem twoP_sltu (x y:Int) (w:World) (_:0≤x) (_:x < B64) (_:0≤y) (_:y < B64) : Calls Tryz.prog 71 #[.string ⟨#[115,108,116,117]⟩,.int .u64 x,.int .u64 y] w (TwoPost (if x < y then 1 else 0) w):=by
 by_cases h:x < y
 ·rw [if_pos h]
  have hd:decide (x < y)=true:=decide_eq_true h
  clear h
  go_enter Tryz.func71,Tryz.ntmps71
  go_wp2_with (go_at_call 110; refine (truth_any _ _).mono ?_; rintro e w' ⟨rfl,rfl⟩)
  go_ret2
  exact ⟨rfl,Below.refl _ _⟩
 ·rw [if_neg h]
  have hd:decide (x < y)=false:=decide_eq_false h
  go_enter Tryz.func71,Tryz.ntmps71
  go_wp2_with (go_at_call 110; refine (truth_any _ _).mono ?_; rintro e w' ⟨rfl,rfl⟩)
  go_ret2
  exact ⟨rfl,Below.refl _ _⟩
theorem twoP_xor (x y:Int) (w:World) (_:0≤x) (_:x < B64) (_:0≤y) (_:y < B64) : Calls Tryz.prog 71 #[.string ⟨#[120,111,114]⟩,.int .u64 x,.int .u64 y] w (TwoPost (bits .xor .u64 x y) w):=by
 go_enter Tryz.func71,Tryz.ntmps71
 go_wp2_with (go_at_call 67; refine (nar32_any _ _).mono ?_; rintro e w' ⟨rfl,rfl⟩)
 go_ret2
 exact ⟨rfl,Below.refl _ _⟩
theorem twoP_srl (x y:Int) (w:World) (_hx:0≤x) (_:x < B64) (hy:0≤y) (hy1:y < B64) : Calls Tryz.prog 71 #[.string ⟨#[115,114,108]⟩,.int .u64 x,.int .u64 y] w (TwoPost (x / 2 ^ (y.toNat % 64)) w):=by
 have hs:=and63 y hy hy1
 have hs1:y.toNat % 64≤63:=by omega
 generalize y.toNat % 64=s at hs hs1 ⊢
 go_enter Tryz.func71,Tryz.ntmps71
 go_wp2_with (go_at_call 67; refine (nar32_any _ _).mono ?_; rintro e w' ⟨rfl,rfl⟩)
 go_ret2
 exact ⟨rfl,Below.refl _ _⟩
theorem twoP_sra (x y:Int) (w:World) (_hx:0≤x) (_:x < B64) (hy:0≤y) (hy1:y < B64) : Calls Tryz.prog 71 #[.string ⟨#[115,114,97]⟩,.int .u64 x,.int .u64 y] w (TwoPost (IntKind.u64.wrap (wrap64 x / 2 ^ (y.toNat % 64))) w):=by
 have hs:=and63 y hy hy1
 have hs1:y.toNat % 64≤63:=by omega
 generalize y.toNat % 64=s at hs hs1 ⊢
 go_enter Tryz.func71,Tryz.ntmps71
 go_wp2_with (go_at_call 67; refine (nar32_any _ _).mono ?_; rintro e w' ⟨rfl,rfl⟩)
 go_ret2
 exact ⟨rfl,Below.refl _ _⟩
theorem twoP_or (x y:Int) (w:World) (_:0≤x) (_:x < B64) (_:0≤y) (_:y < B64) : Calls Tryz.prog 71 #[.string ⟨#[111,114]⟩,.int .u64 x,.int .u64 y] w (TwoPost (bits .or .u64 x y) w):=by
 go_enter Tryz.func71,Tryz.ntmps71
 go_wp2_with (go_at_call 67; refine (nar32_any _ _).mono ?_; rintro e w' ⟨rfl,rfl⟩)
 go_ret2
 exact ⟨rfl,Below.refl _ _⟩
theorem twoP_and (x y:Int) (w:World) (_:0≤x) (_:x < B64) (_:0≤y) (_:y < B64) : Calls Tryz.prog 71 #[.string ⟨#[97,110,100]⟩,.int .u64 x,.int .u64 y] w (TwoPost (bits .and .u64 x y) w):=by
 go_enter Tryz.func71,Tryz.ntmps71
 go_wp2_with (go_at_call 67; refine (nar32_any _ _).mono ?_; rintro e w' ⟨rfl,rfl⟩)
 go_ret2
 exact ⟨rfl,Below.refl _ _⟩
theorem twoP_addiw (x y:Int) (w:World) (_:0≤x) (_:x < B64) (_:0≤y) (_:y < B64) : Calls Tryz.prog 71 #[.string ⟨#[97,100,100,105,119]⟩,.int .u64 x,.int .u64 y] w (TwoPost (nar32 (IntKind.u64.wrap (x+y))) w):=by
 go_enter Tryz.func71,Tryz.ntmps71
 go_wp2_with (go_at_call 67; refine (nar32_any _ _).mono ?_; rintro e w' ⟨rfl,rfl⟩)
 go_ret2
 exact ⟨rfl,Below.refl _ _⟩
theorem twoP_slliw (x y:Int) (w:World) (_hx:0≤x) (_:x < B64) (hy:0≤y) (hy1:y < B64) : Calls Tryz.prog 71 #[.string ⟨#[115,108,108,105,119]⟩,.int .u64 x,.int .u64 y] w (TwoPost (nar32 (IntKind.u64.wrap (x*2 ^ (y.toNat % 32)))) w):=by
 have hs:=and31 y hy hy1
 have hs1:y.toNat % 32≤31:=by omega
 generalize y.toNat % 32=s at hs hs1 ⊢
 go_enter Tryz.func71,Tryz.ntmps71
 go_wp2_with (go_at_call 67; refine (nar32_any _ _).mono ?_; rintro e w' ⟨rfl,rfl⟩)
 go_ret2
 exact ⟨rfl,Below.refl _ _⟩
theorem twoP_srliw (x y:Int) (w:World) (_hx:0≤x) (_:x < B64) (hy:0≤y) (hy1:y < B64) : Calls Tryz.prog 71 #[.string ⟨#[115,114,108,105,119]⟩,.int .u64 x,.int .u64 y] w (TwoPost (nar32 (IntKind.u64.wrap (x % 4294967296 / 2 ^ (y.toNat % 32)))) w):=by
 have hs:=and31 y hy hy1
 have hs1:y.toNat % 32≤31:=by omega
 generalize y.toNat % 32=s at hs hs1 ⊢
 go_enter Tryz.func71,Tryz.ntmps71
 go_wp2_with (go_at_call 67; refine (nar32_any _ _).mono ?_; rintro e w' ⟨rfl,rfl⟩)
 go_ret2
 exact ⟨rfl,Below.refl _ _⟩
theorem twoP_sraiw (x y:Int) (w:World) (_hx:0≤x) (_:x < B64) (hy:0≤y) (hy1:y < B64) : Calls Tryz.prog 71 #[.string ⟨#[115,114,97,105,119]⟩,.int .u64 x,.int .u64 y] w (TwoPost (IntKind.u64.wrap (wrap64 (wrap32 x / 2 ^ (y.toNat % 32)))) w):=by
 have hs:=and31 y hy hy1
 have hs1:y.toNat % 32≤31:=by omega
 generalize y.toNat % 32=s at hs hs1 ⊢
 go_enter Tryz.func71,Tryz.ntmps71
 go_wp2_with (go_at_call 67; refine (nar32_any _ _).mono ?_; rintro e w' ⟨rfl,rfl⟩)
 go_ret2
 exact ⟨rfl,Below.refl _ _⟩
theorem twoP_addw (x y:Int) (w:World) (_:0≤x) (_:x < B64) (_:0≤y) (_:y < B64) : Calls Tryz.prog 71 #[.string ⟨#[97,100,100,119]⟩,.int .u64 x,.int .u64 y] w (TwoPost (nar32 (IntKind.u64.wrap (x+y))) w):=by
 go_enter Tryz.func71,Tryz.ntmps71
 go_wp2_with (go_at_call 67; refine (nar32_any _ _).mono ?_; rintro e w' ⟨rfl,rfl⟩)
 go_ret2
 exact ⟨rfl,Below.refl _ _⟩
theorem twoP_subw (x y:Int) (w:World) (_:0≤x) (_:x < B64) (_:0≤y) (_:y < B64) : Calls Tryz.prog 71 #[.string ⟨#[115,117,98,119]⟩,.int .u64 x,.int .u64 y] w (TwoPost (nar32 (IntKind.u64.wrap (x - y))) w):=by
 go_enter Tryz.func71,Tryz.ntmps71
 go_wp2_with (go_at_call 67; refine (nar32_any _ _).mono ?_; rintro e w' ⟨rfl,rfl⟩)
 go_ret2
 exact ⟨rfl,Below.refl _ _⟩
theorem twoP_sllw (x y:Int) (w:World) (_hx:0≤x) (_:x < B64) (hy:0≤y) (hy1:y < B64) : Calls Tryz.prog 71 #[.string ⟨#[115,108,108,119]⟩,.int .u64 x,.int .u64 y] w (TwoPost (nar32 (IntKind.u64.wrap (x*2 ^ (y.toNat % 32)))) w):=by
 have hs:=and31 y hy hy1
 have hs1:y.toNat % 32≤31:=by omega
 generalize y.toNat % 32=s at hs hs1 ⊢
 go_enter Tryz.func71,Tryz.ntmps71
 go_wp2_with (go_at_call 67; refine (nar32_any _ _).mono ?_; rintro e w' ⟨rfl,rfl⟩)
 go_ret2
 exact ⟨rfl,Below.refl _ _⟩
theorem twoP_srlw (x y:Int) (w:World) (_hx:0≤x) (_:x < B64) (hy:0≤y) (hy1:y < B64) : Calls Tryz.prog 71 #[.string ⟨#[115,114,108,119]⟩,.int .u64 x,.int .u64 y] w (TwoPost (nar32 (IntKind.u64.wrap (x % 4294967296 / 2 ^ (y.toNat % 32)))) w):=by
 have hs:=and31 y hy hy1
 have hs1:y.toNat % 32≤31:=by omega
 generalize y.toNat % 32=s at hs hs1 ⊢
 go_enter Tryz.func71,Tryz.ntmps71
 go_wp2_with (go_at_call 67; refine (nar32_any _ _).mono ?_; rintro e w' ⟨rfl,rfl⟩)
 go_ret2
 exact ⟨rfl,Below.refl _ _⟩
theorem twoP_sraw (x y:Int) (w:World) (_hx:0≤x) (_:x < B64) (hy:0≤y) (hy1:y < B64) : Calls Tryz.prog 71 #[.string ⟨#[115,114,97,119]⟩,.int .u64 x,.int .u64 y] w (TwoPost (IntKind.u64.wrap (wrap64 (wrap32 x / 2 ^ (y.toNat % 32)))) w):=by
 have hs:=and31 y hy hy1
 have hs1:y.toNat % 32≤31:=by omega
 generalize y.toNat % 32=s at hs hs1 ⊢
 go_enter Tryz.func71,Tryz.ntmps71
 go_wp2_with (go_at_call 67; refine (nar32_any _ _).mono ?_; rintro e w' ⟨rfl,rfl⟩)
 go_ret2
 exact ⟨rfl,Below.refl _ _⟩
theorem twoP_mul (x y:Int) (w:World) (_:0≤x) (_:x < B64) (_:0≤y) (_:y < B64) : Calls Tryz.prog 71 #[.string ⟨#[109,117,108]⟩,.int .u64 x,.int .u64 y] w (TwoPost (IntKind.u64.wrap (x*y)) w):=by
 go_enter Tryz.func71,Tryz.ntmps71
 go_wp2_with (go_at_call 67; refine (nar32_any _ _).mono ?_; rintro e w' ⟨rfl,rfl⟩)
 go_ret2
 exact ⟨rfl,Below.refl _ _⟩
theorem twoP_mulh (x y:Int) (w:World) (hx:0≤x) (hx1:x < B64) (hy:0≤y) (hy1:y < B64) : Calls Tryz.prog 71 #[.string ⟨#[109,117,108,104]⟩,.int .u64 x,.int .u64 y] w (TwoPost (highF true true x y) w) :=
 (two_mulh x y w hx hx1 hy hy1).mono fun _ _ ⟨he,hw⟩=>⟨he,hw ▸ Below.refl _ _⟩
theorem twoP_mulhsu (x y:Int) (w:World) (hx:0≤x) (hx1:x < B64) (hy:0≤y) (hy1:y < B64) : Calls Tryz.prog 71 #[.string ⟨#[109,117,108,104,115,117]⟩,.int .u64 x,.int .u64 y] w (TwoPost (highF true false x y) w) :=
 (two_mulhsu x y w hx hx1 hy hy1).mono fun _ _ ⟨he,hw⟩=>⟨he,hw ▸ Below.refl _ _⟩
theorem twoP_mulhu (x y:Int) (w:World) (hx:0≤x) (hx1:x < B64) (hy:0≤y) (hy1:y < B64) : Calls Tryz.prog 71 #[.string ⟨#[109,117,108,104,117]⟩,.int .u64 x,.int .u64 y] w (TwoPost (highF false false x y) w) :=
 (two_mulhu x y w hx hx1 hy hy1).mono fun _ _ ⟨he,hw⟩=>⟨he,hw ▸ Below.refl _ _⟩
theorem twoP_div (x y:Int) (w:World) (hx:0≤x) (_:x < B64) (hy:0≤y) (_:y < B64) : Calls Tryz.prog 71 #[.string ⟨#[100,105,118]⟩,.int .u64 x,.int .u64 y] w (TwoPost (IntKind.u64.wrap (quoS wrap64 (wrap64 x) (wrap64 y)).1) w):=two_div x y w hx hy
theorem twoP_divu (x y:Int) (w:World) (hx:0≤x) (_:x < B64) (hy:0≤y) (_:y < B64) : Calls Tryz.prog 71 #[.string ⟨#[100,105,118,117]⟩,.int .u64 x,.int .u64 y] w (TwoPost ((quo64 x y).1) w):=two_divu x y w hx hy
theorem twoP_rem (x y:Int) (w:World) (hx:0≤x) (_:x < B64) (hy:0≤y) (_:y < B64) : Calls Tryz.prog 71 #[.string ⟨#[114,101,109]⟩,.int .u64 x,.int .u64 y] w (TwoPost (IntKind.u64.wrap (quoS wrap64 (wrap64 x) (wrap64 y)).2) w):=two_rem x y w hx hy
theorem twoP_remu (x y:Int) (w:World) (hx:0≤x) (_:x < B64) (hy:0≤y) (_:y < B64) : Calls Tryz.prog 71 #[.string ⟨#[114,101,109,117]⟩,.int .u64 x,.int .u64 y] w (TwoPost ((quo64 x y).2) w):=two_remu x y w hx hy
theorem twoP_mulw (x y:Int) (w:World) (_:0≤x) (_:x < B64) (_:0≤y) (_:y < B64) : Calls Tryz.prog 71 #[.string ⟨#[109,117,108,119]⟩,.int .u64 x,.int .u64 y] w (TwoPost (nar32 (IntKind.u64.wrap (x*y))) w):=by
 go_enter Tryz.func71,Tryz.ntmps71
 go_wp2_with (go_at_call 67; refine (nar32_any _ _).mono ?_; rintro e w' ⟨rfl,rfl⟩)
 go_ret2
 exact ⟨rfl,Below.refl _ _⟩
theorem twoP_divw (x y:Int) (w:World) (hx:0≤x) (_:x < B64) (hy:0≤y) (_:y < B64) : Calls Tryz.prog 71 #[.string ⟨#[100,105,118,119]⟩,.int .u64 x,.int .u64 y] w (TwoPost (IntKind.u64.wrap (wrap64 (quoS wrap32 (wrap32 x) (wrap32 y)).1)) w):=two_divw x y w hx hy
theorem twoP_divuw (x y:Int) (w:World) (hx:0≤x) (_:x < B64) (hy:0≤y) (_:y < B64) : Calls Tryz.prog 71 #[.string ⟨#[100,105,118,117,119]⟩,.int .u64 x,.int .u64 y] w (TwoPost (nar32 (IntKind.u64.wrap (quo32 (x % 4294967296) (y % 4294967296)).1)) w):=two_divuw x y w hx hy
theorem twoP_remw (x y:Int) (w:World) (hx:0≤x) (_:x < B64) (hy:0≤y) (_:y < B64) : Calls Tryz.prog 71 #[.string ⟨#[114,101,109,119]⟩,.int .u64 x,.int .u64 y] w (TwoPost (IntKind.u64.wrap (wrap64 (quoS wrap32 (wrap32 x) (wrap32 y)).2)) w):=two_remw x y w hx hy
theorem twoP_remuw (x y:Int) (w:World) (hx:0≤x) (_:x < B64) (hy:0≤y) (_:y < B64) : Calls Tryz.prog 71 #[.string ⟨#[114,101,109,117,119]⟩,.int .u64 x,.int .u64 y] w (TwoPost (nar32 (IntKind.u64.wrap (quo32 (x % 4294967296) (y % 4294967296)).2)) w):=two_remuw x y w hx hy
theorem two_all (op:Nat) (h1:22≤op) (h2:op≤62) (x y:Int) (w:World) (hx:0≤x) (hx1:x < B64) (hy:0≤y) (hy1:y < B64) :
  Calls Tryz.prog 71 #[.string (nameB op),.int .u64 x,.int .u64 y] w (TwoPost (twoF op x y) w):=by
 obtain rfl | rfl | rfl | rfl | rfl | rfl | rfl | rfl | rfl | rfl | rfl | rfl | rfl | rfl | rfl | rfl | rfl | rfl | rfl | rfl | rfl | rfl | rfl | rfl | rfl | rfl | rfl | rfl | rfl | rfl | rfl | rfl | rfl | rfl | rfl | rfl | rfl | rfl | rfl | rfl | rfl:op=22∨op=23∨op=24∨op=25∨op=26∨op=27∨op=28∨op=29∨op=30∨op=31∨op=32∨op=33∨op=34∨op=35∨op=36∨op=37∨op=38∨op=39∨op=40∨op=41∨op=42∨op=43∨op=44∨op=45∨op=46∨op=47∨op=48∨op=49∨op=50∨op=51∨op=52∨op=53∨op=54∨op=55∨op=56∨op=57∨op=58∨op=59∨op=60∨op=61∨op=62:=by omega
 ·exact twoP_addi x y w hx hx1 hy hy1
 ·exact twoP_slti x y w hx hx1 hy hy1
 ·exact twoP_sltiu x y w hx hx1 hy hy1
 ·exact twoP_xori x y w hx hx1 hy hy1
 ·exact twoP_ori x y w hx hx1 hy hy1
 ·exact twoP_andi x y w hx hx1 hy hy1
 ·exact twoP_slli x y w hx hx1 hy hy1
 ·exact twoP_srli x y w hx hx1 hy hy1
 ·exact twoP_srai x y w hx hx1 hy hy1
 ·exact twoP_add x y w hx hx1 hy hy1
 ·exact twoP_sub x y w hx hx1 hy hy1
 ·exact twoP_sll x y w hx hx1 hy hy1
 ·exact twoP_slt x y w hx hx1 hy hy1
 ·exact twoP_sltu x y w hx hx1 hy hy1
 ·exact twoP_xor x y w hx hx1 hy hy1
 ·exact twoP_srl x y w hx hx1 hy hy1
 ·exact twoP_sra x y w hx hx1 hy hy1
 ·exact twoP_or x y w hx hx1 hy hy1
 ·exact twoP_and x y w hx hx1 hy hy1
 ·exact twoP_addiw x y w hx hx1 hy hy1
 ·exact twoP_slliw x y w hx hx1 hy hy1
 ·exact twoP_srliw x y w hx hx1 hy hy1
 ·exact twoP_sraiw x y w hx hx1 hy hy1
 ·exact twoP_addw x y w hx hx1 hy hy1
 ·exact twoP_subw x y w hx hx1 hy hy1
 ·exact twoP_sllw x y w hx hx1 hy hy1
 ·exact twoP_srlw x y w hx hx1 hy hy1
 ·exact twoP_sraw x y w hx hx1 hy hy1
 ·exact twoP_mul x y w hx hx1 hy hy1
 ·exact twoP_mulh x y w hx hx1 hy hy1
 ·exact twoP_mulhsu x y w hx hx1 hy hy1
 ·exact twoP_mulhu x y w hx hx1 hy hy1
 ·exact twoP_div x y w hx hx1 hy hy1
 ·exact twoP_divu x y w hx hx1 hy hy1
 ·exact twoP_rem x y w hx hx1 hy hy1
 ·exact twoP_remu x y w hx hx1 hy hy1
 ·exact twoP_mulw x y w hx hx1 hy hy1
 ·exact twoP_divw x y w hx hx1 hy hy1
 ·exact twoP_divuw x y w hx hx1 hy hy1
 ·exact twoP_remw x y w hx hx1 hy hy1
 ·exact twoP_remuw x y w hx hx1 hy hy1
def brF (op:Nat) (x y:Int) : Bool:=match op with
 | 5=>x == y
 | 6=>x != y
 | 7=>decide (wrap64 x < wrap64 y)
 | 8=>decide (wrap64 y≤wrap64 x)
 | 9=>decide (x < y)
 | 10=>decide (y≤x)
 | _=>false
theorem br_beq (x y:Int) (w:World) : Calls Tryz.prog 68 #[.string ⟨#[98,101,113]⟩,.int .u64 x,.int .u64 y] w fun e w'=>e=.returned (.bool (x == y))∧w=w':=by
 go_enter Tryz.func68,Tryz.ntmps68
 go_wp2
 go_ret
 exact ⟨rfl,rfl⟩
theorem br_bne (x y:Int) (w:World) : Calls Tryz.prog 68 #[.string ⟨#[98,110,101]⟩,.int .u64 x,.int .u64 y] w fun e w'=>e=.returned (.bool (x != y))∧w=w':=by
 go_enter Tryz.func68,Tryz.ntmps68
 go_wp2
 go_ret
 exact ⟨rfl,rfl⟩
theorem br_blt (x y:Int) (w:World) : Calls Tryz.prog 68 #[.string ⟨#[98,108,116]⟩,.int .u64 x,.int .u64 y] w fun e w'=>e=.returned (.bool (decide (wrap64 x < wrap64 y)))∧w=w':=by
 go_enter Tryz.func68,Tryz.ntmps68
 go_wp2
 go_ret
 exact ⟨rfl,rfl⟩
theorem br_bge (x y:Int) (w:World) : Calls Tryz.prog 68 #[.string ⟨#[98,103,101]⟩,.int .u64 x,.int .u64 y] w fun e w'=>e=.returned (.bool (decide (wrap64 y≤wrap64 x)))∧w=w':=by
 go_enter Tryz.func68,Tryz.ntmps68
 go_wp2
 go_ret
 exact ⟨rfl,rfl⟩
theorem br_bltu (x y:Int) (w:World) : Calls Tryz.prog 68 #[.string ⟨#[98,108,116,117]⟩,.int .u64 x,.int .u64 y] w fun e w'=>e=.returned (.bool (decide (x < y)))∧w=w':=by
 go_enter Tryz.func68,Tryz.ntmps68
 go_wp2
 go_ret
 exact ⟨rfl,rfl⟩
theorem br_bgeu (x y:Int) (w:World) : Calls Tryz.prog 68 #[.string ⟨#[98,103,101,117]⟩,.int .u64 x,.int .u64 y] w fun e w'=>e=.returned (.bool (decide (y≤x)))∧w=w':=by
 go_enter Tryz.func68,Tryz.ntmps68
 go_wp2
 go_ret
 exact ⟨rfl,rfl⟩
theorem br_all (op:Nat) (h1:5≤op) (h2:op≤10) (x y:Int) (w:World) : Calls Tryz.prog 68 #[.string (nameB op),.int .u64 x,.int .u64 y] w fun e w'=>e=.returned (.bool (brF op x y))∧w=w':=by
 obtain rfl | rfl | rfl | rfl | rfl | rfl:op=5∨op=6∨op=7∨op=8∨op=9∨op=10:=by omega
 ·exact br_beq x y w
 ·exact br_bne x y w
 ·exact br_blt x y w
 ·exact br_bge x y w
 ·exact br_bltu x y w
 ·exact br_bgeu x y w
end Go.Proofs.YtoehlmiadiiimaaGreatDoor
