import Derived.Test.YtoehlmiadiiimaaGreatDoorMemC
import Derived.Laws.BitsAllLaws
import Derived.Deep.QuietTactic
import Derived.BigQuiet
/-
  The machine: loads by name.
-/
namespace Go.Proofs.YtoehlmiadiiimaaGreatDoor
open Go.ChangeShapes Go.WideShapes Go.RowKit

def nar8 (x : Int) : Int := IntKind.u64.wrap (wrap64 (IntKind.i8.wrap x))
def nar16 (x : Int) : Int := IntKind.u64.wrap (wrap64 (IntKind.i16.wrap x))
def nar32 (x : Int) : Int := IntKind.u64.wrap (wrap64 (wrap32 x))
theorem nar8_any (x : Int) (w : World) : Calls Tryz.prog 108 #[.int .u64 x] w fun e w' => e = .returned (.int .u64 (nar8 x)) ∧ w = w' := by
  go_enter Tryz.func108, Tryz.ntmps108
  go_wp2
  go_ret
  exact ⟨rfl, rfl⟩
theorem nar16_any (x : Int) (w : World) : Calls Tryz.prog 109 #[.int .u64 x] w fun e w' => e = .returned (.int .u64 (nar16 x)) ∧ w = w' := by
  go_enter Tryz.func109, Tryz.ntmps109
  go_wp2
  go_ret
  exact ⟨rfl, rfl⟩
theorem nar32_any (x : Int) (w : World) : Calls Tryz.prog 67 #[.int .u64 x] w fun e w' => e = .returned (.int .u64 (nar32 x)) ∧ w = w' := by
  go_enter Tryz.func67, Tryz.ntmps67
  go_wp2
  go_ret
  exact ⟨rfl, rfl⟩
set_option maxRecDepth 100000 in
set_option maxHeartbeats 1000000 in
theorem loaded_lb (p : Value) (addr v : Int) (w w1 : World)
    (hc : Calls Tryz.prog 63 #[p, .int .u64 addr, .int .i64 1] w fun e w' => e = .returned (.int .u64 v) ∧ w1 = w') :
    Calls Tryz.prog 69 #[p, .string ⟨#[108, 98]⟩, .int .u64 addr] w fun e w' => e = .returned (.int .u64 (nar8 v)) ∧ w1 = w' := by
  go_enter Tryz.func69, Tryz.ntmps69
  go_wp2_with (first | (go_at_call 63; refine hc.mono ?_; rintro e w' ⟨rfl, rfl⟩) | (go_at_call 108; refine (nar8_any _ _).mono ?_; rintro e w' ⟨rfl, rfl⟩))
  go_ret
  exact ⟨rfl, rfl⟩
set_option maxRecDepth 100000 in
set_option maxHeartbeats 1000000 in
theorem loaded_lh (p : Value) (addr v : Int) (w w1 : World)
    (hc : Calls Tryz.prog 63 #[p, .int .u64 addr, .int .i64 2] w fun e w' => e = .returned (.int .u64 v) ∧ w1 = w') :
    Calls Tryz.prog 69 #[p, .string ⟨#[108, 104]⟩, .int .u64 addr] w fun e w' => e = .returned (.int .u64 (nar16 v)) ∧ w1 = w' := by
  go_enter Tryz.func69, Tryz.ntmps69
  go_wp2_with (first | (go_at_call 63; refine hc.mono ?_; rintro e w' ⟨rfl, rfl⟩) | (go_at_call 109; refine (nar16_any _ _).mono ?_; rintro e w' ⟨rfl, rfl⟩))
  go_ret
  exact ⟨rfl, rfl⟩
set_option maxRecDepth 100000 in
set_option maxHeartbeats 1000000 in
theorem loaded_lw (p : Value) (addr v : Int) (w w1 : World)
    (hc : Calls Tryz.prog 63 #[p, .int .u64 addr, .int .i64 4] w fun e w' => e = .returned (.int .u64 v) ∧ w1 = w') :
    Calls Tryz.prog 69 #[p, .string ⟨#[108, 119]⟩, .int .u64 addr] w fun e w' => e = .returned (.int .u64 (nar32 v)) ∧ w1 = w' := by
  go_enter Tryz.func69, Tryz.ntmps69
  go_wp2_with (first | (go_at_call 63; refine hc.mono ?_; rintro e w' ⟨rfl, rfl⟩) | (go_at_call 67; refine (nar32_any _ _).mono ?_; rintro e w' ⟨rfl, rfl⟩))
  go_ret
  exact ⟨rfl, rfl⟩
set_option maxRecDepth 100000 in
set_option maxHeartbeats 1000000 in
theorem loaded_lbu (p : Value) (addr v : Int) (w w1 : World)
    (hc : Calls Tryz.prog 63 #[p, .int .u64 addr, .int .i64 1] w fun e w' => e = .returned (.int .u64 v) ∧ w1 = w') :
    Calls Tryz.prog 69 #[p, .string ⟨#[108, 98, 117]⟩, .int .u64 addr] w fun e w' => e = .returned (.int .u64 (v)) ∧ w1 = w' := by
  go_enter Tryz.func69, Tryz.ntmps69
  go_wp2_with (go_at_call 63; refine hc.mono ?_; rintro e w' ⟨rfl, rfl⟩)
  go_ret
  exact ⟨rfl, rfl⟩
set_option maxRecDepth 100000 in
set_option maxHeartbeats 1000000 in
theorem loaded_lhu (p : Value) (addr v : Int) (w w1 : World)
    (hc : Calls Tryz.prog 63 #[p, .int .u64 addr, .int .i64 2] w fun e w' => e = .returned (.int .u64 v) ∧ w1 = w') :
    Calls Tryz.prog 69 #[p, .string ⟨#[108, 104, 117]⟩, .int .u64 addr] w fun e w' => e = .returned (.int .u64 (v)) ∧ w1 = w' := by
  go_enter Tryz.func69, Tryz.ntmps69
  go_wp2_with (go_at_call 63; refine hc.mono ?_; rintro e w' ⟨rfl, rfl⟩)
  go_ret
  exact ⟨rfl, rfl⟩
set_option maxRecDepth 100000 in
set_option maxHeartbeats 1000000 in
theorem loaded_lwu (p : Value) (addr v : Int) (w w1 : World)
    (hc : Calls Tryz.prog 63 #[p, .int .u64 addr, .int .i64 4] w fun e w' => e = .returned (.int .u64 v) ∧ w1 = w') :
    Calls Tryz.prog 69 #[p, .string ⟨#[108, 119, 117]⟩, .int .u64 addr] w fun e w' => e = .returned (.int .u64 (v)) ∧ w1 = w' := by
  go_enter Tryz.func69, Tryz.ntmps69
  go_wp2_with (go_at_call 63; refine hc.mono ?_; rintro e w' ⟨rfl, rfl⟩)
  go_ret
  exact ⟨rfl, rfl⟩
set_option maxRecDepth 100000 in
set_option maxHeartbeats 1000000 in
theorem loaded_ld (p : Value) (addr v : Int) (w w1 : World)
    (hc : Calls Tryz.prog 63 #[p, .int .u64 addr, .int .i64 8] w fun e w' => e = .returned (.int .u64 v) ∧ w1 = w') :
    Calls Tryz.prog 69 #[p, .string ⟨#[108, 100]⟩, .int .u64 addr] w fun e w' => e = .returned (.int .u64 (v)) ∧ w1 = w' := by
  go_enter Tryz.func69, Tryz.ntmps69
  go_wp2_with (go_at_call 63; refine hc.mono ?_; rintro e w' ⟨rfl, rfl⟩)
  go_ret
  exact ⟨rfl, rfl⟩
end Go.Proofs.YtoehlmiadiiimaaGreatDoor

/-
  The machine: the next instruction.
-/
namespace Go.Proofs.YtoehlmiadiiimaaGreatDoor
open Go.ChangeShapes Go.WideShapes Go.RowKit

set_option maxRecDepth 100000 in
set_option maxHeartbeats 1000000 in
theorem size4 (h : Int) (w : World) (h3 : (bits .and .u16 h 3 == 3) = true) : Calls Tryz.prog 64 #[.int .u16 h] w fun e w' => e = .returned (.int .i64 4) ∧ w = w' := by
  go_enter Tryz.func64, Tryz.ntmps64
  go_wp2
  go_ret
  exact ⟨rfl, rfl⟩
set_option maxRecDepth 100000 in
set_option maxHeartbeats 1000000 in
theorem size2 (h : Int) (w : World) (h3 : (bits .and .u16 h 3 == 3) = false) : Calls Tryz.prog 64 #[.int .u16 h] w fun e w' => e = .returned (.int .i64 2) ∧ w = w' := by
  go_enter Tryz.func64, Tryz.ntmps64
  go_wp2
  go_ret
  exact ⟨rfl, rfl⟩

structure Ins where
  op : Nat
  rd : Nat
  s1 : Nat
  s2 : Nat
  imm : Int
abbrev Ins.v (i : Ins) : Value := .agg #[.int .u8 i.op, .int .i64 i.rd, .int .i64 i.s1, .int .i64 i.s2, .int .i64 i.imm]
theorem bcell {B : Nat} {W w1 : World} (hb : Below B W w1) : (∀ b o, b < B → w1.cell? ⟨b, o, none⟩ = W.cell? ⟨b, o, none⟩) ∧ (∀ b o, b < B → w1.frozen? ⟨b, o, none⟩ = W.frozen? ⟨b, o, none⟩) :=
  ⟨fun b o h => hb.cell (p := ⟨b, o, none⟩) h, fun b o h => hb.frozen (p := ⟨b, o, none⟩) h⟩

/-- What next leaves behind: the runner with 'on' and 'stop'. -/
def NextPost (B : Nat) (w : World) (g : Nat) (r : Rn) (mv tv : Value) (o : Option (Ins × Int)) (e : Ending) (w' : World) : Prop :=
  match o with
  | some (i, on) => e = .returned i.v ∧ RunB B w w' g { r with on := on, stop := false } mv tv
  | none => ∃ (i : Ins) (on : Int), e = .returned i.v ∧ RunB B w w' g { r with on := on, stop := true } mv tv

set_option maxRecDepth 100000 in
set_option maxHeartbeats 1000000 in
theorem next_out (B g : Nat) (r : Rn) (A : Option Addr) (n c : Nat) (tv : Value) (w : World) (hr : RunW B w g r (.slice A n c) tv)
    (m : Int) (hw : IntKind.u64.wrap (r.pc - r.base) = m)
    (h1 : Hid (n < m ∨ IntKind.u64.wrap (n - m) < 2)) (hn : n ≤ c) (hc : n ≤ 1000000) :
    Calls Tryz.prog 44 #[.pointer (some ⟨g, 0, none⟩)] w (NextPost B w g r (.slice A n c) tv none) := by
  have lg := hr.blk.lt
  have k0 := hr.c0
  have k33 := hr.c33
  have k34 := hr.c34
  have k38 := hr.c38
  have f38 := hr.fz 38
  go_enter Tryz.func44, Tryz.ntmps44
  go_wp2_with fail
  refine (load_out g A n c r.base r.pc m 2 r.stop _ (by go_simp) (by go_simp) (by go_simp) (by go_simp) hw h1 (by omega) hn hc).mono ?_
  rintro e w' ⟨rfl, rfl⟩
  go_wp2
  refine bodyPost_ret (v := .agg #[.int .u8 0, .int .i64 0, .int .i64 0, .int .i64 0, .int .i64 0]) (by simp [results, Tryz.results44, go_sem]) rfl ?_
  exact ⟨⟨0, 0, 0, 0, 0⟩, r.on, rfl, (((RunB.start hr).stop_ true).stop_ true).alloc _⟩
set_option maxRecDepth 100000 in
set_option maxHeartbeats 1000000 in
theorem next_odd (B g : Nat) (r : Rn) (gm c : Nat) (tv : Value) (w : World) (hr : RunW B w g r (.slice (some ⟨gm, 0, none⟩) r.mem.length c) tv)
    (k : Nat) (hw : IntKind.u64.wrap (r.pc - r.base) = (k : Int)) (hs : r.stop = false)
    (h1 : k + 2 ≤ r.mem.length) (hn : r.mem.length ≤ c) (hc : r.mem.length ≤ 1000000) (hodd : ¬ r.pc % 2 = 0) (h0 : 0 ≤ r.pc) :
    Calls Tryz.prog 44 #[.pointer (some ⟨g, 0, none⟩)] w (NextPost B w g r (.slice (some ⟨gm, 0, none⟩) r.mem.length c) tv none) := by
  have lg := hr.blk.lt
  have k0 := hr.c0
  have k33 := hr.c33
  have k34 := hr.c34
  have k38 := hr.c38
  rw [hs] at k38
  have f38 := hr.fz 38
  have hmod : (r.pc % 2 == 0) = false := by simpa using hodd
  clear hs
  go_enter Tryz.func44, Tryz.ntmps44
  go_wp2_with fail
  refine (load_in g ⟨gm, 0, none⟩ r.mem.length c r.base r.pc k 2 _ _ (by go_simp) (by go_simp) hw ((hr.alloc _).bytes k 2 h1) h1 (by omega) (by omega) hn hc).mono ?_
  rintro e w' ⟨rfl, rfl⟩
  go_wp2
  refine bodyPost_ret (v := .agg #[.int .u8 0, .int .i64 0, .int .i64 0, .int .i64 0, .int .i64 0]) (by simp [results, Tryz.results44, go_sem]) rfl ?_
  exact ⟨⟨0, 0, 0, 0, 0⟩, r.on, rfl, ((RunB.start hr).stop_ true).alloc _⟩

/-- What next leaves behind where the bytes lie there: 'stop' tells whether they are no instruction. -/
def NextRaw (B : Nat) (w : World) (g : Nat) (r : Rn) (mv tv : Value) (i : Ins) (on : Int) (stop : Bool) (e : Ending) (w' : World) : Prop :=
  e = .returned i.v ∧ RunB B w w' g { r with on := on, stop := stop } mv tv
theorem NextRaw.post {B : Nat} {w : World} {g : Nat} {r : Rn} {mv tv : Value} {i : Ins} {on : Int} {stop : Bool} {e : Ending} {w' : World} (h : NextRaw B w g r mv tv i on stop e w') :
    NextPost B w g r mv tv (match stop with | true => none | false => some (i, on)) e w' := by
  cases stop
  · exact h
  · exact ⟨_, on, h.1, h.2⟩
set_option maxRecDepth 100000 in
set_option maxHeartbeats 2000000 in
theorem next_2 (B g : Nat) (r : Rn) (gm c : Nat) (tv : Value) (w : World) (hr : RunW B w g r (.slice (some ⟨gm, 0, none⟩) r.mem.length c) tv)
    (k : Nat) (hw : IntKind.u64.wrap (r.pc - r.base) = (k : Int)) (hs : r.stop = false)
    (h1 : k + 2 ≤ r.mem.length) (hn : r.mem.length ≤ c) (hc : r.mem.length ≤ 1000000) (hodd : r.pc % 2 = 0) (h0 : 0 ≤ r.pc)
    (h : Int) (hh : IntKind.u16.wrap (ldm r.mem k 2) = h) (h3 : (bits .and .u16 h 3 == 3) = false)
    (ic : Ins) (ec : Int) (hcd : ∀ W, Below B w W → Calls Tryz.prog 65 #[.int .u16 h] W fun e w' => e = .returned (.tuple #[ic.v, .int .i64 ec]) ∧ Below W.heap.size W w') :
    Calls Tryz.prog 44 #[.pointer (some ⟨g, 0, none⟩)] w (NextRaw B w g r (.slice (some ⟨gm, 0, none⟩) r.mem.length c) tv ic (IntKind.u64.wrap (r.pc + 2)) (ec != 0)) := by
  have lg := hr.blk.lt
  have k0 := hr.c0
  have k33 := hr.c33
  have k34 := hr.c34
  have k37 := hr.c37
  have k38 := hr.c38
  rw [hs] at k38
  have f37 := hr.fz 37
  have f38 := hr.fz 38
  have hmod : (r.pc % 2 == 0) = true := by simpa using hodd
  have HCD := Lib.hid hcd
  have HS := Lib.hid hs
  clear hs hcd
  go_enter Tryz.func44, Tryz.ntmps44
  go_wp2_with fail
  refine (load_in g ⟨gm, 0, none⟩ r.mem.length c r.base r.pc k 2 _ _ (by go_simp) (by go_simp) hw ((hr.alloc _).bytes k 2 (by omega)) (by omega) (by omega) (by omega) hn hc).mono ?_
  rw [show ldv (fun j => r.mem.getD (k + j) 0) 2 = ldm r.mem k 2 from rfl]
  rintro e w' ⟨rfl, rfl⟩
  go_wp2_with (go_at_call 64; refine (size2 _ _ h3).mono ?_; rintro e w' ⟨rfl, rfl⟩)
  refine (HCD.out _ (((RunB.start hr).on_ _).alloc _).low).mono ?_
  rintro e w1 ⟨rfl, hb1⟩
  have R1 := (((RunB.start hr).on_ (IntKind.u64.wrap (r.pc + 2))).alloc _).below hb1
  have q38 : w1.cell? ⟨g, 38, none⟩ = some (.bool false) := by rw [R1.run.c38]; exact congrArg (fun x => some (Value.bool x)) HS.out
  have f38' := R1.run.fz 38
  have lg1 := R1.run.blk.lt
  have hz : w.heap.size < w1.heap.size := by have := hb1.size; simp at this; omega
  obtain ⟨hc1, hf1⟩ := bcell hb1
  have F : ∀ {W : World} {r' : Rn} (_ : RunB B w W g r' (.slice (some ⟨gm, 0, none⟩) r.mem.length c) tv) (j : Nat) (u : Value), RunB B w (W.setCell ⟨w.heap.size, j, none⟩ u) g r' (.slice (some ⟨gm, 0, none⟩) r.mem.length c) tv := fun R j u => R.fresh hr _ j (Nat.le_refl _) u
  go_wp2
  refine bodyPost_ret (v := ic.v) (by simp [results, Tryz.results44, go_sem, hc1, hz]) rfl ?_
  exact ⟨rfl, (F (F (F (F (F (R1.stop_ (ec != 0)) 0 _) 1 _) 2 _) 3 _) 4 _).alloc _⟩
set_option maxRecDepth 100000 in
set_option maxHeartbeats 2000000 in
theorem next_4 (B g : Nat) (r : Rn) (gm c : Nat) (tv : Value) (w : World) (hr : RunW B w g r (.slice (some ⟨gm, 0, none⟩) r.mem.length c) tv)
    (k : Nat) (hw : IntKind.u64.wrap (r.pc - r.base) = (k : Int)) (hs : r.stop = false)
    (h1 : k + 4 ≤ r.mem.length) (hn : r.mem.length ≤ c) (hc : r.mem.length ≤ 1000000) (hodd : r.pc % 2 = 0) (h0 : 0 ≤ r.pc)
    (h : Int) (hh : IntKind.u16.wrap (ldm r.mem k 2) = h) (h3 : (bits .and .u16 h 3 == 3) = true)
    (ic : Ins) (ec : Int) (hcd : ∀ W, Below B w W → Calls Tryz.prog 65 #[.int .u16 h] W fun e w' => e = .returned (.tuple #[ic.v, .int .i64 ec]) ∧ Below W.heap.size W w')
    (wd : Int) (hwd : IntKind.u32.wrap (ldm r.mem k 4) = wd) (id : Ins) (ed : Int) (hdd : ∀ W, Below B w W → Calls Tryz.prog 66 #[.int .u32 wd] W fun e w' => e = .returned (.tuple #[id.v, .int .i64 ed]) ∧ Below W.heap.size W w') :
    Calls Tryz.prog 44 #[.pointer (some ⟨g, 0, none⟩)] w (NextRaw B w g r (.slice (some ⟨gm, 0, none⟩) r.mem.length c) tv id (IntKind.u64.wrap (r.pc + 4)) (ed != 0)) := by
  have lg := hr.blk.lt
  have k0 := hr.c0
  have k33 := hr.c33
  have k34 := hr.c34
  have k37 := hr.c37
  have k38 := hr.c38
  rw [hs] at k38
  have f37 := hr.fz 37
  have f38 := hr.fz 38
  have hmod : (r.pc % 2 == 0) = true := by simpa using hodd
  have HCD := Lib.hid hcd
  have HS := Lib.hid hs
  have HDD := Lib.hid hdd
  clear hdd
  clear hs hcd
  go_enter Tryz.func44, Tryz.ntmps44
  go_wp2_with fail
  refine (load_in g ⟨gm, 0, none⟩ r.mem.length c r.base r.pc k 2 _ _ (by go_simp) (by go_simp) hw ((hr.alloc _).bytes k 2 (by omega)) (by omega) (by omega) (by omega) hn hc).mono ?_
  rw [show ldv (fun j => r.mem.getD (k + j) 0) 2 = ldm r.mem k 2 from rfl]
  rintro e w' ⟨rfl, rfl⟩
  go_wp2_with (go_at_call 64; refine (size4 _ _ h3).mono ?_; rintro e w' ⟨rfl, rfl⟩)
  refine (HCD.out _ (((RunB.start hr).on_ _).alloc _).low).mono ?_
  rintro e w1 ⟨rfl, hb1⟩
  have R1 := (((RunB.start hr).on_ (IntKind.u64.wrap (r.pc + 4))).alloc _).below hb1
  have q38 : w1.cell? ⟨g, 38, none⟩ = some (.bool false) := by rw [R1.run.c38]; exact congrArg (fun x => some (Value.bool x)) HS.out
  have f38' := R1.run.fz 38
  have lg1 := R1.run.blk.lt
  have hz : w.heap.size < w1.heap.size := by have := hb1.size; simp at this; omega
  obtain ⟨hc1, hf1⟩ := bcell hb1
  have F : ∀ {W : World} {r' : Rn} (_ : RunB B w W g r' (.slice (some ⟨gm, 0, none⟩) r.mem.length c) tv) (j : Nat) (u : Value), RunB B w (W.setCell ⟨w.heap.size, j, none⟩ u) g r' (.slice (some ⟨gm, 0, none⟩) r.mem.length c) tv := fun R j u => R.fresh hr _ j (Nat.le_refl _) u
  go_wp2_with fail
  have R2 := R1.alloc (.cells #[.int .u8 ic.op, .int .i64 ic.rd, .int .i64 ic.s1, .int .i64 ic.s2, .int .i64 ic.imm] 57)
  have q33 : (w1.alloc (.cells #[.int .u8 ic.op, .int .i64 ic.rd, .int .i64 ic.s1, .int .i64 ic.s2, .int .i64 ic.imm] 57)).cell? ⟨g, 33, none⟩ = some (.int .u64 r.base) := R2.run.c33
  have q34 : (w1.alloc (.cells #[.int .u8 ic.op, .int .i64 ic.rd, .int .i64 ic.s1, .int .i64 ic.s2, .int .i64 ic.imm] 57)).cell? ⟨g, 34, none⟩ = some (.slice (some ⟨gm, 0, none⟩) r.mem.length c) := R2.run.c34
  have qb : Hid (∀ j, j < 4 → (w1.alloc (.cells #[.int .u8 ic.op, .int .i64 ic.rd, .int .i64 ic.s1, .int .i64 ic.s2, .int .i64 ic.imm] 57)).cell? ((⟨gm, 0, none⟩ : Addr).add (k + j)) = some (.int .u8 (r.mem.getD (k + j) 0))) := R2.run.bytes k 4 h1
  refine (load_in g ⟨gm, 0, none⟩ r.mem.length c r.base r.pc k 4 (fun j => r.mem.getD (k + j) 0) _ q33 q34 hw qb h1 (by omega) (by omega) hn hc).mono ?_
  rw [show ldv (fun j => r.mem.getD (k + j) 0) 4 = ldm r.mem k 4 from rfl]
  rintro e w' ⟨rfl, rfl⟩
  clear q33 q34 qb
  go_wp2_with fail
  refine (HDD.out _ R2.low).mono ?_
  rintro e w2 ⟨rfl, hb2⟩
  have R3 := R2.below hb2
  have q38' : w2.cell? ⟨g, 38, none⟩ = some (.bool false) := by rw [R3.run.c38]; exact congrArg (fun x => some (Value.bool x)) HS.out
  have f38'' := R3.run.fz 38
  have lg2 := R3.run.blk.lt
  have hz2 : w1.heap.size < w2.heap.size := by have := hb2.size; simp at this; omega
  obtain ⟨hc2, hf2⟩ := bcell hb2
  clear R1 R2 q38 f38'
  go_wp2
  have z0 : Blk ((w.setCell ⟨g, 37, none⟩ (.int .u64 (IntKind.u64.wrap (r.pc + 4)))).alloc (.cells #[.int .u8 0, .int .i64 0, .int .i64 0, .int .i64 0, .int .i64 0] 57)) w.heap.size 57 #[.int .u8 0, .int .i64 0, .int .i64 0, .int .i64 0, .int .i64 0] := by
    have := Blk.new (w.setCell ⟨g, 37, none⟩ (.int .u64 (IntKind.u64.wrap (r.pc + 4)))) 57 #[.int .u8 0, .int .i64 0, .int .i64 0, .int .i64 0, .int .i64 0]
    simpa using this
  have z1 := ((z0.below hb1 (by simp)).alloc (.cells #[.int .u8 ic.op, .int .i64 ic.rd, .int .i64 ic.s1, .int .i64 ic.s2, .int .i64 ic.imm] 57)).below hb2 (by simp; omega)
  have n1 : w.heap.size ≠ w1.heap.size := by omega
  have n2 : w.heap.size ≠ g := by omega
  have z2 := ((((((z1.far (p := ⟨w1.heap.size, 0, none⟩) n1 (.int .u8 id.op)).far (p := ⟨w1.heap.size, 1, none⟩) n1 (.int .i64 id.rd)).far (p := ⟨w1.heap.size, 2, none⟩) n1 (.int .i64 id.s1)).far (p := ⟨w1.heap.size, 3, none⟩) n1 (.int .i64 id.s2)).far (p := ⟨w1.heap.size, 4, none⟩) n1 (.int .i64 id.imm)).far (p := ⟨g, 38, none⟩) n2 (.bool (ed != 0)))
  have z3 := ((((z2.set_ 0 (.int .u8 id.op)).set_ 1 (.int .i64 id.rd)).set_ 2 (.int .i64 id.s1)).set_ 3 (.int .i64 id.s2)).set_ 4 (.int .i64 id.imm)
  refine bodyPost_ret (results_cell_row rfl _ _ w.heap.size 57 _ (0, 0) _ rfl z3 Tryz.underlying57 rfl (by kernel_rfl)) rfl ?_
  have G : ∀ {W : World} {r' : Rn} (_ : RunB B w W g r' (.slice (some ⟨gm, 0, none⟩) r.mem.length c) tv) (j : Nat) (u : Value), RunB B w (W.setCell ⟨w1.heap.size, j, none⟩ u) g r' (.slice (some ⟨gm, 0, none⟩) r.mem.length c) tv := fun R j u => R.fresh hr _ j (Nat.le_of_lt hz) u
  exact ⟨rfl, F (F (F (F (F ((G (G (G (G (G R3 0 _) 1 _) 2 _) 3 _) 4 _).stop_ (ed != 0)) 0 _) 1 _) 2 _) 3 _) 4 _⟩
set_option maxRecDepth 100000 in
set_option maxHeartbeats 2000000 in
theorem next_4x (B g : Nat) (r : Rn) (gm c : Nat) (tv : Value) (w : World) (hr : RunW B w g r (.slice (some ⟨gm, 0, none⟩) r.mem.length c) tv)
    (k : Nat) (hw : IntKind.u64.wrap (r.pc - r.base) = (k : Int)) (hs : r.stop = false)
    (h1 : k + 2 ≤ r.mem.length) (hx : Hid ((r.mem.length : Int) < (k : Int) ∨ IntKind.u64.wrap ((r.mem.length : Int) - (k : Int)) < (4 : Nat))) (hn : r.mem.length ≤ c) (hc : r.mem.length ≤ 1000000) (hodd : r.pc % 2 = 0) (h0 : 0 ≤ r.pc)
    (h : Int) (hh : IntKind.u16.wrap (ldm r.mem k 2) = h) (h3 : (bits .and .u16 h 3 == 3) = true)
    (ic : Ins) (ec : Int) (hcd : ∀ W, Below B w W → Calls Tryz.prog 65 #[.int .u16 h] W fun e w' => e = .returned (.tuple #[ic.v, .int .i64 ec]) ∧ Below W.heap.size W w')
    (wd : Int) (hwd : IntKind.u32.wrap 0 = wd) (id : Ins) (ed : Int) (hdd : ∀ W, Below B w W → Calls Tryz.prog 66 #[.int .u32 wd] W fun e w' => e = .returned (.tuple #[id.v, .int .i64 ed]) ∧ Below W.heap.size W w') :
    Calls Tryz.prog 44 #[.pointer (some ⟨g, 0, none⟩)] w (NextRaw B w g r (.slice (some ⟨gm, 0, none⟩) r.mem.length c) tv id (IntKind.u64.wrap (r.pc + 4)) true) := by
  have lg := hr.blk.lt
  have k0 := hr.c0
  have k33 := hr.c33
  have k34 := hr.c34
  have k37 := hr.c37
  have k38 := hr.c38
  rw [hs] at k38
  have f37 := hr.fz 37
  have f38 := hr.fz 38
  have hmod : (r.pc % 2 == 0) = true := by simpa using hodd
  have HCD := Lib.hid hcd
  have HS := Lib.hid hs
  have HDD := Lib.hid hdd
  clear hdd
  clear hs hcd
  go_enter Tryz.func44, Tryz.ntmps44
  go_wp2_with fail
  refine (load_in g ⟨gm, 0, none⟩ r.mem.length c r.base r.pc k 2 _ _ (by go_simp) (by go_simp) hw ((hr.alloc _).bytes k 2 (by omega)) (by omega) (by omega) (by omega) hn hc).mono ?_
  rw [show ldv (fun j => r.mem.getD (k + j) 0) 2 = ldm r.mem k 2 from rfl]
  rintro e w' ⟨rfl, rfl⟩
  go_wp2_with (go_at_call 64; refine (size4 _ _ h3).mono ?_; rintro e w' ⟨rfl, rfl⟩)
  refine (HCD.out _ (((RunB.start hr).on_ _).alloc _).low).mono ?_
  rintro e w1 ⟨rfl, hb1⟩
  have R1 := (((RunB.start hr).on_ (IntKind.u64.wrap (r.pc + 4))).alloc _).below hb1
  have q38 : w1.cell? ⟨g, 38, none⟩ = some (.bool false) := by rw [R1.run.c38]; exact congrArg (fun x => some (Value.bool x)) HS.out
  have f38' := R1.run.fz 38
  have lg1 := R1.run.blk.lt
  have hz : w.heap.size < w1.heap.size := by have := hb1.size; simp at this; omega
  obtain ⟨hc1, hf1⟩ := bcell hb1
  have F : ∀ {W : World} {r' : Rn} (_ : RunB B w W g r' (.slice (some ⟨gm, 0, none⟩) r.mem.length c) tv) (j : Nat) (u : Value), RunB B w (W.setCell ⟨w.heap.size, j, none⟩ u) g r' (.slice (some ⟨gm, 0, none⟩) r.mem.length c) tv := fun R j u => R.fresh hr _ j (Nat.le_refl _) u
  go_wp2_with fail
  have R2 := R1.alloc (.cells #[.int .u8 ic.op, .int .i64 ic.rd, .int .i64 ic.s1, .int .i64 ic.s2, .int .i64 ic.imm] 57)
  have q33 : (w1.alloc (.cells #[.int .u8 ic.op, .int .i64 ic.rd, .int .i64 ic.s1, .int .i64 ic.s2, .int .i64 ic.imm] 57)).cell? ⟨g, 33, none⟩ = some (.int .u64 r.base) := R2.run.c33
  have q34 : (w1.alloc (.cells #[.int .u8 ic.op, .int .i64 ic.rd, .int .i64 ic.s1, .int .i64 ic.s2, .int .i64 ic.imm] 57)).cell? ⟨g, 34, none⟩ = some (.slice (some ⟨gm, 0, none⟩) r.mem.length c) := R2.run.c34
  have q38 : (w1.alloc (.cells #[.int .u8 ic.op, .int .i64 ic.rd, .int .i64 ic.s1, .int .i64 ic.s2, .int .i64 ic.imm] 57)).cell? ⟨g, 38, none⟩ = some (.bool r.stop) := R2.run.c38
  refine (load_out g (some ⟨gm, 0, none⟩) r.mem.length c r.base r.pc k 4 r.stop _ q33 q34 q38 (R2.run.fz 38) hw hx (by omega) hn hc).mono ?_
  rintro e w' ⟨rfl, rfl⟩
  clear q33 q34
  go_wp2_with fail
  refine (HDD.out _ ((R1.stop_ true).alloc _).low).mono ?_
  rintro e w2 ⟨rfl, hb2⟩
  have R3 := ((R1.stop_ true).alloc _).below hb2
  have q38' : w2.cell? ⟨g, 38, none⟩ = some (.bool true) := R3.run.c38
  have f38'' := R3.run.fz 38
  have lg2 := R3.run.blk.lt
  have hz2 : w1.heap.size < w2.heap.size := by have := hb2.size; simp at this; omega
  obtain ⟨hc2, hf2⟩ := bcell hb2
  clear R1 R2 q38 f38'
  go_wp2
  have z0 : Blk ((w.setCell ⟨g, 37, none⟩ (.int .u64 (IntKind.u64.wrap (r.pc + 4)))).alloc (.cells #[.int .u8 0, .int .i64 0, .int .i64 0, .int .i64 0, .int .i64 0] 57)) w.heap.size 57 #[.int .u8 0, .int .i64 0, .int .i64 0, .int .i64 0, .int .i64 0] := by
    have := Blk.new (w.setCell ⟨g, 37, none⟩ (.int .u64 (IntKind.u64.wrap (r.pc + 4)))) 57 #[.int .u8 0, .int .i64 0, .int .i64 0, .int .i64 0, .int .i64 0]
    simpa using this
  have n2 : w.heap.size ≠ g := by omega
  have z1 := (((z0.below hb1 (by simp)).far (p := ⟨g, 38, none⟩) n2 (.bool true)).alloc (.cells #[.int .u8 ic.op, .int .i64 ic.rd, .int .i64 ic.s1, .int .i64 ic.s2, .int .i64 ic.imm] 57)).below hb2 (by simp; omega)
  have n1 : w.heap.size ≠ w1.heap.size := by omega
  have z2 := ((((((z1.far (p := ⟨w1.heap.size, 0, none⟩) n1 (.int .u8 id.op)).far (p := ⟨w1.heap.size, 1, none⟩) n1 (.int .i64 id.rd)).far (p := ⟨w1.heap.size, 2, none⟩) n1 (.int .i64 id.s1)).far (p := ⟨w1.heap.size, 3, none⟩) n1 (.int .i64 id.s2)).far (p := ⟨w1.heap.size, 4, none⟩) n1 (.int .i64 id.imm)).far (p := ⟨g, 38, none⟩) n2 (.bool true))
  have z3 := ((((z2.set_ 0 (.int .u8 id.op)).set_ 1 (.int .i64 id.rd)).set_ 2 (.int .i64 id.s1)).set_ 3 (.int .i64 id.s2)).set_ 4 (.int .i64 id.imm)
  refine bodyPost_ret (results_cell_row rfl _ _ w.heap.size 57 _ (0, 0) _ rfl z3 Tryz.underlying57 rfl (by kernel_rfl)) rfl ?_
  have G : ∀ {W : World} {r' : Rn} (_ : RunB B w W g r' (.slice (some ⟨gm, 0, none⟩) r.mem.length c) tv) (j : Nat) (u : Value), RunB B w (W.setCell ⟨w1.heap.size, j, none⟩ u) g r' (.slice (some ⟨gm, 0, none⟩) r.mem.length c) tv := fun R j u => R.fresh hr _ j (Nat.le_of_lt hz) u
  exact ⟨rfl, F (F (F (F (F ((G (G (G (G (G R3 0 _) 1 _) 2 _) 3 _) 4 _).stop_ true) 0 _) 1 _) 2 _) 3 _) 4 _⟩
end Go.Proofs.YtoehlmiadiiimaaGreatDoor

/-
  The machine: what an instruction does.
-/
namespace Go.Proofs.YtoehlmiadiiimaaGreatDoor
open Go.ChangeShapes Go.WideShapes Go.RowKit

/-- A register is written, but register 0 is not. -/
def Rn.wr (r : Rn) (rd : Nat) (x : Int) : Rn := { r with regs := if rd = 0 then r.regs else r.regs.set rd x }
/-- What do leaves behind where the memory is written no byte and nothing is told. -/
def DoPost (B : Nat) (w : World) (g : Nat) (mv tv : Value) (to : Int) (r' : Rn) (e : Ending) (w' : World) : Prop :=
  e = .returned (.int .u64 to) ∧ RunB B w w' g r' mv tv
theorem wr_zero {r : Rn} {rd : Nat} (hs : r.stop = false) (hrd : rd = 0) (x : Int) : { r with stop := false } = r.wr rd x := by
  cases r; simp_all [Rn.wr]
theorem wr_some {r : Rn} {rd : Nat} (hs : r.stop = false) (hrd : ¬ rd = 0) (x : Int) : { r with stop := false, regs := r.regs.set rd x } = r.wr rd x := by
  cases r; simp_all [Rn.wr]
theorem RunB.fin0 {B g rd : Nat} {w W : World} {r : Rn} {mv tv : Value} (R : RunB B w W g r mv tv) (hs : r.stop = false) (hrd : rd = 0) (x : Int) : RunB B w (W.setCell ⟨g, 38, none⟩ (.bool false)) g (r.wr rd x) mv tv := by
  rw [← wr_zero hs hrd]; exact R.stop_ false
theorem RunB.fin1 {B g rd : Nat} {w W : World} {r : Rn} {mv tv : Value} (R : RunB B w W g r mv tv) (hs : r.stop = false) (hrd : ¬ rd = 0) (h3 : rd < 32) (x : Int) :
    RunB B w ((W.setCell ⟨g, 38, none⟩ (.bool false)).setCell ⟨g, 1 + rd, none⟩ (.int .u64 x)).drew g (r.wr rd x) mv tv := by
  rw [← wr_some hs hrd]; exact ((R.stop_ false).reg_ rd h3 x).drew
set_option maxRecDepth 100000 in
set_option maxHeartbeats 2000000 in
theorem do_J (B g : Nat) (r : Rn) (mv tv : Value) (w : World) (hr : RunW B w g r mv tv) (i : Ins) (h1 : i.s1 < 32) (h2 : i.s2 < 32) (h3 : i.rd < 32) (hs : r.stop = false)
    (nm : ByteArray) (hname : ∀ W, Below B w W → Calls Tryz.prog 30 #[.int .u8 i.op] W fun e w' => e = .returned (.tuple #[.string nm, .int .i64 0]) ∧ Below W.heap.size W w')
    (hform : ∀ W, Below B w W → Calls Tryz.prog 31 #[.int .u8 i.op] W fun e w' => e = .returned (.tuple #[.int .u8 74, .int .i64 0]) ∧ Below W.heap.size W w') :
    Calls Tryz.prog 45 #[.pointer (some ⟨g, 0, none⟩), i.v] w (DoPost B w g mv tv (IntKind.u64.wrap (r.pc + IntKind.u64.wrap i.imm)) (r.wr i.rd r.on)) := by
  have HN := Lib.hid hname
  have HF := Lib.hid hform
  have lg := hr.blk.lt
  have HS := Lib.hid hs
  clear hname hform hs
  go_enter Tryz.func45, Tryz.ntmps45
  go_wp2_with fail
  refine (HN.out _ ((RunB.start hr).alloc _).low).mono ?_
  rintro e w1 ⟨rfl, hb1⟩
  have R1 := ((RunB.start hr).alloc (.cells #[.int .u8 i.op, .int .i64 i.rd, .int .i64 i.s1, .int .i64 i.s2, .int .i64 i.imm] 57)).below hb1
  obtain ⟨hc1, hf1⟩ := bcell hb1
  have hz : w.heap.size < w1.heap.size := by have := hb1.size; simp at this; omega
  go_wp2_with fail
  refine (HF.out _ R1.low).mono ?_
  rintro e w2 ⟨rfl, hb2⟩
  have R2 := R1.below hb2
  obtain ⟨hc2, hf2⟩ := bcell hb2
  have k1 := R2.run.cR i.s1 h1
  have k2 := R2.run.cR i.s2 h2
  have i10 : (0 : Int) ≤ (i.s1 : Int) := Int.natCast_nonneg _
  have i11 : (i.s1 : Int) < 32 := by omega
  have i20 : (0 : Int) ≤ (i.s2 : Int) := Int.natCast_nonneg _
  have i21 : (i.s2 : Int) < 32 := by omega
  have k0 := R2.run.c0
  have k37 := R2.run.c37
  have k38 : w2.cell? ⟨g, 38, none⟩ = some (.bool false) := by rw [R2.run.c38]; exact congrArg (fun x => some (Value.bool x)) HS.out
  have f38 := R2.run.fz 38
  have lg2 := R2.run.blk.lt
  have hz2 : w.heap.size < w2.heap.size := by have := hb2.size; omega
  go_wp2
  go_quiet (fail)
  go_wp2
  go_quiet (fail)
  by_cases hrd : i.rd = 0
  · have hd : ((i.rd : Int) == 0) = true := by simpa using hrd
    go_wp2
    go_ret
    exact ⟨rfl, (R2.drewN _).fin0 HS.out hrd _⟩
  · have hd : ((i.rd : Int) == 0) = false := by simpa using hrd
    have k3 := R2.run.cR i.rd h3
    have f3 := R2.run.fz (1 + i.rd)
    have i30 : (0 : Int) ≤ (i.rd : Int) := Int.natCast_nonneg _
    have i31 : (i.rd : Int) < 32 := by omega
    go_wp2
    go_region
    go_wp2
    go_ret
    exact ⟨rfl, (R2.drewN _).fin1 HS.out hrd h3 _⟩
set_option maxRecDepth 100000 in
set_option maxHeartbeats 2000000 in
theorem do_F (B g : Nat) (r : Rn) (mv tv : Value) (w : World) (hr : RunW B w g r mv tv) (i : Ins) (h1 : i.s1 < 32) (h2 : i.s2 < 32) (h3 : i.rd < 32) (hs : r.stop = false)
    (nm : ByteArray) (hname : ∀ W, Below B w W → Calls Tryz.prog 30 #[.int .u8 i.op] W fun e w' => e = .returned (.tuple #[.string nm, .int .i64 0]) ∧ Below W.heap.size W w')
    (hform : ∀ W, Below B w W → Calls Tryz.prog 31 #[.int .u8 i.op] W fun e w' => e = .returned (.tuple #[.int .u8 70, .int .i64 0]) ∧ Below W.heap.size W w') :
    Calls Tryz.prog 45 #[.pointer (some ⟨g, 0, none⟩), i.v] w (DoPost B w g mv tv r.on (r.wr i.rd 0)) := by
  have HN := Lib.hid hname
  have HF := Lib.hid hform
  have lg := hr.blk.lt
  have HS := Lib.hid hs
  clear hname hform hs
  go_enter Tryz.func45, Tryz.ntmps45
  go_wp2_with fail
  refine (HN.out _ ((RunB.start hr).alloc _).low).mono ?_
  rintro e w1 ⟨rfl, hb1⟩
  have R1 := ((RunB.start hr).alloc (.cells #[.int .u8 i.op, .int .i64 i.rd, .int .i64 i.s1, .int .i64 i.s2, .int .i64 i.imm] 57)).below hb1
  obtain ⟨hc1, hf1⟩ := bcell hb1
  have hz : w.heap.size < w1.heap.size := by have := hb1.size; simp at this; omega
  go_wp2_with fail
  refine (HF.out _ R1.low).mono ?_
  rintro e w2 ⟨rfl, hb2⟩
  have R2 := R1.below hb2
  obtain ⟨hc2, hf2⟩ := bcell hb2
  have k1 := R2.run.cR i.s1 h1
  have k2 := R2.run.cR i.s2 h2
  have i10 : (0 : Int) ≤ (i.s1 : Int) := Int.natCast_nonneg _
  have i11 : (i.s1 : Int) < 32 := by omega
  have i20 : (0 : Int) ≤ (i.s2 : Int) := Int.natCast_nonneg _
  have i21 : (i.s2 : Int) < 32 := by omega
  have k0 := R2.run.c0
  have k37 := R2.run.c37
  have k38 : w2.cell? ⟨g, 38, none⟩ = some (.bool false) := by rw [R2.run.c38]; exact congrArg (fun x => some (Value.bool x)) HS.out
  have f38 := R2.run.fz 38
  have lg2 := R2.run.blk.lt
  have hz2 : w.heap.size < w2.heap.size := by have := hb2.size; omega
  go_wp2
  go_quiet (fail)
  by_cases hrd : i.rd = 0
  · have hd : ((i.rd : Int) == 0) = true := by simpa using hrd
    go_wp2
    go_ret
    exact ⟨rfl, (R2.drewN _).fin0 HS.out hrd _⟩
  · have hd : ((i.rd : Int) == 0) = false := by simpa using hrd
    have k3 := R2.run.cR i.rd h3
    have f3 := R2.run.fz (1 + i.rd)
    have i30 : (0 : Int) ≤ (i.rd : Int) := Int.natCast_nonneg _
    have i31 : (i.rd : Int) < 32 := by omega
    go_wp2
    go_region
    go_wp2
    go_ret
    exact ⟨rfl, (R2.drewN _).fin1 HS.out hrd h3 _⟩
end Go.Proofs.YtoehlmiadiiimaaGreatDoor

