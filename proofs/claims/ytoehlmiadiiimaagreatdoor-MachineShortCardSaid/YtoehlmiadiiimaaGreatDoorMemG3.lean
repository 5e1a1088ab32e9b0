import Derived.Test.YtoehlmiadiiimaaGreatDoorMemF0
/-
  The machine: what an instruction does: U, L, B.
-/
namespace Go.Proofs.YtoehlmiadiiimaaGreatDoor
open Go.ChangeShapes Go.WideShapes Go.RowKit
set_option maxRecDepth 100000 in
set_option maxHeartbeats 2000000 in
theorem do_lui (B g : Nat) (r : Rn) (mv tv : Value) (w : World) (hr : RunW B w g r mv tv) (i : Ins) (h1 : i.s1 < 32) (h2 : i.s2 < 32) (h3 : i.rd < 32) (hs : r.stop = false)
    (nm : ByteArray) (hname : ∀ W, Below B w W → Calls Tryz.prog 30 #[.int .u8 i.op] W fun e w' => e = .returned (.tuple #[.string nm, .int .i64 0]) ∧ Below W.heap.size W w')
    (hform : ∀ W, Below B w W → Calls Tryz.prog 31 #[.int .u8 i.op] W fun e w' => e = .returned (.tuple #[.int .u8 85, .int .i64 0]) ∧ Below W.heap.size W w') (hn : (nm.toList == [97, 117, 105, 112, 99]) = false) :
    Calls Tryz.prog 45 #[.pointer (some ⟨g, 0, none⟩), i.v] w (DoPost B w g mv tv r.on (r.wr i.rd (nar32 (IntKind.u64.wrap (IntKind.u64.wrap i.imm * 4096))))) := by
  have HN := Lib.hid hname
  have HF := Lib.hid hform
  have lg := hr.blk.lt
  have HS := Lib.hid hs
  clear hname hform hs
  go_enter Tryz.func45, Tryz.ntmps45
  go_wp2_with fail
  refine (HN.out _ ((RunB.start hr).alloc _).low).mono ?_
  rintro e w1 ⟨rfl, hb1⟩
  have R1 := ((RunB.start hr).alloc (.cells #[.int .u8 i.op, .int .i64 i.rd, .int .i64 i.s1, .int .i64 i.s2, .int .i64 i.imm] 57)).below hb1
  obtain ⟨hc1, hf1⟩ := bcell hb1
  have hz : w.heap.size < w1.heap.size := by have := hb1.size; simp at this; omega
  go_wp2_with fail
  refine (HF.out _ R1.low).mono ?_
  rintro e w2 ⟨rfl, hb2⟩
  have R2 := R1.below hb2
  obtain ⟨hc2, hf2⟩ := bcell hb2
  have k1 := R2.run.cR i.s1 h1
  have k2 := R2.run.cR i.s2 h2
  have i10 : (0 : Int) ≤ (i.s1 : Int) := Int.natCast_nonneg _
  have i11 : (i.s1 : Int) < 32 := by omega
  have i20 : (0 : Int) ≤ (i.s2 : Int) := Int.natCast_nonneg _
  have i21 : (i.s2 : Int) < 32 := by omega
  have k0 := R2.run.c0
  have k37 := R2.run.c37
  have k38 : w2.cell? ⟨g, 38, none⟩ = some (.bool false) := by rw [R2.run.c38]; exact congrArg (fun x => some (Value.bool x)) HS.out
  have f38 := R2.run.fz 38
  have lg2 := R2.run.blk.lt
  have hz2 : w.heap.size < w2.heap.size := by have := hb2.size; omega
  go_wp2
  go_quiet (fail)
  by_cases hrd : i.rd = 0
  · have hd : ((i.rd : Int) == 0) = true := by simpa using hrd
    go_wp2_with (go_at_call 67; refine (nar32_any _ _).mono ?_; rintro e w' ⟨rfl, rfl⟩)
    go_ret
    exact ⟨rfl, (R2.drewN _).fin0 HS.out hrd _⟩
  · have hd : ((i.rd : Int) == 0) = false := by simpa using hrd
    have k3 := R2.run.cR i.rd h3
    have f3 := R2.run.fz (1 + i.rd)
    have i30 : (0 : Int) ≤ (i.rd : Int) := Int.natCast_nonneg _
    have i31 : (i.rd : Int) < 32 := by omega
    go_wp2_with (go_at_call 67; refine (nar32_any _ _).mono ?_; rintro e w' ⟨rfl, rfl⟩)
    go_region
    go_wp2
    go_ret
    exact ⟨rfl, (R2.drewN _).fin1 HS.out hrd h3 _⟩
set_option maxRecDepth 100000 in
set_option maxHeartbeats 2000000 in
theorem do_auipc (B g : Nat) (r : Rn) (mv tv : Value) (w : World) (hr : RunW B w g r mv tv) (i : Ins) (h1 : i.s1 < 32) (h2 : i.s2 < 32) (h3 : i.rd < 32) (hs : r.stop = false)
    (nm : ByteArray) (hname : ∀ W, Below B w W → Calls Tryz.prog 30 #[.int .u8 i.op] W fun e w' => e = .returned (.tuple #[.string nm, .int .i64 0]) ∧ Below W.heap.size W w')
    (hform : ∀ W, Below B w W → Calls Tryz.prog 31 #[.int .u8 i.op] W fun e w' => e = .returned (.tuple #[.int .u8 85, .int .i64 0]) ∧ Below W.heap.size W w') (hn : (nm.toList == [97, 117, 105, 112, 99]) = true) :
    Calls Tryz.prog 45 #[.pointer (some ⟨g, 0, none⟩), i.v] w (DoPost B w g mv tv r.on (r.wr i.rd (IntKind.u64.wrap (nar32 (IntKind.u64.wrap (IntKind.u64.wrap i.imm * 4096)) + r.pc)))) := by
  have HN := Lib.hid hname
  have HF := Lib.hid hform
  have lg := hr.blk.lt
  have HS := Lib.hid hs
  clear hname hform hs
  go_enter Tryz.func45, Tryz.ntmps45
  go_wp2_with fail
  refine (HN.out _ ((RunB.start hr).alloc _).low).mono ?_
  rintro e w1 ⟨rfl, hb1⟩
  have R1 := ((RunB.start hr).alloc (.cells #[.int .u8 i.op, .int .i64 i.rd, .int .i64 i.s1, .int .i64 i.s2, .int .i64 i.imm] 57)).below hb1
  obtain ⟨hc1, hf1⟩ := bcell hb1
  have hz : w.heap.size < w1.heap.size := by have := hb1.size; simp at this; omega
  go_wp2_with fail
  refine (HF.out _ R1.low).mono ?_
  rintro e w2 ⟨rfl, hb2⟩
  have R2 := R1.below hb2
  obtain ⟨hc2, hf2⟩ := bcell hb2
  have k1 := R2.run.cR i.s1 h1
  have k2 := R2.run.cR i.s2 h2
  have i10 : (0 : Int) ≤ (i.s1 : Int) := Int.natCast_nonneg _
  have i11 : (i.s1 : Int) < 32 := by omega
  have i20 : (0 : Int) ≤ (i.s2 : Int) := Int.natCast_nonneg _
  have i21 : (i.s2 : Int) < 32 := by omega
  have k0 := R2.run.c0
  have k37 := R2.run.c37
  have k38 : w2.cell? ⟨g, 38, none⟩ = some (.bool false) := by rw [R2.run.c38]; exact congrArg (fun x => some (Value.bool x)) HS.out
  have f38 := R2.run.fz 38
  have lg2 := R2.run.blk.lt
  have hz2 : w.heap.size < w2.heap.size := by have := hb2.size; omega
  go_wp2
  go_quiet (fail)
  by_cases hrd : i.rd = 0
  · have hd : ((i.rd : Int) == 0) = true := by simpa using hrd
    go_wp2_with (go_at_call 67; refine (nar32_any _ _).mono ?_; rintro e w' ⟨rfl, rfl⟩)
    go_ret
    exact ⟨rfl, (R2.drewN _).fin0 HS.out hrd _⟩
  · have hd : ((i.rd : Int) == 0) = false := by simpa using hrd
    have k3 := R2.run.cR i.rd h3
    have f3 := R2.run.fz (1 + i.rd)
    have i30 : (0 : Int) ≤ (i.rd : Int) := Int.natCast_nonneg _
    have i31 : (i.rd : Int) < 32 := by omega
    go_wp2_with (go_at_call 67; refine (nar32_any _ _).mono ?_; rintro e w' ⟨rfl, rfl⟩)
    go_region
    go_wp2
    go_ret
    exact ⟨rfl, (R2.drewN _).fin1 HS.out hrd h3 _⟩
set_option maxRecDepth 100000 in
set_option maxHeartbeats 2000000 in
theorem do_jalr (B g : Nat) (r : Rn) (mv tv : Value) (w : World) (hr : RunW B w g r mv tv) (i : Ins) (h1 : i.s1 < 32) (h2 : i.s2 < 32) (h3 : i.rd < 32) (hs : r.stop = false)
    (nm : ByteArray) (hname : ∀ W, Below B w W → Calls Tryz.prog 30 #[.int .u8 i.op] W fun e w' => e = .returned (.tuple #[.string nm, .int .i64 0]) ∧ Below W.heap.size W w')
    (hform : ∀ W, Below B w W → Calls Tryz.prog 31 #[.int .u8 i.op] W fun e w' => e = .returned (.tuple #[.int .u8 76, .int .i64 0]) ∧ Below W.heap.size W w') (hn : (nm.toList == [106, 97, 108, 114]) = true) :
    Calls Tryz.prog 45 #[.pointer (some ⟨g, 0, none⟩), i.v] w (DoPost B w g mv tv (bits .andNot .u64 (IntKind.u64.wrap (r.regs[i.s1]?.getD 0 + IntKind.u64.wrap i.imm)) 1) (r.wr i.rd r.on)) := by
  have HN := Lib.hid hname
  have HF := Lib.hid hform
  have lg := hr.blk.lt
  have HS := Lib.hid hs
  clear hname hform hs
  go_enter Tryz.func45, Tryz.ntmps45
  go_wp2_with fail
  refine (HN.out _ ((RunB.start hr).alloc _).low).mono ?_
  rintro e w1 ⟨rfl, hb1⟩
  have R1 := ((RunB.start hr).alloc (.cells #[.int .u8 i.op, .int .i64 i.rd, .int .i64 i.s1, .int .i64 i.s2, .int .i64 i.imm] 57)).below hb1
  obtain ⟨hc1, hf1⟩ := bcell hb1
  have hz : w.heap.size < w1.heap.size := by have := hb1.size; simp at this; omega
  go_wp2_with fail
  refine (HF.out _ R1.low).mono ?_
  rintro e w2 ⟨rfl, hb2⟩
  have R2 := R1.below hb2
  obtain ⟨hc2, hf2⟩ := bcell hb2
  have k1 := R2.run.cR i.s1 h1
  have k2 := R2.run.cR i.s2 h2
  have i10 : (0 : Int) ≤ (i.s1 : Int) := Int.natCast_nonneg _
  have i11 : (i.s1 : Int) < 32 := by omega
  have i20 : (0 : Int) ≤ (i.s2 : Int) := Int.natCast_nonneg _
  have i21 : (i.s2 : Int) < 32 := by omega
  have k0 := R2.run.c0
  have k37 := R2.run.c37
  have k38 : w2.cell? ⟨g, 38, none⟩ = some (.bool false) := by rw [R2.run.c38]; exact congrArg (fun x => some (Value.bool x)) HS.out
  have f38 := R2.run.fz 38
  have lg2 := R2.run.blk.lt
  have hz2 : w.heap.size < w2.heap.size := by have := hb2.size; omega
  go_wp2
  go_quiet (fail)
  by_cases hrd : i.rd = 0
  · have hd : ((i.rd : Int) == 0) = true := by simpa using hrd
    go_wp2
    go_ret
    exact ⟨rfl, (R2.drewN _).fin0 HS.out hrd _⟩
  · have hd : ((i.rd : Int) == 0) = false := by simpa using hrd
    have k3 := R2.run.cR i.rd h3
    have f3 := R2.run.fz (1 + i.rd)
    have i30 : (0 : Int) ≤ (i.rd : Int) := Int.natCast_nonneg _
    have i31 : (i.rd : Int) < 32 := by omega
    go_wp2
    go_region
    go_wp2
    go_ret
    exact ⟨rfl, (R2.drewN _).fin1 HS.out hrd h3 _⟩
set_option maxRecDepth 100000 in
set_option maxHeartbeats 2000000 in
theorem do_Bt (B g : Nat) (r : Rn) (mv tv : Value) (w : World) (hr : RunW B w g r mv tv) (i : Ins) (h1 : i.s1 < 32) (h2 : i.s2 < 32) (h3 : i.rd < 32) (hs : r.stop = false)
    (nm : ByteArray) (hname : ∀ W, Below B w W → Calls Tryz.prog 30 #[.int .u8 i.op] W fun e w' => e = .returned (.tuple #[.string nm, .int .i64 0]) ∧ Below W.heap.size W w')
    (hform : ∀ W, Below B w W → Calls Tryz.prog 31 #[.int .u8 i.op] W fun e w' => e = .returned (.tuple #[.int .u8 66, .int .i64 0]) ∧ Below W.heap.size W w') (hbr : ∀ W, Calls Tryz.prog 68 #[.string nm, .int .u64 (r.regs[i.s1]?.getD 0), .int .u64 (r.regs[i.s2]?.getD 0)] W fun e w' => e = .returned (.bool true) ∧ W = w') :
    Calls Tryz.prog 45 #[.pointer (some ⟨g, 0, none⟩), i.v] w (DoPost B w g mv tv (IntKind.u64.wrap (r.pc + IntKind.u64.wrap i.imm)) (r.wr i.rd 0)) := by
  have HN := Lib.hid hname
  have HF := Lib.hid hform
  have lg := hr.blk.lt
  have HS := Lib.hid hs
  clear hname hform hs
  have HBR := Lib.hid hbr
  clear hbr
  go_enter Tryz.func45, Tryz.ntmps45
  go_wp2_with fail
  refine (HN.out _ ((RunB.start hr).alloc _).low).mono ?_
  rintro e w1 ⟨rfl, hb1⟩
  have R1 := ((RunB.start hr).alloc (.cells #[.int .u8 i.op, .int .i64 i.rd, .int .i64 i.s1, .int .i64 i.s2, .int .i64 i.imm] 57)).below hb1
  obtain ⟨hc1, hf1⟩ := bcell hb1
  have hz : w.heap.size < w1.heap.size := by have := hb1.size; simp at this; omega
  go_wp2_with fail
  refine (HF.out _ R1.low).mono ?_
  rintro e w2 ⟨rfl, hb2⟩
  have R2 := R1.below hb2
  obtain ⟨hc2, hf2⟩ := bcell hb2
  have k1 := R2.run.cR i.s1 h1
  have k2 := R2.run.cR i.s2 h2
  have i10 : (0 : Int) ≤ (i.s1 : Int) := Int.natCast_nonneg _
  have i11 : (i.s1 : Int) < 32 := by omega
  have i20 : (0 : Int) ≤ (i.s2 : Int) := Int.natCast_nonneg _
  have i21 : (i.s2 : Int) < 32 := by omega
  have k0 := R2.run.c0
  have k37 := R2.run.c37
  have k38 : w2.cell? ⟨g, 38, none⟩ = some (.bool false) := by rw [R2.run.c38]; exact congrArg (fun x => some (Value.bool x)) HS.out
  have f38 := R2.run.fz 38
  have lg2 := R2.run.blk.lt
  have hz2 : w.heap.size < w2.heap.size := by have := hb2.size; omega
  go_wp2
  go_quiet (fail)
  by_cases hrd : i.rd = 0
  · have hd : ((i.rd : Int) == 0) = true := by simpa using hrd
    go_wp2_with (go_at_call 68; refine (HBR.out _).mono ?_; rintro e w' ⟨rfl, rfl⟩)
    go_ret
    exact ⟨rfl, (R2.drewN _).fin0 HS.out hrd _⟩
  · have hd : ((i.rd : Int) == 0) = false := by simpa using hrd
    have k3 := R2.run.cR i.rd h3
    have f3 := R2.run.fz (1 + i.rd)
    have i30 : (0 : Int) ≤ (i.rd : Int) := Int.natCast_nonneg _
    have i31 : (i.rd : Int) < 32 := by omega
    go_wp2_with (go_at_call 68; refine (HBR.out _).mono ?_; rintro e w' ⟨rfl, rfl⟩)
    go_region
    go_wp2
    go_ret
    exact ⟨rfl, (R2.drewN _).fin1 HS.out hrd h3 _⟩
set_option maxRecDepth 100000 in
set_option maxHeartbeats 2000000 in
theorem do_Bf (B g : Nat) (r : Rn) (mv tv : Value) (w : World) (hr : RunW B w g r mv tv) (i : Ins) (h1 : i.s1 < 32) (h2 : i.s2 < 32) (h3 : i.rd < 32) (hs : r.stop = false)
    (nm : ByteArray) (hname : ∀ W, Below B w W → Calls Tryz.prog 30 #[.int .u8 i.op] W fun e w' => e = .returned (.tuple #[.string nm, .int .i64 0]) ∧ Below W.heap.size W w')
    (hform : ∀ W, Below B w W → Calls Tryz.prog 31 #[.int .u8 i.op] W fun e w' => e = .returned (.tuple #[.int .u8 66, .int .i64 0]) ∧ Below W.heap.size W w') (hbr : ∀ W, Calls Tryz.prog 68 #[.string nm, .int .u64 (r.regs[i.s1]?.getD 0), .int .u64 (r.regs[i.s2]?.getD 0)] W fun e w' => e = .returned (.bool false) ∧ W = w') :
    Calls Tryz.prog 45 #[.pointer (some ⟨g, 0, none⟩), i.v] w (DoPost B w g mv tv r.on (r.wr i.rd 0)) := by
  have HN := Lib.hid hname
  have HF := Lib.hid hform
  have lg := hr.blk.lt
  have HS := Lib.hid hs
  clear hname hform hs
  have HBR := Lib.hid hbr
  clear hbr
  go_enter Tryz.func45, Tryz.ntmps45
  go_wp2_with fail
  refine (HN.out _ ((RunB.start hr).alloc _).low).mono ?_
  rintro e w1 ⟨rfl, hb1⟩
  have R1 := ((RunB.start hr).alloc (.cells #[.int .u8 i.op, .int .i64 i.rd, .int .i64 i.s1, .int .i64 i.s2, .int .i64 i.imm] 57)).below hb1
  obtain ⟨hc1, hf1⟩ := bcell hb1
  have hz : w.heap.size < w1.heap.size := by have := hb1.size; simp at this; omega
  go_wp2_with fail
  refine (HF.out _ R1.low).mono ?_
  rintro e w2 ⟨rfl, hb2⟩
  have R2 := R1.below hb2
  obtain ⟨hc2, hf2⟩ := bcell hb2
  have k1 := R2.run.cR i.s1 h1
  have k2 := R2.run.cR i.s2 h2
  have i10 : (0 : Int) ≤ (i.s1 : Int) := Int.natCast_nonneg _
  have i11 : (i.s1 : Int) < 32 := by omega
  have i20 : (0 : Int) ≤ (i.s2 : Int) := Int.natCast_nonneg _
  have i21 : (i.s2 : Int) < 32 := by omega
  have k0 := R2.run.c0
  have k37 := R2.run.c37
  have k38 : w2.cell? ⟨g, 38, none⟩ = some (.bool false) := by rw [R2.run.c38]; exact congrArg (fun x => some (Value.bool x)) HS.out
  have f38 := R2.run.fz 38
  have lg2 := R2.run.blk.lt
  have hz2 : w.heap.size < w2.heap.size := by have := hb2.size; omega
  go_wp2
  go_quiet (fail)
  by_cases hrd : i.rd = 0
  · have hd : ((i.rd : Int) == 0) = true := by simpa using hrd
    go_wp2_with (go_at_call 68; refine (HBR.out _).mono ?_; rintro e w' ⟨rfl, rfl⟩)
    go_ret
    exact ⟨rfl, (R2.drewN _).fin0 HS.out hrd _⟩
  · have hd : ((i.rd : Int) == 0) = false := by simpa using hrd
    have k3 := R2.run.cR i.rd h3
    have f3 := R2.run.fz (1 + i.rd)
    have i30 : (0 : Int) ≤ (i.rd : Int) := Int.natCast_nonneg _
    have i31 : (i.rd : Int) < 32 := by omega
    go_wp2_with (go_at_call 68; refine (HBR.out _).mono ?_; rintro e w' ⟨rfl, rfl⟩)
    go_region
    go_wp2
    go_ret
    exact ⟨rfl, (R2.drewN _).fin1 HS.out hrd h3 _⟩
end Go.Proofs.YtoehlmiadiiimaaGreatDoor

/-
  The machine: what an instruction does: loads.
-/
namespace Go.Proofs.YtoehlmiadiiimaaGreatDoor
open Go.ChangeShapes Go.WideShapes Go.RowKit
/-- What do leaves behind where it can't go on. -/
def StopPost (B : Nat) (w : World) (g : Nat) (mv tv : Value) (e : Ending) (w' : World) : Prop :=
  ∃ to r', e = .returned (.int .u64 to) ∧ RunB B w w' g r' mv tv ∧ r'.stop = true
set_option maxRecDepth 100000 in
set_option maxHeartbeats 2000000 in
theorem do_L (B g : Nat) (r : Rn) (mv tv : Value) (w : World) (hr : RunW B w g r mv tv) (i : Ins) (h1 : i.s1 < 32) (h2 : i.s2 < 32) (h3 : i.rd < 32) (hs : r.stop = false)
    (nm : ByteArray) (hname : ∀ W, Below B w W → Calls Tryz.prog 30 #[.int .u8 i.op] W fun e w' => e = .returned (.tuple #[.string nm, .int .i64 0]) ∧ Below W.heap.size W w')
    (hform : ∀ W, Below B w W → Calls Tryz.prog 31 #[.int .u8 i.op] W fun e w' => e = .returned (.tuple #[.int .u8 76, .int .i64 0]) ∧ Below W.heap.size W w') (hn : (nm.toList == [106, 97, 108, 114]) = false) (v : Int) (hl : ∀ W, RunB B w W g r mv tv → Calls Tryz.prog 69 #[.pointer (some ⟨g, 0, none⟩), .string nm, .int .u64 (IntKind.u64.wrap (r.regs[i.s1]?.getD 0 + IntKind.u64.wrap i.imm))] W fun e w' => e = .returned (.int .u64 v) ∧ W = w') :
    Calls Tryz.prog 45 #[.pointer (some ⟨g, 0, none⟩), i.v] w (DoPost B w g mv tv r.on (r.wr i.rd v)) := by
  have HN := Lib.hid hname
  have HF := Lib.hid hform
  have lg := hr.blk.lt
  have HS := Lib.hid hs
  clear hname hform hs
  have HL := Lib.hid hl
  clear hl
  go_enter Tryz.func45, Tryz.ntmps45
  go_wp2_with fail
  refine (HN.out _ ((RunB.start hr).alloc _).low).mono ?_
  rintro e w1 ⟨rfl, hb1⟩
  have R1 := ((RunB.start hr).alloc (.cells #[.int .u8 i.op, .int .i64 i.rd, .int .i64 i.s1, .int .i64 i.s2, .int .i64 i.imm] 57)).below hb1
  obtain ⟨hc1, hf1⟩ := bcell hb1
  have hz : w.heap.size < w1.heap.size := by have := hb1.size; simp at this; omega
  go_wp2_with fail
  refine (HF.out _ R1.low).mono ?_
  rintro e w2 ⟨rfl, hb2⟩
  have R2 := R1.below hb2
  obtain ⟨hc2, hf2⟩ := bcell hb2
  have k1 := R2.run.cR i.s1 h1
  have k2 := R2.run.cR i.s2 h2
  have i10 : (0 : Int) ≤ (i.s1 : Int) := Int.natCast_nonneg _
  have i11 : (i.s1 : Int) < 32 := by omega
  have i20 : (0 : Int) ≤ (i.s2 : Int) := Int.natCast_nonneg _
  have i21 : (i.s2 : Int) < 32 := by omega
  have k0 := R2.run.c0
  have k37 := R2.run.c37
  have k38 : w2.cell? ⟨g, 38, none⟩ = some (.bool false) := by rw [R2.run.c38]; exact congrArg (fun x => some (Value.bool x)) HS.out
  have f38 := R2.run.fz 38
  have lg2 := R2.run.blk.lt
  have hz2 : w.heap.size < w2.heap.size := by have := hb2.size; omega
  go_wp2
  go_quiet (fail)
  go_wp2_with fail
  refine (HL.out _ (R2.drewN _)).mono ?_
  rintro e w' ⟨rfl, rfl⟩
  by_cases hrd : i.rd = 0
  · have hd : ((i.rd : Int) == 0) = true := by simpa using hrd
    go_wp2
    go_ret
    exact ⟨rfl, (R2.drewN _).fin0 HS.out hrd _⟩
  · have hd : ((i.rd : Int) == 0) = false := by simpa using hrd
    have k3 := R2.run.cR i.rd h3
    have f3 := R2.run.fz (1 + i.rd)
    have i30 : (0 : Int) ≤ (i.rd : Int) := Int.natCast_nonneg _
    have i31 : (i.rd : Int) < 32 := by omega
    go_wp2
    go_region
    go_wp2
    go_ret
    exact ⟨rfl, (R2.drewN _).fin1 HS.out hrd h3 _⟩
set_option maxRecDepth 100000 in
set_option maxHeartbeats 2000000 in
theorem do_Lx (B g : Nat) (r : Rn) (mv tv : Value) (w : World) (hr : RunW B w g r mv tv) (i : Ins) (h1 : i.s1 < 32) (h2 : i.s2 < 32) (h3 : i.rd < 32) (hs : r.stop = false)
    (nm : ByteArray) (hname : ∀ W, Below B w W → Calls Tryz.prog 30 #[.int .u8 i.op] W fun e w' => e = .returned (.tuple #[.string nm, .int .i64 0]) ∧ Below W.heap.size W w')
    (hform : ∀ W, Below B w W → Calls Tryz.prog 31 #[.int .u8 i.op] W fun e w' => e = .returned (.tuple #[.int .u8 76, .int .i64 0]) ∧ Below W.heap.size W w') (hn : (nm.toList == [106, 97, 108, 114]) = false) (v : Int) (hl : ∀ W, RunB B w W g r mv tv → Calls Tryz.prog 69 #[.pointer (some ⟨g, 0, none⟩), .string nm, .int .u64 (IntKind.u64.wrap (r.regs[i.s1]?.getD 0 + IntKind.u64.wrap i.imm))] W fun e w' => e = .returned (.int .u64 v) ∧ W.setCell ⟨g, 38, none⟩ (.bool true) = w') :
    Calls Tryz.prog 45 #[.pointer (some ⟨g, 0, none⟩), i.v] w (StopPost B w g mv tv) := by
  have HN := Lib.hid hname
  have HF := Lib.hid hform
  have lg := hr.blk.lt
  have HS := Lib.hid hs
  clear hname hform hs
  have HL := Lib.hid hl
  clear hl
  go_enter Tryz.func45, Tryz.ntmps45
  go_wp2_with fail
  refine (HN.out _ ((RunB.start hr).alloc _).low).mono ?_
  rintro e w1 ⟨rfl, hb1⟩
  have R1 := ((RunB.start hr).alloc (.cells #[.int .u8 i.op, .int .i64 i.rd, .int .i64 i.s1, .int .i64 i.s2, .int .i64 i.imm] 57)).below hb1
  obtain ⟨hc1, hf1⟩ := bcell hb1
  have hz : w.heap.size < w1.heap.size := by have := hb1.size; simp at this; omega
  go_wp2_with fail
  refine (HF.out _ R1.low).mono ?_
  rintro e w2 ⟨rfl, hb2⟩
  have R2 := R1.below hb2
  obtain ⟨hc2, hf2⟩ := bcell hb2
  have k1 := R2.run.cR i.s1 h1
  have k2 := R2.run.cR i.s2 h2
  have i10 : (0 : Int) ≤ (i.s1 : Int) := Int.natCast_nonneg _
  have i11 : (i.s1 : Int) < 32 := by omega
  have i20 : (0 : Int) ≤ (i.s2 : Int) := Int.natCast_nonneg _
  have i21 : (i.s2 : Int) < 32 := by omega
  have k0 := R2.run.c0
  have k37 := R2.run.c37
  have k38 : w2.cell? ⟨g, 38, none⟩ = some (.bool false) := by rw [R2.run.c38]; exact congrArg (fun x => some (Value.bool x)) HS.out
  have f38 := R2.run.fz 38
  have lg2 := R2.run.blk.lt
  have hz2 : w.heap.size < w2.heap.size := by have := hb2.size; omega
  go_wp2
  go_quiet (fail)
  go_wp2_with fail
  refine (HL.out _ (R2.drewN _)).mono ?_
  rintro e w' ⟨rfl, rfl⟩
  by_cases hrd : i.rd = 0
  · have hd : ((i.rd : Int) == 0) = true := by simpa using hrd
    go_wp2
    go_ret
    exact ⟨_, _, rfl, ((R2.drewN _).stop_ true).stop_ true, rfl⟩
  · have hd : ((i.rd : Int) == 0) = false := by simpa using hrd
    have k3 := R2.run.cR i.rd h3
    have f3 := R2.run.fz (1 + i.rd)
    have i30 : (0 : Int) ≤ (i.rd : Int) := Int.natCast_nonneg _
    have i31 : (i.rd : Int) < 32 := by omega
    go_wp2
    go_region
    go_wp2
    go_ret
    exact ⟨_, _, rfl, ((((R2.drewN _).stop_ true).stop_ true).reg_ i.rd h3 _).drew, rfl⟩
set_option maxRecDepth 100000 in
set_option maxHeartbeats 2000000 in
theorem do_none78 (B g : Nat) (r : Rn) (mv tv : Value) (w : World) (hr : RunW B w g r mv tv) (i : Ins) (h1 : i.s1 < 32) (h2 : i.s2 < 32) (h3 : i.rd < 32) (hs : r.stop = false)
    (nm : ByteArray) (hname : ∀ W, Below B w W → Calls Tryz.prog 30 #[.int .u8 i.op] W fun e w' => e = .returned (.tuple #[.string nm, .int .i64 0]) ∧ Below W.heap.size W w')
    (hform : ∀ W, Below B w W → Calls Tryz.prog 31 #[.int .u8 i.op] W fun e w' => e = .returned (.tuple #[.int .u8 78, .int .i64 0]) ∧ Below W.heap.size W w') (hn : (nm.toList == [101, 99, 97, 108, 108]) = false) :
    Calls Tryz.prog 45 #[.pointer (some ⟨g, 0, none⟩), i.v] w (StopPost B w g mv tv) := by
  have HN := Lib.hid hname
  have HF := Lib.hid hform
  have lg := hr.blk.lt
  have HS := Lib.hid hs
  clear hname hform hs
  go_enter Tryz.func45, Tryz.ntmps45
  go_wp2_with fail
  refine (HN.out _ ((RunB.start hr).alloc _).low).mono ?_
  rintro e w1 ⟨rfl, hb1⟩
  have R1 := ((RunB.start hr).alloc (.cells #[.int .u8 i.op, .int .i64 i.rd, .int .i64 i.s1, .int .i64 i.s2, .int .i64 i.imm] 57)).below hb1
  obtain ⟨hc1, hf1⟩ := bcell hb1
  have hz : w.heap.size < w1.heap.size := by have := hb1.size; simp at this; omega
  go_wp2_with fail
  refine (HF.out _ R1.low).mono ?_
  rintro e w2 ⟨rfl, hb2⟩
  have R2 := R1.below hb2
  obtain ⟨hc2, hf2⟩ := bcell hb2
  have k1 := R2.run.cR i.s1 h1
  have k2 := R2.run.cR i.s2 h2
  have i10 : (0 : Int) ≤ (i.s1 : Int) := Int.natCast_nonneg _
  have i11 : (i.s1 : Int) < 32 := by omega
  have i20 : (0 : Int) ≤ (i.s2 : Int) := Int.natCast_nonneg _
  have i21 : (i.s2 : Int) < 32 := by omega
  have k0 := R2.run.c0
  have k37 := R2.run.c37
  have k38 : w2.cell? ⟨g, 38, none⟩ = some (.bool false) := by rw [R2.run.c38]; exact congrArg (fun x => some (Value.bool x)) HS.out
  have f38 := R2.run.fz 38
  have lg2 := R2.run.blk.lt
  have hz2 : w.heap.size < w2.heap.size := by have := hb2.size; omega
  go_wp2
  go_quiet (fail)
  by_cases hrd : i.rd = 0
  · have hd : ((i.rd : Int) == 0) = true := by simpa using hrd
    go_wp2
    go_ret
    exact ⟨_, _, rfl, (R2.drewN _).stop_ true, rfl⟩
  · have hd : ((i.rd : Int) == 0) = false := by simpa using hrd
    have k3 := R2.run.cR i.rd h3
    have f3 := R2.run.fz (1 + i.rd)
    have i30 : (0 : Int) ≤ (i.rd : Int) := Int.natCast_nonneg _
    have i31 : (i.rd : Int) < 32 := by omega
    go_wp2
    go_region
    go_wp2
    go_ret
    exact ⟨_, _, rfl, (((R2.drewN _).stop_ true).reg_ i.rd h3 _).drew, rfl⟩
set_option maxRecDepth 100000 in
set_option maxHeartbeats 2000000 in
theorem do_none65 (B g : Nat) (r : Rn) (mv tv : Value) (w : World) (hr : RunW B w g r mv tv) (i : Ins) (h1 : i.s1 < 32) (h2 : i.s2 < 32) (h3 : i.rd < 32) (hs : r.stop = false)
    (nm : ByteArray) (hname : ∀ W, Below B w W → Calls Tryz.prog 30 #[.int .u8 i.op] W fun e w' => e = .returned (.tuple #[.string nm, .int .i64 0]) ∧ Below W.heap.size W w')
    (hform : ∀ W, Below B w W → Calls Tryz.prog 31 #[.int .u8 i.op] W fun e w' => e = .returned (.tuple #[.int .u8 65, .int .i64 0]) ∧ Below W.heap.size W w') (hn : (nm.toList == [101, 99, 97, 108, 108]) = false) :
    Calls Tryz.prog 45 #[.pointer (some ⟨g, 0, none⟩), i.v] w (StopPost B w g mv tv) := by
  have HN := Lib.hid hname
  have HF := Lib.hid hform
  have lg := hr.blk.lt
  have HS := Lib.hid hs
  clear hname hform hs
  go_enter Tryz.func45, Tryz.ntmps45
  go_wp2_with fail
  refine (HN.out _ ((RunB.start hr).alloc _).low).mono ?_
  rintro e w1 ⟨rfl, hb1⟩
  have R1 := ((RunB.start hr).alloc (.cells #[.int .u8 i.op, .int .i64 i.rd, .int .i64 i.s1, .int .i64 i.s2, .int .i64 i.imm] 57)).below hb1
  obtain ⟨hc1, hf1⟩ := bcell hb1
  have hz : w.heap.size < w1.heap.size := by have := hb1.size; simp at this; omega
  go_wp2_with fail
  refine (HF.out _ R1.low).mono ?_
  rintro e w2 ⟨rfl, hb2⟩
  have R2 := R1.below hb2
  obtain ⟨hc2, hf2⟩ := bcell hb2
  have k1 := R2.run.cR i.s1 h1
  have k2 := R2.run.cR i.s2 h2
  have i10 : (0 : Int) ≤ (i.s1 : Int) := Int.natCast_nonneg _
  have i11 : (i.s1 : Int) < 32 := by omega
  have i20 : (0 : Int) ≤ (i.s2 : Int) := Int.natCast_nonneg _
  have i21 : (i.s2 : Int) < 32 := by omega
  have k0 := R2.run.c0
  have k37 := R2.run.c37
  have k38 : w2.cell? ⟨g, 38, none⟩ = some (.bool false) := by rw [R2.run.c38]; exact congrArg (fun x => some (Value.bool x)) HS.out
  have f38 := R2.run.fz 38
  have lg2 := R2.run.blk.lt
  have hz2 : w.heap.size < w2.heap.size := by have := hb2.size; omega
  go_wp2
  go_quiet (fail)
  by_cases hrd : i.rd = 0
  · have hd : ((i.rd : Int) == 0) = true := by simpa using hrd
    go_wp2
    go_ret
    exact ⟨_, _, rfl, (R2.drewN _).stop_ true, rfl⟩
  · have hd : ((i.rd : Int) == 0) = false := by simpa using hrd
    have k3 := R2.run.cR i.rd h3
    have f3 := R2.run.fz (1 + i.rd)
    have i30 : (0 : Int) ≤ (i.rd : Int) := Int.natCast_nonneg _
    have i31 : (i.rd : Int) < 32 := by omega
    go_wp2
    go_region
    go_wp2
    go_ret
    exact ⟨_, _, rfl, (((R2.drewN _).stop_ true).reg_ i.rd h3 _).drew, rfl⟩
set_option maxRecDepth 100000 in
set_option maxHeartbeats 2000000 in
theorem do_none67 (B g : Nat) (r : Rn) (mv tv : Value) (w : World) (hr : RunW B w g r mv tv) (i : Ins) (h1 : i.s1 < 32) (h2 : i.s2 < 32) (h3 : i.rd < 32) (hs : r.stop = false)
    (nm : ByteArray) (hname : ∀ W, Below B w W → Calls Tryz.prog 30 #[.int .u8 i.op] W fun e w' => e = .returned (.tuple #[.string nm, .int .i64 0]) ∧ Below W.heap.size W w')
    (hform : ∀ W, Below B w W → Calls Tryz.prog 31 #[.int .u8 i.op] W fun e w' => e = .returned (.tuple #[.int .u8 67, .int .i64 0]) ∧ Below W.heap.size W w') (hn : (nm.toList == [101, 99, 97, 108, 108]) = false) :
    Calls Tryz.prog 45 #[.pointer (some ⟨g, 0, none⟩), i.v] w (StopPost B w g mv tv) := by
  have HN := Lib.hid hname
  have HF := Lib.hid hform
  have lg := hr.blk.lt
  have HS := Lib.hid hs
  clear hname hform hs
  go_enter Tryz.func45, Tryz.ntmps45
  go_wp2_with fail
  refine (HN.out _ ((RunB.start hr).alloc _).low).mono ?_
  rintro e w1 ⟨rfl, hb1⟩
  have R1 := ((RunB.start hr).alloc (.cells #[.int .u8 i.op, .int .i64 i.rd, .int .i64 i.s1, .int .i64 i.s2, .int .i64 i.imm] 57)).below hb1
  obtain ⟨hc1, hf1⟩ := bcell hb1
  have hz : w.heap.size < w1.heap.size := by have := hb1.size; simp at this; omega
  go_wp2_with fail
  refine (HF.out _ R1.low).mono ?_
  rintro e w2 ⟨rfl, hb2⟩
  have R2 := R1.below hb2
  obtain ⟨hc2, hf2⟩ := bcell hb2
  have k1 := R2.run.cR i.s1 h1
  have k2 := R2.run.cR i.s2 h2
  have i10 : (0 : Int) ≤ (i.s1 : Int) := Int.natCast_nonneg _
  have i11 : (i.s1 : Int) < 32 := by omega
  have i20 : (0 : Int) ≤ (i.s2 : Int) := Int.natCast_nonneg _
  have i21 : (i.s2 : Int) < 32 := by omega
  have k0 := R2.run.c0
  have k37 := R2.run.c37
  have k38 : w2.cell? ⟨g, 38, none⟩ = some (.bool false) := by rw [R2.run.c38]; exact congrArg (fun x => some (Value.bool x)) HS.out
  have f38 := R2.run.fz 38
  have lg2 := R2.run.blk.lt
  have hz2 : w.heap.size < w2.heap.size := by have := hb2.size; omega
  go_wp2
  go_quiet (fail)
  by_cases hrd : i.rd = 0
  · have hd : ((i.rd : Int) == 0) = true := by simpa using hrd
    go_wp2
    go_ret
    exact ⟨_, _, rfl, (R2.drewN _).stop_ true, rfl⟩
  · have hd : ((i.rd : Int) == 0) = false := by simpa using hrd
    have k3 := R2.run.cR i.rd h3
    have f3 := R2.run.fz (1 + i.rd)
    have i30 : (0 : Int) ≤ (i.rd : Int) := Int.natCast_nonneg _
    have i31 : (i.rd : Int) < 32 := by omega
    go_wp2
    go_region
    go_wp2
    go_ret
    exact ⟨_, _, rfl, (((R2.drewN _).stop_ true).reg_ i.rd h3 _).drew, rfl⟩
set_option maxRecDepth 100000 in
set_option maxHeartbeats 2000000 in
theorem do_none90 (B g : Nat) (r : Rn) (mv tv : Value) (w : World) (hr : RunW B w g r mv tv) (i : Ins) (h1 : i.s1 < 32) (h2 : i.s2 < 32) (h3 : i.rd < 32) (hs : r.stop = false)
    (nm : ByteArray) (hname : ∀ W, Below B w W → Calls Tryz.prog 30 #[.int .u8 i.op] W fun e w' => e = .returned (.tuple #[.string nm, .int .i64 0]) ∧ Below W.heap.size W w')
    (hform : ∀ W, Below B w W → Calls Tryz.prog 31 #[.int .u8 i.op] W fun e w' => e = .returned (.tuple #[.int .u8 90, .int .i64 0]) ∧ Below W.heap.size W w') (hn : (nm.toList == [101, 99, 97, 108, 108]) = false) :
    Calls Tryz.prog 45 #[.pointer (some ⟨g, 0, none⟩), i.v] w (StopPost B w g mv tv) := by
  have HN := Lib.hid hname
  have HF := Lib.hid hform
  have lg := hr.blk.lt
  have HS := Lib.hid hs
  clear hname hform hs
  go_enter Tryz.func45, Tryz.ntmps45
  go_wp2_with fail
  refine (HN.out _ ((RunB.start hr).alloc _).low).mono ?_
  rintro e w1 ⟨rfl, hb1⟩
  have R1 := ((RunB.start hr).alloc (.cells #[.int .u8 i.op, .int .i64 i.rd, .int .i64 i.s1, .int .i64 i.s2, .int .i64 i.imm] 57)).below hb1
  obtain ⟨hc1, hf1⟩ := bcell hb1
  have hz : w.heap.size < w1.heap.size := by have := hb1.size; simp at this; omega
  go_wp2_with fail
  refine (HF.out _ R1.low).mono ?_
  rintro e w2 ⟨rfl, hb2⟩
  have R2 := R1.below hb2
  obtain ⟨hc2, hf2⟩ := bcell hb2
  have k1 := R2.run.cR i.s1 h1
  have k2 := R2.run.cR i.s2 h2
  have i10 : (0 : Int) ≤ (i.s1 : Int) := Int.natCast_nonneg _
  have i11 : (i.s1 : Int) < 32 := by omega
  have i20 : (0 : Int) ≤ (i.s2 : Int) := Int.natCast_nonneg _
  have i21 : (i.s2 : Int) < 32 := by omega
  have k0 := R2.run.c0
  have k37 := R2.run.c37
  have k38 : w2.cell? ⟨g, 38, none⟩ = some (.bool false) := by rw [R2.run.c38]; exact congrArg (fun x => some (Value.bool x)) HS.out
  have f38 := R2.run.fz 38
  have lg2 := R2.run.blk.lt
  have hz2 : w.heap.size < w2.heap.size := by have := hb2.size; omega
  go_wp2
  go_quiet (fail)
  by_cases hrd : i.rd = 0
  · have hd : ((i.rd : Int) == 0) = true := by simpa using hrd
    go_wp2
    go_ret
    exact ⟨_, _, rfl, (R2.drewN _).stop_ true, rfl⟩
  · have hd : ((i.rd : Int) == 0) = false := by simpa using hrd
    have k3 := R2.run.cR i.rd h3
    have f3 := R2.run.fz (1 + i.rd)
    have i30 : (0 : Int) ≤ (i.rd : Int) := Int.natCast_nonneg _
    have i31 : (i.rd : Int) < 32 := by omega
    go_wp2
    go_region
    go_wp2
    go_ret
    exact ⟨_, _, rfl, (((R2.drewN _).stop_ true).reg_ i.rd h3 _).drew, rfl⟩
set_option maxRecDepth 100000 in
set_option maxHeartbeats 2000000 in
theorem do_none108 (B g : Nat) (r : Rn) (mv tv : Value) (w : World) (hr : RunW B w g r mv tv) (i : Ins) (h1 : i.s1 < 32) (h2 : i.s2 < 32) (h3 : i.rd < 32) (hs : r.stop = false)
    (nm : ByteArray) (hname : ∀ W, Below B w W → Calls Tryz.prog 30 #[.int .u8 i.op] W fun e w' => e = .returned (.tuple #[.string nm, .int .i64 0]) ∧ Below W.heap.size W w')
    (hform : ∀ W, Below B w W → Calls Tryz.prog 31 #[.int .u8 i.op] W fun e w' => e = .returned (.tuple #[.int .u8 108, .int .i64 0]) ∧ Below W.heap.size W w') (hn : (nm.toList == [101, 99, 97, 108, 108]) = false) :
    Calls Tryz.prog 45 #[.pointer (some ⟨g, 0, none⟩), i.v] w (StopPost B w g mv tv) := by
  have HN := Lib.hid hname
  have HF := Lib.hid hform
  have lg := hr.blk.lt
  have HS := Lib.hid hs
  clear hname hform hs
  go_enter Tryz.func45, Tryz.ntmps45
  go_wp2_with fail
  refine (HN.out _ ((RunB.start hr).alloc _).low).mono ?_
  rintro e w1 ⟨rfl, hb1⟩
  have R1 := ((RunB.start hr).alloc (.cells #[.int .u8 i.op, .int .i64 i.rd, .int .i64 i.s1, .int .i64 i.s2, .int .i64 i.imm] 57)).below hb1
  obtain ⟨hc1, hf1⟩ := bcell hb1
  have hz : w.heap.size < w1.heap.size := by have := hb1.size; simp at this; omega
  go_wp2_with fail
  refine (HF.out _ R1.low).mono ?_
  rintro e w2 ⟨rfl, hb2⟩
  have R2 := R1.below hb2
  obtain ⟨hc2, hf2⟩ := bcell hb2
  have k1 := R2.run.cR i.s1 h1
  have k2 := R2.run.cR i.s2 h2
  have i10 : (0 : Int) ≤ (i.s1 : Int) := Int.natCast_nonneg _
  have i11 : (i.s1 : Int) < 32 := by omega
  have i20 : (0 : Int) ≤ (i.s2 : Int) := Int.natCast_nonneg _
  have i21 : (i.s2 : Int) < 32 := by omega
  have k0 := R2.run.c0
  have k37 := R2.run.c37
  have k38 : w2.cell? ⟨g, 38, none⟩ = some (.bool false) := by rw [R2.run.c38]; exact congrArg (fun x => some (Value.bool x)) HS.out
  have f38 := R2.run.fz 38
  have lg2 := R2.run.blk.lt
  have hz2 : w.heap.size < w2.heap.size := by have := hb2.size; omega
  go_wp2
  go_quiet (fail)
  by_cases hrd : i.rd = 0
  · have hd : ((i.rd : Int) == 0) = true := by simpa using hrd
    go_wp2
    go_ret
    exact ⟨_, _, rfl, (R2.drewN _).stop_ true, rfl⟩
  · have hd : ((i.rd : Int) == 0) = false := by simpa using hrd
    have k3 := R2.run.cR i.rd h3
    have f3 := R2.run.fz (1 + i.rd)
    have i30 : (0 : Int) ≤ (i.rd : Int) := Int.natCast_nonneg _
    have i31 : (i.rd : Int) < 32 := by omega
    go_wp2
    go_region
    go_wp2
    go_ret
    exact ⟨_, _, rfl, (((R2.drewN _).stop_ true).reg_ i.rd h3 _).drew, rfl⟩
end Go.Proofs.YtoehlmiadiiimaaGreatDoor

/-
  The machine: what an instruction does: sums and the like; what is told.
-/
namespace Go.Proofs.YtoehlmiadiiimaaGreatDoor
open Go.ChangeShapes Go.WideShapes Go.RowKit
set_option maxRecDepth 100000 in
set_option maxHeartbeats 2000000 in
theorem do_I (B g : Nat) (r : Rn) (mv tv : Value) (w : World) (hr : RunW B w g r mv tv) (i : Ins) (h1 : i.s1 < 32) (h2 : i.s2 < 32) (h3 : i.rd < 32) (hs : r.stop = false)
    (nm : ByteArray) (hname : ∀ W, Below B w W → Calls Tryz.prog 30 #[.int .u8 i.op] W fun e w' => e = .returned (.tuple #[.string nm, .int .i64 0]) ∧ Below W.heap.size W w')
    (hform : ∀ W, Below B w W → Calls Tryz.prog 31 #[.int .u8 i.op] W fun e w' => e = .returned (.tuple #[.int .u8 73, .int .i64 0]) ∧ Below W.heap.size W w') (v : Int) (htw : ∀ W, Below B w W → Calls Tryz.prog 71 #[.string nm, .int .u64 (r.regs[i.s1]?.getD 0), .int .u64 (IntKind.u64.wrap i.imm)] W fun e w' => e = .returned (.tuple #[.int .u64 v, .bool true]) ∧ Below W.heap.size W w') :
    Calls Tryz.prog 45 #[.pointer (some ⟨g, 0, none⟩), i.v] w (DoPost B w g mv tv r.on (r.wr i.rd v)) := by
  have HN := Lib.hid hname
  have HF := Lib.hid hform
  have lg := hr.blk.lt
  have HS := Lib.hid hs
  clear hname hform hs
  have HT := Lib.hid htw
  clear htw
  go_enter Tryz.func45, Tryz.ntmps45
  go_wp2_with fail
  refine (HN.out _ ((RunB.start hr).alloc _).low).mono ?_
  rintro e w1 ⟨rfl, hb1⟩
  have R1 := ((RunB.start hr).alloc (.cells #[.int .u8 i.op, .int .i64 i.rd, .int .i64 i.s1, .int .i64 i.s2, .int .i64 i.imm] 57)).below hb1
  obtain ⟨hc1, hf1⟩ := bcell hb1
  have hz : w.heap.size < w1.heap.size := by have := hb1.size; simp at this; omega
  go_wp2_with fail
  refine (HF.out _ R1.low).mono ?_
  rintro e w2 ⟨rfl, hb2⟩
  have R2 := R1.below hb2
  obtain ⟨hc2, hf2⟩ := bcell hb2
  have k1 := R2.run.cR i.s1 h1
  have k2 := R2.run.cR i.s2 h2
  have i10 : (0 : Int) ≤ (i.s1 : Int) := Int.natCast_nonneg _
  have i11 : (i.s1 : Int) < 32 := by omega
  have i20 : (0 : Int) ≤ (i.s2 : Int) := Int.natCast_nonneg _
  have i21 : (i.s2 : Int) < 32 := by omega
  have k0 := R2.run.c0
  have k37 := R2.run.c37
  have k38 : w2.cell? ⟨g, 38, none⟩ = some (.bool false) := by rw [R2.run.c38]; exact congrArg (fun x => some (Value.bool x)) HS.out
  have f38 := R2.run.fz 38
  have lg2 := R2.run.blk.lt
  have hz2 : w.heap.size < w2.heap.size := by have := hb2.size; omega
  go_wp2
  go_quiet (fail)
  go_wp2_with fail
  refine (HT.out _ (R2.drewN _).low).mono ?_
  rintro e w3 ⟨rfl, hb3⟩
  have R3 := (R2.drewN _).below hb3
  have hb3' : Below w2.heap.size w2 w3 := ⟨hb3.os, hb3.tape, hb3.output, hb3.size, hb3.block⟩
  obtain ⟨hc3, hf3⟩ := bcell hb3'
  clear hb3
  have q38 : w3.cell? ⟨g, 38, none⟩ = some (.bool false) := by rw [R3.run.c38]; exact congrArg (fun x => some (Value.bool x)) HS.out
  have q38f := R3.run.fz 38
  have lg3 := R3.run.blk.lt
  have hz3 : w.heap.size < w3.heap.size := by have := hb3'.size; omega
  by_cases hrd : i.rd = 0
  · have hd : ((i.rd : Int) == 0) = true := by simpa using hrd
    go_wp2
    go_ret
    exact ⟨rfl, R3.fin0 HS.out hrd _⟩
  · have hd : ((i.rd : Int) == 0) = false := by simpa using hrd
    have k3 := R2.run.cR i.rd h3
    have f3 := R2.run.fz (1 + i.rd)
    have i30 : (0 : Int) ≤ (i.rd : Int) := Int.natCast_nonneg _
    have i31 : (i.rd : Int) < 32 := by omega
    go_wp2
    go_region
    go_wp2
    go_ret
    exact ⟨rfl, R3.fin1 HS.out hrd h3 _⟩
set_option maxRecDepth 100000 in
set_option maxHeartbeats 2000000 in
theorem do_six (B g : Nat) (r : Rn) (mv tv : Value) (w : World) (hr : RunW B w g r mv tv) (i : Ins) (h1 : i.s1 < 32) (h2 : i.s2 < 32) (h3 : i.rd < 32) (hs : r.stop = false)
    (nm : ByteArray) (hname : ∀ W, Below B w W → Calls Tryz.prog 30 #[.int .u8 i.op] W fun e w' => e = .returned (.tuple #[.string nm, .int .i64 0]) ∧ Below W.heap.size W w')
    (hform : ∀ W, Below B w W → Calls Tryz.prog 31 #[.int .u8 i.op] W fun e w' => e = .returned (.tuple #[.int .u8 54, .int .i64 0]) ∧ Below W.heap.size W w') (v : Int) (htw : ∀ W, Below B w W → Calls Tryz.prog 71 #[.string nm, .int .u64 (r.regs[i.s1]?.getD 0), .int .u64 (IntKind.u64.wrap i.imm)] W fun e w' => e = .returned (.tuple #[.int .u64 v, .bool true]) ∧ Below W.heap.size W w') :
    Calls Tryz.prog 45 #[.pointer (some ⟨g, 0, none⟩), i.v] w (DoPost B w g mv tv r.on (r.wr i.rd v)) := by
  have HN := Lib.hid hname
  have HF := Lib.hid hform
  have lg := hr.blk.lt
  have HS := Lib.hid hs
  clear hname hform hs
  have HT := Lib.hid htw
  clear htw
  go_enter Tryz.func45, Tryz.ntmps45
  go_wp2_with fail
  refine (HN.out _ ((RunB.start hr).alloc _).low).mono ?_
  rintro e w1 ⟨rfl, hb1⟩
  have R1 := ((RunB.start hr).alloc (.cells #[.int .u8 i.op, .int .i64 i.rd, .int .i64 i.s1, .int .i64 i.s2, .int .i64 i.imm] 57)).below hb1
  obtain ⟨hc1, hf1⟩ := bcell hb1
  have hz : w.heap.size < w1.heap.size := by have := hb1.size; simp at this; omega
  go_wp2_with fail
  refine (HF.out _ R1.low).mono ?_
  rintro e w2 ⟨rfl, hb2⟩
  have R2 := R1.below hb2
  obtain ⟨hc2, hf2⟩ := bcell hb2
  have k1 := R2.run.cR i.s1 h1
  have k2 := R2.run.cR i.s2 h2
  have i10 : (0 : Int) ≤ (i.s1 : Int) := Int.natCast_nonneg _
  have i11 : (i.s1 : Int) < 32 := by omega
  have i20 : (0 : Int) ≤ (i.s2 : Int) := Int.natCast_nonneg _
  have i21 : (i.s2 : Int) < 32 := by omega
  have k0 := R2.run.c0
  have k37 := R2.run.c37
  have k38 : w2.cell? ⟨g, 38, none⟩ = some (.bool false) := by rw [R2.run.c38]; exact congrArg (fun x => some (Value.bool x)) HS.out
  have f38 := R2.run.fz 38
  have lg2 := R2.run.blk.lt
  have hz2 : w.heap.size < w2.heap.size := by have := hb2.size; omega
  go_wp2
  go_quiet (fail)
  go_wp2_with fail
  refine (HT.out _ (R2.drewN _).low).mono ?_
  rintro e w3 ⟨rfl, hb3⟩
  have R3 := (R2.drewN _).below hb3
  have hb3' : Below w2.heap.size w2 w3 := ⟨hb3.os, hb3.tape, hb3.output, hb3.size, hb3.block⟩
  obtain ⟨hc3, hf3⟩ := bcell hb3'
  clear hb3
  have q38 : w3.cell? ⟨g, 38, none⟩ = some (.bool false) := by rw [R3.run.c38]; exact congrArg (fun x => some (Value.bool x)) HS.out
  have q38f := R3.run.fz 38
  have lg3 := R3.run.blk.lt
  have hz3 : w.heap.size < w3.heap.size := by have := hb3'.size; omega
  by_cases hrd : i.rd = 0
  · have hd : ((i.rd : Int) == 0) = true := by simpa using hrd
    go_wp2
    go_ret
    exact ⟨rfl, R3.fin0 HS.out hrd _⟩
  · have hd : ((i.rd : Int) == 0) = false := by simpa using hrd
    have k3 := R2.run.cR i.rd h3
    have f3 := R2.run.fz (1 + i.rd)
    have i30 : (0 : Int) ≤ (i.rd : Int) := Int.natCast_nonneg _
    have i31 : (i.rd : Int) < 32 := by omega
    go_wp2
    go_region
    go_wp2
    go_ret
    exact ⟨rfl, R3.fin1 HS.out hrd h3 _⟩
set_option maxRecDepth 100000 in
set_option maxHeartbeats 2000000 in
theorem do_five (B g : Nat) (r : Rn) (mv tv : Value) (w : World) (hr : RunW B w g r mv tv) (i : Ins) (h1 : i.s1 < 32) (h2 : i.s2 < 32) (h3 : i.rd < 32) (hs : r.stop = false)
    (nm : ByteArray) (hname : ∀ W, Below B w W → Calls Tryz.prog 30 #[.int .u8 i.op] W fun e w' => e = .returned (.tuple #[.string nm, .int .i64 0]) ∧ Below W.heap.size W w')
    (hform : ∀ W, Below B w W → Calls Tryz.prog 31 #[.int .u8 i.op] W fun e w' => e = .returned (.tuple #[.int .u8 53, .int .i64 0]) ∧ Below W.heap.size W w') (v : Int) (htw : ∀ W, Below B w W → Calls Tryz.prog 71 #[.string nm, .int .u64 (r.regs[i.s1]?.getD 0), .int .u64 (IntKind.u64.wrap i.imm)] W fun e w' => e = .returned (.tuple #[.int .u64 v, .bool true]) ∧ Below W.heap.size W w') :
    Calls Tryz.prog 45 #[.pointer (some ⟨g, 0, none⟩), i.v] w (DoPost B w g mv tv r.on (r.wr i.rd v)) := by
  have HN := Lib.hid hname
  have HF := Lib.hid hform
  have lg := hr.blk.lt
  have HS := Lib.hid hs
  clear hname hform hs
  have HT := Lib.hid htw
  clear htw
  go_enter Tryz.func45, Tryz.ntmps45
  go_wp2_with fail
  refine (HN.out _ ((RunB.start hr).alloc _).low).mono ?_
  rintro e w1 ⟨rfl, hb1⟩
  have R1 := ((RunB.start hr).alloc (.cells #[.int .u8 i.op, .int .i64 i.rd, .int .i64 i.s1, .int .i64 i.s2, .int .i64 i.imm] 57)).below hb1
  obtain ⟨hc1, hf1⟩ := bcell hb1
  have hz : w.heap.size < w1.heap.size := by have := hb1.size; simp at this; omega
  go_wp2_with fail
  refine (HF.out _ R1.low).mono ?_
  rintro e w2 ⟨rfl, hb2⟩
  have R2 := R1.below hb2
  obtain ⟨hc2, hf2⟩ := bcell hb2
  have k1 := R2.run.cR i.s1 h1
  have k2 := R2.run.cR i.s2 h2
  have i10 : (0 : Int) ≤ (i.s1 : Int) := Int.natCast_nonneg _
  have i11 : (i.s1 : Int) < 32 := by omega
  have i20 : (0 : Int) ≤ (i.s2 : Int) := Int.natCast_nonneg _
  have i21 : (i.s2 : Int) < 32 := by omega
  have k0 := R2.run.c0
  have k37 := R2.run.c37
  have k38 : w2.cell? ⟨g, 38, none⟩ = some (.bool false) := by rw [R2.run.c38]; exact congrArg (fun x => some (Value.bool x)) HS.out
  have f38 := R2.run.fz 38
  have lg2 := R2.run.blk.lt
  have hz2 : w.heap.size < w2.heap.size := by have := hb2.size; omega
  go_wp2
  go_quiet (fail)
  go_wp2_with fail
  refine (HT.out _ (R2.drewN _).low).mono ?_
  rintro e w3 ⟨rfl, hb3⟩
  have R3 := (R2.drewN _).below hb3
  have hb3' : Below w2.heap.size w2 w3 := ⟨hb3.os, hb3.tape, hb3.output, hb3.size, hb3.block⟩
  obtain ⟨hc3, hf3⟩ := bcell hb3'
  clear hb3
  have q38 : w3.cell? ⟨g, 38, none⟩ = some (.bool false) := by rw [R3.run.c38]; exact congrArg (fun x => some (Value.bool x)) HS.out
  have q38f := R3.run.fz 38
  have lg3 := R3.run.blk.lt
  have hz3 : w.heap.size < w3.heap.size := by have := hb3'.size; omega
  by_cases hrd : i.rd = 0
  · have hd : ((i.rd : Int) == 0) = true := by simpa using hrd
    go_wp2
    go_ret
    exact ⟨rfl, R3.fin0 HS.out hrd _⟩
  · have hd : ((i.rd : Int) == 0) = false := by simpa using hrd
    have k3 := R2.run.cR i.rd h3
    have f3 := R2.run.fz (1 + i.rd)
    have i30 : (0 : Int) ≤ (i.rd : Int) := Int.natCast_nonneg _
    have i31 : (i.rd : Int) < 32 := by omega
    go_wp2
    go_region
    go_wp2
    go_ret
    exact ⟨rfl, R3.fin1 HS.out hrd h3 _⟩
set_option maxRecDepth 100000 in
set_option maxHeartbeats 2000000 in
theorem do_R (B g : Nat) (r : Rn) (mv tv : Value) (w : World) (hr : RunW B w g r mv tv) (i : Ins) (h1 : i.s1 < 32) (h2 : i.s2 < 32) (h3 : i.rd < 32) (hs : r.stop = false)
    (nm : ByteArray) (hname : ∀ W, Below B w W → Calls Tryz.prog 30 #[.int .u8 i.op] W fun e w' => e = .returned (.tuple #[.string nm, .int .i64 0]) ∧ Below W.heap.size W w')
    (hform : ∀ W, Below B w W → Calls Tryz.prog 31 #[.int .u8 i.op] W fun e w' => e = .returned (.tuple #[.int .u8 82, .int .i64 0]) ∧ Below W.heap.size W w') (v : Int) (htw : ∀ W, Below B w W → Calls Tryz.prog 71 #[.string nm, .int .u64 (r.regs[i.s1]?.getD 0), .int .u64 (r.regs[i.s2]?.getD 0)] W fun e w' => e = .returned (.tuple #[.int .u64 v, .bool true]) ∧ Below W.heap.size W w') :
    Calls Tryz.prog 45 #[.pointer (some ⟨g, 0, none⟩), i.v] w (DoPost B w g mv tv r.on (r.wr i.rd v)) := by
  have HN := Lib.hid hname
  have HF := Lib.hid hform
  have lg := hr.blk.lt
  have HS := Lib.hid hs
  clear hname hform hs
  have HT := Lib.hid htw
  clear htw
  go_enter Tryz.func45, Tryz.ntmps45
  go_wp2_with fail
  refine (HN.out _ ((RunB.start hr).alloc _).low).mono ?_
  rintro e w1 ⟨rfl, hb1⟩
  have R1 := ((RunB.start hr).alloc (.cells #[.int .u8 i.op, .int .i64 i.rd, .int .i64 i.s1, .int .i64 i.s2, .int .i64 i.imm] 57)).below hb1
  obtain ⟨hc1, hf1⟩ := bcell hb1
  have hz : w.heap.size < w1.heap.size := by have := hb1.size; simp at this; omega
  go_wp2_with fail
  refine (HF.out _ R1.low).mono ?_
  rintro e w2 ⟨rfl, hb2⟩
  have R2 := R1.below hb2
  obtain ⟨hc2, hf2⟩ := bcell hb2
  have k1 := R2.run.cR i.s1 h1
  have k2 := R2.run.cR i.s2 h2
  have i10 : (0 : Int) ≤ (i.s1 : Int) := Int.natCast_nonneg _
  have i11 : (i.s1 : Int) < 32 := by omega
  have i20 : (0 : Int) ≤ (i.s2 : Int) := Int.natCast_nonneg _
  have i21 : (i.s2 : Int) < 32 := by omega
  have k0 := R2.run.c0
  have k37 := R2.run.c37
  have k38 : w2.cell? ⟨g, 38, none⟩ = some (.bool false) := by rw [R2.run.c38]; exact congrArg (fun x => some (Value.bool x)) HS.out
  have f38 := R2.run.fz 38
  have lg2 := R2.run.blk.lt
  have hz2 : w.heap.size < w2.heap.size := by have := hb2.size; omega
  go_wp2
  go_quiet (fail)
  go_wp2_with fail
  refine (HT.out _ (R2.drewN _).low).mono ?_
  rintro e w3 ⟨rfl, hb3⟩
  have R3 := (R2.drewN _).below hb3
  have hb3' : Below w2.heap.size w2 w3 := ⟨hb3.os, hb3.tape, hb3.output, hb3.size, hb3.block⟩
  obtain ⟨hc3, hf3⟩ := bcell hb3'
  clear hb3
  have q38 : w3.cell? ⟨g, 38, none⟩ = some (.bool false) := by rw [R3.run.c38]; exact congrArg (fun x => some (Value.bool x)) HS.out
  have q38f := R3.run.fz 38
  have lg3 := R3.run.blk.lt
  have hz3 : w.heap.size < w3.heap.size := by have := hb3'.size; omega
  by_cases hrd : i.rd = 0
  · have hd : ((i.rd : Int) == 0) = true := by simpa using hrd
    go_wp2
    go_ret
    exact ⟨rfl, R3.fin0 HS.out hrd _⟩
  · have hd : ((i.rd : Int) == 0) = false := by simpa using hrd
    have k3 := R2.run.cR i.rd h3
    have f3 := R2.run.fz (1 + i.rd)
    have i30 : (0 : Int) ≤ (i.rd : Int) := Int.natCast_nonneg _
    have i31 : (i.rd : Int) < 32 := by omega
    go_wp2
    go_region
    go_wp2
    go_ret
    exact ⟨rfl, R3.fin1 HS.out hrd h3 _⟩
set_option maxRecDepth 100000 in
set_option maxHeartbeats 2000000 in
theorem do_ecall_full (B g : Nat) (r : Rn) (mv tv : Value) (w : World) (hr : RunW B w g r mv tv) (i : Ins) (h1 : i.s1 < 32) (h2 : i.s2 < 32) (h3 : i.rd < 32) (hs : r.stop = false)
    (nm : ByteArray) (hname : ∀ W, Below B w W → Calls Tryz.prog 30 #[.int .u8 i.op] W fun e w' => e = .returned (.tuple #[.string nm, .int .i64 0]) ∧ Below W.heap.size W w')
    (hform : ∀ W, Below B w W → Calls Tryz.prog 31 #[.int .u8 i.op] W fun e w' => e = .returned (.tuple #[.int .u8 78, .int .i64 0]) ∧ Below W.heap.size W w') (hn : (nm.toList == [101, 99, 97, 108, 108]) = true) (T : Option Addr) (d : Nat) (htv : tv = .slice T r.told.length d) (hfull : 1000 ≤ r.told.length) (hlen : r.told.length ≤ 1000000) :
    Calls Tryz.prog 45 #[.pointer (some ⟨g, 0, none⟩), i.v] w (StopPost B w g mv tv) := by
  have HN := Lib.hid hname
  have HF := Lib.hid hform
  have lg := hr.blk.lt
  have HS := Lib.hid hs
  clear hname hform hs
  subst htv
  go_enter Tryz.func45, Tryz.ntmps45
  go_wp2_with fail
  refine (HN.out _ ((RunB.start hr).alloc _).low).mono ?_
  rintro e w1 ⟨rfl, hb1⟩
  have R1 := ((RunB.start hr).alloc (.cells #[.int .u8 i.op, .int .i64 i.rd, .int .i64 i.s1, .int .i64 i.s2, .int .i64 i.imm] 57)).below hb1
  obtain ⟨hc1, hf1⟩ := bcell hb1
  have hz : w.heap.size < w1.heap.size := by have := hb1.size; simp at this; omega
  go_wp2_with fail
  refine (HF.out _ R1.low).mono ?_
  rintro e w2 ⟨rfl, hb2⟩
  have R2 := R1.below hb2
  obtain ⟨hc2, hf2⟩ := bcell hb2
  have k1 := R2.run.cR i.s1 h1
  have k2 := R2.run.cR i.s2 h2
  have i10 : (0 : Int) ≤ (i.s1 : Int) := Int.natCast_nonneg _
  have i11 : (i.s1 : Int) < 32 := by omega
  have i20 : (0 : Int) ≤ (i.s2 : Int) := Int.natCast_nonneg _
  have i21 : (i.s2 : Int) < 32 := by omega
  have k0 := R2.run.c0
  have k37 := R2.run.c37
  have k38 : w2.cell? ⟨g, 38, none⟩ = some (.bool false) := by rw [R2.run.c38]; exact congrArg (fun x => some (Value.bool x)) HS.out
  have f38 := R2.run.fz 38
  have lg2 := R2.run.blk.lt
  have hz2 : w.heap.size < w2.heap.size := by have := hb2.size; omega
  go_wp2
  go_quiet (fail)
  have k35 := (R2.drewN nq).run.c35
  go_wp2_with fail
  refine (call_full g T r.told.length d false _ k35 (by go_simp) (by go_simp) hfull hlen).mono ?_
  rintro e w' ⟨rfl, rfl⟩
  by_cases hrd : i.rd = 0
  · have hd : ((i.rd : Int) == 0) = true := by simpa using hrd
    go_wp2
    go_ret
    exact ⟨_, _, rfl, ((R2.drewN _).stop_ true).stop_ true, rfl⟩
  · have hd : ((i.rd : Int) == 0) = false := by simpa using hrd
    have k3 := R2.run.cR i.rd h3
    have f3 := R2.run.fz (1 + i.rd)
    have i30 : (0 : Int) ≤ (i.rd : Int) := Int.natCast_nonneg _
    have i31 : (i.rd : Int) < 32 := by omega
    go_wp2
    go_region
    go_wp2
    go_ret
    exact ⟨_, _, rfl, ((((R2.drewN _).stop_ true).stop_ true).reg_ i.rd h3 _).drew, rfl⟩
set_option maxRecDepth 100000 in
set_option maxHeartbeats 2000000 in
theorem do_ecall (B g : Nat) (r : Rn) (mv tv : Value) (w : World) (hr : RunW B w g r mv tv) (i : Ins) (h1 : i.s1 < 32) (h2 : i.s2 < 32) (h3 : i.rd < 32) (hs : r.stop = false)
    (nm : ByteArray) (hname : ∀ W, Below B w W → Calls Tryz.prog 30 #[.int .u8 i.op] W fun e w' => e = .returned (.tuple #[.string nm, .int .i64 0]) ∧ Below W.heap.size W w')
    (hform : ∀ W, Below B w W → Calls Tryz.prog 31 #[.int .u8 i.op] W fun e w' => e = .returned (.tuple #[.int .u8 78, .int .i64 0]) ∧ Below W.heap.size W w') (hn : (nm.toList == [101, 99, 97, 108, 108]) = true) (T : Option Addr) (d : Nat) (htv : tv = .slice T r.told.length d) (hfull : r.told.length < 1000) :
    Calls Tryz.prog 45 #[.pointer (some ⟨g, 0, none⟩), i.v] w (fun e w' => ∃ tv', DoPost B w g mv tv' r.on ({ r with told := r.told ++ [r.regs.getD 10 0], done := r.regs.getD 17 0 == 93 }.wr i.rd 0) e w') := by
  have HN := Lib.hid hname
  have HF := Lib.hid hform
  have lg := hr.blk.lt
  have HS := Lib.hid hs
  clear hname hform hs
  subst htv
  go_enter Tryz.func45, Tryz.ntmps45
  go_wp2_with fail
  refine (HN.out _ ((RunB.start hr).alloc _).low).mono ?_
  rintro e w1 ⟨rfl, hb1⟩
  have R1 := ((RunB.start hr).alloc (.cells #[.int .u8 i.op, .int .i64 i.rd, .int .i64 i.s1, .int .i64 i.s2, .int .i64 i.imm] 57)).below hb1
  obtain ⟨hc1, hf1⟩ := bcell hb1
  have hz : w.heap.size < w1.heap.size := by have := hb1.size; simp at this; omega
  go_wp2_with fail
  refine (HF.out _ R1.low).mono ?_
  rintro e w2 ⟨rfl, hb2⟩
  have R2 := R1.below hb2
  obtain ⟨hc2, hf2⟩ := bcell hb2
  have k1 := R2.run.cR i.s1 h1
  have k2 := R2.run.cR i.s2 h2
  have i10 : (0 : Int) ≤ (i.s1 : Int) := Int.natCast_nonneg _
  have i11 : (i.s1 : Int) < 32 := by omega
  have i20 : (0 : Int) ≤ (i.s2 : Int) := Int.natCast_nonneg _
  have i21 : (i.s2 : Int) < 32 := by omega
  have k0 := R2.run.c0
  have k37 := R2.run.c37
  have k38 : w2.cell? ⟨g, 38, none⟩ = some (.bool false) := by rw [R2.run.c38]; exact congrArg (fun x => some (Value.bool x)) HS.out
  have f38 := R2.run.fz 38
  have lg2 := R2.run.blk.lt
  have hz2 : w.heap.size < w2.heap.size := by have := hb2.size; omega
  go_wp2
  go_quiet (fail)
  have k35 := (R2.drewN nq).run.c35
  have k11 := (R2.drewN nq).run.cR 10 (by omega)
  have k18 := (R2.drewN nq).run.cR 17 (by omega)
  have k36 := (R2.drewN nq).run.c36
  have hsz := (R2.drewN nq).size
  have hBB := (R2.drewN nq).run.told
  have htne := (R2.drewN nq).run.tne
  go_wp2_with fail
  refine (call_go g B r.told.length d T _ (r.regs.getD 10 0) (r.regs.getD 17 0) r.done _ k35 k11 k18 k36 ((R2.drewN nq).run.fz 35) ((R2.drewN nq).run.fz 36) hBB hsz hfull htne).mono ?_
  intro e w3 hcp
  have he := hcp.1
  subst he
  obtain ⟨tv', R3⟩ := (R2.drewN nq).told_ hcp
  have hnt : some w.heap.size ≠ (Value.slice T r.told.length d).ownBlock := fun hk => by have := (hr.told.lt _ hk.symm).2; omega
  have hne : w.heap.size ≠ g := by omega
  have hin : w.heap.size < (w2.drewN nq).heap.size := hz2
  have j0 := ((hcp.far (p := ⟨w.heap.size, 0, none⟩) hin hne hnt).1.trans (hc2 w.heap.size 0 hz)).trans (hc1 w.heap.size 0 (by simp))
  have j1 := ((hcp.far (p := ⟨w.heap.size, 1, none⟩) hin hne hnt).1.trans (hc2 w.heap.size 1 hz)).trans (hc1 w.heap.size 1 (by simp))
  have q38 : w3.cell? ⟨g, 38, none⟩ = some (.bool false) := by rw [R3.run.c38]; exact congrArg (fun x => some (Value.bool x)) HS.out
  have q38f := R3.run.fz 38
  have lg3 := R3.run.blk.lt
  clear hcp
  by_cases hrd : i.rd = 0
  · have hd : ((i.rd : Int) == 0) = true := by simpa using hrd
    go_wp2
    go_ret
    exact ⟨tv', rfl, R3.fin0 HS.out hrd _⟩
  · have hd : ((i.rd : Int) == 0) = false := by simpa using hrd
    have k3 := R3.run.cR i.rd h3
    have f3 := R3.run.fz (1 + i.rd)
    have i30 : (0 : Int) ≤ (i.rd : Int) := Int.natCast_nonneg _
    have i31 : (i.rd : Int) < 32 := by omega
    go_wp2
    go_region
    go_wp2
    go_ret
    exact ⟨tv', rfl, R3.fin1 HS.out hrd h3 _⟩
end Go.Proofs.YtoehlmiadiiimaaGreatDoor

