import Derived.Test.YtoehlmiadiiimaaGreatDoorMemW3
import Derived.Test.YtoehlmiadiiimaaGreatDoorMemG3
import Derived.Test.YtoehlmiadiiimaaGreatDoorMemG4
/-
  The machine: the next instruction, as a plain function; the contract of next.
-/
namespace Go.Proofs.YtoehlmiadiiimaaGreatDoor
open Go.ChangeShapes Go.WideShapes Go.RowKit Go.Proofs.YtoehlmiadiiimaaGreatDoor.Ex

/-- May an instruction be done: its operation and registers are such. -/
def Ins.ok (i : Ins) : Prop := 1 ≤ i.op ∧ i.op ≤ 94 ∧ i.rd < 32 ∧ i.s1 < 32 ∧ i.s2 < 32
theorem reg_bd {b : Bool} {n : Int} (h : regI b n = true) : 0 ≤ n ∧ n ≤ 31 := by
  cases b
  · have : n = 0 := by simpa [regI] using h
    omega
  · simp only [regI, inI, Bool.and_eq_true, decide_eq_true_eq] at h
    exact h
theorem may_ok {op d s t m : Int} (h : mayI op d s t m = true) : (1 ≤ op ∧ op ≤ 94) ∧ (0 ≤ d ∧ d ≤ 31) ∧ (0 ≤ s ∧ s ≤ 31) ∧ (0 ≤ t ∧ t ≤ 31) := by
  unfold mayI knownI mayF at h
  simp only [Bool.and_eq_true, decide_eq_true_eq] at h
  exact ⟨h.1, reg_bd h.2.1, reg_bd h.2.2.1, reg_bd h.2.2.2.1⟩
theorem enc_may {op d s t m : Int} (h : (encE op d s t m == 0) = true) : mayI op d s t m = true := by
  unfold encE at h
  cases hm : mayI op d s t m with
  | true => rfl
  | false =>
    rw [hm] at h
    exact absurd (show ((20 : Int) == 0) = true from h) (by decide)
theorem read_bd (h : Nat) : (0 ≤ (readR h).op ∧ (readR h).op ≤ 94) ∧ (0 ≤ (readR h).d ∧ (readR h).d ≤ 31) ∧ (0 ≤ (readR h).s ∧ (readR h).s ≤ 31) ∧ (0 ≤ (readR h).t ∧ (readR h).t ≤ 31) ∧ (readE h = 0 → 1 ≤ (readR h).op) := by
  cases hb : readB h with
  | false =>
    have e1 : readR h = ⟨0, 0, 0, 0, 0⟩ := by unfold readR; rw [hb]
    have e2 : readE h = 60 := by unfold readE; rw [hb]
    rw [e1, e2]
    exact ⟨by simp, by simp, by simp, by simp, fun h => absurd h (by decide)⟩
  | true =>
    have e1 : readR h = rawR h := by unfold readR; rw [hb]
    unfold readB at hb
    simp only [Bool.and_eq_true] at hb
    obtain ⟨h1, h2, h3, h4⟩ := may_ok (enc_may hb.1)
    rw [e1]
    exact ⟨⟨by omega, h1.2⟩, h2, h3, h4, fun _ => h1.1⟩
/-- The instruction of a half word, and its error. -/
def cdecR (h : Nat) : Ins × Int := (⟨(readR h).op.toNat, (readR h).d.toNat, (readR h).s.toNat, (readR h).t.toNat, (readR h).m⟩, readE h)
theorem cdec_v (h : Nat) : insnVR (readR h) = (cdecR h).1.v := by
  obtain ⟨h1, h2, h3, h4, _⟩ := read_bd h
  show Value.agg #[_, _, _, _, _] = .agg #[_, _, _, _, _]
  unfold cdecR
  simp only
  rw [Int.toNat_of_nonneg h1.1, Int.toNat_of_nonneg h2.1, Int.toNat_of_nonneg h3.1, Int.toNat_of_nonneg h4.1]
theorem cdec_c (h : Nat) (hh : h < 65536) (W : World) (hL : LG W) : Calls Tryz.prog 65 #[.int .u16 h] W fun e w' => e = .returned (.tuple #[(cdecR h).1.v, .int .i64 (cdecR h).2]) ∧ Below W.heap.size W w' := by
  have := insn h hh W hL
  rw [cdec_v h] at this
  exact this
theorem cdec_ok (h : Nat) (h0 : (cdecR h).2 = 0) : (cdecR h).1.ok := by
  obtain ⟨h1, h2, h3, h4, h5⟩ := read_bd h
  have := h5 h0
  unfold cdecR Ins.ok
  simp only
  omega
theorem decFrom_ok (w : Nat) : ∀ f k, k + f ≤ 94 → (decFrom w f k).2 = 0 → (decFrom w f k).1.ok
  | 0, k, _, h => by cases h
  | f + 1, k, hk, h => by
    unfold decFrom at h ⊢
    cases hm : matchO (k + 1) w with
    | true => exact ⟨by show 1 ≤ k + 1; omega, by show k + 1 ≤ 94; omega, regW_lt _ _ _, regW_lt _ _ _, regW_lt _ _ _⟩
    | false => rw [hm] at h; exact decFrom_ok w f (k + 1) (by omega) h
theorem dec_ok (w : Nat) (h : (decR w).2 = 0) : (decR w).1.ok := decFrom_ok w 94 0 (by omega) h

/-- Where so many bytes at an address lie. -/
def place (r : Rn) (addr : Int) (many : Nat) : Option Nat :=
  let m := IntKind.u64.wrap (addr - r.base)
  if m.toNat + many ≤ r.mem.length then some m.toNat else none
theorem u64_bd (x : Int) : 0 ≤ IntKind.u64.wrap x ∧ IntKind.u64.wrap x < 18446744073709551616 := by
  rw [IntKind.wrap_u64]; omega
theorem place_some {r : Rn} {addr : Int} {many k : Nat} (h : place r addr many = some k) : IntKind.u64.wrap (addr - r.base) = (k : Int) ∧ k + many ≤ r.mem.length := by
  unfold place at h
  simp only at h
  split at h
  · injection h with h
    have := (u64_bd (addr - r.base)).1
    omega
  · cases h
theorem place_none {r : Rn} {addr : Int} {many : Nat} (h : place r addr many = none) (hl : r.mem.length ≤ 65536) :
    ((r.mem.length : Int) < IntKind.u64.wrap (addr - r.base)) ∨ IntKind.u64.wrap ((r.mem.length : Int) - IntKind.u64.wrap (addr - r.base)) < (many : Int) := by
  unfold place at h
  simp only at h
  split at h
  · cases h
  · rename_i hn
    have hb := u64_bd (addr - r.base)
    generalize IntKind.u64.wrap (addr - r.base) = m at *
    by_cases hlt : (r.mem.length : Int) < m
    · exact .inl hlt
    · right
      rw [IntKind.wrap_u64]
      omega
/-- The next instruction, and the address behind it. -/
def fetch (r : Rn) : Option (Ins × Int) :=
  match place r r.pc 2 with
  | none => none
  | some k =>
    if r.pc % 2 = 0 then
      let h := IntKind.u16.wrap (ldm r.mem k 2)
      match bits .and .u16 h 3 == 3 with
      | false => if (cdecR h.toNat).2 = 0 then some ((cdecR h.toNat).1, IntKind.u64.wrap (r.pc + 2)) else none
      | true => match place r r.pc 4 with
        | none => none
        | some _ =>
          let w := IntKind.u32.wrap (ldm r.mem k 4)
          if (decR w.toNat).2 = 0 then some ((decR w.toNat).1, IntKind.u64.wrap (r.pc + 4)) else none
    else none
theorem fetch_ok {r : Rn} {i : Ins} {on : Int} (h : fetch r = some (i, on)) : i.ok := by
  unfold fetch at h
  split at h
  · cases h
  · split at h
    · simp only at h
      split at h
      · split at h
        · rename_i h0
          simp only [Option.some.injEq, Prod.mk.injEq] at h
          rw [← h.1]; exact cdec_ok _ h0
        · cases h
      · split at h
        · cases h
        · split at h
          · rename_i h0
            simp only [Option.some.injEq, Prod.mk.injEq] at h
            rw [← h.1]; exact dec_ok _ h0
          · cases h
    · cases h
theorem own_none {base : Nat} {e : TypeId} {size n : Nat} {v : Value} {xs : List Value} {w : World} (h : w.ownsRow base e size v n xs) (hn : 0 < n) : ∃ g c, v = .slice (some ⟨g, 0, none⟩) n c ∧ n ≤ c ∧ base ≤ g := by
  obtain ⟨A, c, rfl, hc, hA⟩ := own_slice h
  obtain ⟨g, rfl, hg, _⟩ := hA hn
  exact ⟨g, c, rfl, hc, hg⟩
end Go.Proofs.YtoehlmiadiiimaaGreatDoor

/-
  The machine: the contract of next, all its ways together.
-/
namespace Go.Proofs.YtoehlmiadiiimaaGreatDoor
open Go.ChangeShapes Go.WideShapes Go.RowKit Go.Proofs.YtoehlmiadiiimaaGreatDoor.Ex

theorem u16_nat (x : Int) : IntKind.u16.wrap x = ((IntKind.u16.wrap x).toNat : Int) ∧ (IntKind.u16.wrap x).toNat < 65536 := by
  have e : IntKind.u16.wrap x = x % 65536 := by simp [IntKind.wrap, IntKind.signed, IntKind.bits]
  rw [e]; omega
theorem u32_nat (x : Int) : IntKind.u32.wrap x = ((IntKind.u32.wrap x).toNat : Int) ∧ (IntKind.u32.wrap x).toNat < 4294967296 := by
  have e : IntKind.u32.wrap x = x % 4294967296 := by simp [IntKind.wrap, IntKind.signed, IntKind.bits]
  rw [e]; omega
def stopO (stop : Bool) (i : Ins) (on : Int) : Option (Ins × Int) := match stop with
  | true => none
  | false => some (i, on)
theorem stop_if {e : Int} {i : Ins} {on : Int} : stopO (e != 0) i on = if e = 0 then some (i, on) else none := by
  by_cases h : e = 0
  · subst h; rfl
  · rw [if_neg h, show (e != 0) = true from by simpa using h]; rfl
theorem raw_post {B : Nat} {w : World} {g : Nat} {r : Rn} {mv tv : Value} {i : Ins} {on : Int} {stop : Bool} {e : Ending} {w' : World} (h : NextRaw B w g r mv tv i on stop e w') : NextPost B w g r mv tv (stopO stop i on) e w' := by
  cases stop
  · exact h
  · exact ⟨_, on, h.1, h.2⟩
theorem next_c (B g : Nat) (r : Rn) (mv tv : Value) (w : World) (hr : RunW B w g r mv tv) (hL : LG w) (hB : 13 ≤ B) (hs : r.stop = false) (h0 : 0 ≤ r.pc) (hl : r.mem.length ≤ 65536) :
    Calls Tryz.prog 44 #[.pointer (some ⟨g, 0, none⟩)] w (NextPost B w g r mv tv (fetch r)) := by
  unfold fetch
  cases hp : place r r.pc 2 with
  | none =>
    obtain ⟨A, c, rfl, hc, _⟩ := own_slice hr.mem
    exact next_out B g r A r.mem.length c tv w hr _ rfl (Lib.hid (place_none hp hl)) hc (by omega)
  | some k =>
    obtain ⟨hw, hk⟩ := place_some hp
    obtain ⟨gm, c, rfl, hc, hgm⟩ := own_none hr.mem (by omega)
    simp only
    by_cases hodd : r.pc % 2 = 0
    · rw [if_pos hodd]
      obtain ⟨hh, hlt⟩ := u16_nat (ldm r.mem k 2)
      have hcd : ∀ W, Below B w W → Calls Tryz.prog 65 #[.int .u16 (IntKind.u16.wrap (ldm r.mem k 2))] W fun e w' => e = .returned (.tuple #[(cdecR (IntKind.u16.wrap (ldm r.mem k 2)).toNat).1.v, .int .i64 (cdecR (IntKind.u16.wrap (ldm r.mem k 2)).toNat).2]) ∧ Below W.heap.size W w' := by
        intro W hb
        have := cdec_c (IntKind.u16.wrap (ldm r.mem k 2)).toNat hlt W (laidG_below hL (hb.mono hB))
        rw [← hh] at this
        exact this
      cases h3 : (bits .and .u16 (IntKind.u16.wrap (ldm r.mem k 2)) 3 == 3) with
      | false =>
        simp only
        rw [← stop_if]
        exact (next_2 B g r gm c tv w hr k hw hs hk hc (by omega) hodd h0 _ rfl h3 _ _ hcd).mono fun e w' h => raw_post h
      | true =>
        simp only
        cases hp4 : place r r.pc 4 with
        | none =>
          have hx := place_none hp4 hl
          rw [hw] at hx
          have hdd : ∀ W, Below B w W → Calls Tryz.prog 66 #[.int .u32 (IntKind.u32.wrap 0)] W fun e w' => e = .returned (.tuple #[(decR 0).1.v, .int .i64 (decR 0).2]) ∧ Below W.heap.size W w' := by
            intro W hb
            have hsz := hb.size
            have := hr.blk.lt
            have := hr.ge
            exact dec_c 0 (by omega) W (laidG_below hL (hb.mono hB)) (by omega)
          exact (next_4x B g r gm c tv w hr k hw hs hk (Lib.hid hx) hc (by omega) hodd h0 _ rfl h3 _ _ hcd _ rfl _ _ hdd).mono fun e w' h => raw_post h
        | some k' =>
          obtain ⟨hw', hk'⟩ := place_some hp4
          have hkk : k + 4 ≤ r.mem.length := by
            have : (k : Int) = (k' : Int) := hw.symm.trans hw'
            omega
          obtain ⟨hh4, hlt4⟩ := u32_nat (ldm r.mem k 4)
          have hdd : ∀ W, Below B w W → Calls Tryz.prog 66 #[.int .u32 (IntKind.u32.wrap (ldm r.mem k 4))] W fun e w' => e = .returned (.tuple #[(decR (IntKind.u32.wrap (ldm r.mem k 4)).toNat).1.v, .int .i64 (decR (IntKind.u32.wrap (ldm r.mem k 4)).toNat).2]) ∧ Below W.heap.size W w' := by
            intro W hb
            have hsz := hb.size
            have := hr.blk.lt
            have := hr.ge
            have := dec_c (IntKind.u32.wrap (ldm r.mem k 4)).toNat hlt4 W (laidG_below hL (hb.mono hB)) (by omega)
            rw [← hh4] at this
            exact this
          simp only
          rw [← stop_if]
          exact (next_4 B g r gm c tv w hr k hw hs hkk hc (by omega) hodd h0 _ rfl h3 _ _ hcd _ rfl _ _ hdd).mono fun e w' h => raw_post h
    · rw [if_neg hodd]
      exact next_odd B g r gm c tv w hr k hw hs hk hc (by omega) hodd h0
end Go.Proofs.YtoehlmiadiiimaaGreatDoor

/-
  The machine: what an instruction does, as a plain function; the contract of do, all operations together.
-/
namespace Go.Proofs.YtoehlmiadiiimaaGreatDoor
open Go.ChangeShapes Go.WideShapes Go.RowKit Go.Proofs.YtoehlmiadiiimaaGreatDoor.Ex

/-- How many bytes a load is of. -/
def ldN : Nat → Nat
  | 11 => 1
  | 12 => 2
  | 13 => 4
  | 14 => 8
  | 15 => 1
  | 16 => 2
  | _ => 4
/-- What a load makes of the number of its bytes. -/
def ldE (op : Nat) (x : Int) : Int := match op with
  | 11 => nar8 x
  | 12 => nar16 x
  | 13 => nar32 x
  | _ => x
/-- How many bytes a store is of. -/
def stN : Nat → Nat
  | 18 => 1
  | 19 => 2
  | 20 => 4
  | _ => 8
/-- What an instruction does: where it goes on, and the runner behind it; none: it can't go on. -/
def doF (i : Ins) (r : Rn) : Option (Int × Rn) :=
  match formB i.op with
  | 85 => some (r.on, r.wr i.rd (if i.op = 2 then IntKind.u64.wrap (nar32 (IntKind.u64.wrap (IntKind.u64.wrap i.imm * 4096)) + r.pc) else nar32 (IntKind.u64.wrap (IntKind.u64.wrap i.imm * 4096))))
  | 74 => some (IntKind.u64.wrap (r.pc + IntKind.u64.wrap i.imm), r.wr i.rd r.on)
  | 66 => some (if brF i.op (r.regs[i.s1]?.getD 0) (r.regs[i.s2]?.getD 0) = true then IntKind.u64.wrap (r.pc + IntKind.u64.wrap i.imm) else r.on, r.wr i.rd 0)
  | 76 => if i.op = 4 then some (bits .andNot .u64 (IntKind.u64.wrap (r.regs[i.s1]?.getD 0 + IntKind.u64.wrap i.imm)) 1, r.wr i.rd r.on)
    else match place r (IntKind.u64.wrap (r.regs[i.s1]?.getD 0 + IntKind.u64.wrap i.imm)) (ldN i.op) with
      | none => none
      | some k => some (r.on, r.wr i.rd (ldE i.op (ldm r.mem k (ldN i.op))))
  | 83 => match place r (IntKind.u64.wrap (r.regs[i.s1]?.getD 0 + IntKind.u64.wrap i.imm)) (stN i.op) with
      | none => none
      | some k => some (r.on, { r with mem := memSet r.mem k (r.regs[i.s2]?.getD 0) (stN i.op) }.wr i.rd 0)
  | 73 => some (r.on, r.wr i.rd (twoF i.op (r.regs[i.s1]?.getD 0) (IntKind.u64.wrap i.imm)))
  | 54 => some (r.on, r.wr i.rd (twoF i.op (r.regs[i.s1]?.getD 0) (IntKind.u64.wrap i.imm)))
  | 53 => some (r.on, r.wr i.rd (twoF i.op (r.regs[i.s1]?.getD 0) (IntKind.u64.wrap i.imm)))
  | 82 => some (r.on, r.wr i.rd (twoF i.op (r.regs[i.s1]?.getD 0) (r.regs[i.s2]?.getD 0)))
  | 70 => some (r.on, r.wr i.rd 0)
  | 78 => if i.op = 65 then if r.told.length < 1000 then some (r.on, { r with told := r.told ++ [r.regs.getD 10 0], done := r.regs.getD 17 0 == 93 }.wr i.rd 0) else none else none
  | _ => none
/-- What do leaves behind. -/
def DoAll (B : Nat) (w : World) (g : Nat) (mv tv : Value) (o : Option (Int × Rn)) (e : Ending) (w' : World) : Prop :=
  match o with
  | some (to, r') => ∃ tv', e = .returned (.int .u64 to) ∧ RunB B w w' g r' mv tv'
  | none => StopPost B w g mv tv e w'
/-- Numbers of 64 bits. -/
def Regs64 (l : List Int) : Prop := ∀ x ∈ l, 0 ≤ x ∧ x < B64
theorem reg64 {l : List Int} (h : Regs64 l) (i : Nat) : 0 ≤ l[i]?.getD 0 ∧ l[i]?.getD 0 < B64 := by
  cases hi : l[i]? with
  | none => exact ⟨Int.le_refl _, by decide⟩
  | some x => exact h x (List.mem_of_getElem? hi)
section
variable {B g : Nat} {r : Rn} {mv tv : Value} {w : World}
theorem ld_in (hr : RunW B w g r mv tv) (hl : r.mem.length ≤ 65536) {addr : Int} {many k : Nat} (hm0 : 0 < many) (hm : many ≤ 8) (hp : place r addr many = some k) {W : World} (hW : RunB B w W g r mv tv) :
    Calls Tryz.prog 63 #[.pointer (some ⟨g, 0, none⟩), .int .u64 addr, .int .i64 many] W fun e w' => e = .returned (.int .u64 (ldm r.mem k many)) ∧ W = w' := by
  obtain ⟨hw, hk⟩ := place_some hp
  obtain ⟨gm, c, rfl, hc, hgm⟩ := own_none hr.mem (by omega)
  exact load_in g ⟨gm, 0, none⟩ r.mem.length c r.base addr k many _ W hW.run.c33 hW.run.c34 hw (hW.run.bytes k many hk) hk hm0 hm hc (by omega)
theorem ld_out (hr : RunW B w g r mv tv) (hl : r.mem.length ≤ 65536) {addr : Int} {many : Nat} (hm : many ≤ 8) (hp : place r addr many = none) {W : World} (hW : RunB B w W g r mv tv) :
    Calls Tryz.prog 63 #[.pointer (some ⟨g, 0, none⟩), .int .u64 addr, .int .i64 many] W fun e w' => e = .returned (.int .u64 0) ∧ W.setCell ⟨g, 38, none⟩ (.bool true) = w' := by
  obtain ⟨A, c, rfl, hc, _⟩ := own_slice hr.mem
  exact load_out g A r.mem.length c r.base addr _ many r.stop W hW.run.c33 hW.run.c34 hW.run.c38 (hW.run.fz 38) rfl (Lib.hid (place_none hp hl)) hm hc (by omega)
theorem st_in (hr : RunW B w g r mv tv) (hl : r.mem.length ≤ 65536) {addr x : Int} {many k gm c : Nat} (hm0 : 0 < many) (hm : many ≤ 8) (hp : place r addr many = some k) (hmv : mv = .slice (some ⟨gm, 0, none⟩) r.mem.length c) {W : World} (hW : RunB B w W g r mv tv) :
    Calls Tryz.prog 70 #[.pointer (some ⟨g, 0, none⟩), .int .u64 addr, .int .i64 many, .int .u64 x] W fun e w' => e = .returned (.tuple #[]) ∧ stW W gm k x many = w' := by
  obtain ⟨hw, hk⟩ := place_some hp
  subst hmv
  have hrun := hW.run
  obtain ⟨A, c', he, hc, _⟩ := own_slice hrun.mem
  injection he with he1 he2 he3
  subst he3
  refine store_in g gm r.mem.length c r.base addr x k many W hrun.c33 hrun.c34 hw (Lib.hid fun j hj => ?_) (Lib.hid fun j hj => ?_) hk hm0 hm hc (by omega)
  · have h1 := stW_run hrun k x j
    have hl' := memSet_len r.mem k x j
    have hb := h1.bytes (k + j) 1 (by show k + j + 1 ≤ (memSet r.mem k x j).length; omega)
    have := hb.out 0 (by omega)
    have e : (⟨gm, 0, none⟩ : Addr).add (k + j + 0) = ⟨gm, k + j, none⟩ := by unfold Addr.add; split <;> simp_all
    rw [e] at this
    exact ⟨_, this⟩
  · have h1 := (stW_run hrun k x j).mem
    have hl' := memSet_len r.mem k x j
    simp only [hl'] at h1
    exact h1.frozenAt (k + j)
theorem st_out (hr : RunW B w g r mv tv) (hl : r.mem.length ≤ 65536) {addr x : Int} {many : Nat} (hm : many ≤ 8) (hp : place r addr many = none) {W : World} (hW : RunB B w W g r mv tv) :
    Calls Tryz.prog 70 #[.pointer (some ⟨g, 0, none⟩), .int .u64 addr, .int .i64 many, .int .u64 x] W fun e w' => e = .returned (.tuple #[]) ∧ W.setCell ⟨g, 38, none⟩ (.bool true) = w' := by
  obtain ⟨A, c, rfl, hc, _⟩ := own_slice hr.mem
  exact store_out g A r.mem.length c r.base addr _ many x r.stop W hW.run.c33 hW.run.c34 hW.run.c38 (hW.run.fz 38) rfl (Lib.hid (place_none hp hl)) hm hc (by omega)
end
end Go.Proofs.YtoehlmiadiiimaaGreatDoor

