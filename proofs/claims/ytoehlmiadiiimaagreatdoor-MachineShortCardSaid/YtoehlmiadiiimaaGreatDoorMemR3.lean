import Derived.Test.YtoehlmiadiiimaaGreatDoorMemZ4
import Derived.Laws.BytesArg
/-
  The machine: step as a plain function keeps what is asked of machines; many steps.
-/
namespace Go.Proofs.YtoehlmiadiiimaaGreatDoor
open Go.ChangeShapes Go.WideShapes Go.RowKit Go.Proofs.YtoehlmiadiiimaaGreatDoor.Ex

theorem bits_bd (o : BinOp) (x y : Int) : 0 ≤ bits o .u64 x y ∧ bits o .u64 x y < B64 := by
  unfold bits
  exact u64_bd _
theorem u64_B (x : Int) : 0 ≤ IntKind.u64.wrap x ∧ IntKind.u64.wrap x < B64 := u64_bd x
theorem div_bd {x : Int} (hx : 0 ≤ x) (hx1 : x < B64) (k : Nat) : 0 ≤ x / 2 ^ k ∧ x / 2 ^ k < B64 := by
  have h2 : (0 : Int) < 2 ^ k := Int.pow_pos (by omega)
  refine ⟨Int.ediv_nonneg hx (Int.le_of_lt h2), Int.lt_of_le_of_lt ?_ hx1⟩
  exact Int.ediv_le_self _ hx
theorem high_bd {x y : Int} (hx : 0 ≤ x) (hx1 : x < B64) (hy : 0 ≤ y) (hy1 : y < B64) (sx sy : Bool) : 0 ≤ highF sx sy x y ∧ highF sx sy x y < B64 := by
  have h0 : 0 ≤ x * y / B64 ∧ x * y / B64 < B64 := by
    refine ⟨Int.ediv_nonneg (Int.mul_nonneg hx hy) (by decide), ?_⟩
    refine Int.ediv_lt_of_lt_mul (by decide) ?_
    exact Int.lt_of_le_of_lt (Int.mul_le_mul_of_nonneg_left (Int.le_of_lt hy1) hx) (Int.mul_lt_mul_of_pos_right hx1 (by decide))
  unfold highF
  simp only
  split <;> split <;> first | exact u64_B _ | exact h0
theorem two_bd (op : Nat) {x y : Int} (hx : 0 ≤ x) (hx1 : x < B64) (hy : 0 ≤ y) (hy1 : y < B64) : 0 ≤ twoF op x y ∧ twoF op x y < B64 := by
  have hq : 0 ≤ (quo64 x y).1 ∧ (quo64 x y).1 < B64 := by
    unfold quo64; split <;> exact u64_B _
  have hr : 0 ≤ (quo64 x y).2 ∧ (quo64 x y).2 < B64 := by
    unfold quo64; split
    · exact ⟨hx, hx1⟩
    · rename_i h; exact ⟨Int.emod_nonneg _ h, Int.lt_trans (Int.emod_lt_of_pos _ (by omega)) hy1⟩
  unfold twoF
  split
  all_goals first
    | exact u64_B _
    | exact bits_bd _ _ _
    | exact div_bd hx hx1 _
    | exact high_bd hx hx1 hy hy1 _ _
    | exact hq
    | exact hr
    | exact ⟨Int.le_refl _, by decide⟩
    | (split <;> exact ⟨by decide, by decide⟩)
theorem ldm_bd (l : List Int) (k many : Nat) : 0 ≤ ldm l k many ∧ ldm l k many < B64 := by
  unfold ldm
  cases many with
  | zero => unfold ldv; exact ⟨Int.le_refl _, by decide⟩
  | succ n => unfold ldv; exact bits_bd _ _ _
theorem ldE_bd (op : Nat) {x : Int} (hx : 0 ≤ x ∧ x < B64) : 0 ≤ ldE op x ∧ ldE op x < B64 := by
  unfold ldE
  split
  · exact u64_B _
  · exact u64_B _
  · exact u64_B _
  · exact hx
theorem regs_set {l : List Int} (h : Regs64 l) (i : Nat) {x : Int} (hx : 0 ≤ x ∧ x < B64) : Regs64 (l.set i x) := by
  intro y hy
  rcases List.mem_or_eq_of_mem_set hy with h1 | rfl
  · exact h y h1
  · exact hx
/-- A machine behind a step, held against the one ahead of it. -/
structure Kept (r r' : Rn) : Prop where
  mem : r'.mem.length = r.mem.length
  base : r'.base = r.base
  len : r'.regs.length = r.regs.length
  zero : r'.regs.getD 0 0 = r.regs.getD 0 0
  told : ∃ l, r'.told = r.told ++ l
  most : r'.told.length ≤ max r.told.length 1000
  pc : 0 ≤ r.pc → 0 ≤ r'.pc
  regs : Regs64 r.regs → Regs64 r'.regs
theorem Kept.refl (r : Rn) : Kept r r := ⟨rfl, rfl, rfl, rfl, ⟨[], by simp⟩, by omega, fun h => h, fun h => h⟩
theorem Kept.trans {a b c : Rn} (h : Kept a b) (g : Kept b c) : Kept a c := by
  obtain ⟨l, hl⟩ := h.told
  obtain ⟨m, hm⟩ := g.told
  have := h.most
  have := g.most
  exact ⟨g.mem.trans h.mem, g.base.trans h.base, g.len.trans h.len, g.zero.trans h.zero, ⟨l ++ m, by rw [hm, hl, List.append_assoc]⟩, by omega, fun x => g.pc (h.pc x), fun x => g.regs (h.regs x)⟩
theorem Kept.wf {r r' : Rn} (h : Kept r r') (hw : WFm r) : WFm r' := by
  have := h.most
  have := hw.told
  have := h.mem
  have := hw.mem
  exact ⟨h.pc hw.pc, h.regs hw.regs, by omega, by omega⟩
theorem Kept.wr {r r' : Rn} (h : Kept r r') (rd : Nat) {x : Int} (hx : Regs64 r.regs → 0 ≤ x ∧ x < B64) : Kept r (r'.wr rd x) := by
  unfold Rn.wr
  by_cases h0 : rd = 0
  · simp only [if_pos h0]; exact h
  · simp only [if_neg h0]
    refine ⟨h.mem, h.base, by simpa using h.len, ?_, h.told, h.most, h.pc, fun g => regs_set (h.regs g) _ (hx g)⟩
    rw [← h.zero]
    simp [List.getD, h0]
theorem wr_kept {r : Rn} {rd : Nat} {x : Int} (hx : Regs64 r.regs → 0 ≤ x ∧ x < B64) : Kept r (r.wr rd x) := (Kept.refl r).wr rd hx
theorem zero_bd : (0 : Int) ≤ 0 ∧ (0 : Int) < B64 := ⟨Int.le_refl _, by decide⟩
theorem doF_kept {i : Ins} {r r' : Rn} {to : Int} (h : doF i r = some (to, r')) (h0 : 0 ≤ r.on ∧ r.on < B64) : Kept r r' ∧ 0 ≤ to := by
  have hreg : ∀ k : Nat, Regs64 r.regs → (0 : Int) ≤ r.regs[k]?.getD 0 ∧ r.regs[k]?.getD 0 < B64 := fun k hr => reg64 hr k
  unfold doF at h
  split at h
  · injection h with h; injection h with h1 h; subst h; subst h1
    exact ⟨wr_kept fun _ => by split <;> exact u64_B _, h0.1⟩
  · injection h with h; injection h with h1 h; subst h; subst h1
    exact ⟨wr_kept fun _ => h0, (u64_B _).1⟩
  · injection h with h; injection h with h1 h; subst h; subst h1
    refine ⟨wr_kept fun _ => zero_bd, ?_⟩
    split
    · exact (u64_B _).1
    · exact h0.1
  · split at h
    · injection h with h; injection h with h1 h; subst h; subst h1
      exact ⟨wr_kept fun _ => h0, (bits_bd _ _ _).1⟩
    · split at h
      · cases h
      · injection h with h; injection h with h1 h; subst h; subst h1
        exact ⟨wr_kept fun _ => ldE_bd _ (ldm_bd _ _ _), h0.1⟩
  · split at h
    · cases h
    · injection h with h; injection h with h1 h; subst h; subst h1
      refine ⟨Kept.wr (r' := { r with mem := memSet r.mem _ _ _ }) ⟨memSet_len _ _ _ _, rfl, rfl, rfl, ⟨[], by simp⟩, by simp; omega, fun h => h, fun h => h⟩ _ fun _ => zero_bd, h0.1⟩
  · injection h with h; injection h with h1 h; subst h; subst h1
    exact ⟨wr_kept fun hr => two_bd _ (hreg _ hr).1 (hreg _ hr).2 (u64_B _).1 (u64_B _).2, h0.1⟩
  · injection h with h; injection h with h1 h; subst h; subst h1
    exact ⟨wr_kept fun hr => two_bd _ (hreg _ hr).1 (hreg _ hr).2 (u64_B _).1 (u64_B _).2, h0.1⟩
  · injection h with h; injection h with h1 h; subst h; subst h1
    exact ⟨wr_kept fun hr => two_bd _ (hreg _ hr).1 (hreg _ hr).2 (u64_B _).1 (u64_B _).2, h0.1⟩
  · injection h with h; injection h with h1 h; subst h; subst h1
    exact ⟨wr_kept fun hr => two_bd _ (hreg _ hr).1 (hreg _ hr).2 (hreg _ hr).1 (hreg _ hr).2, h0.1⟩
  · injection h with h; injection h with h1 h; subst h; subst h1
    exact ⟨wr_kept fun _ => zero_bd, h0.1⟩
  · split at h
    · split at h
      · rename_i ht
        injection h with h; injection h with h1 h; subst h; subst h1
        exact ⟨Kept.wr (r := r) (r' := { r with told := r.told ++ [r.regs.getD 10 0], done := r.regs.getD 17 0 == 93 }) ⟨rfl, rfl, rfl, rfl, ⟨[r.regs.getD 10 0], rfl⟩, by simp; omega, fun h => h, fun h => h⟩ _ fun _ => zero_bd, h0.1⟩
      · cases h
    · cases h
  · cases h
theorem fetch_on {r : Rn} {i : Ins} {on : Int} (h : fetch r = some (i, on)) : 0 ≤ on ∧ on < B64 := by
  unfold fetch at h
  split at h
  · cases h
  · split at h
    · simp only at h
      split at h
      · split at h
        · simp only [Option.some.injEq, Prod.mk.injEq] at h
          rw [← h.2]; exact u64_B _
        · cases h
      · split at h
        · cases h
        · split at h
          · simp only [Option.some.injEq, Prod.mk.injEq] at h
            rw [← h.2]; exact u64_B _
          · cases h
    · cases h
theorem step_kept {r r' : Rn} (h : stepF r = some r') : Kept r r' := by
  unfold stepF at h
  split at h
  · cases h
  · split at h
    · cases h
    · rename_i i on hf
      split at h
      · cases h
      · rename_i to r1 hd
        injection h with h
        subst h
        obtain ⟨k, k0⟩ := doF_kept hd (fetch_on hf)
        exact ⟨k.mem, k.base, k.len, k.zero, k.told, k.most, fun _ => k0, k.regs⟩
end Go.Proofs.YtoehlmiadiiimaaGreatDoor

/-
  The machine: Run.
-/
namespace Go.Proofs.YtoehlmiadiiimaaGreatDoor
open Go.ChangeShapes Go.WideShapes Go.RowKit Go.Proofs.YtoehlmiadiiimaaGreatDoor.Ex

theorem wpList_build0 {P : Program} {w : World} {ops : Array Oper} {rest : List Oper} {o : Oper} {a : Act} {Q : Exit → Act → World → Prop} (hg : o.guard = none) (t : TypeId) (ho : o.op = .build t #[]) (cells : Array Value)
    (hf : P.built t [] = some cells) (h : wpList P ops Q rest (a.put o.dst (.agg cells)) w) : wpList P ops Q (o :: rest) a w := by
  have e : P.built t (((#[] : Array (Nat × Operand)).map fun (i, x) => (i, a.eval x)).toList) = some cells := by simpa using hf
  exact wpList_build hg t #[] ho (by rw [e]; rfl) (by rw [e]; exact h)
/-- No machine. -/
def rn0 : Rn := ⟨0, List.replicate 32 0, 0, [], [], false, 0, false⟩
def z27 : Array Value := (mcells rn0 (.slice none 0 0) (.slice none 0 0)).toArray
theorem built27 : Tryz.prog.built 27 [] = some z27 := by kernel_rfl
theorem z27_size : z27.size = 37 := by kernel_rfl
theorem z27_one : z27.all (·.oneCell') = true := by kernel_rfl
theorem MachO.mono {B C : Nat} {w : World} {v : Value} {r : Rn} (h : MachO B w v r) (hc : C ≤ B) : MachO C w v r := by
  obtain ⟨mv, tv, hv, hm, ht⟩ := h.form
  exact ⟨h.len, mv, tv, hv, hm.mono hc, ht.mono hc⟩
theorem MachO.keep {B : Nat} {w w' : World} {v : Value} {r : Rn} (h : MachO B w v r) (hb : Below w.heap.size w w') : MachO B w' v r := by
  obtain ⟨mv, tv, hv, hm, ht⟩ := h.form
  exact ⟨h.len, mv, tv, hv, own_below hm hb, own_below ht hb⟩
theorem MachO.far {B g : Nat} {w : World} {v : Value} {r : Rn} (h : MachO B w v r) (hg : g < B) (cs : Array Value) : MachO B (w.setRow g cs) v r := by
  obtain ⟨mv, tv, hv, hm, ht⟩ := h.form
  exact ⟨h.len, mv, tv, hv, own_setRow_far hm (fun e => by have := (hm.lt _ e).1; omega) _, own_setRow_far ht (fun e => by have := (ht.lt _ e).1; omega) _⟩
theorem mach_cells {B : Nat} {w : World} {v : Value} {r : Rn} (h : MachO B w v r) : ∃ cs : Array Value, v = .agg cs ∧ Hid (cs.size = 37) ∧ cs.all (·.oneCell') = true := by
  obtain ⟨mv, tv, hv, hm, ht⟩ := h.form
  exact ⟨_, hv, Lib.hid (mc_size h.len), mc_one (rds_one (RdS.of_own hm)) (rds_one (RdS.of_own ht))⟩
end Go.Proofs.YtoehlmiadiiimaaGreatDoor

/-
  quoinref30: Great, Same (at machines that are the same).
-/
namespace Go.Proofs.YtoehlmiadiiimaaGreatDoor
open Go.ChangeShapes Go.WideShapes Go.RowKit Go.Proofs.YtoehlmiadiiimaaGreatDoor.Ex

set_option maxRecDepth 100000 in
theorem conv_rd {w : World} {A : Option Addr} {n c : Nat} {l : List Int} (h : RdS w (.slice A n c) (l.map (.int .u8))) : (convert 24 9 (.slice A n c)).run Tryz.prog w = .ok (.string (strOfNums l)) w := by
  obtain ⟨A', c', hv, hc, hA⟩ := h.form
  injection hv with h1 h2 h3
  subst h1; subst h2; subst h3
  simp only [List.length_map] at hA ⊢
  rcases Nat.eq_zero_or_pos l.length with h0 | h0
  · have : l = [] := List.eq_nil_of_length_eq_zero h0
    subst this
    cases A with
    | none => exact run_convert_bytes_nil w 24 5 Tryz.underlying24 Tryz.underlying5 _ _ 9 Tryz.underlying9
    | some a =>
      show (convert 24 9 (.slice (some a) 0 c)).run Tryz.prog w = _
      rw [run_convert_bytes_string w 24 9 5 _ 0 c Tryz.underlying24 Tryz.underlying5 Tryz.underlying9]
      have hl : (loadCells a 0).run Tryz.prog w = .ok (([] : List Int).map (Value.int .u8)).toArray w := run_loadCells_list w a [] (fun j v hj => by simp at hj)
      exact run_bytesToString w a 0 c [] hl
  · obtain ⟨a, rfl, _, hcell⟩ := hA h0
    have hl : (loadCells a l.length).run Tryz.prog w = .ok (l.map (Value.int .u8)).toArray w := by
      have := run_loadCells_list (P := Tryz.prog) w a (l.map (Value.int .u8)) hcell
      simpa using this
    rw [run_convert_bytes_string w 24 9 5 _ l.length c Tryz.underlying24 Tryz.underlying5 Tryz.underlying9, run_bytesToString w a l.length c l hl, foldl_push_bytes]
    simp [strOfNums, ByteArray.empty, ByteArray.emptyWithCapacity]
    rfl
theorem rd_at {w : World} {A : Option Addr} {n c k : Nat} {l : List Int} {q : IntKind} (h : RdS w (.slice A n c) (l.map (.int q))) (hk : k < l.length) : ∃ ad, A = some ad ∧ w.cell? (ad.add k) = some (.int q (l.getD k 0)) := by
  obtain ⟨A', c', hv, hc, hA⟩ := h.form
  injection hv with h1 h2 h3
  subst h1
  obtain ⟨ad, rfl, _, hcell⟩ := hA (by simp; omega)
  exact ⟨ad, rfl, hcell k _ (by simp [List.getD, List.getElem?_eq_getElem hk])⟩
set_option maxRecDepth 100000 in
set_option maxHeartbeats 2000000 in
theorem same_c (v1 v2 : Value) (r : Rn) (w : World) (h1 : MachR w v1 r) (h2 : MachR w v2 r) (_hm : r.mem.length ≤ 1000000) (ht : r.told.length ≤ 1000000) : Calls Tryz.prog 16 #[v1, v2] w fun e w' => e = .returned (.bool true) ∧ Below w.heap.size w w' := by
  have hlen := h1.len
  obtain ⟨mv1, tv1, hv1, hm1, ht1⟩ := h1.form
  obtain ⟨mv2, tv2, hv2, hm2, ht2⟩ := h2.form
  obtain ⟨A1, q1, rfl, -, -⟩ := hm1.form
  obtain ⟨A2, q2, rfl, -, -⟩ := hm2.form
  obtain ⟨B1, p1, rfl, -, -⟩ := ht1.form
  obtain ⟨B2, p2, rfl, -, -⟩ := ht2.form
  subst hv1; subst hv2
  have F : ∀ (mv tv : Value) (cs : Array Value), cs = (mcells r mv tv).toArray → cs[0]? = some (.int .u64 r.pc) ∧ cs[33]? = some (.int .u64 r.base) ∧ cs[34]? = some mv ∧ cs[35]? = some tv ∧ cs[36]? = some (.bool r.done) ∧ Hid (∀ i, i < 32 → cs[1 + i]? = some (.int .u64 (r.regs.getD i 0))) := by
    rintro mv tv cs rfl
    exact ⟨mc0, mc33 hlen, mc34 hlen, mc35 hlen, mc36 hlen, Lib.hid (mcR hlen)⟩
  obtain ⟨c0, c33, c34, c35, c36, cR⟩ := F _ _ _ (Eq.refl (mcells r (.slice A1 (r.mem.map (Value.int .u8)).length q1) (.slice B1 (r.told.map (Value.int .u64)).length p1)).toArray)
  obtain ⟨d0, d33, d34, d35, d36, dR⟩ := F _ _ _ (Eq.refl (mcells r (.slice A2 (r.mem.map (Value.int .u8)).length q2) (.slice B2 (r.told.map (Value.int .u64)).length p2)).toArray)
  clear F
  simp only [List.length_map] at *
  generalize (mcells r (.slice A1 r.mem.length q1) (.slice B1 r.told.length p1)).toArray = cs at *
  generalize (mcells r (.slice A2 r.mem.length q2) (.slice B2 r.told.length p2)).toArray = ds at *
  have K1 : (convert 24 9 (.slice A1 r.mem.length q1)).run Tryz.prog ((w.alloc (.cells cs 27)).alloc (.cells ds 27)) = .ok (.string (strOfNums r.mem)) ((w.alloc (.cells cs 27)).alloc (.cells ds 27)) := conv_rd (hm1.keep (((Below.refl _ _).alloc (Nat.le_refl _) _).alloc (by simp) _))
  have K2 : (convert 24 9 (.slice A2 r.mem.length q2)).run Tryz.prog ((w.alloc (.cells cs 27)).alloc (.cells ds 27)) = .ok (.string (strOfNums r.mem)) ((w.alloc (.cells cs 27)).alloc (.cells ds 27)) := conv_rd (hm2.keep (((Below.refl _ _).alloc (Nat.le_refl _) _).alloc (by simp) _))
  have HT1 := Lib.hid ht1
  have HT2 := Lib.hid ht2
  clear h1 h2 hm1 hm2 ht1 ht2
  generalize strOfNums r.mem = str at *
  go_enter Tryz.func16, Tryz.ntmps16
  go_wp2
  go_loopw [5] (fun i wr => ∃ j : Nat, j ≤ 32 ∧ i = .int .i64 j ∧ Blk wr w.heap.size 27 cs ∧ Blk wr (w.heap.size + 1) 27 ds ∧ Hid (Below w.heap.size w wr)) (fun i _ => 32 - (intOf i).toNat)
  case atStart => exact ⟨0, by omega, rfl, (Blk.new w 27 cs).alloc _, by simpa using Blk.new (w.alloc (.cells cs 27)) 27 ds, Lib.hid (((Below.refl _ _).alloc (Nat.le_refl _) _).alloc (by simp) _)⟩
  case round =>
    obtain ⟨j, hj, rfl, hD, hE, hB⟩ := hrel
    by_cases hlt : j < 32
    · have q1' := (hD.cell (1 + j)).trans (cR.out j hlt)
      have q2' := (hE.cell (1 + j)).trans (dR.out j hlt)
      go_wp2
      go_region
      go_wp2
      go_roundw
      case rel => exact ⟨j + 1, by omega, by go_num, hD, hE, Lib.hid hB.out.drew⟩
      case measure => simp [intOf]; omega
    · obtain rfl : j = 32 := by omega
      go_wp2
      obtain ⟨wo, rfl⟩ : ∃ wo : World, wo = wr := ⟨_, rfl⟩
      go_loopw [6] (fun i wr => ∃ j : Nat, j ≤ r.told.length ∧ i = .int .i64 j ∧ Blk wr w.heap.size 27 cs ∧ Blk wr (w.heap.size + 1) 27 ds ∧ Hid (Below w.heap.size w wr)) (fun i _ => r.told.length - (intOf i).toNat)
      case atStart => exact ⟨0, Nat.zero_le _, rfl, hD, hE, hB⟩
      case round =>
        obtain ⟨k, hk, rfl, hD2, hE2, hB2⟩ := hrel
        have s35 := (hD2.cell 35).trans c35
        have u35 := (hE2.cell 35).trans d35
        by_cases hlt : k < r.told.length
        · have X1 := rd_at (HT1.out.keep hB2.out) hlt
          have X2 := rd_at (HT2.out.keep hB2.out) hlt
          obtain ⟨ad1, rfl, hx1⟩ := X1
          obtain ⟨ad2, rfl, hx2⟩ := X2
          go_wp2
          go_region
          go_wp2
          go_roundw
          case rel => exact ⟨k + 1, by omega, by go_num, hD2, hE2, Lib.hid hB2.out.drew⟩
          case measure => simp [intOf]; omega
        · obtain rfl : k = r.told.length := by omega
          go_wp2
          go_ret
          exact ⟨rfl, hB2.out⟩
end Go.Proofs.YtoehlmiadiiimaaGreatDoor

