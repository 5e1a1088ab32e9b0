import Derived.Test.YtoehlmiadiiimaaGreatDoorMemR3
import Derived.Deep.Slices
import Derived.OpenShut
/-
  The machine: a machine that is handed to a law.
-/
namespace Go.Proofs.YtoehlmiadiiimaaGreatDoor
open Go.ChangeShapes Go.WideShapes Go.RowKit Go.Proofs.YtoehlmiadiiimaaGreatDoor.Ex

section
variable {H : Type} {enc : TypeId × Value → H} {w : World} {base : Nat} {spare : Nat → Bool} {held : Bool}
theorem cell_lt {w : World} {a : Addr} {v : Value} (h : w.cell? a = some v) : a.block < w.heap.size := by
  rcases Nat.lt_or_ge a.block w.heap.size with h1 | h1
  · exact h1
  · unfold World.cell? at h
    rw [Array.getElem?_eq_none h1] at h
    simp at h
theorem rds_of_trod {t e fuel : Nat} {k : IntKind} {cs : List Value} {x : DataW H × List MemPlace} (ht : Tryz.prog.underlying t = some (.slice e)) (he : Tryz.prog.underlying e = some (.int k)) (hc : Tryz.prog.cellsOf e = 1)
    (h : DataW.trod enc Tryz.prog w base spare held fuel t cs = some x) : ∃ (v : Value) (l : List Int), cs = [v] ∧ RdS w v (l.map (.int k)) ∧ ∀ z ∈ l, (Lit.int k z).wf = true := by
  rcases Go.Deep.open_slice1 ht hc h with ⟨rfl, rfl⟩ | ⟨a, len, cap, m, n, V, D, Pl, rfl, _, hl, _, hm, _, hx⟩
  · exact ⟨_, [], rfl, ⟨none, 0, rfl, Nat.le_refl _, fun h => absurd h (by simp)⟩, by simp⟩
  · have hm' : len ≤ m := by rw [hm]; split <;> omega
    have hz : ∀ i, i < len → ∃ z, V i = .int k z ∧ (Lit.int k z).wf = true := by
      intro i hi
      obtain ⟨_, h2⟩ := hx i (by omega)
      obtain ⟨z, e1, _, w1⟩ := DataW.trod_int he h2
      injection e1 with e1
      exact ⟨z, e1, w1⟩
    obtain ⟨Z, hZ⟩ := Go.Deep.choose_lt (p := fun i z => V i = .int k z ∧ (Lit.int k z).wf = true) hz
    refine ⟨_, (List.range len).map Z, rfl, ⟨some a, cap, by simp, by simpa using hl, fun h0 => ⟨a, rfl, ?_, fun j u hu => ?_⟩⟩, ?_⟩
    · have h0' : 0 < len := by simpa using h0
      have := cell_lt (hx 0 (by omega)).1
      have e : (a.add 0).block = a.block := by unfold Addr.add; split <;> rfl
      rwa [e] at this
    · have hj : j < len := by
        rcases Nat.lt_or_ge j len with h1 | h1
        · exact h1
        · rw [List.getElem?_eq_none (by simpa using h1)] at hu; cases hu
      simp [hj] at hu
      rw [(hx j (by omega)).1, (hZ j hj).1, hu]
    · intro z hz
      obtain ⟨i, hi, rfl⟩ := List.mem_map.1 hz
      exact (hZ i (List.mem_range.1 hi)).2
theorem cells22 : Tryz.prog.cellsOf 22 = 1 := by kernel_rfl
theorem cells5 : Tryz.prog.cellsOf 5 = 1 := by kernel_rfl
theorem cells4 : Tryz.prog.cellsOf 4 = 1 := by kernel_rfl
theorem cells23 : Tryz.prog.cellsOf 23 = 32 := by kernel_rfl
theorem cells24 : Tryz.prog.cellsOf 24 = 1 := by kernel_rfl
theorem cells25 : Tryz.prog.cellsOf 25 = 1 := by kernel_rfl
theorem cells27 : Tryz.prog.cellsOf 27 = 37 := by kernel_rfl
set_option maxRecDepth 100000 in
theorem split37 (l : List Value) (h : l.length = 37) : l = List.take 1 (List.drop 0 l) ++ (List.take 32 (List.drop 1 l) ++ (List.take 1 (List.drop 33 l) ++ (List.take 1 (List.drop 34 l) ++ (List.take 1 (List.drop 35 l) ++ List.take 1 (List.drop 36 l))))) := by
  have e : ∀ a k, List.take k (List.drop a l) ++ List.drop (a + k) l = List.drop a l := fun a k => by
    rw [← List.drop_drop]; exact List.take_append_drop k _
  have e36 : List.take 1 (List.drop 36 l) = List.drop 36 l := List.take_of_length_le (by simp [h])
  rw [e36, e 35 1, e 34 1, e 33 1, e 1 32, e 0 1]
  rfl
/-- What is known of a machine that is handed to a law. -/
structure Sound (r : Rn) : Prop where
  pc : 0 ≤ r.pc ∧ r.pc < B64
  regs : Regs64 r.regs
  base : 0 ≤ r.base ∧ r.base < B64
  mem : ∀ x ∈ r.mem, 0 ≤ x ∧ x < 256
  told : Regs64 r.told
set_option maxRecDepth 100000 in
theorem mach_of_trod {b0 : Nat} {rc : Reach} {v : Value} {y : DataW H} {ps : List MemPlace} (hv : Value.okWide Tryz.prog w rc b0 27 v) (h : DataW.Trod enc Tryz.prog w base spare held 27 v y ps) : ∃ r, MachR w v r ∧ Sound r := by
  obtain ⟨⟨l⟩, rfl, hsz⟩ := okWide_struct Tryz.underlying27 hv
  obtain ⟨fuel, hf⟩ := h
  obtain ⟨xs, n, -, -, -, hlen, hg⟩ := DataW.trod_struct Tryz.underlying27 hf
  have hl : l.length = 37 := hsz.trans cells27
  have hlen : xs.length = 6 := hlen
  have gx : ∀ (i : Nat), i < 6 → ∃ y, xs[i]? = some y := fun i hi => ⟨xs[i], List.getElem?_eq_getElem (by omega)⟩
  obtain ⟨y0, k0⟩ := gx 0 (by omega)
  obtain ⟨y1, k1⟩ := gx 1 (by omega)
  obtain ⟨y2, k2⟩ := gx 2 (by omega)
  obtain ⟨y3, k3⟩ := gx 3 (by omega)
  obtain ⟨y4, k4⟩ := gx 4 (by omega)
  obtain ⟨y5, k5⟩ := gx 5 (by omega)
  have g0 : DataW.trod enc Tryz.prog w base spare held n 22 (List.take (Tryz.prog.cellsOf 22) (List.drop 0 l)) = some y0 := (hg 0 _ rfl).trans k0
  have g1 : DataW.trod enc Tryz.prog w base spare held n 23 (List.take (Tryz.prog.cellsOf 23) (List.drop 1 l)) = some y1 := (hg 1 _ rfl).trans k1
  have g2 : DataW.trod enc Tryz.prog w base spare held n 22 (List.take (Tryz.prog.cellsOf 22) (List.drop 33 l)) = some y2 := (hg 2 _ rfl).trans k2
  have g3 : DataW.trod enc Tryz.prog w base spare held n 24 (List.take (Tryz.prog.cellsOf 24) (List.drop 34 l)) = some y3 := (hg 3 _ rfl).trans k3
  have g4 : DataW.trod enc Tryz.prog w base spare held n 25 (List.take (Tryz.prog.cellsOf 25) (List.drop 35 l)) = some y4 := (hg 4 _ rfl).trans k4
  have g5 : DataW.trod enc Tryz.prog w base spare held n 4 (List.take (Tryz.prog.cellsOf 4) (List.drop 36 l)) = some y5 := (hg 5 _ rfl).trans k5
  rw [cells22] at g0 g2
  rw [cells23] at g1
  rw [cells24] at g3
  rw [cells25] at g4
  rw [cells4] at g5
  obtain ⟨pc, e0, -, w0⟩ := DataW.trod_int Tryz.underlying22 g0
  obtain ⟨ba, e2, -, w2⟩ := DataW.trod_int Tryz.underlying22 g2
  obtain ⟨mv, ml, e3, r3, w3⟩ := rds_of_trod Tryz.underlying24 Tryz.underlying5 cells5 g3
  obtain ⟨tv, tl, e4, r4, w4⟩ := rds_of_trod Tryz.underlying25 Tryz.underlying22 cells22 g4
  obtain ⟨dn, e5, -⟩ := DataW.trod_bool Tryz.underlying4 g5
  obtain ⟨zs, m, -, -, -, hzl, hel⟩ := DataW.trod_array Tryz.underlying23 g1
  rw [cells22] at hel
  have hz : ∀ i, i < 32 → ∃ z, (List.take 32 (List.drop 1 l))[i]? = some (.int .u64 z) ∧ (Lit.int .u64 z).wf = true := by
    intro i hi
    have h0 := hel i hi
    rw [Nat.mul_one, List.getElem?_eq_getElem (by omega : i < zs.length)] at h0
    obtain ⟨z, e1, -, w1⟩ := DataW.trod_int Tryz.underlying22 h0
    refine ⟨z, ?_, w1⟩
    have := congrArg (fun l => l[0]?) e1
    simpa using this
  obtain ⟨Z, hZ⟩ := Go.Deep.choose_lt (p := fun i z => (List.take 32 (List.drop 1 l))[i]? = some (.int .u64 z) ∧ (Lit.int .u64 z).wf = true) hz
  have eR : List.take 32 (List.drop 1 l) = ((List.range 32).map Z).map (Value.int .u64) := by
    apply List.ext_getElem?
    intro i
    rcases Nat.lt_or_ge i 32 with hi | hi
    · rw [(hZ i hi).1]; simp [hi]
    · rw [List.getElem?_eq_none (by simp; omega), List.getElem?_eq_none (by simp; omega)]
  have hspl := split37 l hl
  rw [e0, eR, e2, e3, e4, e5] at hspl
  refine ⟨⟨pc, (List.range 32).map Z, ba, ml, tl, dn, 0, false⟩, ⟨by simp, mv, tv, ?_, r3, r4⟩, ⟨?_, ?_, ?_, ?_, ?_⟩⟩
  · rw [hspl]; rfl
  · have := bounds_u64 w0; unfold B64; exact ⟨this.1, by show pc < _; omega⟩
  · intro x hx
    obtain ⟨i, hi, rfl⟩ := List.mem_map.1 hx
    have := bounds_u64 (hZ i (List.mem_range.1 hi)).2
    unfold B64; omega
  · have := bounds_u64 w2; unfold B64; exact ⟨this.1, by show ba < _; omega⟩
  · intro x hx; have := bounds_u8 (w3 x hx); omega
  · intro x hx; have := bounds_u64 (w4 x hx); unfold B64; omega
end
end Go.Proofs.YtoehlmiadiiimaaGreatDoor

/-
  The machine: Run, all its ways.
-/
namespace Go.Proofs.YtoehlmiadiiimaaGreatDoor
open Go.ChangeShapes Go.WideShapes Go.RowKit Go.Proofs.YtoehlmiadiiimaaGreatDoor.Ex

theorem checkE_or (r : Rn) : checkE r = 0 ∨ checkE r = 8 := by
  unfold checkE checkF
  (repeat' split) <;> simp
theorem checkE_zero {r : Rn} (h : checkE r = 0) : r.base ≤ 2147483648 ∧ r.mem.length ≤ 65536 ∧ r.regs.getD 0 0 = 0 ∧ r.told.length ≤ 1000 := by
  unfold checkE checkF at h
  split at h
  · cases h
  · split at h
    · cases h
    · split at h
      · cases h
      · split at h
        · cases h
        · omega
theorem checkE_of {r : Rn} (h1 : r.base ≤ 2147483648) (h2 : r.mem.length ≤ 65536) (h3 : r.regs.getD 0 0 = 0) (h4 : r.told.length ≤ 1000) : checkE r = 0 := by
  unfold checkE checkF
  rw [if_neg (by omega), if_neg (by omega), if_neg (by omega), if_neg (by omega)]
theorem check_kept {r r' : Rn} (h : Kept r r') (hc : checkE r = 0) : checkE r' = 0 := by
  obtain ⟨h1, h2, h3, h4⟩ := checkE_zero hc
  have := h.most
  exact checkE_of (by rw [h.base]; exact h1) (by rw [h.mem]; exact h2) (by rw [h.zero]; exact h3) (by omega)
/-- What Run answers. -/
def runR (n : Nat) (r : Rn) : Rn × Nat × Bool × Int := if checkE r = 0 then ((goF n r).1, (goF n r).2, (stepF (goF n r).1).isNone, 0) else (rn0, 0, false, 8)
/-- What Run leaves behind. -/
def RunAll (w : World) (x : Rn × Nat × Bool × Int) (e : Ending) (w' : World) : Prop :=
  Below w.heap.size w w' ∧ ∃ v, e = .returned (.tuple #[v, .int .i64 x.2.1, .bool x.2.2.1, .int .i64 x.2.2.2]) ∧ MachO w.heap.size w' v x.1
theorem rn0_own (B : Nat) (w : World) : MachO B w (.agg z27) rn0 := ⟨rfl, _, _, rfl, World.ownsRow_nil w _ _ _, World.ownsRow_nil w _ _ _⟩
set_option maxRecDepth 100000 in
set_option maxHeartbeats 2000000 in
theorem run_err (v : Value) (r : Rn) (n : Int) (w : World) (h : MachR w v r) (hc : checkE r = 8) :
    Calls Tryz.prog 23 #[v, .int .i64 n] w (RunAll w (rn0, 0, false, 8)) := by
  have H17 : Hid (∀ W, Below w.heap.size w W → Calls Tryz.prog 17 #[v] W (CheckPost W 8)) := Lib.hid fun W hb => by have := check_c v r W (h.keep hb); rw [hc] at this; exact this
  obtain ⟨mv, tv, rfl, hmv, htv⟩ := h.form
  have hlen := h.len
  have hsz : (Tryz.prog.info? 27).map (·.size) = some (mcells r mv tv).toArray.size := by rw [mc_size hlen]; exact info27
  have hz : (Tryz.prog.info? 27).map (·.size) = some z27.size := by rw [z27_size]; exact info27
  clear h hc hmv htv hlen
  generalize (mcells r mv tv).toArray = cs at *
  go_enter Tryz.func23, Tryz.ntmps23
  go_wp2_with (refine wpList_load_row rfl 27 (.tmp 2) rfl w.heap.size rfl 27 cs (0, 0) _ (heap_alloc2_old w _ _) Tryz.underlying27 rfl hsz ?_)
  refine (H17.out _ (((Below.refl _ _).alloc (Nat.le_refl _) _).alloc (by simp) _)).mono ?_
  intro e w1 hp1
  obtain ⟨rfl, hb1⟩ := hp1
  have E1 := (hb1.block (w.heap.size + 1) (by simp)).trans (heap_alloc2_new w _ _)
  have hw1 : Below w.heap.size w w1 := (((Below.refl _ _).alloc (Nat.le_refl _) _).alloc (by simp) _).trans (hb1.mono (by simp; omega))
  have HW1 := Lib.hid hw1
  clear hw1 hb1
  go_wp2_with (first
    | (refine wpList_build0 rfl 27 rfl z27 built27 ?_)
    | (refine wpList_store_row rfl 27 (.tmp 4) (.tmp 17) rfl (w.heap.size + 1) z27 rfl rfl 27 _ E1 hz (by rw [z27_size]; rfl) z27_one ?_))
  refine bodyPost_ret (results_cell_tmp3 rfl _ _ (w.heap.size + 1) 27 z27 (0, 0) _ rfl (setRow_heap _ _ _ _ _ _ E1) Tryz.underlying27 rfl hz) rfl ?_
  exact ⟨below_setRow HW1.out (Nat.le_succ _) _, _, rfl, rn0_own _ _⟩
theorem run_all (v : Value) (r : Rn) (n : Nat) (w : World) (h : MachR w v r) (hp : 0 ≤ r.pc) (hr : Regs64 r.regs) (hL : LG w) (h13 : 13 ≤ w.heap.size) (hn : n ≤ 1000) :
    Calls Tryz.prog 23 #[v, .int .i64 n] w (RunAll w (runR n r)) := by
  unfold runR
  rcases checkE_or r with hc | hc
  · rw [if_pos hc]
    obtain ⟨h1, h2, h3, h4⟩ := checkE_zero hc
    exact run_c v r n w h ⟨hp, hr, h2, by omega⟩ hL h13 hn hc
  · rw [if_neg (by rw [hc]; decide)]
    exact run_err v r n w h hc
end Go.Proofs.YtoehlmiadiiimaaGreatDoor

