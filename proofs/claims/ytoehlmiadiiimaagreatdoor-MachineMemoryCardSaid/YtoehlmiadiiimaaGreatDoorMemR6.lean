/-
  The law MachineOn.
-/
import Derived.Test.YtoehlmiadiiimaaGreatDoorMemR5
import Derived.Test.YtoehlmiadiiimaaGreatDoorMacV
namespace Go.Proofs.YtoehlmiadiiimaaGreatDoor
open Go.ChangeShapes Go.WideShapes Go.RowKit Go.Proofs.YtoehlmiadiiimaaGreatDoor.Ex

theorem runR_sound {r : Rn} (hp : 0 ≤ r.pc) (hr : Regs64 r.regs) (n : Nat) : 0 ≤ (runR n r).1.pc ∧ Regs64 (runR n r).1.regs := by
  unfold runR
  split
  · have k := goF_kept n r
    exact ⟨k.pc hp, k.regs hr⟩
  · refine ⟨Int.le_refl _, fun x hx => ?_⟩
    have : x = 0 := (List.mem_replicate.1 hx).2
    subst this
    exact ⟨Int.le_refl _, by decide⟩
theorem runR_le (n : Nat) (r : Rn) : (runR n r).2.1 ≤ n := by
  unfold runR
  split
  · exact (goF_le n r).1
  · exact Nat.zero_le _
/-- The law, in plain words. -/
theorem on_law (r : Rn) (a b : Nat) :
    ((runR a r).2.2.2 ≠ 0 → (runR (a + b) r).2.2.2 = (runR a r).2.2.2 ∧ (runR a r).2.1 = 0 ∧ (runR a r).2.2.1 = false) ∧
    ((runR a r).2.2.2 = 0 → (runR b (runR a r).1).2.2.2 = 0 ∧ (runR (a + b) r).2.2.2 = 0 ∧ (runR (a + b) r).1 = (runR b (runR a r).1).1 ∧
      (runR a r).2.1 + (runR b (runR a r).1).2.1 = (runR (a + b) r).2.1 ∧ (runR b (runR a r).1).2.2.1 = (runR (a + b) r).2.2.1 ∧ checkE (runR (a + b) r).1 = 0 ∧
      ((runR a r).2.2.1 = true → (runR b (runR a r).1).2.1 = 0 ∧ (runR b (runR a r).1).2.2.1 = true)) := by
  by_cases hc : checkE r = 0
  · have e1 : ∀ n, runR n r = ((goF n r).1, (goF n r).2, (stepF (goF n r).1).isNone, 0) := fun n => by unfold runR; rw [if_pos hc]
    have hc' : checkE (goF a r).1 = 0 := check_kept (goF_kept a r) hc
    have e2 : runR b (goF a r).1 = ((goF b (goF a r).1).1, (goF b (goF a r).1).2, (stepF (goF b (goF a r).1).1).isNone, 0) := by unfold runR; rw [if_pos hc']
    rw [e1, e1]
    simp only
    rw [e2, goF_add]
    simp only
    refine ⟨fun h => absurd rfl h, fun _ => ⟨trivial, trivial, trivial, trivial, trivial, check_kept (goF_kept b _) hc', fun h => ?_⟩⟩
    have hs : stepF (goF a r).1 = none := by simpa using h
    rw [goF_stuck hs]
    exact ⟨rfl, h⟩
  · have e1 : ∀ n, runR n r = (rn0, 0, false, 8) := fun n => by unfold runR; rw [if_neg hc]
    rw [e1, e1]
    exact ⟨fun _ => ⟨rfl, rfl, rfl⟩, fun h => absurd h (by decide)⟩
theorem wpList_load_row_w {P : Program} {w : World} {ops : Array Oper} {rest : List Oper} {o : Oper} {a : Act} {Q : Exit → Act → World → Prop} (hw : Region.wanted o (yielded ops a.tmps) = true) (ty : TypeId) (x : Operand) (ho : o.op = .load ty x)
    (g : Nat) (hx : a.eval x = .pointer (some ⟨g, 0, none⟩)) (t : TypeId) (cs : Array Value) (fr : Nat × Nat) (d : TypeDesc) (hg : w.heap[g]? = some (.cells cs t fr))
    (hu : P.underlying ty = some d) (hd : (match d with | .struct _ | .array _ _ => true | _ => false) = true) (hi : (P.info? ty).map (·.size) = some cs.size)
    (h : wpList P ops Q rest (a.put o.dst (.agg cs)) w) : wpList P ops Q (o :: rest) a w :=
  wpList_step fun K hK => by rw [if_pos hw]; exact wp_load_row ty x ho g hx t cs fr d hg hu hd hi (hK _ _ h)
theorem wrap64_small {x : Int} (h0 : 0 ≤ x) (h1 : x < 9223372036854775808) : wrap64 x = x := by
  have e := IntKind.wrap_u64
  unfold wrap64
  omega
def GoodPost (w : World) (e : Ending) (w' : World) : Prop := e = .returned (.bool true) ∧ Below w.heap.size w w'
set_option maxRecDepth 100000 in
set_option maxHeartbeats 2000000 in
theorem on_out (v : Value) (r : Rn) (a b : Nat) (w : World) (h : MachR w v r) (hp : 0 ≤ r.pc) (hr : Regs64 r.regs) (hL : LG w) (h13 : 13 ≤ w.heap.size) (ha : a < 256) (hb : b < 256) (hout : greatB r = true ∨ 100 < a ∨ 100 < b) :
    Calls Tryz.prog 5 #[v, .int .u8 a, .int .u8 b] w (GoodPost w) := by
  have H25 : Hid (∀ W, Below w.heap.size w W → Calls Tryz.prog 25 #[] W (GoodPost W)) := Lib.hid fun W hb => ret25 W (laidG_below hL (hb.mono h13))
  have H11 : Hid (∀ W, Below w.heap.size w W → Calls Tryz.prog 11 #[v] W fun e w' => e = .returned (.bool (greatB r)) ∧ Below W.heap.size W w') := Lib.hid fun W hb => great_c v r W (h.keep hb)
  have HR : Hid (∀ W v' r' (n : Nat), Below w.heap.size w W → MachR W v' r' → 0 ≤ r'.pc → Regs64 r'.regs → n ≤ 1000 → Calls Tryz.prog 23 #[v', .int .i64 n] W (RunAll W (runR n r'))) := Lib.hid fun W v' r' n hb hm hp hr hn => run_all v' r' n W hm hp hr (laidG_below hL (hb.mono h13)) (Nat.le_trans h13 hb.size) hn
  have HM := Lib.hid h
  obtain ⟨mv, tv, rfl, hmv, htv⟩ := h.form
  have hlen := h.len
  have hsz : (Tryz.prog.info? 27).map (·.size) = some (mcells r mv tv).toArray.size := by rw [mc_size hlen]; exact info27
  have HP := Lib.hid (And.intro hp hr)
  have HLaw := Lib.hid (on_law r a b)
  clear hL h hmv htv hlen h13 hp hr
  generalize (mcells r mv tv).toArray = cs at *
  generalize greatB r = gb at *
  go_enter Tryz.func5, Tryz.ntmps5
  go_wp2_with fail
  refine (H25.out _ ((Below.refl _ _).alloc (Nat.le_refl _) _)).mono ?_
  intro e w1 hp1
  obtain ⟨rfl, hb1⟩ := hp1
  have D1 := (hb1.block w.heap.size (by simp)).trans (heap_alloc_new w _)
  have hz1 : w.heap.size + 1 ≤ w1.heap.size := by have := hb1.size; simpa using this
  have hw1 : Below w.heap.size w w1 := ((Below.refl _ _).alloc (Nat.le_refl _) _).trans (hb1.mono (by simp))
  have HW1 := Lib.hid hw1
  clear hw1 hb1
  go_wp2_with (refine wpList_load_row rfl 27 (.tmp 3) rfl w.heap.size rfl 27 cs (0, 0) _ D1 Tryz.underlying27 rfl hsz ?_)
  refine (H11.out _ HW1.out).mono ?_
  intro e w2 hp2
  obtain ⟨rfl, hb2⟩ := hp2
  have D2 := (hb2.block w.heap.size (by omega)).trans D1
  have hz2 := Nat.le_trans hz1 hb2.size
  have HW2 := Lib.hid (HW1.out.trans (hb2.mono (by omega)))
  clear D1 hz1 HW1 hb2
  go_wp2_with (refine wpList_load_row rfl 27 (.tmp 3) rfl w.heap.size rfl 27 cs (0, 0) _ D2 Tryz.underlying27 rfl hsz ?_)
  · go_ret
    exact ⟨rfl, HW2.out⟩
  all_goals first
    | (go_ret; exact ⟨rfl, HW2.out⟩)
    | (exfalso; rcases hout with h | h | h <;> first | contradiction | omega)
set_option maxRecDepth 100000 in
set_option maxHeartbeats 2000000 in
theorem on_in (v : Value) (r : Rn) (a b : Nat) (w : World) (h : MachR w v r) (hp : 0 ≤ r.pc) (hr : Regs64 r.regs) (hL : LG w) (h13 : 13 ≤ w.heap.size) (ha : a ≤ 100) (hb : b ≤ 100) (hgb : greatB r = false) (x1 y1 : Rn) (i k : Nat) (p q : Bool) (hX : runR a r = (x1, i, p, 0)) (hY : runR b x1 = (y1, k, q, 0)) (hZ : runR (a + b) r = (y1, i + k, q, 0)) (hC : checkE y1 = 0) (hpq : p = true → k = 0 ∧ q = true) (hik : wrap64 ((i : Int) + k) = i + k) :
    Calls Tryz.prog 5 #[v, .int .u8 a, .int .u8 b] w (GoodPost w) := by
  have H25 : Hid (∀ W, Below w.heap.size w W → Calls Tryz.prog 25 #[] W (GoodPost W)) := Lib.hid fun W hb => ret25 W (laidG_below hL (hb.mono h13))
  have H11 : Hid (∀ W, Below w.heap.size w W → Calls Tryz.prog 11 #[v] W fun e w' => e = .returned (.bool (greatB r)) ∧ Below W.heap.size W w') := Lib.hid fun W hb => great_c v r W (h.keep hb)
  have HR : Hid (∀ W v' r' (n : Nat), Below w.heap.size w W → MachR W v' r' → 0 ≤ r'.pc → Regs64 r'.regs → n ≤ 1000 → Calls Tryz.prog 23 #[v', .int .i64 n] W (RunAll W (runR n r'))) := Lib.hid fun W v' r' n hb hm hp hr hn => run_all v' r' n W hm hp hr (laidG_below hL (hb.mono h13)) (Nat.le_trans h13 hb.size) hn
  have HR3 : Hid (∀ W, Below w.heap.size w W → Calls Tryz.prog 23 #[v, .int .i64 ((a : Int) + b)] W (RunAll W (runR (a + b) r))) := Lib.hid fun W hb => by have := HR.out W v r (a + b) hb (h.keep hb) hp hr (by omega); rw [Int.natCast_add] at this; exact this
  have HM := Lib.hid h
  obtain ⟨mv, tv, rfl, hmv, htv⟩ := h.form
  have hlen := h.len
  have hsz : (Tryz.prog.info? 27).map (·.size) = some (mcells r mv tv).toArray.size := by rw [mc_size hlen]; exact info27
  have HP := Lib.hid (And.intro hp hr)
  have hx1 : 0 ≤ x1.pc ∧ Regs64 x1.regs := by have := runR_sound hp hr a; rw [hX] at this; exact this
  have HX1 := Lib.hid hx1
  have HXE := Lib.hid hX
  have HYE := Lib.hid hY
  have HZE := Lib.hid hZ
  have H17 : Hid (∀ W v', Below w.heap.size w W → MachR W v' y1 → Calls Tryz.prog 17 #[v'] W (CheckPost W 0)) := Lib.hid fun W v' _ hm => by have := check_c v' y1 W hm; rw [hC] at this; exact this
  have HY1 : Hid (y1.mem.length ≤ 65536 ∧ y1.told.length ≤ 1000) := Lib.hid (by have := checkE_zero hC; omega)
  have H16 : Hid (∀ W v1 v2, MachR W v1 y1 → MachR W v2 y1 → Calls Tryz.prog 16 #[v1, v2] W (GoodPost W)) := Lib.hid fun W v1 v2 h1 h2 => same_c v1 v2 y1 W h1 h2 (by have := HY1.out; omega) (by have := HY1.out; omega)
  have hab : wrap64 ((a : Int) + b) = a + b := wrap64_small (by omega) (by omega)
  rw [hgb] at H11
  clear hX hY hZ hC hgb hx1
  clear hL h hmv htv hlen h13 hp hr
  generalize (mcells r mv tv).toArray = cs at *
  go_enter Tryz.func5, Tryz.ntmps5
  go_wp2_with fail
  refine (H25.out _ ((Below.refl _ _).alloc (Nat.le_refl _) _)).mono ?_
  intro e w1 hp1
  obtain ⟨rfl, hb1⟩ := hp1
  have D1 := (hb1.block w.heap.size (by simp)).trans (heap_alloc_new w _)
  have hz1 : w.heap.size + 1 ≤ w1.heap.size := by have := hb1.size; simpa using this
  have hw1 : Below w.heap.size w w1 := ((Below.refl _ _).alloc (Nat.le_refl _) _).trans (hb1.mono (by simp))
  have HW1 := Lib.hid hw1
  clear hw1 hb1
  go_wp2_with (refine wpList_load_row rfl 27 (.tmp 3) rfl w.heap.size rfl 27 cs (0, 0) _ D1 Tryz.underlying27 rfl hsz ?_)
  refine (H11.out _ HW1.out).mono ?_
  intro e w2 hp2
  obtain ⟨rfl, hb2⟩ := hp2
  have D2 := (hb2.block w.heap.size (by omega)).trans D1
  have hz2 := Nat.le_trans hz1 hb2.size
  have HW2 := Lib.hid (HW1.out.trans (hb2.mono (by omega)))
  clear D1 hz1 HW1 hb2
  go_wp2_with (refine wpList_load_row rfl 27 (.tmp 3) rfl w.heap.size rfl 27 cs (0, 0) _ D2 Tryz.underlying27 rfl hsz ?_)
  refine (HR.out _ _ r a HW2.out (HM.out.keep HW2.out) HP.out.1 HP.out.2 (by omega)).mono ?_
  intro e w3 hp3
  rw [HXE.out] at hp3
  obtain ⟨hb3, v3, rfl, ho3⟩ := hp3
  obtain ⟨c3, rfl, hs3, hall3⟩ := mach_cells ho3
  have hsz3 : (Tryz.prog.info? 27).map (·.size) = some c3.size := by rw [hs3.out]; exact info27
  have HO3 := Lib.hid ho3
  have D3 := (hb3.block w.heap.size (by omega)).trans D2
  have hz3 := Nat.le_trans hz2 hb3.size
  have HW3 := Lib.hid (HW2.out.trans (hb3.mono (by have := HW2.out.size; omega)))
  clear D2 hb3 ho3
  have hF3 : ∀ Z : Array Value, ((w3.alloc (.cells Z 27)).setRow w3.heap.size c3).heap[w3.heap.size]? = some (.cells c3 27 (0, 0)) := fun Z => setRow_heap _ _ Z _ 27 (0, 0) (heap_alloc_new w3 _)
  go_wp2_with (first
    | (refine wpList_store_row rfl 27 (.tmp 8) (.tmp 41) rfl w3.heap.size c3 rfl rfl 27 _ (heap_alloc_new w3 _) hsz3 (by rw [hs3.out]; rfl) hall3 ?_)
    | (refine wpList_load_row rfl 27 (.tmp 8) rfl w3.heap.size rfl 27 c3 (0, 0) _ (hF3 _) Tryz.underlying27 rfl hsz3 ?_))
  have hk4 : ∀ o, Below w3.heap.size w3 ((w3.alloc o).setRow w3.heap.size c3) := fun o => below_setRow ((Below.refl w3.heap.size w3).alloc (Nat.le_refl _) _) (Nat.le_refl _) c3
  refine (HR.out _ _ x1 b (HW3.out.trans ((hk4 _).mono (by have := HW3.out.size; omega))) ((HO3.out.keep (hk4 _)).reads) HX1.out.1 HX1.out.2 (by omega)).mono ?_
  intro e w5 hp5
  rw [HYE.out] at hp5
  obtain ⟨hb5, v5, rfl, ho5⟩ := hp5
  obtain ⟨c5, rfl, hs5, hall5⟩ := mach_cells ho5
  have hsz5 : (Tryz.prog.info? 27).map (·.size) = some c5.size := by rw [hs5.out]; exact info27
  have D5 := (hb5.block w.heap.size (by simp; omega)).trans (((hk4 _).block w.heap.size (by omega)).trans D3)
  have hz5 : w3.heap.size + 1 ≤ w5.heap.size := by have := hb5.size; simpa using this
  have HW5 := Lib.hid (HW3.out.trans (((hk4 _).mono (by have := HW3.out.size; omega)).trans (hb5.mono (by simp; omega))))
  have HO5 := Lib.hid (ho5.mono (Nat.zero_le _))
  clear D3 hb5 ho5 hF3 hk4 HO3
  have hF5 : ∀ Z : Array Value, ((w5.alloc (.cells Z 27)).setRow w5.heap.size c5).heap[w5.heap.size]? = some (.cells c5 27 (0, 0)) := fun Z => setRow_heap _ _ Z _ 27 (0, 0) (heap_alloc_new w5 _)
  have hk6 : ∀ o, Below w5.heap.size w5 ((w5.alloc o).setRow w5.heap.size c5) := fun o => below_setRow ((Below.refl w5.heap.size w5).alloc (Nat.le_refl _) _) (Nat.le_refl _) c5
  go_wp2_with (first
    | (refine wpList_store_row rfl 27 (.tmp 12) (.tmp 50) rfl w5.heap.size c5 rfl rfl 27 _ (heap_alloc_new w5 _) hsz5 (by rw [hs5.out]; rfl) hall5 ?_)
    | (refine wpList_load_row rfl 27 (.tmp 3) rfl w.heap.size rfl 27 cs (0, 0) _ (((hk6 _).block w.heap.size (by omega)).trans D5) Tryz.underlying27 rfl hsz ?_))
  refine (HR3.out _ (HW5.out.trans ((hk6 _).mono (by have := HW5.out.size; omega)))).mono ?_
  intro e w7 hp7
  rw [HZE.out] at hp7
  obtain ⟨hb7, v7, rfl, ho7⟩ := hp7
  obtain ⟨c7, rfl, hs7, hall7⟩ := mach_cells ho7
  have hsz7 : (Tryz.prog.info? 27).map (·.size) = some c7.size := by rw [hs7.out]; exact info27
  have F7 := (hb7.block w5.heap.size (by simp)).trans (hF5 _)
  have hz7 : w5.heap.size + 1 ≤ w7.heap.size := by have := hb7.size; simpa using this
  have HW7 := Lib.hid (HW5.out.trans (((hk6 _).mono (by have := HW5.out.size; omega)).trans (hb7.mono (by simp; omega))))
  have HO5' := Lib.hid ((HO5.out.keep (hk6 _)).keep hb7)
  have HO7 := Lib.hid (ho7.mono (Nat.zero_le _))
  clear D5 hb7 ho7 hF5 hk6 HO5
  have hF7 : ∀ Z : Array Value, ((w7.alloc (.cells Z 27)).setRow w7.heap.size c7).heap[w7.heap.size]? = some (.cells c7 27 (0, 0)) := fun Z => setRow_heap _ _ Z _ 27 (0, 0) (heap_alloc_new w7 _)
  have hk8 : ∀ o, Below w7.heap.size w7 ((w7.alloc o).setRow w7.heap.size c7) := fun o => below_setRow ((Below.refl w7.heap.size w7).alloc (Nat.le_refl _) _) (Nat.le_refl _) c7
  go_wp2_with (first
    | (refine wpList_store_row rfl 27 (.tmp 16) (.tmp 62) rfl w7.heap.size c7 rfl rfl 27 _ (heap_alloc_new w7 _) hsz7 (by rw [hs7.out]; rfl) hall7 ?_)
    | (refine wpList_load_row_w (by rfl) 27 (.tmp 12) rfl w5.heap.size rfl 27 c5 (0, 0) _ (((hk8 _).block w5.heap.size (by omega)).trans F7) Tryz.underlying27 rfl hsz5 ?_)
    | (refine wpList_load_row_w (by rfl) 27 (.tmp 16) rfl w7.heap.size rfl 27 c7 (0, 0) _ (hF7 _) Tryz.underlying27 rfl hsz7 ?_))
  refine (H16.out _ _ _ (HO5'.out.keep (hk8 _)).reads (HO7.out.keep (hk8 _)).reads).mono ?_
  intro e w9 hp9
  obtain ⟨rfl, hb9⟩ := hp9
  have F9 := (hb9.block w7.heap.size (by simp)).trans (hF7 _)
  have HO9 := Lib.hid ((HO7.out.keep (hk8 _)).keep hb9)
  have HW9 := Lib.hid (HW7.out.trans (((hk8 _).mono (by have := HW7.out.size; omega)).trans (hb9.mono (by have := HW7.out.size; simp; omega))))
  clear F7 hb9 hF7 hk8
  go_wp2_with (refine wpList_load_row_w (by rfl) 27 (.tmp 16) rfl w7.heap.size rfl 27 c7 (0, 0) _ F9 Tryz.underlying27 rfl hsz7 ?_)
  refine (H17.out _ _ HW9.out HO9.out.reads).mono ?_
  intro e w10 hp10
  obtain ⟨rfl, hb10⟩ := hp10
  have HW10 := Lib.hid (HW9.out.trans (hb10.mono (HW9.out.size)))
  clear hb10
  cases p with
  | false =>
    clear hpq
    go_wp2
    go_ret
    exact ⟨rfl, HW10.out⟩
  | true =>
    obtain ⟨rfl, rfl⟩ := hpq rfl
    clear hpq
    go_wp2
    go_ret
    exact ⟨rfl, HW10.out⟩
set_option maxRecDepth 100000 in
set_option maxHeartbeats 2000000 in
theorem on_er (v : Value) (r : Rn) (a b : Nat) (w : World) (h : MachR w v r) (hp : 0 ≤ r.pc) (hr : Regs64 r.regs) (hL : LG w) (h13 : 13 ≤ w.heap.size) (ha : a ≤ 100) (hb : b ≤ 100) (hgb : greatB r = false) (x1 y1 z1 : Rn) (k n : Nat) (q s : Bool) (er : Int) (hX : runR a r = (x1, 0, false, 8)) (hY : runR b x1 = (y1, k, q, er)) (hZ : runR (a + b) r = (z1, n, s, 8)) :
    Calls Tryz.prog 5 #[v, .int .u8 a, .int .u8 b] w (GoodPost w) := by
  have H25 : Hid (∀ W, Below w.heap.size w W → Calls Tryz.prog 25 #[] W (GoodPost W)) := Lib.hid fun W hb => ret25 W (laidG_below hL (hb.mono h13))
  have H11 : Hid (∀ W, Below w.heap.size w W → Calls Tryz.prog 11 #[v] W fun e w' => e = .returned (.bool (greatB r)) ∧ Below W.heap.size W w') := Lib.hid fun W hb => great_c v r W (h.keep hb)
  have HR : Hid (∀ W v' r' (n : Nat), Below w.heap.size w W → MachR W v' r' → 0 ≤ r'.pc → Regs64 r'.regs → n ≤ 1000 → Calls Tryz.prog 23 #[v', .int .i64 n] W (RunAll W (runR n r'))) := Lib.hid fun W v' r' n hb hm hp hr hn => run_all v' r' n W hm hp hr (laidG_below hL (hb.mono h13)) (Nat.le_trans h13 hb.size) hn
  have HR3 : Hid (∀ W, Below w.heap.size w W → Calls Tryz.prog 23 #[v, .int .i64 ((a : Int) + b)] W (RunAll W (runR (a + b) r))) := Lib.hid fun W hb => by have := HR.out W v r (a + b) hb (h.keep hb) hp hr (by omega); rw [Int.natCast_add] at this; exact this
  have HM := Lib.hid h
  obtain ⟨mv, tv, rfl, hmv, htv⟩ := h.form
  have hlen := h.len
  have hsz : (Tryz.prog.info? 27).map (·.size) = some (mcells r mv tv).toArray.size := by rw [mc_size hlen]; exact info27
  have HP := Lib.hid (And.intro hp hr)
  have hx1 : 0 ≤ x1.pc ∧ Regs64 x1.regs := by have := runR_sound hp hr a; rw [hX] at this; exact this
  have HX1 := Lib.hid hx1
  have HXE := Lib.hid hX
  have HYE := Lib.hid hY
  have HZE := Lib.hid hZ
  have hab : wrap64 ((a : Int) + b) = a + b := wrap64_small (by omega) (by omega)
  rw [hgb] at H11
  clear hX hY hZ hgb hx1
  clear hL h hmv htv hlen h13 hp hr
  generalize (mcells r mv tv).toArray = cs at *
  go_enter Tryz.func5, Tryz.ntmps5
  go_wp2_with fail
  refine (H25.out _ ((Below.refl _ _).alloc (Nat.le_refl _) _)).mono ?_
  intro e w1 hp1
  obtain ⟨rfl, hb1⟩ := hp1
  have D1 := (hb1.block w.heap.size (by simp)).trans (heap_alloc_new w _)
  have hz1 : w.heap.size + 1 ≤ w1.heap.size := by have := hb1.size; simpa using this
  have hw1 : Below w.heap.size w w1 := ((Below.refl _ _).alloc (Nat.le_refl _) _).trans (hb1.mono (by simp))
  have HW1 := Lib.hid hw1
  clear hw1 hb1
  go_wp2_with (refine wpList_load_row rfl 27 (.tmp 3) rfl w.heap.size rfl 27 cs (0, 0) _ D1 Tryz.underlying27 rfl hsz ?_)
  refine (H11.out _ HW1.out).mono ?_
  intro e w2 hp2
  obtain ⟨rfl, hb2⟩ := hp2
  have D2 := (hb2.block w.heap.size (by omega)).trans D1
  have hz2 := Nat.le_trans hz1 hb2.size
  have HW2 := Lib.hid (HW1.out.trans (hb2.mono (by omega)))
  clear D1 hz1 HW1 hb2
  go_wp2_with (refine wpList_load_row rfl 27 (.tmp 3) rfl w.heap.size rfl 27 cs (0, 0) _ D2 Tryz.underlying27 rfl hsz ?_)
  refine (HR.out _ _ r a HW2.out (HM.out.keep HW2.out) HP.out.1 HP.out.2 (by omega)).mono ?_
  intro e w3 hp3
  rw [HXE.out] at hp3
  obtain ⟨hb3, v3, rfl, ho3⟩ := hp3
  obtain ⟨c3, rfl, hs3, hall3⟩ := mach_cells ho3
  have hsz3 : (Tryz.prog.info? 27).map (·.size) = some c3.size := by rw [hs3.out]; exact info27
  have HO3 := Lib.hid ho3
  have D3 := (hb3.block w.heap.size (by omega)).trans D2
  have hz3 := Nat.le_trans hz2 hb3.size
  have HW3 := Lib.hid (HW2.out.trans (hb3.mono (by have := HW2.out.size; omega)))
  clear D2 hb3 ho3
  have hF3 : ∀ Z : Array Value, ((w3.alloc (.cells Z 27)).setRow w3.heap.size c3).heap[w3.heap.size]? = some (.cells c3 27 (0, 0)) := fun Z => setRow_heap _ _ Z _ 27 (0, 0) (heap_alloc_new w3 _)
  go_wp2_with (first
    | (refine wpList_store_row rfl 27 (.tmp 8) (.tmp 41) rfl w3.heap.size c3 rfl rfl 27 _ (heap_alloc_new w3 _) hsz3 (by rw [hs3.out]; rfl) hall3 ?_)
    | (refine wpList_load_row rfl 27 (.tmp 8) rfl w3.heap.size rfl 27 c3 (0, 0) _ (hF3 _) Tryz.underlying27 rfl hsz3 ?_))
  have hk4 : ∀ o, Below w3.heap.size w3 ((w3.alloc o).setRow w3.heap.size c3) := fun o => below_setRow ((Below.refl w3.heap.size w3).alloc (Nat.le_refl _) _) (Nat.le_refl _) c3
  refine (HR.out _ _ x1 b (HW3.out.trans ((hk4 _).mono (by have := HW3.out.size; omega))) ((HO3.out.keep (hk4 _)).reads) HX1.out.1 HX1.out.2 (by omega)).mono ?_
  intro e w5 hp5
  rw [HYE.out] at hp5
  obtain ⟨hb5, v5, rfl, ho5⟩ := hp5
  obtain ⟨c5, rfl, hs5, hall5⟩ := mach_cells ho5
  have hsz5 : (Tryz.prog.info? 27).map (·.size) = some c5.size := by rw [hs5.out]; exact info27
  have D5 := (hb5.block w.heap.size (by simp; omega)).trans (((hk4 _).block w.heap.size (by omega)).trans D3)
  have hz5 : w3.heap.size + 1 ≤ w5.heap.size := by have := hb5.size; simpa using this
  have HW5 := Lib.hid (HW3.out.trans (((hk4 _).mono (by have := HW3.out.size; omega)).trans (hb5.mono (by simp; omega))))
  have HO5 := Lib.hid (ho5.mono (Nat.zero_le _))
  clear D3 hb5 ho5 hF3 hk4 HO3
  have hF5 : ∀ Z : Array Value, ((w5.alloc (.cells Z 27)).setRow w5.heap.size c5).heap[w5.heap.size]? = some (.cells c5 27 (0, 0)) := fun Z => setRow_heap _ _ Z _ 27 (0, 0) (heap_alloc_new w5 _)
  have hk6 : ∀ o, Below w5.heap.size w5 ((w5.alloc o).setRow w5.heap.size c5) := fun o => below_setRow ((Below.refl w5.heap.size w5).alloc (Nat.le_refl _) _) (Nat.le_refl _) c5
  go_wp2_with (first
    | (refine wpList_store_row rfl 27 (.tmp 12) (.tmp 50) rfl w5.heap.size c5 rfl rfl 27 _ (heap_alloc_new w5 _) hsz5 (by rw [hs5.out]; rfl) hall5 ?_)
    | (refine wpList_load_row rfl 27 (.tmp 3) rfl w.heap.size rfl 27 cs (0, 0) _ (((hk6 _).block w.heap.size (by omega)).trans D5) Tryz.underlying27 rfl hsz ?_))
  refine (HR3.out _ (HW5.out.trans ((hk6 _).mono (by have := HW5.out.size; omega)))).mono ?_
  intro e w7 hp7
  rw [HZE.out] at hp7
  obtain ⟨hb7, v7, rfl, ho7⟩ := hp7
  obtain ⟨c7, rfl, hs7, hall7⟩ := mach_cells ho7
  have hsz7 : (Tryz.prog.info? 27).map (·.size) = some c7.size := by rw [hs7.out]; exact info27
  have F7 := (hb7.block w5.heap.size (by simp)).trans (hF5 _)
  have hz7 : w5.heap.size + 1 ≤ w7.heap.size := by have := hb7.size; simpa using this
  have HW7 := Lib.hid (HW5.out.trans (((hk6 _).mono (by have := HW5.out.size; omega)).trans (hb7.mono (by simp; omega))))
  have HO5' := Lib.hid ((HO5.out.keep (hk6 _)).keep hb7)
  have HO7 := Lib.hid (ho7.mono (Nat.zero_le _))
  clear D5 hb7 ho7 hF5 hk6 HO5
  have hk8 : ∀ o, Below w7.heap.size w7 ((w7.alloc o).setRow w7.heap.size c7) := fun o => below_setRow ((Below.refl w7.heap.size w7).alloc (Nat.le_refl _) _) (Nat.le_refl _) c7
  have HW8 : ∀ o, Hid (Below w.heap.size w ((w7.alloc o).setRow w7.heap.size c7)) := fun o => Lib.hid (HW7.out.trans ((hk8 o).mono (by have := HW7.out.size; omega)))
  clear F7 hk8
  go_wp2_with (refine wpList_store_row rfl 27 (.tmp 16) (.tmp 62) rfl w7.heap.size c7 rfl rfl 27 _ (heap_alloc_new w7 _) hsz7 (by rw [hs7.out]; rfl) hall7 ?_)
  all_goals go_ret
  all_goals exact ⟨rfl, (HW8 _).out⟩
theorem on_c (v : Value) (r : Rn) (a b : Nat) (w : World) (h : MachR w v r) (hp : 0 ≤ r.pc) (hr : Regs64 r.regs) (hL : LG w) (h13 : 13 ≤ w.heap.size) (ha : a < 256) (hb : b < 256) :
    Calls Tryz.prog 5 #[v, .int .u8 a, .int .u8 b] w (GoodPost w) := by
  by_cases h1 : greatB r = true ∨ 100 < a ∨ 100 < b
  · exact on_out v r a b w h hp hr hL h13 ha hb h1
  · have hg : greatB r = false := by
      cases hgb : greatB r with
      | false => rfl
      | true => exact absurd (.inl hgb) h1
    have ha' : a ≤ 100 := by
      rcases Nat.lt_or_ge 100 a with h | h
      · exact absurd (.inr (.inl h)) h1
      · exact h
    have hb' : b ≤ 100 := by
      rcases Nat.lt_or_ge 100 b with h | h
      · exact absurd (.inr (.inr h)) h1
      · exact h
    obtain ⟨l1, l2⟩ := on_law r a b
    rcases checkE_or r with hc | hc
    · have eX : runR a r = ((goF a r).1, (goF a r).2, (stepF (goF a r).1).isNone, 0) := by unfold runR; rw [if_pos hc]
      have e0 : (runR a r).2.2.2 = 0 := by rw [eX]
      obtain ⟨m1, m2, m3, m4, m5, m6, m7⟩ := l2 e0
      refine on_in v r a b w h hp hr hL h13 ha' hb' hg (runR a r).1 (runR b (runR a r).1).1 (runR a r).2.1 (runR b (runR a r).1).2.1 (runR a r).2.2.1 (runR b (runR a r).1).2.2.1 ?_ ?_ ?_ ?_ m7 ?_
      · rw [← e0]
      · rw [← m1]
      · rw [← m3, m4, m5, ← m2]
      · rw [← m3]; exact m6
      · have k1 : (runR a r).2.1 ≤ 100 := Nat.le_trans (runR_le a r) ha'
        have k2 : (runR b (runR a r).1).2.1 ≤ 100 := Nat.le_trans (runR_le b _) hb'
        exact wrap64_small (by omega) (by omega)
    · have e1 : ∀ n, runR n r = (rn0, 0, false, 8) := fun n => by unfold runR; rw [if_neg (by rw [hc]; decide)]
      exact on_er v r a b w h hp hr hL h13 ha' hb' hg rn0 _ rn0 _ 0 _ false _ (e1 a) rfl (e1 (a + b))
end Go.Proofs.YtoehlmiadiiimaaGreatDoor
