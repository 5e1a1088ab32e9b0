/-
  The law MachineStill.
-/
import Derived.Test.YtoehlmiadiiimaaGreatDoorMemR7
namespace Go.Proofs.YtoehlmiadiiimaaGreatDoor
open Go.ChangeShapes Go.WideShapes Go.RowKit Go.Proofs.YtoehlmiadiiimaaGreatDoor.Ex

theorem mach_open {w : World} {v : Value} {r : Rn} (h : MachR w v r) : ∃ cs A q B p, v = .agg cs ∧ Hid (cs.size = 37) ∧ cs.all (·.oneCell') = true ∧ cs[1]? = some (.int .u64 (r.regs.getD 0 0)) ∧ cs[33]? = some (.int .u64 r.base) ∧
    cs[34]? = some (.slice A r.mem.length q) ∧ cs[35]? = some (.slice B r.told.length p) ∧ Hid (RdS w (.slice B r.told.length p) (r.told.map (.int .u64))) := by
  obtain ⟨mv, tv, rfl, hm, ht⟩ := h.form
  obtain ⟨A, q, rfl, -, -⟩ := hm.form
  obtain ⟨B, p, rfl, -, -⟩ := ht.form
  have h1 := mcR (r := r) (mv := .slice A (r.mem.map (Value.int .u8)).length q) (tv := .slice B (r.told.map (Value.int .u64)).length p) h.len 0 (by omega)
  have h2 := mc33 (r := r) (mv := .slice A (r.mem.map (Value.int .u8)).length q) (tv := .slice B (r.told.map (Value.int .u64)).length p) h.len
  have h3 : (mcells r (.slice A (r.mem.map (Value.int .u8)).length q) (.slice B (r.told.map (Value.int .u64)).length p)).toArray[34]? = some (.slice A r.mem.length q) := by rw [mc34 h.len, List.length_map]
  have h4 : (mcells r (.slice A (r.mem.map (Value.int .u8)).length q) (.slice B (r.told.map (Value.int .u64)).length p)).toArray[35]? = some (.slice B r.told.length p) := by rw [mc35 h.len, List.length_map]
  rw [Nat.add_zero] at h1
  rw [List.length_map] at ht
  exact ⟨_, A, q, B, p, rfl, Lib.hid (mc_size h.len), mc_one rfl rfl, h1, h2, h3, h4, Lib.hid ht⟩
set_option maxRecDepth 100000 in
set_option maxHeartbeats 2000000 in
theorem still_out (v : Value) (r : Rn) (s : Nat) (w : World) (h : MachR w v r) (hL : LG w) (h13 : 13 ≤ w.heap.size) (hout : (5000 : Int) < r.mem.length ∨ (1000 : Int) < r.told.length ∨ checkE r = 8) :
    Calls Tryz.prog 10 #[v, .int .u8 s] w (GoodPost w) := by
  have H25 : Hid (∀ W, Below w.heap.size w W → Calls Tryz.prog 25 #[] W (GoodPost W)) := Lib.hid fun W hb => ret25 W (laidG_below hL (hb.mono h13))
  have H17 : Hid (∀ W, Below w.heap.size w W → Calls Tryz.prog 17 #[v] W (CheckPost W (checkE r))) := Lib.hid fun W hb => check_c v r W (h.keep hb)
  have hlen := h.len
  obtain ⟨cs, A, q, B, p, rfl, hs, hall, c1, c33, c34, c35, HT⟩ := mach_open h
  have hsz : (Tryz.prog.info? 27).map (·.size) = some cs.size := by rw [hs.out]; exact info27
  have HOUT := Lib.hid hout
  clear hL h h13 hout hlen
  go_enter Tryz.func10, Tryz.ntmps10
  go_wp2_with fail
  refine (H25.out _ ((Below.refl _ _).alloc (Nat.le_refl _) _)).mono ?_
  intro e w1 hp1
  obtain ⟨rfl, hb1⟩ := hp1
  have D1 := (Blk.new w 27 cs).below hb1 (by simp)
  have s34 := (D1.cell 34).trans c34
  have s35 := (D1.cell 35).trans c35
  have HW1 := Lib.hid (((Below.refl _ _).alloc (Nat.le_refl _) _).trans (hb1.mono (by simp)) : Below w.heap.size w w1)
  clear hb1
  by_cases hm : (5000 : Int) < r.mem.length
  · go_wp2
    go_ret
    exact ⟨rfl, HW1.out⟩
  · by_cases ht : (1000 : Int) < r.told.length
    · go_wp2
      go_ret
      exact ⟨rfl, HW1.out⟩
    · have hc : checkE r = 8 := by
        rcases HOUT.out with h | h | h
        · exact absurd h hm
        · exact absurd h ht
        · exact h
      rw [hc] at H17
      go_wp2_with (refine wpList_load_row_w (by simp [Region.wanted, yielded, hm, ht]) 27 (.tmp 2) rfl w.heap.size rfl 27 cs (0, 0) _ D1 Tryz.underlying27 rfl hsz ?_)
      refine (H17.out _ HW1.out).mono ?_
      intro e w2 hp2
      obtain ⟨rfl, hb2⟩ := hp2
      have HW2 := Lib.hid (HW1.out.trans (hb2.mono (HW1.out.size)))
      clear hb2
      go_wp2
      go_ret
      exact ⟨rfl, HW2.out⟩
set_option maxRecDepth 100000 in
set_option maxHeartbeats 4000000 in
theorem still_in (v : Value) (r x1 : Rn) (s n k : Nat) (st : Bool) (l : List Int) (w : World) (h : MachR w v r) (hp : 0 ≤ r.pc) (hr : Regs64 r.regs) (hL : LG w) (h13 : 13 ≤ w.heap.size) (hm : ¬ (5000 : Int) < r.mem.length) (ht : ¬ (1000 : Int) < r.told.length)
    (hc : checkE r = 0) (hws : wrap64 (s : Int) = s) (hn : (s : Int).tmod 200 = n) (hn' : n ≤ 1000) (hX : runR n r = (x1, k, st, 0)) (hmem : x1.mem.length = r.mem.length) (hbase : x1.base = r.base) (hzero : x1.regs.getD 0 0 = 0) (hC : checkE x1 = 0) (htold : x1.told = r.told ++ l)
    (hst : st = false → k = n) (hst2 : st = true → runR 5 x1 = (x1, 0, true, 0)) :
    Calls Tryz.prog 10 #[v, .int .u8 s] w (GoodPost w) := by
  have H25 : Hid (∀ W, Below w.heap.size w W → Calls Tryz.prog 25 #[] W (GoodPost W)) := Lib.hid fun W hb => ret25 W (laidG_below hL (hb.mono h13))
  have H17 : Hid (∀ W, Below w.heap.size w W → Calls Tryz.prog 17 #[v] W (CheckPost W 0)) := Lib.hid fun W hb => by have := check_c v r W (h.keep hb); rw [hc] at this; exact this
  have HR : Hid (∀ W, Below w.heap.size w W → Calls Tryz.prog 23 #[v, .int .i64 n] W (RunAll W (x1, k, st, 0))) := Lib.hid fun W hb => by have := run_all v r n W (h.keep hb) hp hr (laidG_below hL (hb.mono h13)) (Nat.le_trans h13 hb.size) hn'; rw [hX] at this; exact this
  have hx1 : 0 ≤ x1.pc ∧ Regs64 x1.regs := by have := runR_sound hp hr n; rw [hX] at this; exact this
  have HR2 : Hid (∀ W v', Below w.heap.size w W → MachR W v' x1 → Calls Tryz.prog 23 #[v', .int .i64 5] W (RunAll W (runR 5 x1))) := Lib.hid fun W v' hb hm => run_all v' x1 5 W hm hx1.1 hx1.2 (laidG_below hL (hb.mono h13)) (Nat.le_trans h13 hb.size) (by omega)
  have H17' : Hid (∀ W v', MachR W v' x1 → Calls Tryz.prog 17 #[v'] W (CheckPost W 0)) := Lib.hid fun W v' hm => by have := check_c v' x1 W hm; rw [hC] at this; exact this
  have H19 : Hid (∀ W v1 v2, MachR W v1 x1 → MachR W v2 x1 → Calls Tryz.prog 19 #[v1, v2] W (GoodPost W)) := Lib.hid fun W v1 v2 h1 h2 => msame_c v1 v2 x1 W h1 h2 (by have := (checkE_zero hC).2.1; omega) (by have := (checkE_zero hC).2.2.2; omega)
  have HM := Lib.hid h
  obtain ⟨cs, A, q, B, p, rfl, hs, hall, c1, c33, c34, c35, HT⟩ := mach_open h
  have hsz : (Tryz.prog.info? 27).map (·.size) = some cs.size := by rw [hs.out]; exact info27
  have HTO := Lib.hid htold
  have htl : x1.told.length = r.told.length + l.length := by rw [htold, List.length_append]
  have HST := Lib.hid hst
  have HST2 := Lib.hid hst2
  clear hL h h13 hp hr hx1 hX hC htold hst hst2 c1
  go_enter Tryz.func10, Tryz.ntmps10
  go_wp2_with fail
  refine (H25.out _ ((Below.refl _ _).alloc (Nat.le_refl _) _)).mono ?_
  intro e w1 hp1
  obtain ⟨rfl, hb1⟩ := hp1
  have D1 := (Blk.new w 27 cs).below hb1 (by simp)
  have s34 := (D1.cell 34).trans c34
  have s35 := (D1.cell 35).trans c35
  have HW1 := Lib.hid (((Below.refl _ _).alloc (Nat.le_refl _) _).trans (hb1.mono (by simp)) : Below w.heap.size w w1)
  have hz1 : w.heap.size + 1 ≤ w1.heap.size := by have := hb1.size; simpa using this
  clear hb1
  go_wp2_with (refine wpList_load_row_w (by simp [Region.wanted, yielded, hm, ht]) 27 (.tmp 2) rfl w.heap.size rfl 27 cs (0, 0) _ D1 Tryz.underlying27 rfl hsz ?_)
  refine (H17.out _ HW1.out).mono ?_
  intro e w2 hp2
  obtain ⟨rfl, hb2⟩ := hp2
  have D2 : Blk w2 w.heap.size 27 cs := D1.below hb2 (by omega)
  have HW2 := Lib.hid (HW1.out.trans (hb2.mono (by omega)))
  have hz2 := Nat.le_trans hz1 hb2.size
  clear hb2 D1 s34 s35 hz1
  go_wp2_with (refine wpList_load_row rfl 27 (.tmp 2) rfl w.heap.size rfl 27 cs (0, 0) _ D2 Tryz.underlying27 rfl hsz ?_)
  refine (HR.out _ HW2.out).mono ?_
  intro e w3 hp3
  obtain ⟨hb3, v3, rfl, ho3⟩ := hp3
  have D3 : Blk w3 w.heap.size 27 cs := D2.below hb3 (by omega)
  have HW3 := Lib.hid (HW2.out.trans (hb3.mono (by omega)))
  have hz3 := Nat.le_trans hz2 hb3.size
  have HO3 := Lib.hid (ho3.mono (Nat.zero_le _))
  obtain ⟨c3, A3, q3, B3, p3, rfl, hs3, hall3, d1, d33, d34, d35, HT3⟩ := mach_open ho3.reads
  have hsz3 : (Tryz.prog.info? 27).map (·.size) = some c3.size := by rw [hs3.out]; exact info27
  rw [hzero] at d1
  rw [hbase] at d33
  rw [hmem] at d34
  rw [htl] at d35
  clear hb3 ho3 D2
  have hF3 : ∀ Z : Array Value, Blk ((w3.alloc (.cells Z 27)).setRow w3.heap.size c3) w3.heap.size 27 c3 := fun Z => setRow_heap _ _ Z _ 27 (0, 0) (heap_alloc_new w3 _)
  have hG3 : ∀ o, Blk ((w3.alloc o).setRow w3.heap.size c3) w.heap.size 27 cs := fun o => (setRow_other _ _ _ _ (by omega)).trans ((Below.heap_alloc w3 o _ (by omega)).trans D3)
  have f1 : ∀ Z : Array Value, ((w3.alloc (.cells Z 27)).setRow w3.heap.size c3).cell? ⟨w3.heap.size, 1, none⟩ = some (.int .u64 0) := fun Z => ((hF3 Z).cell 1).trans d1
  have f33 : ∀ Z : Array Value, ((w3.alloc (.cells Z 27)).setRow w3.heap.size c3).cell? ⟨w3.heap.size, 33, none⟩ = some (.int .u64 r.base) := fun Z => ((hF3 Z).cell 33).trans d33
  have f34 : ∀ Z : Array Value, ((w3.alloc (.cells Z 27)).setRow w3.heap.size c3).cell? ⟨w3.heap.size, 34, none⟩ = some (.slice A3 r.mem.length q3) := fun Z => ((hF3 Z).cell 34).trans d34
  have g33 : ∀ o, ((w3.alloc o).setRow w3.heap.size c3).cell? ⟨w.heap.size, 33, none⟩ = some (.int .u64 r.base) := fun o => ((hG3 o).cell 33).trans c33
  have g34 : ∀ o, ((w3.alloc o).setRow w3.heap.size c3).cell? ⟨w.heap.size, 34, none⟩ = some (.slice A r.mem.length q) := fun o => ((hG3 o).cell 34).trans c34
  go_wp2_with (first
    | (refine wpList_store_row rfl 27 (.tmp 6) (.tmp 42) rfl w3.heap.size c3 rfl rfl 27 _ (heap_alloc_new w3 _) hsz3 (by rw [hs3.out]; rfl) hall3 ?_)
    | (refine wpList_load_row_w (by rfl) 27 (.tmp 6) rfl w3.heap.size rfl 27 c3 (0, 0) _ (hF3 _) Tryz.underlying27 rfl hsz3 ?_))
  have hk3 : ∀ o, Below w3.heap.size w3 ((w3.alloc o).setRow w3.heap.size c3) := fun o => below_setRow ((Below.refl w3.heap.size w3).alloc (Nat.le_refl _) _) (Nat.le_refl _) c3
  refine (H17'.out _ _ (HO3.out.keep (hk3 _)).reads).mono ?_
  intro e w5 hp5
  obtain ⟨rfl, hb5⟩ := hp5
  have D5 : Blk w5 w.heap.size 27 cs := (hG3 _).below hb5 (by simp; omega)
  have F5 : Blk w5 w3.heap.size 27 c3 := (hF3 _).below hb5 (by simp)
  have HT5 := Lib.hid (((HT.out.keep HW3.out).keep (hk3 _)).keep hb5)
  have HT6 := Lib.hid ((HT3.out.keep (hk3 _)).keep hb5)
  have HO5 := Lib.hid ((HO3.out.keep (hk3 _)).keep hb5)
  have HW5 := Lib.hid (HW3.out.trans (((hk3 _).mono (by have := HW3.out.size; omega)).trans (hb5.mono (by have := HW3.out.size; simp; omega))))
  have hz5 : w3.heap.size + 1 ≤ w5.heap.size := by have := hb5.size; simpa using this
  have s35 := (D5.cell 35).trans c35
  have u35 := (F5.cell 35).trans d35
  have hlt0 : ¬ ((r.told.length : Int) + l.length < r.told.length) := by omega
  clear hb5 hk3 hF3 hG3 f1 f33 f34 g33 g34 HT HT3 D3 HO3
  go_wp2
  go_loopw [10] (fun i wr => ∃ j : Nat, j ≤ r.told.length ∧ i = .int .i64 j ∧ Blk wr w.heap.size 27 cs ∧ Blk wr w3.heap.size 27 c3 ∧ Hid (Below w5.heap.size w5 wr)) (fun i _ => r.told.length - (intOf i).toNat)
  case atStart => exact ⟨0, Nat.zero_le _, rfl, D5, F5, Lib.hid (Below.refl _ _)⟩
  case round =>
    obtain ⟨j, hj, rfl, hD, hF, hB⟩ := hrel
    have t35 := (hD.cell 35).trans c35
    have y35 := (hF.cell 35).trans d35
    clear s35 u35 D5 F5 hlt0
    by_cases hlt : j < r.told.length
    · obtain ⟨ad1, rfl, hx1⟩ := rd_at (HT5.out.keep hB.out) hlt
      obtain ⟨ad2, rfl, hx2⟩ := rd_at (HT6.out.keep hB.out) (by omega : j < x1.told.length)
      have he : x1.told.getD j 0 = r.told.getD j 0 := by rw [HTO.out]; simp [List.getD, List.getElem?_append_left hlt]
      rw [he] at hx2
      clear he
      go_wp2
      go_region
      go_wp2
      go_roundw
      case rel => exact ⟨j + 1, by omega, by go_num, hD, hF, Lib.hid hB.out.drew⟩
      case measure => simp [intOf]; omega
    · obtain rfl : j = r.told.length := by omega
      cases st with
      | false =>
        obtain rfl := HST.out rfl
        go_wp2
        go_ret
        exact ⟨rfl, HW5.out.trans (hB.out.mono (by have := HW5.out.size; omega))⟩
      | true =>
        have HE := Lib.hid (HST2.out rfl)
        have F7 := hF
        unfold Blk at F7
        have HB := Lib.hid (HW5.out.trans (hB.out.mono (by have := HW5.out.size; omega)))
        have hzr : w3.heap.size + 1 ≤ wr.heap.size := Nat.le_trans hz5 hB.out.size
        have HOr := Lib.hid (HO5.out.keep hB.out)
        go_wp2_with (refine wpList_load_row rfl 27 (.tmp 6) rfl w3.heap.size rfl 27 c3 (0, 0) _ F7 Tryz.underlying27 rfl hsz3 ?_)
        refine (HR2.out _ _ HB.out HOr.out.reads).mono ?_
        intro e w7 hp7
        rw [HE.out] at hp7
        obtain ⟨hb7, v7, rfl, ho7⟩ := hp7
        obtain ⟨c7, rfl, hs7, hall7⟩ := mach_cells ho7
        have hsz7 : (Tryz.prog.info? 27).map (·.size) = some c7.size := by rw [hs7.out]; exact info27
        have F8 : w7.heap[w3.heap.size]? = some (.cells c3 27 (0, 0)) := (hb7.block w3.heap.size (by omega)).trans F7
        have hz7 := Nat.le_trans hzr hb7.size
        have HB7 := Lib.hid (HB.out.trans (hb7.mono (HB.out.size)))
        have HOx := Lib.hid (HOr.out.keep hb7)
        have HOy := Lib.hid (ho7.mono (Nat.zero_le _))
        clear hb7 ho7
        have hF7 : ∀ Z : Array Value, ((w7.alloc (.cells Z 27)).setRow w7.heap.size c7).heap[w7.heap.size]? = some (.cells c7 27 (0, 0)) := fun Z => setRow_heap _ _ Z _ 27 (0, 0) (heap_alloc_new w7 _)
        have hk7 : ∀ o, Below w7.heap.size w7 ((w7.alloc o).setRow w7.heap.size c7) := fun o => below_setRow ((Below.refl w7.heap.size w7).alloc (Nat.le_refl _) _) (Nat.le_refl _) c7
        go_wp2_with (first
          | (refine wpList_store_row rfl 27 (.tmp 11) (.tmp 112) rfl w7.heap.size c7 rfl rfl 27 _ (heap_alloc_new w7 _) hsz7 (by rw [hs7.out]; rfl) hall7 ?_)
          | (refine wpList_load_row_w (by rfl) 27 (.tmp 11) rfl w7.heap.size rfl 27 c7 (0, 0) _ (hF7 _) Tryz.underlying27 rfl hsz7 ?_)
          | (refine wpList_load_row_w (by rfl) 27 (.tmp 6) rfl w3.heap.size rfl 27 c3 (0, 0) _ (((hk7 _).block w3.heap.size (by omega)).trans F8) Tryz.underlying27 rfl hsz3 ?_))
        refine (H19.out _ _ _ (HOy.out.keep (hk7 _)).reads (HOx.out.keep (hk7 _)).reads).mono ?_
        intro e w9 hp9
        obtain ⟨rfl, hb9⟩ := hp9
        have HB9 := Lib.hid (HB7.out.trans (((hk7 _).mono (HB7.out.size)).trans (hb9.mono (by have := HB7.out.size; simp; omega))))
        clear hb9 hk7
        go_wp2
        go_ret
        exact ⟨rfl, HB9.out⟩
theorem still_c (v : Value) (r : Rn) (s : Nat) (w : World) (h : MachR w v r) (hp : 0 ≤ r.pc) (hr : Regs64 r.regs) (hL : LG w) (h13 : 13 ≤ w.heap.size) (hs : s < 256) : Calls Tryz.prog 10 #[v, .int .u8 s] w (GoodPost w) := by
  by_cases hm : (5000 : Int) < r.mem.length
  · exact still_out v r s w h hL h13 (.inl hm)
  · by_cases ht : (1000 : Int) < r.told.length
    · exact still_out v r s w h hL h13 (.inr (.inl ht))
    · rcases checkE_or r with hc | hc
      · have eX : runR (s % 200) r = ((goF (s % 200) r).1, (goF (s % 200) r).2, (stepF (goF (s % 200) r).1).isNone, 0) := by unfold runR; rw [if_pos hc]
        have hk := goF_kept (s % 200) r
        have hC := check_kept hk hc
        obtain ⟨l, hl⟩ := hk.told
        have hle := goF_le (s % 200) r
        refine still_in v r _ s (s % 200) _ _ l w h hp hr hL h13 hm ht hc (wrap64_small (by omega) (by omega)) ?_ (by omega) eX hk.mem hk.base (checkE_zero hC).2.2.1 hC hl ?_ ?_
        · rw [Int.tmod_eq_emod_of_nonneg (by omega)]; omega
        · intro hst
          rcases Nat.lt_or_ge (goF (s % 200) r).2 (s % 200) with h1 | h1
          · rw [hle.2 h1] at hst; cases hst
          · exact Nat.le_antisymm hle.1 h1
        · intro hst
          have hsn : stepF (goF (s % 200) r).1 = none := by simpa using hst
          unfold runR
          rw [if_pos hC, goF_stuck hsn]
          simp only
          rw [hsn]
          rfl
      · exact still_out v r s w h hL h13 (.inr (.inr hc))
end Go.Proofs.YtoehlmiadiiimaaGreatDoor
