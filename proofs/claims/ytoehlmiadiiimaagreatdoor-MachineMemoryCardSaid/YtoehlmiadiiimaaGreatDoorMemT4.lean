/-
  The law MachineMemory: its walk, size by size.
-/
import Derived.Test.YtoehlmiadiiimaaGreatDoorMemT2
import Derived.Test.YtoehlmiadiiimaaGreatDoorMemT3
import Derived.Test.YtoehlmiadiiimaaGreatDoorMemR6
import Derived.Lib.AppendZeros
import Derived.Deep.Cut
import Derived.Deep.QuietTactic
namespace Go.Proofs.YtoehlmiadiiimaaGreatDoor
open Go.ChangeShapes Go.WideShapes Go.RowKit Go.Proofs.YtoehlmiadiiimaaGreatDoor.Ex

theorem msR {r : Rn} {mv tv : Value} (h : r.regs.length = 32) (i : Nat) (hi : i < 32) (x : Int) : (mcells r mv tv).toArray.setIfInBounds (1 + i) (.int .u64 x) = (mcells { r with regs := r.regs.set i x } mv tv).toArray := by
  rw [Nat.add_comm]
  simp [mcells, h, hi, List.map_set]
theorem msR11 {r : Rn} {mv tv : Value} (h : r.regs.length = 32) (x y : Int) : ((mcells r mv tv).toArray.setIfInBounds 12 (.int .u64 x)).setIfInBounds 13 (.int .u64 y) = (mcells { r with regs := (r.regs.set 11 x).set 12 y } mv tv).toArray := by
  rw [show (12 : Nat) = 1 + 11 from rfl, msR h 11 (by omega), show (13 : Nat) = 1 + 12 from rfl, msR (by simpa using h) 12 (by omega)]
theorem mach_open2 {w : World} {v : Value} {r : Rn} (h : MachR w v r) : ∃ cs A q B p, v = .agg cs ∧ Hid (cs.size = 37) ∧ cs.all (·.oneCell') = true ∧
    cs[34]? = some (.slice A r.mem.length q) ∧ cs[35]? = some (.slice B r.told.length p) ∧ Hid (RdS w (.slice A r.mem.length q) (r.mem.map (.int .u8))) ∧ Hid (RdS w (.slice B r.told.length p) (r.told.map (.int .u64))) := by
  obtain ⟨mv, tv, rfl, hm, ht⟩ := h.form
  obtain ⟨A, q, rfl, -, -⟩ := hm.form
  obtain ⟨B, p, rfl, -, -⟩ := ht.form
  have h3 : (mcells r (.slice A (r.mem.map (Value.int .u8)).length q) (.slice B (r.told.map (Value.int .u64)).length p)).toArray[34]? = some (.slice A r.mem.length q) := by rw [mc34 h.len, List.length_map]
  have h4 : (mcells r (.slice A (r.mem.map (Value.int .u8)).length q) (.slice B (r.told.map (Value.int .u64)).length p)).toArray[35]? = some (.slice B r.told.length p) := by rw [mc35 h.len, List.length_map]
  rw [List.length_map] at hm ht
  exact ⟨_, A, q, B, p, rfl, Lib.hid (mc_size h.len), mc_one rfl rfl, h3, h4, Lib.hid hm, Lib.hid ht⟩
set_option maxRecDepth 100000 in
set_option maxHeartbeats 4000000 in
theorem mem_c0 (a x s : Nat) (w : World) (hL : LG w) (h13 : 13 ≤ w.heap.size) (ha : a < 256) (hx : x < 18446744073709551616) (_hs : s < 256) (hs4 : (s : Int).tmod 4 = 0) :
    Calls Tryz.prog 7 #[.int .u8 a, .int .u64 x, .int .u8 s] w (GoodPost w) := by
  obtain ⟨p, hp⟩ : ∃ p : Nat, p = 12 + a % 40 := ⟨_, rfl⟩
  have ha1 : wrap64 (a : Int) = a := wrap64_small (by omega) (by omega)
  have ha2 : (a : Int).tmod 40 = ((a % 40 : Nat) : Int) := by rw [Int.tmod_eq_emod_of_nonneg (by omega)]; omega
  have hpw : IntKind.u64.wrap (p : Int) = p := by rw [IntKind.wrap_u64]; omega
  have H25 : Hid (∀ W, Below w.heap.size w W → Calls Tryz.prog 25 #[] W (GoodPost W)) := Lib.hid fun W hb => ret25 W (laidG_below hL (hb.mono h13))
  have H26 : Hid (∀ W S, S = ⟨((textM 0).map UInt8.ofNat).toArray⟩ → Below w.heap.size w W → Calls Tryz.prog 26 #[.string S] W (CodePost W (memM 0))) := Lib.hid fun W S hS hb => by rw [hS]; exact code_c 0 (by omega) W (laidG_below hL (hb.mono h13))
  have H21 : Hid (∀ W mv, RdS W mv ((memM 0).map (.int .u8)) → Calls Tryz.prog 21 #[.int .u64 0, mv, .int .u64 0] W (NewPost W (rnN 0 0 (memM 0)))) := Lib.hid fun W mv hm => new_in 0 0 mv (memM 0) W hm (by decide) (by rw [memM_len]; decide)
  obtain ⟨bb, hrun⟩ := runM_eq 0 (by omega) x p (by omega) (by show p + 1 ≤ 60; omega)
  have hy : ((x % 2 ^ (8 * manyM 0) : Nat) : Int) = ((x % 256 : Nat) : Int) := rfl
  rw [hy] at hrun
  have HR : Hid (∀ W v', Below w.heap.size w W → MachR W v' (rM 0 x p) → Calls Tryz.prog 23 #[v', .int .i64 3] W (RunAll W (rM3 0 x p ((x % 256 : Nat) : Int), 3, bb, 0))) := Lib.hid fun W v' hb hm => by
    have := run_all v' (rM 0 x p) 3 W hm (by show (0 : Int) ≤ 0; decide) (by
      intro z hz
      unfold rM regsM at hz
      rcases List.mem_or_eq_of_mem_set hz with hz | rfl
      · rcases List.mem_or_eq_of_mem_set hz with hz | rfl
        · rw [(List.mem_replicate.1 hz).2]; exact ⟨Int.le_refl _, by decide⟩
        · unfold B64; omega
      · unfold B64; omega) (laidG_below hL (hb.mono h13)) (Nat.le_trans h13 hb.size) (by decide)
    rw [hrun] at this
    exact this
  clear hL h13 hrun hy
  go_enter Tryz.func7, Tryz.ntmps7
  go_wp2_with fail
  refine (H25.out _ (Below.refl _ _)).mono ?_
  intro e w1 hp1
  obtain ⟨rfl, hb1⟩ := hp1
  go_wp2_with fail
  refine (H26.out _ _ (by kernel_rfl) (hb1.alloc hb1.size _)).mono ?_
  intro e w2 hp2
  obtain ⟨hb2, A2, n2, q2, rfl, happ⟩ := hp2
  obtain ⟨mv3, w3, hrun, hrd, hb3⟩ := happ w2 (Below.refl _ _)
  have HB3 : Hid (Below w.heap.size w w3) := Lib.hid ((hb1.alloc hb1.size _).trans (hb3.mono (by have := hb1.size; simp; omega)))
  have HRD := Lib.hid hrd
  clear happ hrd hb2 hb3 hb1
  go_wp2_with (at_builtin; refine Lib.wpList_append_run _ rfl _ _ _ _ rfl _ _ rfl rfl _ _ (hrun _) ?_)
  rw [show (12 + (a : Int) % 40) = (p : Int) from by omega]
  refine (H21.out _ _ HRD.out).mono ?_
  intro e w4 hp4
  obtain ⟨v4, rfl, ho4, hb4⟩ := hp4
  obtain ⟨mv4, tv4, rfl, hm4, ht4⟩ := ho4.form
  have hl4 : (rnN 0 0 (memM 0)).regs.length = 32 := rfl
  have g12 : (mcells (rnN 0 0 (memM 0)) mv4 tv4).toArray[12]? = some (.int .u64 0) := mcR hl4 11 (by omega)
  have g13 : (mcells (rnN 0 0 (memM 0)) mv4 tv4).toArray[13]? = some (.int .u64 0) := mcR hl4 12 (by omega)
  have hcs : ((mcells (rnN 0 0 (memM 0)) mv4 tv4).toArray.setIfInBounds 12 (.int .u64 (x : Int))).setIfInBounds 13 (.int .u64 (p : Int)) = (mcells (rM 0 x p) mv4 tv4).toArray := msR11 hl4 _ _
  have hs4 : (mcells (rnN 0 0 (memM 0)) mv4 tv4).toArray.size = 37 := mc_size hl4
  have hall4 : (mcells (rnN 0 0 (memM 0)) mv4 tv4).toArray.all (·.oneCell') = true := mc_one (rds_one (RdS.of_own hm4)) (rds_one (RdS.of_own ht4))
  have hsz4 : (Tryz.prog.info? 27).map (·.size) = some (mcells (rnN 0 0 (memM 0)) mv4 tv4).toArray.size := by rw [hs4]; exact info27
  have HCS := Lib.hid hcs
  have HS4 := Lib.hid hs4
  have HM4 := Lib.hid (And.intro (RdS.of_own hm4) (RdS.of_own ht4))
  have HB4 := Lib.hid (HB3.out.trans (hb4.mono (HB3.out.size)))
  clear hcs hs4 hm4 ht4 ho4 hb4 HB3 HRD hrun hl4
  generalize (mcells (rnN 0 0 (memM 0)) mv4 tv4).toArray = c4 at *
  have hF4 : ∀ Z : Array Value, Blk ((w4.alloc (.cells Z 27)).setRow w4.heap.size c4) w4.heap.size 27 c4 := fun Z => setRow_heap _ _ Z _ 27 (0, 0) (heap_alloc_new w4 _)
  have f12 : ∀ Z : Array Value, ((w4.alloc (.cells Z 27)).setRow w4.heap.size c4).cell? ⟨w4.heap.size, 12, none⟩ = some (.int .u64 0) := fun Z => ((hF4 Z).cell 12).trans g12
  have f13 : ∀ Z : Array Value, ((w4.alloc (.cells Z 27)).setRow w4.heap.size c4).cell? ⟨w4.heap.size, 13, none⟩ = some (.int .u64 0) := fun Z => ((hF4 Z).cell 13).trans g13
  have z12 : ∀ Z : Array Value, ((w4.alloc (.cells Z 27)).setRow w4.heap.size c4).frozen? ⟨w4.heap.size, 12, none⟩ = false := fun Z => (hF4 Z).frozen 12
  have z13 : ∀ Z : Array Value, ((w4.alloc (.cells Z 27)).setRow w4.heap.size c4).frozen? ⟨w4.heap.size, 13, none⟩ = false := fun Z => (hF4 Z).frozen 13
  obtain ⟨c5, hc5⟩ : ∃ c : Array Value, c = (mcells (rM 0 x p) mv4 tv4).toArray := ⟨_, rfl⟩
  rw [← hc5] at HCS
  have hszr : (Tryz.prog.info? 27).map (·.size) = some c5.size := by rw [hc5, mc_size rfl]; exact info27
  have HC5 := Lib.hid hc5
  clear hc5
  have hF5 : ∀ Z : Array Value, Blk ((((w4.alloc (.cells Z 27)).setRow w4.heap.size c4).setCell ⟨w4.heap.size, 12, none⟩ (.int .u64 (x : Int))).setCell ⟨w4.heap.size, 13, none⟩ (.int .u64 (p : Int))) w4.heap.size 27 c5 := fun Z => by
    rw [← HCS.out]; exact ((hF4 Z).set_ 12 _).set_ 13 _
  have HP := Lib.hid hp
  clear hp
  go_upto_region 10 with (refine wpList_store_row rfl 27 (.tmp 14) (.tmp 53) rfl w4.heap.size c4 rfl rfl 27 _ (by exact heap_alloc_new w4 _) hsz4 (by rw [HS4.out]; rfl) hall4 ?_)
  go_upto_region 12 with fail
  go_wp2_with (refine wpList_load_row rfl 27 (.tmp 14) rfl w4.heap.size rfl 27 c5 (0, 0) _ (hF5 _) Tryz.underlying27 rfl hszr ?_)
  have hk5 : ∀ o, Below w4.heap.size w4 ((((w4.alloc o).setRow w4.heap.size c4).setCell ⟨w4.heap.size, 12, none⟩ (.int .u64 (x : Int))).setCell ⟨w4.heap.size, 13, none⟩ (.int .u64 (p : Int))) := fun o =>
    ((below_setRow ((Below.refl w4.heap.size w4).alloc (Nat.le_refl _) _) (Nat.le_refl _) c4).setCell (p := ⟨w4.heap.size, 12, none⟩) (Nat.le_refl _) _).setCell (p := ⟨w4.heap.size, 13, none⟩) (Nat.le_refl _) _
  have hM5 : ∀ W, Below w4.heap.size w4 W → MachR W (.agg c5) (rM 0 x p) := fun W hb => ⟨rfl, mv4, tv4, by rw [HC5.out], HM4.out.1.keep hb, HM4.out.2.keep hb⟩
  refine (HR.out _ _ (HB4.out.trans ((hk5 _).mono (HB4.out.size))) (hM5 _ (hk5 _))).mono ?_
  intro e w6 hp6
  obtain ⟨hb6, v6, rfl, ho6⟩ := hp6
  have HB6 := Lib.hid (HB4.out.trans (((hk5 _).trans (hb6.mono (by simp))).mono (HB4.out.size)))
  have hb46 := (hk5 _).trans (hb6.mono (by simp))
  have D6 : Blk w6 w4.heap.size 27 c5 := (hF5 _).below hb6 (by simp)
  obtain ⟨c5', A5, q5, B5, p5, he, -, -, e34, -, HMm, -⟩ := mach_open2 (hM5 w6 hb46)
  injection he with he
  subst he
  obtain ⟨c6, A6, q6, B6, p6, rfl, hs6, hall6, d34, d35, HMx, HTx⟩ := mach_open2 ho6.reads
  have l5 : (rM 0 (x : Int) p).mem.length = 60 := memM_len 0
  have l6 : (rM3 0 (x : Int) p ((x % 256 : Nat) : Int)).mem.length = 60 := by show (memSet (memM 0) p (x : Int) (manyM 0)).length = 60; rw [memSet_len]; exact memM_len 0
  rw [l5] at e34 HMm
  rw [l6] at d34 HMx
  have d35' : c6[35]? = some (.slice B6 1 p6) := d35
  have HTx' : Hid (RdS w6 (.slice B6 1 p6) ([((x % 256 : Nat) : Int)].map (.int .u64))) := HTx
  have HMx' : Hid (RdS w6 (.slice A6 60 q6) ((memSet (memM 0) p (x : Int) 1).map (.int .u8))) := HMx
  have HMm' : Hid (RdS w6 (.slice A5 60 q5) ((memM 0).map (.int .u8))) := HMm
  have hsz6 : (Tryz.prog.info? 27).map (·.size) = some c6.size := by rw [hs6.out]; exact info27
  have lt6 : w4.heap.size < w6.heap.size := by have := hb6.size; simp at this; omega
  clear d35 HTx HMx HMm l5 l6 hM5 hk5 hF5 HM4 HC5 hF4 f12 f13 z12 z13 hb46 hb6 ho6 HCS
  have hF6 : ∀ Z : Array Value, Blk ((w6.alloc (.cells Z 27)).setRow w6.heap.size c6) w6.heap.size 27 c6 := fun Z => setRow_heap _ _ Z _ 27 (0, 0) (heap_alloc_new w6 _)
  have hG6 : ∀ o, Blk ((w6.alloc o).setRow w6.heap.size c6) w4.heap.size 27 c5 := fun o => (setRow_other _ _ _ _ (by omega)).trans ((Below.heap_alloc w6 o _ lt6).trans D6)
  have hk6 : ∀ o, Below w6.heap.size w6 ((w6.alloc o).setRow w6.heap.size c6) := fun o => below_setRow ((Below.refl w6.heap.size w6).alloc (Nat.le_refl _) _) (Nat.le_refl _) c6
  have f34 : ∀ Z : Array Value, ((w6.alloc (.cells Z 27)).setRow w6.heap.size c6).cell? ⟨w6.heap.size, 34, none⟩ = some (.slice A6 60 q6) := fun Z => ((hF6 Z).cell 34).trans d34
  have f35 : ∀ Z : Array Value, ((w6.alloc (.cells Z 27)).setRow w6.heap.size c6).cell? ⟨w6.heap.size, 35, none⟩ = some (.slice B6 1 p6) := fun Z => ((hF6 Z).cell 35).trans d35'
  go_upto_region 13 with (refine wpList_store_row rfl 27 (.tmp 16) (.tmp 65) rfl w6.heap.size c6 rfl rfl 27 _ (by exact heap_alloc_new w6 _) hsz6 (by rw [hs6.out]; rfl) hall6 ?_)
  go_wp2
  have hpp : p + 1 ≤ 59 := by have := HP.out; omega
  clear H25 H26 H21 HR hszr hsz4 hall4 g12 g13 HS4 ha1 ha2 hpw f34 f35 hs4
  go_loopw [22] (fun i wr => ∃ k : Nat, k ≤ 60 ∧ i = .int .i64 k ∧ Blk wr w4.heap.size 27 c5 ∧ Blk wr w6.heap.size 27 c6 ∧ Hid (Below w6.heap.size w6 wr)) (fun i _ => 60 - (intOf i).toNat)
  case atStart => exact ⟨0, Nat.zero_le _, rfl, hG6 _, hF6 _, Lib.hid (hk6 _)⟩
  case round =>
    obtain ⟨k, hk, rfl, hD, hF, hB⟩ := hrel
    have t34 := (hD.cell 34).trans e34
    have y34 := (hF.cell 34).trans d34
    have y35 := (hF.cell 35).trans d35'
    clear hF6 hG6 hk6
    by_cases hlt : k < 60
    · by_cases hin : p ≤ k ∧ k < p + 1
      · have i1 : ¬ (k : Int) < p := by omega
        have i2 : ¬ ((p : Int) + 1 ≤ k) := by omega
        have d1 : decide ((k : Int) < p) = false := by simpa using i1
        have d2 : decide ((p : Int) + 1 ≤ k) = false := by simpa using i2
        have d3 : decide (k < p) = false := by simp; omega
        have d4 : decide (p + 1 ≤ k) = false := by simp; omega
        have d5 : wrap64 ((p : Int) + 1) = p + 1 := wrap64_small (by omega) (by omega)
        clear hin i1 i2
        go_wp2
        go_quiet (fail)
        go_wp2
        go_roundw
        case rel => exact ⟨k + 1, by omega, by go_num, hD.drewN _, hF.drewN _, Lib.hid ⟨hB.out.os, hB.out.tape, hB.out.output, hB.out.size, hB.out.block⟩⟩
        case measure => simp [intOf]; omega
      · obtain ⟨ad1, rfl, hx1⟩ := rd_at (HMx'.out.keep hB.out) (k := k) (by rw [memSet_len, memM_len]; exact hlt)
        obtain ⟨ad2, rfl, hx2⟩ := rd_at (HMm'.out.keep hB.out) (k := k) (by rw [memM_len]; exact hlt)
        have he : (memSet (memM 0) p (x : Int) 1).getD k 0 = (memM 0).getD k 0 := memSet_low _ _ _ _ _ (by omega)
        rw [he] at hx1
        generalize (memM 0).getD k 0 = z at hx1 hx2
        clear he
        by_cases i1 : (k : Int) < p
        · clear hin
          go_wp2
          go_quiet (fail)
          go_wp2
          go_roundw
          case rel => exact ⟨k + 1, by omega, by go_num, hD.drewN _, hF.drewN _, Lib.hid ⟨hB.out.os, hB.out.tape, hB.out.output, hB.out.size, hB.out.block⟩⟩
          case measure => simp [intOf]; omega
        · have i2 : (p : Int) + 1 ≤ k := by omega
          have d1 : decide ((k : Int) < p) = false := by simpa using i1
          have d2 : decide ((p : Int) + 1 ≤ k) = true := by simpa using i2
          have d3 : decide (k < p) = false := by simp; omega
          have d4 : decide (p + 1 ≤ k) = true := by simp; omega
          have d5 : wrap64 ((p : Int) + 1) = p + 1 := wrap64_small (by omega) (by omega)
          clear hin i1 i2
          go_wp2
          go_quiet (fail)
          go_wp2
          go_roundw
          case rel => exact ⟨k + 1, by omega, by go_num, hD.drewN _, hF.drewN _, Lib.hid ⟨hB.out.os, hB.out.tape, hB.out.output, hB.out.size, hB.out.block⟩⟩
          case measure => simp [intOf]; omega
    · obtain rfl : k = 60 := by omega
      obtain ⟨ad3, rfl, hx3⟩ := rd_at (HTx'.out.keep hB.out) (k := 0) (by show 0 < 1; decide)
      have hx3' : wr.cell? (ad3.add 0) = some (.int .u64 ((x : Int) % 256)) := by rw [hx3]; simp
      have hx4 : wr.cell? ad3 = some (.int .u64 ((x : Int) % 256)) := by rw [← hx3']; simp [Addr.add]
      clear hx3
      go_wp2
      go_ret
      exact ⟨rfl, HB6.out.trans (hB.out.mono (HB6.out.size))⟩
set_option maxRecDepth 100000 in
set_option maxHeartbeats 4000000 in
theorem mem_c1 (a x s : Nat) (w : World) (hL : LG w) (h13 : 13 ≤ w.heap.size) (ha : a < 256) (hx : x < 18446744073709551616) (_hs : s < 256) (hs4 : (s : Int).tmod 4 = 1) :
    Calls Tryz.prog 7 #[.int .u8 a, .int .u64 x, .int .u8 s] w (GoodPost w) := by
  obtain ⟨p, hp⟩ : ∃ p : Nat, p = 12 + a % 40 := ⟨_, rfl⟩
  have ha1 : wrap64 (a : Int) = a := wrap64_small (by omega) (by omega)
  have ha2 : (a : Int).tmod 40 = ((a % 40 : Nat) : Int) := by rw [Int.tmod_eq_emod_of_nonneg (by omega)]; omega
  have hpw : IntKind.u64.wrap (p : Int) = p := by rw [IntKind.wrap_u64]; omega
  have H25 : Hid (∀ W, Below w.heap.size w W → Calls Tryz.prog 25 #[] W (GoodPost W)) := Lib.hid fun W hb => ret25 W (laidG_below hL (hb.mono h13))
  have H26 : Hid (∀ W S, S = ⟨((textM 1).map UInt8.ofNat).toArray⟩ → Below w.heap.size w W → Calls Tryz.prog 26 #[.string S] W (CodePost W (memM 1))) := Lib.hid fun W S hS hb => by rw [hS]; exact code_c 1 (by omega) W (laidG_below hL (hb.mono h13))
  have H21 : Hid (∀ W mv, RdS W mv ((memM 1).map (.int .u8)) → Calls Tryz.prog 21 #[.int .u64 0, mv, .int .u64 0] W (NewPost W (rnN 0 0 (memM 1)))) := Lib.hid fun W mv hm => new_in 0 0 mv (memM 1) W hm (by decide) (by rw [memM_len]; decide)
  obtain ⟨bb, hrun⟩ := runM_eq 1 (by omega) x p (by omega) (by show p + 2 ≤ 60; omega)
  have hy : ((x % 2 ^ (8 * manyM 1) : Nat) : Int) = ((x % 65536 : Nat) : Int) := rfl
  rw [hy] at hrun
  have HR : Hid (∀ W v', Below w.heap.size w W → MachR W v' (rM 1 x p) → Calls Tryz.prog 23 #[v', .int .i64 3] W (RunAll W (rM3 1 x p ((x % 65536 : Nat) : Int), 3, bb, 0))) := Lib.hid fun W v' hb hm => by
    have := run_all v' (rM 1 x p) 3 W hm (by show (0 : Int) ≤ 0; decide) (by
      intro z hz
      unfold rM regsM at hz
      rcases List.mem_or_eq_of_mem_set hz with hz | rfl
      · rcases List.mem_or_eq_of_mem_set hz with hz | rfl
        · rw [(List.mem_replicate.1 hz).2]; exact ⟨Int.le_refl _, by decide⟩
        · unfold B64; omega
      · unfold B64; omega) (laidG_below hL (hb.mono h13)) (Nat.le_trans h13 hb.size) (by decide)
    rw [hrun] at this
    exact this
  clear hL h13 hrun hy
  go_enter Tryz.func7, Tryz.ntmps7
  go_wp2_with fail
  refine (H25.out _ (Below.refl _ _)).mono ?_
  intro e w1 hp1
  obtain ⟨rfl, hb1⟩ := hp1
  go_wp2_with fail
  refine (H26.out _ _ (by kernel_rfl) (hb1.alloc hb1.size _)).mono ?_
  intro e w2 hp2
  obtain ⟨hb2, A2, n2, q2, rfl, happ⟩ := hp2
  obtain ⟨mv3, w3, hrun, hrd, hb3⟩ := happ w2 (Below.refl _ _)
  have HB3 : Hid (Below w.heap.size w w3) := Lib.hid ((hb1.alloc hb1.size _).trans (hb3.mono (by have := hb1.size; simp; omega)))
  have HRD := Lib.hid hrd
  clear happ hrd hb2 hb3 hb1
  go_wp2_with (at_builtin; refine Lib.wpList_append_run _ rfl _ _ _ _ rfl _ _ rfl rfl _ _ (hrun _) ?_)
  rw [show (12 + (a : Int) % 40) = (p : Int) from by omega]
  refine (H21.out _ _ HRD.out).mono ?_
  intro e w4 hp4
  obtain ⟨v4, rfl, ho4, hb4⟩ := hp4
  obtain ⟨mv4, tv4, rfl, hm4, ht4⟩ := ho4.form
  have hl4 : (rnN 0 0 (memM 1)).regs.length = 32 := rfl
  have g12 : (mcells (rnN 0 0 (memM 1)) mv4 tv4).toArray[12]? = some (.int .u64 0) := mcR hl4 11 (by omega)
  have g13 : (mcells (rnN 0 0 (memM 1)) mv4 tv4).toArray[13]? = some (.int .u64 0) := mcR hl4 12 (by omega)
  have hcs : ((mcells (rnN 0 0 (memM 1)) mv4 tv4).toArray.setIfInBounds 12 (.int .u64 (x : Int))).setIfInBounds 13 (.int .u64 (p : Int)) = (mcells (rM 1 x p) mv4 tv4).toArray := msR11 hl4 _ _
  have hs4 : (mcells (rnN 0 0 (memM 1)) mv4 tv4).toArray.size = 37 := mc_size hl4
  have hall4 : (mcells (rnN 0 0 (memM 1)) mv4 tv4).toArray.all (·.oneCell') = true := mc_one (rds_one (RdS.of_own hm4)) (rds_one (RdS.of_own ht4))
  have hsz4 : (Tryz.prog.info? 27).map (·.size) = some (mcells (rnN 0 0 (memM 1)) mv4 tv4).toArray.size := by rw [hs4]; exact info27
  have HCS := Lib.hid hcs
  have HS4 := Lib.hid hs4
  have HM4 := Lib.hid (And.intro (RdS.of_own hm4) (RdS.of_own ht4))
  have HB4 := Lib.hid (HB3.out.trans (hb4.mono (HB3.out.size)))
  clear hcs hs4 hm4 ht4 ho4 hb4 HB3 HRD hrun hl4
  generalize (mcells (rnN 0 0 (memM 1)) mv4 tv4).toArray = c4 at *
  have hF4 : ∀ Z : Array Value, Blk ((w4.alloc (.cells Z 27)).setRow w4.heap.size c4) w4.heap.size 27 c4 := fun Z => setRow_heap _ _ Z _ 27 (0, 0) (heap_alloc_new w4 _)
  have f12 : ∀ Z : Array Value, ((w4.alloc (.cells Z 27)).setRow w4.heap.size c4).cell? ⟨w4.heap.size, 12, none⟩ = some (.int .u64 0) := fun Z => ((hF4 Z).cell 12).trans g12
  have f13 : ∀ Z : Array Value, ((w4.alloc (.cells Z 27)).setRow w4.heap.size c4).cell? ⟨w4.heap.size, 13, none⟩ = some (.int .u64 0) := fun Z => ((hF4 Z).cell 13).trans g13
  have z12 : ∀ Z : Array Value, ((w4.alloc (.cells Z 27)).setRow w4.heap.size c4).frozen? ⟨w4.heap.size, 12, none⟩ = false := fun Z => (hF4 Z).frozen 12
  have z13 : ∀ Z : Array Value, ((w4.alloc (.cells Z 27)).setRow w4.heap.size c4).frozen? ⟨w4.heap.size, 13, none⟩ = false := fun Z => (hF4 Z).frozen 13
  obtain ⟨c5, hc5⟩ : ∃ c : Array Value, c = (mcells (rM 1 x p) mv4 tv4).toArray := ⟨_, rfl⟩
  rw [← hc5] at HCS
  have hszr : (Tryz.prog.info? 27).map (·.size) = some c5.size := by rw [hc5, mc_size rfl]; exact info27
  have HC5 := Lib.hid hc5
  clear hc5
  have hF5 : ∀ Z : Array Value, Blk ((((w4.alloc (.cells Z 27)).setRow w4.heap.size c4).setCell ⟨w4.heap.size, 12, none⟩ (.int .u64 (x : Int))).setCell ⟨w4.heap.size, 13, none⟩ (.int .u64 (p : Int))) w4.heap.size 27 c5 := fun Z => by
    rw [← HCS.out]; exact ((hF4 Z).set_ 12 _).set_ 13 _
  have HP := Lib.hid hp
  clear hp
  go_upto_region 10 with (refine wpList_store_row rfl 27 (.tmp 14) (.tmp 53) rfl w4.heap.size c4 rfl rfl 27 _ (by exact heap_alloc_new w4 _) hsz4 (by rw [HS4.out]; rfl) hall4 ?_)
  go_upto_region 12 with fail
  go_wp2_with (refine wpList_load_row rfl 27 (.tmp 14) rfl w4.heap.size rfl 27 c5 (0, 0) _ (hF5 _) Tryz.underlying27 rfl hszr ?_)
  have hk5 : ∀ o, Below w4.heap.size w4 ((((w4.alloc o).setRow w4.heap.size c4).setCell ⟨w4.heap.size, 12, none⟩ (.int .u64 (x : Int))).setCell ⟨w4.heap.size, 13, none⟩ (.int .u64 (p : Int))) := fun o =>
    ((below_setRow ((Below.refl w4.heap.size w4).alloc (Nat.le_refl _) _) (Nat.le_refl _) c4).setCell (p := ⟨w4.heap.size, 12, none⟩) (Nat.le_refl _) _).setCell (p := ⟨w4.heap.size, 13, none⟩) (Nat.le_refl _) _
  have hM5 : ∀ W, Below w4.heap.size w4 W → MachR W (.agg c5) (rM 1 x p) := fun W hb => ⟨rfl, mv4, tv4, by rw [HC5.out], HM4.out.1.keep hb, HM4.out.2.keep hb⟩
  refine (HR.out _ _ (HB4.out.trans ((hk5 _).mono (HB4.out.size))) (hM5 _ (hk5 _))).mono ?_
  intro e w6 hp6
  obtain ⟨hb6, v6, rfl, ho6⟩ := hp6
  have HB6 := Lib.hid (HB4.out.trans (((hk5 _).trans (hb6.mono (by simp))).mono (HB4.out.size)))
  have hb46 := (hk5 _).trans (hb6.mono (by simp))
  have D6 : Blk w6 w4.heap.size 27 c5 := (hF5 _).below hb6 (by simp)
  obtain ⟨c5', A5, q5, B5, p5, he, -, -, e34, -, HMm, -⟩ := mach_open2 (hM5 w6 hb46)
  injection he with he
  subst he
  obtain ⟨c6, A6, q6, B6, p6, rfl, hs6, hall6, d34, d35, HMx, HTx⟩ := mach_open2 ho6.reads
  have l5 : (rM 1 (x : Int) p).mem.length = 60 := memM_len 1
  have l6 : (rM3 1 (x : Int) p ((x % 65536 : Nat) : Int)).mem.length = 60 := by show (memSet (memM 1) p (x : Int) (manyM 1)).length = 60; rw [memSet_len]; exact memM_len 1
  rw [l5] at e34 HMm
  rw [l6] at d34 HMx
  have d35' : c6[35]? = some (.slice B6 1 p6) := d35
  have HTx' : Hid (RdS w6 (.slice B6 1 p6) ([((x % 65536 : Nat) : Int)].map (.int .u64))) := HTx
  have HMx' : Hid (RdS w6 (.slice A6 60 q6) ((memSet (memM 1) p (x : Int) 2).map (.int .u8))) := HMx
  have HMm' : Hid (RdS w6 (.slice A5 60 q5) ((memM 1).map (.int .u8))) := HMm
  have hsz6 : (Tryz.prog.info? 27).map (·.size) = some c6.size := by rw [hs6.out]; exact info27
  have lt6 : w4.heap.size < w6.heap.size := by have := hb6.size; simp at this; omega
  clear d35 HTx HMx HMm l5 l6 hM5 hk5 hF5 HM4 HC5 hF4 f12 f13 z12 z13 hb46 hb6 ho6 HCS
  have hF6 : ∀ Z : Array Value, Blk ((w6.alloc (.cells Z 27)).setRow w6.heap.size c6) w6.heap.size 27 c6 := fun Z => setRow_heap _ _ Z _ 27 (0, 0) (heap_alloc_new w6 _)
  have hG6 : ∀ o, Blk ((w6.alloc o).setRow w6.heap.size c6) w4.heap.size 27 c5 := fun o => (setRow_other _ _ _ _ (by omega)).trans ((Below.heap_alloc w6 o _ lt6).trans D6)
  have hk6 : ∀ o, Below w6.heap.size w6 ((w6.alloc o).setRow w6.heap.size c6) := fun o => below_setRow ((Below.refl w6.heap.size w6).alloc (Nat.le_refl _) _) (Nat.le_refl _) c6
  have f34 : ∀ Z : Array Value, ((w6.alloc (.cells Z 27)).setRow w6.heap.size c6).cell? ⟨w6.heap.size, 34, none⟩ = some (.slice A6 60 q6) := fun Z => ((hF6 Z).cell 34).trans d34
  have f35 : ∀ Z : Array Value, ((w6.alloc (.cells Z 27)).setRow w6.heap.size c6).cell? ⟨w6.heap.size, 35, none⟩ = some (.slice B6 1 p6) := fun Z => ((hF6 Z).cell 35).trans d35'
  go_upto_region 13 with (refine wpList_store_row rfl 27 (.tmp 16) (.tmp 65) rfl w6.heap.size c6 rfl rfl 27 _ (by exact heap_alloc_new w6 _) hsz6 (by rw [hs6.out]; rfl) hall6 ?_)
  go_wp2
  have hpp : p + 2 ≤ 59 := by have := HP.out; omega
  clear H25 H26 H21 HR hszr hsz4 hall4 g12 g13 HS4 ha1 ha2 hpw f34 f35 hs4
  go_loopw [22] (fun i wr => ∃ k : Nat, k ≤ 60 ∧ i = .int .i64 k ∧ Blk wr w4.heap.size 27 c5 ∧ Blk wr w6.heap.size 27 c6 ∧ Hid (Below w6.heap.size w6 wr)) (fun i _ => 60 - (intOf i).toNat)
  case atStart => exact ⟨0, Nat.zero_le _, rfl, hG6 _, hF6 _, Lib.hid (hk6 _)⟩
  case round =>
    obtain ⟨k, hk, rfl, hD, hF, hB⟩ := hrel
    have t34 := (hD.cell 34).trans e34
    have y34 := (hF.cell 34).trans d34
    have y35 := (hF.cell 35).trans d35'
    clear hF6 hG6 hk6
    by_cases hlt : k < 60
    · by_cases hin : p ≤ k ∧ k < p + 2
      · have i1 : ¬ (k : Int) < p := by omega
        have i2 : ¬ ((p : Int) + 2 ≤ k) := by omega
        have d1 : decide ((k : Int) < p) = false := by simpa using i1
        have d2 : decide ((p : Int) + 2 ≤ k) = false := by simpa using i2
        have d3 : decide (k < p) = false := by simp; omega
        have d4 : decide (p + 2 ≤ k) = false := by simp; omega
        have d5 : wrap64 ((p : Int) + 2) = p + 2 := wrap64_small (by omega) (by omega)
        clear hin i1 i2
        go_wp2
        go_quiet (fail)
        go_wp2
        go_roundw
        case rel => exact ⟨k + 1, by omega, by go_num, hD.drewN _, hF.drewN _, Lib.hid ⟨hB.out.os, hB.out.tape, hB.out.output, hB.out.size, hB.out.block⟩⟩
        case measure => simp [intOf]; omega
      · obtain ⟨ad1, rfl, hx1⟩ := rd_at (HMx'.out.keep hB.out) (k := k) (by rw [memSet_len, memM_len]; exact hlt)
        obtain ⟨ad2, rfl, hx2⟩ := rd_at (HMm'.out.keep hB.out) (k := k) (by rw [memM_len]; exact hlt)
        have he : (memSet (memM 1) p (x : Int) 2).getD k 0 = (memM 1).getD k 0 := memSet_low _ _ _ _ _ (by omega)
        rw [he] at hx1
        generalize (memM 1).getD k 0 = z at hx1 hx2
        clear he
        by_cases i1 : (k : Int) < p
        · clear hin
          go_wp2
          go_quiet (fail)
          go_wp2
          go_roundw
          case rel => exact ⟨k + 1, by omega, by go_num, hD.drewN _, hF.drewN _, Lib.hid ⟨hB.out.os, hB.out.tape, hB.out.output, hB.out.size, hB.out.block⟩⟩
          case measure => simp [intOf]; omega
        · have i2 : (p : Int) + 2 ≤ k := by omega
          have d1 : decide ((k : Int) < p) = false := by simpa using i1
          have d2 : decide ((p : Int) + 2 ≤ k) = true := by simpa using i2
          have d3 : decide (k < p) = false := by simp; omega
          have d4 : decide (p + 2 ≤ k) = true := by simp; omega
          have d5 : wrap64 ((p : Int) + 2) = p + 2 := wrap64_small (by omega) (by omega)
          clear hin i1 i2
          go_wp2
          go_quiet (fail)
          go_wp2
          go_roundw
          case rel => exact ⟨k + 1, by omega, by go_num, hD.drewN _, hF.drewN _, Lib.hid ⟨hB.out.os, hB.out.tape, hB.out.output, hB.out.size, hB.out.block⟩⟩
          case measure => simp [intOf]; omega
    · obtain rfl : k = 60 := by omega
      obtain ⟨ad3, rfl, hx3⟩ := rd_at (HTx'.out.keep hB.out) (k := 0) (by show 0 < 1; decide)
      have hx3' : wr.cell? (ad3.add 0) = some (.int .u64 ((x : Int) % 65536)) := by rw [hx3]; simp
      have hx4 : wr.cell? ad3 = some (.int .u64 ((x : Int) % 65536)) := by rw [← hx3']; simp [Addr.add]
      clear hx3
      go_wp2
      go_ret
      exact ⟨rfl, HB6.out.trans (hB.out.mono (HB6.out.size))⟩
set_option maxRecDepth 100000 in
set_option maxHeartbeats 4000000 in
theorem mem_c2 (a x s : Nat) (w : World) (hL : LG w) (h13 : 13 ≤ w.heap.size) (ha : a < 256) (hx : x < 18446744073709551616) (_hs : s < 256) (hs4 : (s : Int).tmod 4 = 2) :
    Calls Tryz.prog 7 #[.int .u8 a, .int .u64 x, .int .u8 s] w (GoodPost w) := by
  obtain ⟨p, hp⟩ : ∃ p : Nat, p = 12 + a % 40 := ⟨_, rfl⟩
  have ha1 : wrap64 (a : Int) = a := wrap64_small (by omega) (by omega)
  have ha2 : (a : Int).tmod 40 = ((a % 40 : Nat) : Int) := by rw [Int.tmod_eq_emod_of_nonneg (by omega)]; omega
  have hpw : IntKind.u64.wrap (p : Int) = p := by rw [IntKind.wrap_u64]; omega
  have H25 : Hid (∀ W, Below w.heap.size w W → Calls Tryz.prog 25 #[] W (GoodPost W)) := Lib.hid fun W hb => ret25 W (laidG_below hL (hb.mono h13))
  have H26 : Hid (∀ W S, S = ⟨((textM 2).map UInt8.ofNat).toArray⟩ → Below w.heap.size w W → Calls Tryz.prog 26 #[.string S] W (CodePost W (memM 2))) := Lib.hid fun W S hS hb => by rw [hS]; exact code_c 2 (by omega) W (laidG_below hL (hb.mono h13))
  have H21 : Hid (∀ W mv, RdS W mv ((memM 2).map (.int .u8)) → Calls Tryz.prog 21 #[.int .u64 0, mv, .int .u64 0] W (NewPost W (rnN 0 0 (memM 2)))) := Lib.hid fun W mv hm => new_in 0 0 mv (memM 2) W hm (by decide) (by rw [memM_len]; decide)
  obtain ⟨bb, hrun⟩ := runM_eq 2 (by omega) x p (by omega) (by show p + 4 ≤ 60; omega)
  have hy : ((x % 2 ^ (8 * manyM 2) : Nat) : Int) = ((x % 4294967296 : Nat) : Int) := rfl
  rw [hy] at hrun
  have HR : Hid (∀ W v', Below w.heap.size w W → MachR W v' (rM 2 x p) → Calls Tryz.prog 23 #[v', .int .i64 3] W (RunAll W (rM3 2 x p ((x % 4294967296 : Nat) : Int), 3, bb, 0))) := Lib.hid fun W v' hb hm => by
    have := run_all v' (rM 2 x p) 3 W hm (by show (0 : Int) ≤ 0; decide) (by
      intro z hz
      unfold rM regsM at hz
      rcases List.mem_or_eq_of_mem_set hz with hz | rfl
      · rcases List.mem_or_eq_of_mem_set hz with hz | rfl
        · rw [(List.mem_replicate.1 hz).2]; exact ⟨Int.le_refl _, by decide⟩
        · unfold B64; omega
      · unfold B64; omega) (laidG_below hL (hb.mono h13)) (Nat.le_trans h13 hb.size) (by decide)
    rw [hrun] at this
    exact this
  clear hL h13 hrun hy
  go_enter Tryz.func7, Tryz.ntmps7
  go_wp2_with fail
  refine (H25.out _ (Below.refl _ _)).mono ?_
  intro e w1 hp1
  obtain ⟨rfl, hb1⟩ := hp1
  go_wp2_with fail
  refine (H26.out _ _ (by kernel_rfl) (hb1.alloc hb1.size _)).mono ?_
  intro e w2 hp2
  obtain ⟨hb2, A2, n2, q2, rfl, happ⟩ := hp2
  obtain ⟨mv3, w3, hrun, hrd, hb3⟩ := happ w2 (Below.refl _ _)
  have HB3 : Hid (Below w.heap.size w w3) := Lib.hid ((hb1.alloc hb1.size _).trans (hb3.mono (by have := hb1.size; simp; omega)))
  have HRD := Lib.hid hrd
  clear happ hrd hb2 hb3 hb1
  go_wp2_with (at_builtin; refine Lib.wpList_append_run _ rfl _ _ _ _ rfl _ _ rfl rfl _ _ (hrun _) ?_)
  rw [show (12 + (a : Int) % 40) = (p : Int) from by omega]
  refine (H21.out _ _ HRD.out).mono ?_
  intro e w4 hp4
  obtain ⟨v4, rfl, ho4, hb4⟩ := hp4
  obtain ⟨mv4, tv4, rfl, hm4, ht4⟩ := ho4.form
  have hl4 : (rnN 0 0 (memM 2)).regs.length = 32 := rfl
  have g12 : (mcells (rnN 0 0 (memM 2)) mv4 tv4).toArray[12]? = some (.int .u64 0) := mcR hl4 11 (by omega)
  have g13 : (mcells (rnN 0 0 (memM 2)) mv4 tv4).toArray[13]? = some (.int .u64 0) := mcR hl4 12 (by omega)
  have hcs : ((mcells (rnN 0 0 (memM 2)) mv4 tv4).toArray.setIfInBounds 12 (.int .u64 (x : Int))).setIfInBounds 13 (.int .u64 (p : Int)) = (mcells (rM 2 x p) mv4 tv4).toArray := msR11 hl4 _ _
  have hs4 : (mcells (rnN 0 0 (memM 2)) mv4 tv4).toArray.size = 37 := mc_size hl4
  have hall4 : (mcells (rnN 0 0 (memM 2)) mv4 tv4).toArray.all (·.oneCell') = true := mc_one (rds_one (RdS.of_own hm4)) (rds_one (RdS.of_own ht4))
  have hsz4 : (Tryz.prog.info? 27).map (·.size) = some (mcells (rnN 0 0 (memM 2)) mv4 tv4).toArray.size := by rw [hs4]; exact info27
  have HCS := Lib.hid hcs
  have HS4 := Lib.hid hs4
  have HM4 := Lib.hid (And.intro (RdS.of_own hm4) (RdS.of_own ht4))
  have HB4 := Lib.hid (HB3.out.trans (hb4.mono (HB3.out.size)))
  clear hcs hs4 hm4 ht4 ho4 hb4 HB3 HRD hrun hl4
  generalize (mcells (rnN 0 0 (memM 2)) mv4 tv4).toArray = c4 at *
  have hF4 : ∀ Z : Array Value, Blk ((w4.alloc (.cells Z 27)).setRow w4.heap.size c4) w4.heap.size 27 c4 := fun Z => setRow_heap _ _ Z _ 27 (0, 0) (heap_alloc_new w4 _)
  have f12 : ∀ Z : Array Value, ((w4.alloc (.cells Z 27)).setRow w4.heap.size c4).cell? ⟨w4.heap.size, 12, none⟩ = some (.int .u64 0) := fun Z => ((hF4 Z).cell 12).trans g12
  have f13 : ∀ Z : Array Value, ((w4.alloc (.cells Z 27)).setRow w4.heap.size c4).cell? ⟨w4.heap.size, 13, none⟩ = some (.int .u64 0) := fun Z => ((hF4 Z).cell 13).trans g13
  have z12 : ∀ Z : Array Value, ((w4.alloc (.cells Z 27)).setRow w4.heap.size c4).frozen? ⟨w4.heap.size, 12, none⟩ = false := fun Z => (hF4 Z).frozen 12
  have z13 : ∀ Z : Array Value, ((w4.alloc (.cells Z 27)).setRow w4.heap.size c4).frozen? ⟨w4.heap.size, 13, none⟩ = false := fun Z => (hF4 Z).frozen 13
  obtain ⟨c5, hc5⟩ : ∃ c : Array Value, c = (mcells (rM 2 x p) mv4 tv4).toArray := ⟨_, rfl⟩
  rw [← hc5] at HCS
  have hszr : (Tryz.prog.info? 27).map (·.size) = some c5.size := by rw [hc5, mc_size rfl]; exact info27
  have HC5 := Lib.hid hc5
  clear hc5
  have hF5 : ∀ Z : Array Value, Blk ((((w4.alloc (.cells Z 27)).setRow w4.heap.size c4).setCell ⟨w4.heap.size, 12, none⟩ (.int .u64 (x : Int))).setCell ⟨w4.heap.size, 13, none⟩ (.int .u64 (p : Int))) w4.heap.size 27 c5 := fun Z => by
    rw [← HCS.out]; exact ((hF4 Z).set_ 12 _).set_ 13 _
  have HP := Lib.hid hp
  clear hp
  go_upto_region 10 with (refine wpList_store_row rfl 27 (.tmp 14) (.tmp 53) rfl w4.heap.size c4 rfl rfl 27 _ (by exact heap_alloc_new w4 _) hsz4 (by rw [HS4.out]; rfl) hall4 ?_)
  go_upto_region 12 with fail
  go_wp2_with (refine wpList_load_row rfl 27 (.tmp 14) rfl w4.heap.size rfl 27 c5 (0, 0) _ (hF5 _) Tryz.underlying27 rfl hszr ?_)
  have hk5 : ∀ o, Below w4.heap.size w4 ((((w4.alloc o).setRow w4.heap.size c4).setCell ⟨w4.heap.size, 12, none⟩ (.int .u64 (x : Int))).setCell ⟨w4.heap.size, 13, none⟩ (.int .u64 (p : Int))) := fun o =>
    ((below_setRow ((Below.refl w4.heap.size w4).alloc (Nat.le_refl _) _) (Nat.le_refl _) c4).setCell (p := ⟨w4.heap.size, 12, none⟩) (Nat.le_refl _) _).setCell (p := ⟨w4.heap.size, 13, none⟩) (Nat.le_refl _) _
  have hM5 : ∀ W, Below w4.heap.size w4 W → MachR W (.agg c5) (rM 2 x p) := fun W hb => ⟨rfl, mv4, tv4, by rw [HC5.out], HM4.out.1.keep hb, HM4.out.2.keep hb⟩
  refine (HR.out _ _ (HB4.out.trans ((hk5 _).mono (HB4.out.size))) (hM5 _ (hk5 _))).mono ?_
  intro e w6 hp6
  obtain ⟨hb6, v6, rfl, ho6⟩ := hp6
  have HB6 := Lib.hid (HB4.out.trans (((hk5 _).trans (hb6.mono (by simp))).mono (HB4.out.size)))
  have hb46 := (hk5 _).trans (hb6.mono (by simp))
  have D6 : Blk w6 w4.heap.size 27 c5 := (hF5 _).below hb6 (by simp)
  obtain ⟨c5', A5, q5, B5, p5, he, -, -, e34, -, HMm, -⟩ := mach_open2 (hM5 w6 hb46)
  injection he with he
  subst he
  obtain ⟨c6, A6, q6, B6, p6, rfl, hs6, hall6, d34, d35, HMx, HTx⟩ := mach_open2 ho6.reads
  have l5 : (rM 2 (x : Int) p).mem.length = 60 := memM_len 2
  have l6 : (rM3 2 (x : Int) p ((x % 4294967296 : Nat) : Int)).mem.length = 60 := by show (memSet (memM 2) p (x : Int) (manyM 2)).length = 60; rw [memSet_len]; exact memM_len 2
  rw [l5] at e34 HMm
  rw [l6] at d34 HMx
  have d35' : c6[35]? = some (.slice B6 1 p6) := d35
  have HTx' : Hid (RdS w6 (.slice B6 1 p6) ([((x % 4294967296 : Nat) : Int)].map (.int .u64))) := HTx
  have HMx' : Hid (RdS w6 (.slice A6 60 q6) ((memSet (memM 2) p (x : Int) 4).map (.int .u8))) := HMx
  have HMm' : Hid (RdS w6 (.slice A5 60 q5) ((memM 2).map (.int .u8))) := HMm
  have hsz6 : (Tryz.prog.info? 27).map (·.size) = some c6.size := by rw [hs6.out]; exact info27
  have lt6 : w4.heap.size < w6.heap.size := by have := hb6.size; simp at this; omega
  clear d35 HTx HMx HMm l5 l6 hM5 hk5 hF5 HM4 HC5 hF4 f12 f13 z12 z13 hb46 hb6 ho6 HCS
  have hF6 : ∀ Z : Array Value, Blk ((w6.alloc (.cells Z 27)).setRow w6.heap.size c6) w6.heap.size 27 c6 := fun Z => setRow_heap _ _ Z _ 27 (0, 0) (heap_alloc_new w6 _)
  have hG6 : ∀ o, Blk ((w6.alloc o).setRow w6.heap.size c6) w4.heap.size 27 c5 := fun o => (setRow_other _ _ _ _ (by omega)).trans ((Below.heap_alloc w6 o _ lt6).trans D6)
  have hk6 : ∀ o, Below w6.heap.size w6 ((w6.alloc o).setRow w6.heap.size c6) := fun o => below_setRow ((Below.refl w6.heap.size w6).alloc (Nat.le_refl _) _) (Nat.le_refl _) c6
  have f34 : ∀ Z : Array Value, ((w6.alloc (.cells Z 27)).setRow w6.heap.size c6).cell? ⟨w6.heap.size, 34, none⟩ = some (.slice A6 60 q6) := fun Z => ((hF6 Z).cell 34).trans d34
  have f35 : ∀ Z : Array Value, ((w6.alloc (.cells Z 27)).setRow w6.heap.size c6).cell? ⟨w6.heap.size, 35, none⟩ = some (.slice B6 1 p6) := fun Z => ((hF6 Z).cell 35).trans d35'
  go_upto_region 13 with (refine wpList_store_row rfl 27 (.tmp 16) (.tmp 65) rfl w6.heap.size c6 rfl rfl 27 _ (by exact heap_alloc_new w6 _) hsz6 (by rw [hs6.out]; rfl) hall6 ?_)
  go_wp2
  have hpp : p + 4 ≤ 59 := by have := HP.out; omega
  clear H25 H26 H21 HR hszr hsz4 hall4 g12 g13 HS4 ha1 ha2 hpw f34 f35 hs4
  go_loopw [22] (fun i wr => ∃ k : Nat, k ≤ 60 ∧ i = .int .i64 k ∧ Blk wr w4.heap.size 27 c5 ∧ Blk wr w6.heap.size 27 c6 ∧ Hid (Below w6.heap.size w6 wr)) (fun i _ => 60 - (intOf i).toNat)
  case atStart => exact ⟨0, Nat.zero_le _, rfl, hG6 _, hF6 _, Lib.hid (hk6 _)⟩
  case round =>
    obtain ⟨k, hk, rfl, hD, hF, hB⟩ := hrel
    have t34 := (hD.cell 34).trans e34
    have y34 := (hF.cell 34).trans d34
    have y35 := (hF.cell 35).trans d35'
    clear hF6 hG6 hk6
    by_cases hlt : k < 60
    · by_cases hin : p ≤ k ∧ k < p + 4
      · have i1 : ¬ (k : Int) < p := by omega
        have i2 : ¬ ((p : Int) + 4 ≤ k) := by omega
        have d1 : decide ((k : Int) < p) = false := by simpa using i1
        have d2 : decide ((p : Int) + 4 ≤ k) = false := by simpa using i2
        have d3 : decide (k < p) = false := by simp; omega
        have d4 : decide (p + 4 ≤ k) = false := by simp; omega
        have d5 : wrap64 ((p : Int) + 4) = p + 4 := wrap64_small (by omega) (by omega)
        clear hin i1 i2
        go_wp2
        go_quiet (fail)
        go_wp2
        go_roundw
        case rel => exact ⟨k + 1, by omega, by go_num, hD.drewN _, hF.drewN _, Lib.hid ⟨hB.out.os, hB.out.tape, hB.out.output, hB.out.size, hB.out.block⟩⟩
        case measure => simp [intOf]; omega
      · obtain ⟨ad1, rfl, hx1⟩ := rd_at (HMx'.out.keep hB.out) (k := k) (by rw [memSet_len, memM_len]; exact hlt)
        obtain ⟨ad2, rfl, hx2⟩ := rd_at (HMm'.out.keep hB.out) (k := k) (by rw [memM_len]; exact hlt)
        have he : (memSet (memM 2) p (x : Int) 4).getD k 0 = (memM 2).getD k 0 := memSet_low _ _ _ _ _ (by omega)
        rw [he] at hx1
        generalize (memM 2).getD k 0 = z at hx1 hx2
        clear he
        by_cases i1 : (k : Int) < p
        · clear hin
          go_wp2
          go_quiet (fail)
          go_wp2
          go_roundw
          case rel => exact ⟨k + 1, by omega, by go_num, hD.drewN _, hF.drewN _, Lib.hid ⟨hB.out.os, hB.out.tape, hB.out.output, hB.out.size, hB.out.block⟩⟩
          case measure => simp [intOf]; omega
        · have i2 : (p : Int) + 4 ≤ k := by omega
          have d1 : decide ((k : Int) < p) = false := by simpa using i1
          have d2 : decide ((p : Int) + 4 ≤ k) = true := by simpa using i2
          have d3 : decide (k < p) = false := by simp; omega
          have d4 : decide (p + 4 ≤ k) = true := by simp; omega
          have d5 : wrap64 ((p : Int) + 4) = p + 4 := wrap64_small (by omega) (by omega)
          clear hin i1 i2
          go_wp2
          go_quiet (fail)
          go_wp2
          go_roundw
          case rel => exact ⟨k + 1, by omega, by go_num, hD.drewN _, hF.drewN _, Lib.hid ⟨hB.out.os, hB.out.tape, hB.out.output, hB.out.size, hB.out.block⟩⟩
          case measure => simp [intOf]; omega
    · obtain rfl : k = 60 := by omega
      obtain ⟨ad3, rfl, hx3⟩ := rd_at (HTx'.out.keep hB.out) (k := 0) (by show 0 < 1; decide)
      have hx3' : wr.cell? (ad3.add 0) = some (.int .u64 ((x : Int) % 4294967296)) := by rw [hx3]; simp
      have hx4 : wr.cell? ad3 = some (.int .u64 ((x : Int) % 4294967296)) := by rw [← hx3']; simp [Addr.add]
      clear hx3
      go_wp2
      go_ret
      exact ⟨rfl, HB6.out.trans (hB.out.mono (HB6.out.size))⟩
set_option maxRecDepth 100000 in
set_option maxHeartbeats 4000000 in
theorem mem_c3 (a x s : Nat) (w : World) (hL : LG w) (h13 : 13 ≤ w.heap.size) (ha : a < 256) (hx : x < 18446744073709551616) (_hs : s < 256) (hs4 : (s : Int).tmod 4 = 3) :
    Calls Tryz.prog 7 #[.int .u8 a, .int .u64 x, .int .u8 s] w (GoodPost w) := by
  obtain ⟨p, hp⟩ : ∃ p : Nat, p = 12 + a % 40 := ⟨_, rfl⟩
  have ha1 : wrap64 (a : Int) = a := wrap64_small (by omega) (by omega)
  have ha2 : (a : Int).tmod 40 = ((a % 40 : Nat) : Int) := by rw [Int.tmod_eq_emod_of_nonneg (by omega)]; omega
  have hpw : IntKind.u64.wrap (p : Int) = p := by rw [IntKind.wrap_u64]; omega
  have H25 : Hid (∀ W, Below w.heap.size w W → Calls Tryz.prog 25 #[] W (GoodPost W)) := Lib.hid fun W hb => ret25 W (laidG_below hL (hb.mono h13))
  have H26 : Hid (∀ W S, S = ⟨((textM 3).map UInt8.ofNat).toArray⟩ → Below w.heap.size w W → Calls Tryz.prog 26 #[.string S] W (CodePost W (memM 3))) := Lib.hid fun W S hS hb => by rw [hS]; exact code_c 3 (by omega) W (laidG_below hL (hb.mono h13))
  have H21 : Hid (∀ W mv, RdS W mv ((memM 3).map (.int .u8)) → Calls Tryz.prog 21 #[.int .u64 0, mv, .int .u64 0] W (NewPost W (rnN 0 0 (memM 3)))) := Lib.hid fun W mv hm => new_in 0 0 mv (memM 3) W hm (by decide) (by rw [memM_len]; decide)
  obtain ⟨bb, hrun⟩ := runM_eq 3 (by omega) x p (by omega) (by show p + 8 ≤ 60; omega)
  have hy : ((x % 2 ^ (8 * manyM 3) : Nat) : Int) = ((x % 18446744073709551616 : Nat) : Int) := rfl
  rw [hy] at hrun
  have HR : Hid (∀ W v', Below w.heap.size w W → MachR W v' (rM 3 x p) → Calls Tryz.prog 23 #[v', .int .i64 3] W (RunAll W (rM3 3 x p ((x % 18446744073709551616 : Nat) : Int), 3, bb, 0))) := Lib.hid fun W v' hb hm => by
    have := run_all v' (rM 3 x p) 3 W hm (by show (0 : Int) ≤ 0; decide) (by
      intro z hz
      unfold rM regsM at hz
      rcases List.mem_or_eq_of_mem_set hz with hz | rfl
      · rcases List.mem_or_eq_of_mem_set hz with hz | rfl
        · rw [(List.mem_replicate.1 hz).2]; exact ⟨Int.le_refl _, by decide⟩
        · unfold B64; omega
      · unfold B64; omega) (laidG_below hL (hb.mono h13)) (Nat.le_trans h13 hb.size) (by decide)
    rw [hrun] at this
    exact this
  clear hL h13 hrun hy
  go_enter Tryz.func7, Tryz.ntmps7
  go_wp2_with fail
  refine (H25.out _ (Below.refl _ _)).mono ?_
  intro e w1 hp1
  obtain ⟨rfl, hb1⟩ := hp1
  go_wp2_with fail
  refine (H26.out _ _ (by kernel_rfl) (hb1.alloc hb1.size _)).mono ?_
  intro e w2 hp2
  obtain ⟨hb2, A2, n2, q2, rfl, happ⟩ := hp2
  obtain ⟨mv3, w3, hrun, hrd, hb3⟩ := happ w2 (Below.refl _ _)
  have HB3 : Hid (Below w.heap.size w w3) := Lib.hid ((hb1.alloc hb1.size _).trans (hb3.mono (by have := hb1.size; simp; omega)))
  have HRD := Lib.hid hrd
  clear happ hrd hb2 hb3 hb1
  go_wp2_with (at_builtin; refine Lib.wpList_append_run _ rfl _ _ _ _ rfl _ _ rfl rfl _ _ (hrun _) ?_)
  rw [show (12 + (a : Int) % 40) = (p : Int) from by omega]
  refine (H21.out _ _ HRD.out).mono ?_
  intro e w4 hp4
  obtain ⟨v4, rfl, ho4, hb4⟩ := hp4
  obtain ⟨mv4, tv4, rfl, hm4, ht4⟩ := ho4.form
  have hl4 : (rnN 0 0 (memM 3)).regs.length = 32 := rfl
  have g12 : (mcells (rnN 0 0 (memM 3)) mv4 tv4).toArray[12]? = some (.int .u64 0) := mcR hl4 11 (by omega)
  have g13 : (mcells (rnN 0 0 (memM 3)) mv4 tv4).toArray[13]? = some (.int .u64 0) := mcR hl4 12 (by omega)
  have hcs : ((mcells (rnN 0 0 (memM 3)) mv4 tv4).toArray.setIfInBounds 12 (.int .u64 (x : Int))).setIfInBounds 13 (.int .u64 (p : Int)) = (mcells (rM 3 x p) mv4 tv4).toArray := msR11 hl4 _ _
  have hs4 : (mcells (rnN 0 0 (memM 3)) mv4 tv4).toArray.size = 37 := mc_size hl4
  have hall4 : (mcells (rnN 0 0 (memM 3)) mv4 tv4).toArray.all (·.oneCell') = true := mc_one (rds_one (RdS.of_own hm4)) (rds_one (RdS.of_own ht4))
  have hsz4 : (Tryz.prog.info? 27).map (·.size) = some (mcells (rnN 0 0 (memM 3)) mv4 tv4).toArray.size := by rw [hs4]; exact info27
  have HCS := Lib.hid hcs
  have HS4 := Lib.hid hs4
  have HM4 := Lib.hid (And.intro (RdS.of_own hm4) (RdS.of_own ht4))
  have HB4 := Lib.hid (HB3.out.trans (hb4.mono (HB3.out.size)))
  clear hcs hs4 hm4 ht4 ho4 hb4 HB3 HRD hrun hl4
  generalize (mcells (rnN 0 0 (memM 3)) mv4 tv4).toArray = c4 at *
  have hF4 : ∀ Z : Array Value, Blk ((w4.alloc (.cells Z 27)).setRow w4.heap.size c4) w4.heap.size 27 c4 := fun Z => setRow_heap _ _ Z _ 27 (0, 0) (heap_alloc_new w4 _)
  have f12 : ∀ Z : Array Value, ((w4.alloc (.cells Z 27)).setRow w4.heap.size c4).cell? ⟨w4.heap.size, 12, none⟩ = some (.int .u64 0) := fun Z => ((hF4 Z).cell 12).trans g12
  have f13 : ∀ Z : Array Value, ((w4.alloc (.cells Z 27)).setRow w4.heap.size c4).cell? ⟨w4.heap.size, 13, none⟩ = some (.int .u64 0) := fun Z => ((hF4 Z).cell 13).trans g13
  have z12 : ∀ Z : Array Value, ((w4.alloc (.cells Z 27)).setRow w4.heap.size c4).frozen? ⟨w4.heap.size, 12, none⟩ = false := fun Z => (hF4 Z).frozen 12
  have z13 : ∀ Z : Array Value, ((w4.alloc (.cells Z 27)).setRow w4.heap.size c4).frozen? ⟨w4.heap.size, 13, none⟩ = false := fun Z => (hF4 Z).frozen 13
  obtain ⟨c5, hc5⟩ : ∃ c : Array Value, c = (mcells (rM 3 x p) mv4 tv4).toArray := ⟨_, rfl⟩
  rw [← hc5] at HCS
  have hszr : (Tryz.prog.info? 27).map (·.size) = some c5.size := by rw [hc5, mc_size rfl]; exact info27
  have HC5 := Lib.hid hc5
  clear hc5
  have hF5 : ∀ Z : Array Value, Blk ((((w4.alloc (.cells Z 27)).setRow w4.heap.size c4).setCell ⟨w4.heap.size, 12, none⟩ (.int .u64 (x : Int))).setCell ⟨w4.heap.size, 13, none⟩ (.int .u64 (p : Int))) w4.heap.size 27 c5 := fun Z => by
    rw [← HCS.out]; exact ((hF4 Z).set_ 12 _).set_ 13 _
  have HP := Lib.hid hp
  clear hp
  go_upto_region 10 with (refine wpList_store_row rfl 27 (.tmp 14) (.tmp 53) rfl w4.heap.size c4 rfl rfl 27 _ (by exact heap_alloc_new w4 _) hsz4 (by rw [HS4.out]; rfl) hall4 ?_)
  go_upto_region 12 with fail
  go_wp2_with (refine wpList_load_row rfl 27 (.tmp 14) rfl w4.heap.size rfl 27 c5 (0, 0) _ (hF5 _) Tryz.underlying27 rfl hszr ?_)
  have hk5 : ∀ o, Below w4.heap.size w4 ((((w4.alloc o).setRow w4.heap.size c4).setCell ⟨w4.heap.size, 12, none⟩ (.int .u64 (x : Int))).setCell ⟨w4.heap.size, 13, none⟩ (.int .u64 (p : Int))) := fun o =>
    ((below_setRow ((Below.refl w4.heap.size w4).alloc (Nat.le_refl _) _) (Nat.le_refl _) c4).setCell (p := ⟨w4.heap.size, 12, none⟩) (Nat.le_refl _) _).setCell (p := ⟨w4.heap.size, 13, none⟩) (Nat.le_refl _) _
  have hM5 : ∀ W, Below w4.heap.size w4 W → MachR W (.agg c5) (rM 3 x p) := fun W hb => ⟨rfl, mv4, tv4, by rw [HC5.out], HM4.out.1.keep hb, HM4.out.2.keep hb⟩
  refine (HR.out _ _ (HB4.out.trans ((hk5 _).mono (HB4.out.size))) (hM5 _ (hk5 _))).mono ?_
  intro e w6 hp6
  obtain ⟨hb6, v6, rfl, ho6⟩ := hp6
  have HB6 := Lib.hid (HB4.out.trans (((hk5 _).trans (hb6.mono (by simp))).mono (HB4.out.size)))
  have hb46 := (hk5 _).trans (hb6.mono (by simp))
  have D6 : Blk w6 w4.heap.size 27 c5 := (hF5 _).below hb6 (by simp)
  obtain ⟨c5', A5, q5, B5, p5, he, -, -, e34, -, HMm, -⟩ := mach_open2 (hM5 w6 hb46)
  injection he with he
  subst he
  obtain ⟨c6, A6, q6, B6, p6, rfl, hs6, hall6, d34, d35, HMx, HTx⟩ := mach_open2 ho6.reads
  have l5 : (rM 3 (x : Int) p).mem.length = 60 := memM_len 3
  have l6 : (rM3 3 (x : Int) p ((x % 18446744073709551616 : Nat) : Int)).mem.length = 60 := by show (memSet (memM 3) p (x : Int) (manyM 3)).length = 60; rw [memSet_len]; exact memM_len 3
  rw [l5] at e34 HMm
  rw [l6] at d34 HMx
  have d35' : c6[35]? = some (.slice B6 1 p6) := d35
  have HTx' : Hid (RdS w6 (.slice B6 1 p6) ([((x % 18446744073709551616 : Nat) : Int)].map (.int .u64))) := HTx
  have HMx' : Hid (RdS w6 (.slice A6 60 q6) ((memSet (memM 3) p (x : Int) 8).map (.int .u8))) := HMx
  have HMm' : Hid (RdS w6 (.slice A5 60 q5) ((memM 3).map (.int .u8))) := HMm
  have hsz6 : (Tryz.prog.info? 27).map (·.size) = some c6.size := by rw [hs6.out]; exact info27
  have lt6 : w4.heap.size < w6.heap.size := by have := hb6.size; simp at this; omega
  clear d35 HTx HMx HMm l5 l6 hM5 hk5 hF5 HM4 HC5 hF4 f12 f13 z12 z13 hb46 hb6 ho6 HCS
  have hF6 : ∀ Z : Array Value, Blk ((w6.alloc (.cells Z 27)).setRow w6.heap.size c6) w6.heap.size 27 c6 := fun Z => setRow_heap _ _ Z _ 27 (0, 0) (heap_alloc_new w6 _)
  have hG6 : ∀ o, Blk ((w6.alloc o).setRow w6.heap.size c6) w4.heap.size 27 c5 := fun o => (setRow_other _ _ _ _ (by omega)).trans ((Below.heap_alloc w6 o _ lt6).trans D6)
  have hk6 : ∀ o, Below w6.heap.size w6 ((w6.alloc o).setRow w6.heap.size c6) := fun o => below_setRow ((Below.refl w6.heap.size w6).alloc (Nat.le_refl _) _) (Nat.le_refl _) c6
  have f34 : ∀ Z : Array Value, ((w6.alloc (.cells Z 27)).setRow w6.heap.size c6).cell? ⟨w6.heap.size, 34, none⟩ = some (.slice A6 60 q6) := fun Z => ((hF6 Z).cell 34).trans d34
  have f35 : ∀ Z : Array Value, ((w6.alloc (.cells Z 27)).setRow w6.heap.size c6).cell? ⟨w6.heap.size, 35, none⟩ = some (.slice B6 1 p6) := fun Z => ((hF6 Z).cell 35).trans d35'
  go_upto_region 13 with (refine wpList_store_row rfl 27 (.tmp 16) (.tmp 65) rfl w6.heap.size c6 rfl rfl 27 _ (by exact heap_alloc_new w6 _) hsz6 (by rw [hs6.out]; rfl) hall6 ?_)
  go_wp2
  have hpp : p + 8 ≤ 59 := by have := HP.out; omega
  clear H25 H26 H21 HR hszr hsz4 hall4 g12 g13 HS4 ha1 ha2 hpw f34 f35 hs4
  go_loopw [22] (fun i wr => ∃ k : Nat, k ≤ 60 ∧ i = .int .i64 k ∧ Blk wr w4.heap.size 27 c5 ∧ Blk wr w6.heap.size 27 c6 ∧ Hid (Below w6.heap.size w6 wr)) (fun i _ => 60 - (intOf i).toNat)
  case atStart => exact ⟨0, Nat.zero_le _, rfl, hG6 _, hF6 _, Lib.hid (hk6 _)⟩
  case round =>
    obtain ⟨k, hk, rfl, hD, hF, hB⟩ := hrel
    have t34 := (hD.cell 34).trans e34
    have y34 := (hF.cell 34).trans d34
    have y35 := (hF.cell 35).trans d35'
    clear hF6 hG6 hk6
    by_cases hlt : k < 60
    · by_cases hin : p ≤ k ∧ k < p + 8
      · have i1 : ¬ (k : Int) < p := by omega
        have i2 : ¬ ((p : Int) + 8 ≤ k) := by omega
        have d1 : decide ((k : Int) < p) = false := by simpa using i1
        have d2 : decide ((p : Int) + 8 ≤ k) = false := by simpa using i2
        have d3 : decide (k < p) = false := by simp; omega
        have d4 : decide (p + 8 ≤ k) = false := by simp; omega
        have d5 : wrap64 ((p : Int) + 8) = p + 8 := wrap64_small (by omega) (by omega)
        clear hin i1 i2
        go_wp2
        go_quiet (fail)
        go_wp2
        go_roundw
        case rel => exact ⟨k + 1, by omega, by go_num, hD.drewN _, hF.drewN _, Lib.hid ⟨hB.out.os, hB.out.tape, hB.out.output, hB.out.size, hB.out.block⟩⟩
        case measure => simp [intOf]; omega
      · obtain ⟨ad1, rfl, hx1⟩ := rd_at (HMx'.out.keep hB.out) (k := k) (by rw [memSet_len, memM_len]; exact hlt)
        obtain ⟨ad2, rfl, hx2⟩ := rd_at (HMm'.out.keep hB.out) (k := k) (by rw [memM_len]; exact hlt)
        have he : (memSet (memM 3) p (x : Int) 8).getD k 0 = (memM 3).getD k 0 := memSet_low _ _ _ _ _ (by omega)
        rw [he] at hx1
        generalize (memM 3).getD k 0 = z at hx1 hx2
        clear he
        by_cases i1 : (k : Int) < p
        · clear hin
          go_wp2
          go_quiet (fail)
          go_wp2
          go_roundw
          case rel => exact ⟨k + 1, by omega, by go_num, hD.drewN _, hF.drewN _, Lib.hid ⟨hB.out.os, hB.out.tape, hB.out.output, hB.out.size, hB.out.block⟩⟩
          case measure => simp [intOf]; omega
        · have i2 : (p : Int) + 8 ≤ k := by omega
          have d1 : decide ((k : Int) < p) = false := by simpa using i1
          have d2 : decide ((p : Int) + 8 ≤ k) = true := by simpa using i2
          have d3 : decide (k < p) = false := by simp; omega
          have d4 : decide (p + 8 ≤ k) = true := by simp; omega
          have d5 : wrap64 ((p : Int) + 8) = p + 8 := wrap64_small (by omega) (by omega)
          clear hin i1 i2
          go_wp2
          go_quiet (fail)
          go_wp2
          go_roundw
          case rel => exact ⟨k + 1, by omega, by go_num, hD.drewN _, hF.drewN _, Lib.hid ⟨hB.out.os, hB.out.tape, hB.out.output, hB.out.size, hB.out.block⟩⟩
          case measure => simp [intOf]; omega
    · obtain rfl : k = 60 := by omega
      obtain ⟨ad3, rfl, hx3⟩ := rd_at (HTx'.out.keep hB.out) (k := 0) (by show 0 < 1; decide)
      have hx3' : wr.cell? (ad3.add 0) = some (.int .u64 ((x : Int))) := by rw [hx3]; simp; omega
      have hx4 : wr.cell? ad3 = some (.int .u64 ((x : Int))) := by rw [← hx3']; simp [Addr.add]
      clear hx3
      go_wp2
      go_ret
      exact ⟨rfl, HB6.out.trans (hB.out.mono (HB6.out.size))⟩
theorem mem_c (a x s : Nat) (w : World) (hL : LG w) (h13 : 13 ≤ w.heap.size) (ha : a < 256) (hx : x < 18446744073709551616) (hs : s < 256) : Calls Tryz.prog 7 #[.int .u8 a, .int .u64 x, .int .u8 s] w (GoodPost w) := by
  have h4 : (s : Int).tmod 4 = ((s % 4 : Nat) : Int) := by rw [Int.tmod_eq_emod_of_nonneg (by omega)]; omega
  have hc : s % 4 = 0 ∨ s % 4 = 1 ∨ s % 4 = 2 ∨ s % 4 = 3 := by omega
  rcases hc with h | h | h | h <;> rw [h] at h4
  · exact mem_c0 a x s w hL h13 ha hx hs h4
  · exact mem_c1 a x s w hL h13 ha hx hs h4
  · exact mem_c2 a x s w hL h13 ha hx hs h4
  · exact mem_c3 a x s w hL h13 ha hx hs h4
end Go.Proofs.YtoehlmiadiiimaaGreatDoor
