/-
  The law MachineShort: its walk, where both machines are run: jumps by a register.
-/
import Derived.Test.YtoehlmiadiiimaaGreatDoorMemV9
namespace Go.Proofs.YtoehlmiadiiimaaGreatDoor
open Go.ChangeShapes Go.WideShapes Go.RowKit Go.Proofs.YtoehlmiadiiimaaGreatDoor.Ex

set_option maxRecDepth 100000 in
set_option maxHeartbeats 4000000 in
theorem short_okB (op d s t m : Int) (regs : List Int) (h32 : regs.length = 32) (pc : Nat) (hpc : pc < 4294967296) (nm : ByteArray) (f : Int) (en ef : Int) (rM rN x y : Rn) (hf : f = 76) (hl : nm.toList = [106, 97, 108, 114]) (T2 T4 : Int) (ha2 : IntKind.u64.wrap (rM.pc + 2) = T2) (ha4 : IntKind.u64.wrap (rM.pc + 4) = T4) (hxb : x.base = y.base) (hxtd : x.told = y.told) (hxd : x.done = y.done) (hgo : x.pc = y.pc ∨ (x.pc = T2 ∧ y.pc = T4)) (hxm : x.mem.length ≤ 1000000) (hxt : x.told.length ≤ 1000000) (hrg : x.regs = y.regs ∨ (d = 1 ∧ x.regs.getD 1 0 = T2 ∧ y.regs.getD 1 0 = T4 ∧ x.regs = y.regs.set 1 T2)) (w : World) (hL : LG w) (h13 : 13 ≤ w.heap.size)
    (h30 : ∀ W, LG W → Calls Tryz.prog 30 #[.int .u8 op] W fun e w' => e = .returned (.tuple #[.string nm, .int .i64 en]) ∧ Below W.heap.size W w')
    (h31 : ∀ W, LG W → Calls Tryz.prog 31 #[.int .u8 op] W fun e w' => e = .returned (.tuple #[.int .u8 f, .int .i64 ef]) ∧ Below W.heap.size W w')
    (hsh : ∀ W, LG W → 13 ≤ W.heap.size → Calls Tryz.prog 32 #[insnV op d s t m, .agg (regs.map (Value.int .u64)).toArray, .int .u64 ((pc / 2 : Nat) : Int)] W fun e w' => Below W.heap.size W w' ∧ ∃ v1 v2, e = .returned (.tuple #[v1, v2, .bool true]) ∧ MachR w' v1 rM ∧ MachR w' v2 rN)
    (h13M : ∀ W v, LG W → 13 ≤ W.heap.size → MachR W v rM → Calls Tryz.prog 13 #[v] W (StepAll W (x, 0)))
    (h13N : ∀ W v, LG W → 13 ≤ W.heap.size → MachR W v rN → Calls Tryz.prog 13 #[v] W (StepAll W (y, 0))) :
    Calls Tryz.prog 9 #[insnV op d s t m, .agg (regs.map (Value.int .u64)).toArray, .int .u32 pc] w (GoodPost w) := by
  have HGO := Lib.hid hgo
  have HRG := Lib.hid hrg
  have HBTD := Lib.hid (And.intro hxb (And.intro hxtd hxd))
  have HLEN := Lib.hid (And.intro hxm hxt)
  clear hgo hrg hxb hxtd hxd hxm hxt
  have H25 : Hid (∀ W, Below w.heap.size w W → Calls Tryz.prog 25 #[] W (GoodPost W)) := Lib.hid fun W hb => ret25 W (laidG_below hL (hb.mono h13))
  have H30 : Hid (∀ W, Below w.heap.size w W → Calls Tryz.prog 30 #[.int .u8 op] W fun e w' => e = .returned (.tuple #[.string nm, .int .i64 en]) ∧ Below W.heap.size W w') := Lib.hid fun W hb => h30 W (laidG_below hL (hb.mono h13))
  have H31 : Hid (∀ W, Below w.heap.size w W → Calls Tryz.prog 31 #[.int .u8 op] W fun e w' => e = .returned (.tuple #[.int .u8 f, .int .i64 ef]) ∧ Below W.heap.size W w') := Lib.hid fun W hb => h31 W (laidG_below hL (hb.mono h13))
  have HSH : Hid (∀ W, Below w.heap.size w W → Calls Tryz.prog 32 #[insnV op d s t m, .agg (regs.map (Value.int .u64)).toArray, .int .u64 ((pc / 2 : Nat) : Int)] W fun e w' => Below W.heap.size W w' ∧ ∃ v1 v2, e = .returned (.tuple #[v1, v2, .bool true]) ∧ MachR w' v1 rM ∧ MachR w' v2 rN) := Lib.hid fun W hb => hsh W (laidG_below hL (hb.mono h13)) (Nat.le_trans h13 hb.size)
  have hrow : (Tryz.prog.info? 23).map (·.size) = some (regs.map (Value.int .u64)).toArray.size := by rw [List.size_toArray, List.length_map, h32]; exact info23
  have H13M : Hid (∀ W v, Below w.heap.size w W → MachR W v rM → Calls Tryz.prog 13 #[v] W (StepAll W (x, 0))) := Lib.hid fun W v hb hm => h13M W v (laidG_below hL (hb.mono h13)) (Nat.le_trans h13 hb.size) hm
  have H13N : Hid (∀ W v, Below w.heap.size w W → MachR W v rN → Calls Tryz.prog 13 #[v] W (StepAll W (y, 0))) := Lib.hid fun W v hb hm => h13N W v (laidG_below hL (hb.mono h13)) (Nat.le_trans h13 hb.size) hm
  have hpc1 : ∀ {W : World} (c : Array Value), MachR W (.agg c) rM → c[0]? = some (.int .u64 rM.pc) := fun c h => by
    obtain ⟨mv, tv, e, _, _⟩ := h.form
    injection e with e
    rw [e]; rfl
  clear h30 h31 hsh hL h13 h32 h13M h13N
  generalize (regs.map (Value.int .u64)).toArray = rg at *
  go_enter Tryz.func9, Tryz.ntmps9
  go_wp2_with fail
  refine (H25.out _ (((Below.refl _ _).alloc (Nat.le_refl _) _).alloc (by simp) _)).mono ?_
  intro e w1 hp1
  obtain ⟨rfl, hb1⟩ := hp1
  have hz1 : w.heap.size + 2 ≤ w1.heap.size := by have := hb1.size; simpa using this
  have D0 : Blk w1 w.heap.size 57 #[.int .u8 op, .int .i64 d, .int .i64 s, .int .i64 t, .int .i64 m] := ((Blk.new w 57 _).alloc _).below hb1 (by simp; omega)
  have D1 : Blk w1 (w.heap.size + 1) 23 rg := (blk1 w _ 23 rg).below hb1 (by simp)
  have HW1 := Lib.hid ((((Below.refl _ _).alloc (Nat.le_refl _) _).alloc (by simp) _).trans (hb1.mono (by simp; omega)) : Below w.heap.size w w1)
  have c0 : ∀ i, w1.cell? ⟨w.heap.size, i, none⟩ = (#[.int .u8 op, .int .i64 d, .int .i64 s, .int .i64 t, .int .i64 m] : Array Value)[i]? := D0.cell
  clear hb1
  go_wp2_with fail
  refine (H30.out _ HW1.out).mono ?_
  intro e w2 hp2
  obtain ⟨rfl, hb2⟩ := hp2
  have hz2 := Nat.le_trans hz1 hb2.size
  have E0 := D0.below hb2 D0.lt
  have E1 := D1.below hb2 D1.lt
  have HW2 := Lib.hid (HW1.out.trans (hb2.mono (by omega)))
  clear c0 D0 D1 hb2 hz1 HW1
  have c0 : ∀ i, w2.cell? ⟨w.heap.size, i, none⟩ = (#[.int .u8 op, .int .i64 d, .int .i64 s, .int .i64 t, .int .i64 m] : Array Value)[i]? := E0.cell
  go_wp2_with fail
  refine (H31.out _ HW2.out).mono ?_
  intro e w3 hp3
  obtain ⟨rfl, hb3⟩ := hp3
  have hz3 := Nat.le_trans hz2 hb3.size
  have F0 := E0.below hb3 E0.lt
  have F1 := E1.below hb3 E1.lt
  have HW3 := Lib.hid (HW2.out.trans (hb3.mono (by omega)))
  clear c0 E0 E1 hb3 hz2 HW2
  have c0 : ∀ i, w3.cell? ⟨w.heap.size, i, none⟩ = (#[.int .u8 op, .int .i64 d, .int .i64 s, .int .i64 t, .int .i64 m] : Array Value)[i]? := F0.cell
  go_wp2_with (refine wpList_load_row rfl 23 (.tmp 4) rfl (w.heap.size + 1) rfl 23 rg (0, 0) _ F1 Tryz.underlying23 rfl hrow ?_)
  rw [show ((pc : Int) / 2) = ((pc / 2 : Nat) : Int) from by omega]
  refine (HSH.out _ HW3.out).mono ?_
  intro e w4 hp4
  obtain ⟨hb4, v1, v2, rfl, hm1, hm2⟩ := hp4
  obtain ⟨c1, A1, q1, B1, p1, rfl, hs1, hall1, -, -, -, -, -⟩ := mach_open hm1
  obtain ⟨c2, A2, q2, B2, p2, rfl, hs2, hall2, -, -, -, -, -⟩ := mach_open hm2
  have HW4 := Lib.hid (HW3.out.trans (hb4.mono (by omega)))
  have hz4 := Nat.le_trans hz3 hb4.size
  have hsz1 : (Tryz.prog.info? 27).map (·.size) = some c1.size := by rw [hs1.out]; exact info27
  have hsz2 : (Tryz.prog.info? 27).map (·.size) = some c2.size := by rw [hs2.out]; exact info27
  have G0 := F0.below hb4 F0.lt
  have HM1 := Lib.hid hm1
  have HM2 := Lib.hid hm2
  have k1 : c1[0]? = some (.int .u64 rM.pc) := hpc1 _ hm1
  clear c0 F0 F1 hb4 HW3 hm1 hm2 HSH H25 H30 H31 hrow hpc1
  have h3 : ∀ o1 Z, Blk (((w4.alloc o1).alloc (.cells Z 27)).setRow w4.heap.size c1) (w4.heap.size + 1) 27 Z := fun o1 Z => (setRow_other _ _ _ _ (by omega)).trans (blk1 w4 o1 27 Z)
  have hk : ∀ o1 o2, Below w4.heap.size w4 ((((w4.alloc o1).alloc o2).setRow w4.heap.size c1).setRow (w4.heap.size + 1) c2) := fun o1 o2 => below_setRow (below_setRow (((Below.refl _ _).alloc (Nat.le_refl _) _).alloc (by simp) _) (Nat.le_refl _) c1) (Nat.le_succ _) c2
  go_upto_region 5 with (first
    | (refine wpList_store_row rfl 27 (.tmp 12) (.tmp 39) rfl w4.heap.size c1 rfl rfl 27 _ (by exact heap_alloc2_old w4 _ _) hsz1 (by rw [hs1.out]; rfl) hall1 ?_)
    | (refine wpList_store_row rfl 27 (.tmp 13) (.tmp 40) rfl (w4.heap.size + 1) c2 rfl rfl 27 _ (by exact h3 _ _) hsz2 (by rw [hs2.out]; rfl) hall2 ?_))
  have j1 : ∀ o1 o2, Blk ((((w4.alloc o1).alloc o2).setRow w4.heap.size c1).setRow (w4.heap.size + 1) c2) w.heap.size 57 #[.int .u8 op, .int .i64 d, .int .i64 s, .int .i64 t, .int .i64 m] := fun o1 o2 => ((hk o1 o2).block _ (by omega)).trans G0
  have j2 : ∀ Z Z', Blk ((((w4.alloc (.cells Z 27)).alloc (.cells Z' 27)).setRow w4.heap.size c1).setRow (w4.heap.size + 1) c2) w4.heap.size 27 c1 := fun Z Z' => (setRow_other _ _ _ _ (by omega)).trans (setRow_heap _ _ _ _ 27 (0, 0) (heap_alloc2_old w4 _ _))
  have j3 : ∀ o1 Z, Blk ((((w4.alloc o1).alloc (.cells Z 27)).setRow w4.heap.size c1).setRow (w4.heap.size + 1) c2) (w4.heap.size + 1) 27 c2 := fun o1 Z => setRow_heap _ _ _ _ 27 (0, 0) (h3 o1 Z)
  refine (fun (h : ∀ w5 : World, w5.heap.size = w4.heap.size + 2 → Below w4.heap.size w4 w5 → Blk w5 w.heap.size 57 #[.int .u8 op, .int .i64 d, .int .i64 s, .int .i64 t, .int .i64 m] → Blk w5 w4.heap.size 27 c1 → Blk w5 (w4.heap.size + 1) 27 c2 → Code.wp Tryz.prog _ _ _ w5) => h _ (by simp) (hk _ _) (j1 _ _) (j2 _ _) (j3 _ _)) ?_
  intro w5 hz5 hb5 K0 K1 K2
  have HW5 := Lib.hid (HW4.out.trans (hb5.mono (by omega)))
  have HMM := Lib.hid (HM1.out.keep hb5)
  have HMN := Lib.hid (HM2.out.keep hb5)
  clear hb5 hk h3 HW4 j1 j2 j3 HM1 HM2 G0
  go_upto_region 7 with fail
  go_wp2_with (refine wpList_load_row rfl 27 (.tmp 12) rfl w4.heap.size rfl 27 c1 (0, 0) _ K1 Tryz.underlying27 rfl hsz1 ?_)
  refine (H13M.out _ _ HW5.out HMM.out).mono ?_
  intro e w6 hp6
  obtain ⟨hb6, v6, rfl, ho6⟩ := hp6
  have L0 := K0.below hb6 K0.lt
  have L1 := K1.below hb6 K1.lt
  have L2 := K2.below hb6 K2.lt
  have HW6 := Lib.hid (HW5.out.trans (hb6.mono (HW5.out.size)))
  have HN6 := Lib.hid (HMN.out.keep hb6)
  have hz6 : w4.heap.size + 2 ≤ w6.heap.size := by have := hb6.size; omega
  obtain ⟨mvx, tvx, rfl, hmx, htx⟩ := ho6.form
  obtain ⟨Ax, qx, rfl, -, -⟩ := own_slice hmx
  have HLX := Lib.hid ho6.len
  have HOX := Lib.hid (And.intro (hmx.mono (Nat.zero_le _)) (htx.mono (Nat.zero_le _)))
  obtain ⟨cx, hcx⟩ : ∃ c : Array Value, c = (mcells x (.slice Ax x.mem.length qx) tvx).toArray := ⟨_, rfl⟩
  have hsx := Lib.hid (show cx.size = 37 from by rw [hcx]; exact mc_size ho6.len)
  have hallx : cx.all (·.oneCell') = true := by rw [hcx]; exact mc_one rfl (rds_one (RdS.of_own htx))
  have hszx : (Tryz.prog.info? 27).map (·.size) = some cx.size := by rw [hsx.out]; exact info27
  rw [← hcx]
  have HCX := Lib.hid hcx
  clear hcx hmx htx ho6 hb6 K0 K1 K2 HMM HMN HW5 H13M hz5
  have m1 : ∀ o, Below w6.heap.size w6 ((w6.alloc o).setRow w6.heap.size cx) := fun o => below_setRow ((Below.refl w6.heap.size w6).alloc (Nat.le_refl _) _) (Nat.le_refl _) cx
  have m2 : ∀ Z : Array Value, Blk ((w6.alloc (.cells Z 27)).setRow w6.heap.size cx) w6.heap.size 27 cx := fun Z => setRow_heap _ _ Z _ 27 (0, 0) (heap_alloc_new w6 _)
  go_upto_region 8 with (refine wpList_store_row rfl 27 (.tmp 15) (.tmp 64) rfl w6.heap.size cx rfl rfl 27 _ (by exact heap_alloc_new w6 _) hszx (by rw [hsx.out]; rfl) hallx ?_)
  refine (fun (h : ∀ w7 : World, w7.heap.size = w6.heap.size + 1 → Below w6.heap.size w6 w7 → Blk w7 w6.heap.size 27 cx → Code.wp Tryz.prog _ _ _ w7) => h _ (by simp) (m1 _) (m2 _)) ?_
  intro w7 hz7 hb7 N3
  have N0 := L0.below hb7 L0.lt
  have N1 := L1.below hb7 L1.lt
  have N2 := L2.below hb7 L2.lt
  have HW7 := Lib.hid (HW6.out.trans (hb7.mono (HW6.out.size)))
  have HN7 := Lib.hid (HN6.out.keep hb7)
  have HOX7 := Lib.hid (And.intro (own_below HOX.out.1 hb7) (own_below HOX.out.2 hb7))
  clear m1 m2 L0 L1 L2 hb7 HW6 HN6 HOX
  go_wp2_with (refine wpList_load_row rfl 27 (.tmp 13) rfl (w4.heap.size + 1) rfl 27 c2 (0, 0) _ N2 Tryz.underlying27 rfl hsz2 ?_)
  refine (H13N.out _ _ HW7.out HN7.out).mono ?_
  intro e w8 hp8
  obtain ⟨hb8, v8, rfl, ho8⟩ := hp8
  have O0 := N0.below hb8 N0.lt
  have O1 := N1.below hb8 N1.lt
  have O3 := N3.below hb8 N3.lt
  have HW8 := Lib.hid (HW7.out.trans (hb8.mono (HW7.out.size)))
  have HOX8 := Lib.hid (And.intro (own_below HOX7.out.1 hb8) (own_below HOX7.out.2 hb8))
  have hz8 : w6.heap.size + 1 ≤ w8.heap.size := by have := hb8.size; omega
  obtain ⟨mvy, tvy, rfl, hmy, hty⟩ := ho8.form
  obtain ⟨Ay, qy, rfl, -, -⟩ := own_slice hmy
  have HLY := Lib.hid ho8.len
  have HOY := Lib.hid (And.intro (hmy.mono (Nat.zero_le _)) (hty.mono (Nat.zero_le _)))
  obtain ⟨cy, hcy⟩ : ∃ c : Array Value, c = (mcells y (.slice Ay y.mem.length qy) tvy).toArray := ⟨_, rfl⟩
  have hsy := Lib.hid (show cy.size = 37 from by rw [hcy]; exact mc_size ho8.len)
  have hally : cy.all (·.oneCell') = true := by rw [hcy]; exact mc_one rfl (rds_one (RdS.of_own hty))
  have hszy : (Tryz.prog.info? 27).map (·.size) = some cy.size := by rw [hsy.out]; exact info27
  rw [← hcy]
  have HCY := Lib.hid hcy
  clear hcy hmy hty ho8 hb8 N0 N1 N2 N3 HW7 HN7 HOX7 H13N hz7
  have m1 : ∀ o, Below w8.heap.size w8 ((w8.alloc o).setRow w8.heap.size cy) := fun o => below_setRow ((Below.refl w8.heap.size w8).alloc (Nat.le_refl _) _) (Nat.le_refl _) cy
  have m2 : ∀ Z : Array Value, Blk ((w8.alloc (.cells Z 27)).setRow w8.heap.size cy) w8.heap.size 27 cy := fun Z => setRow_heap _ _ Z _ 27 (0, 0) (heap_alloc_new w8 _)
  go_upto_region 9 with (refine wpList_store_row rfl 27 (.tmp 17) (.tmp 69) rfl w8.heap.size cy rfl rfl 27 _ (by exact heap_alloc_new w8 _) hszy (by rw [hsy.out]; rfl) hally ?_)
  refine (fun (h : ∀ w9 : World, w9.heap.size = w8.heap.size + 1 → Below w8.heap.size w8 w9 → Blk w9 w8.heap.size 27 cy → Code.wp Tryz.prog _ _ _ w9) => h _ (by simp) (m1 _) (m2 _)) ?_
  intro w9 hz9 hb9 DY
  have D0 := O0.below hb9 O0.lt
  have D1 := O1.below hb9 O1.lt
  have DX := O3.below hb9 O3.lt
  have HW9 := Lib.hid (HW8.out.trans (hb9.mono (HW8.out.size)))
  have HOX9 := Lib.hid (And.intro (own_below HOX8.out.1 hb9) (own_below HOX8.out.2 hb9))
  have HOY9 := Lib.hid (And.intro (own_below HOY.out.1 hb9) (own_below HOY.out.2 hb9))
  clear m1 m2 O0 O1 O3 hb9 HW8 HOX8 HOY
  have e12 : w9.cell? ⟨w4.heap.size, 0, none⟩ = some (.int .u64 rM.pc) := (D1.cell 0).trans k1
  have X0 : w9.cell? ⟨w6.heap.size, 0, none⟩ = some (.int .u64 x.pc) := (DX.cell 0).trans (by rw [HCX.out]; rfl)
  have X2 : w9.cell? ⟨w6.heap.size, 2, none⟩ = some (.int .u64 (x.regs.getD 1 0)) := (DX.cell 2).trans (by rw [HCX.out]; exact mcR HLX.out 1 (by omega))
  have X34 : w9.cell? ⟨w6.heap.size, 34, none⟩ = some (.slice Ax x.mem.length qx) := (DX.cell 34).trans (by rw [HCX.out]; exact mc34 HLX.out)
  have Y0 : w9.cell? ⟨w8.heap.size, 0, none⟩ = some (.int .u64 y.pc) := (DY.cell 0).trans (by rw [HCY.out]; rfl)
  have Y2 : w9.cell? ⟨w8.heap.size, 2, none⟩ = some (.int .u64 (y.regs.getD 1 0)) := (DY.cell 2).trans (by rw [HCY.out]; exact mcR HLY.out 1 (by omega))
  have Y34 : w9.cell? ⟨w8.heap.size, 34, none⟩ = some (.slice Ay y.mem.length qy) := (DY.cell 34).trans (by rw [HCY.out]; exact mc34 HLY.out)
  have fY0 := DY.frozen 0
  have fY2 := DY.frozen 2
  have fY34 := DY.frozen 34
  have c1' : w9.cell? ⟨w.heap.size, 1, none⟩ = some (.int .i64 d) := D0.cell 1
  have ne1 : w6.heap.size ≠ w8.heap.size := by omega
  have ne2 : w4.heap.size ≠ w8.heap.size := by omega
  have ne3 : w.heap.size ≠ w8.heap.size := by omega
  have ne4 : w8.heap.size ≠ w6.heap.size := by omega
  have ne5 : w8.heap.size ≠ w4.heap.size := by omega
  have ne6 : w8.heap.size ≠ w.heap.size := by omega
  obtain ⟨cF, hcF⟩ : ∃ c : Array Value, c = (mcells x (.slice Ax x.mem.length qx) tvy).toArray := ⟨_, rfl⟩
  have hallF : cF.size = 37 := by rw [hcF]; exact mc_size HLX.out
  have hszF : (Tryz.prog.info? 27).map (·.size) = some cF.size := by rw [hallF]; exact info27
  clear hallF
  obtain ⟨xr, hxr⟩ : ∃ z, z = x.regs.getD 1 0 := ⟨_, rfl⟩
  obtain ⟨yr, hyr⟩ : ∃ z, z = y.regs.getD 1 0 := ⟨_, rfl⟩
  rw [← hxr] at X2
  rw [← hyr] at Y2
  have HXR := Lib.hid hxr
  have HXR2 := Lib.hid hyr
  clear hxr hyr
  by_cases q1 : x.pc = T2
  · have e1 : (x.pc == T2) = true := by simpa using q1
    by_cases q2 : y.pc = T4
    · have e2 : (y.pc == T4) = true := by simpa using q2
      clear q1 q2
      by_cases q3 : d = 1
      · have e3 : (d == 1) = true := by simpa using q3
        by_cases q4 : xr = T2
        · have e4 : (xr == T2) = true := by simpa using q4
          by_cases q5 : yr = T4
          · have e5 : (yr == T4) = true := by simpa using q5
            have hrq : Hid (y.regs.set 1 xr = x.regs) := Lib.hid (by
              rcases HRG.out with h | h
              · rw [HXR.out, ← h]; exact set_same 1
              · rw [q4]; exact h.2.2.2.symm)
            clear q3 q4 q5
            have hpe : x.pc = x.pc := rfl
            have hre : y.regs.set 1 xr = x.regs := hrq.out
            have hCY : (((cy.setIfInBounds 0 (.int .u64 (x.pc))).setIfInBounds 2 (.int .u64 (xr))).setIfInBounds 34 (.slice Ax x.mem.length qx)) = cF := by
              rw [HCY.out, ms0, show (2 : Nat) = 1 + 1 from rfl, msRi (r := { y with pc := x.pc }) HLY.out 1 (by omega), ms34 (r := { y with pc := x.pc, regs := y.regs.set 1 xr }) (by show (y.regs.set 1 _).length = 32; rw [List.length_set]; exact HLY.out), hcF]
              exact mcells_congr hpe hre HBTD.out.1.symm HBTD.out.2.2.symm
            clear hpe hre
            have HcF := Lib.hid hcF
            clear hcF
            go_upto_region 16 with fail
            refine (fun (h : ∀ w10 : World, Below w.heap.size w w10 → Blk w10 w6.heap.size 27 cx → Blk w10 w8.heap.size 27 cF → w9.grownBy w10 (some w8.heap.size) → Code.wp Tryz.prog _ _ _ w10) => h _ (((HW9.out.setCell (p := ⟨w8.heap.size, 0, none⟩) (by show w.heap.size ≤ w8.heap.size; omega) _).setCell (p := ⟨w8.heap.size, 2, none⟩) (by show w.heap.size ≤ w8.heap.size; omega) _).setCell (p := ⟨w8.heap.size, 34, none⟩) (by show w.heap.size ≤ w8.heap.size; omega) _) (((DX.far (p := ⟨w8.heap.size, 0, none⟩) ne1 _).far (p := ⟨w8.heap.size, 2, none⟩) ne1 _).far (p := ⟨w8.heap.size, 34, none⟩) ne1 _) (by rw [← hCY]; first | exact (((DY.set_ 0 _).set_ 2 _).set_ 34 _) | (simp only [beq_iff_eq] at e1; rw [e1]; exact (((DY.set_ 0 _).set_ 2 _).set_ 34 _)) | (simp only [beq_iff_eq] at e4; rw [e4]; exact (((DY.set_ 0 _).set_ 2 _).set_ 34 _)) | (simp only [beq_iff_eq] at e1 e4; rw [e1, e4]; exact (((DY.set_ 0 _).set_ 2 _).set_ 34 _))) ((grown_setCell.trans grown_setCell).trans grown_setCell)) ?_
            intro w10 hb10 X10 Y10 G10
            have OXm := own_through HOX9.out.1 (by decide) DY G10
            have OXt := own_through HOX9.out.2 (by decide) DY G10
            have OYt := own_through HOY9.out.2 (by decide) DY G10
            rw [← HBTD.out.2.1] at OYt
            have MX : MachR w10 (.agg cx) x := ⟨HLX.out, _, tvx, by rw [HCX.out], RdS.of_own OXm, RdS.of_own OXt⟩
            have MY : MachR w10 (.agg cF) x := ⟨HLX.out, _, tvy, by rw [HcF.out], RdS.of_own OXm, RdS.of_own OYt⟩
            have HS := Lib.hid (same_c (.agg cx) (.agg cF) x w10 MX MY HLEN.out.1 HLEN.out.2)
            have HB10 := Lib.hid hb10
            clear OXm OXt OYt MX MY G10 X0 X2 X34 Y0 Y2 Y34 fY0 fY2 fY34 c1' e12 hCY hb10
            go_wp2_with (first
              | (refine wpList_load_row rfl 27 (.tmp 15) rfl w6.heap.size rfl 27 cx (0, 0) _ X10 Tryz.underlying27 rfl hszx ?_)
              | (refine wpList_load_row rfl 27 (.tmp 17) rfl w8.heap.size rfl 27 cF (0, 0) _ Y10 Tryz.underlying27 rfl hszF ?_))
            refine HS.out.mono ?_
            rintro e w11 ⟨rfl, hb11⟩
            go_wp2
            go_ret
            exact ⟨rfl, HB10.out.trans (hb11.mono (HB10.out.size))⟩
          · have e5 : (yr == T4) = false := by simpa using q5
            have hrq : Hid (y.regs = x.regs) := Lib.hid (by rcases HRG.out with h | h; exact h.symm; exact absurd (HXR2.out.trans h.2.2.1) q5)
            clear q3 q4 q5
            have hpe : x.pc = x.pc := rfl
            have hre : y.regs = x.regs := hrq.out
            have hCY : ((cy.setIfInBounds 0 (.int .u64 (x.pc))).setIfInBounds 34 (.slice Ax x.mem.length qx)) = cF := by
              rw [HCY.out, ms0, ms34 (r := { y with pc := x.pc }) HLY.out, hcF]
              exact mcells_congr hpe hre HBTD.out.1.symm HBTD.out.2.2.symm
            clear hpe hre
            have HcF := Lib.hid hcF
            clear hcF
            go_upto_region 16 with fail
            refine (fun (h : ∀ w10 : World, Below w.heap.size w w10 → Blk w10 w6.heap.size 27 cx → Blk w10 w8.heap.size 27 cF → w9.grownBy w10 (some w8.heap.size) → Code.wp Tryz.prog _ _ _ w10) => h _ ((HW9.out.setCell (p := ⟨w8.heap.size, 0, none⟩) (by show w.heap.size ≤ w8.heap.size; omega) _).setCell (p := ⟨w8.heap.size, 34, none⟩) (by show w.heap.size ≤ w8.heap.size; omega) _) ((DX.far (p := ⟨w8.heap.size, 0, none⟩) ne1 _).far (p := ⟨w8.heap.size, 34, none⟩) ne1 _) (by rw [← hCY]; first | exact ((DY.set_ 0 _).set_ 34 _) | (simp only [beq_iff_eq] at e1; rw [e1]; exact ((DY.set_ 0 _).set_ 34 _)) | (simp only [beq_iff_eq] at e4; rw [e4]; exact ((DY.set_ 0 _).set_ 34 _)) | (simp only [beq_iff_eq] at e1 e4; rw [e1, e4]; exact ((DY.set_ 0 _).set_ 34 _))) (grown_setCell.trans grown_setCell)) ?_
            intro w10 hb10 X10 Y10 G10
            have OXm := own_through HOX9.out.1 (by decide) DY G10
            have OXt := own_through HOX9.out.2 (by decide) DY G10
            have OYt := own_through HOY9.out.2 (by decide) DY G10
            rw [← HBTD.out.2.1] at OYt
            have MX : MachR w10 (.agg cx) x := ⟨HLX.out, _, tvx, by rw [HCX.out], RdS.of_own OXm, RdS.of_own OXt⟩
            have MY : MachR w10 (.agg cF) x := ⟨HLX.out, _, tvy, by rw [HcF.out], RdS.of_own OXm, RdS.of_own OYt⟩
            have HS := Lib.hid (same_c (.agg cx) (.agg cF) x w10 MX MY HLEN.out.1 HLEN.out.2)
            have HB10 := Lib.hid hb10
            clear OXm OXt OYt MX MY G10 X0 X2 X34 Y0 Y2 Y34 fY0 fY2 fY34 c1' e12 hCY hb10
            go_wp2_with (first
              | (refine wpList_load_row rfl 27 (.tmp 15) rfl w6.heap.size rfl 27 cx (0, 0) _ X10 Tryz.underlying27 rfl hszx ?_)
              | (refine wpList_load_row rfl 27 (.tmp 17) rfl w8.heap.size rfl 27 cF (0, 0) _ Y10 Tryz.underlying27 rfl hszF ?_))
            refine HS.out.mono ?_
            rintro e w11 ⟨rfl, hb11⟩
            go_wp2
            go_ret
            exact ⟨rfl, HB10.out.trans (hb11.mono (HB10.out.size))⟩
        · have e4 : (xr == T2) = false := by simpa using q4
          have hrq : Hid (y.regs = x.regs) := Lib.hid (by rcases HRG.out with h | h; exact h.symm; exact absurd (HXR.out.trans h.2.1) q4)
          clear q3 q4
          have hpe : x.pc = x.pc := rfl
          have hre : y.regs = x.regs := hrq.out
          have hCY : ((cy.setIfInBounds 0 (.int .u64 (x.pc))).setIfInBounds 34 (.slice Ax x.mem.length qx)) = cF := by
            rw [HCY.out, ms0, ms34 (r := { y with pc := x.pc }) HLY.out, hcF]
            exact mcells_congr hpe hre HBTD.out.1.symm HBTD.out.2.2.symm
          clear hpe hre
          have HcF := Lib.hid hcF
          clear hcF
          go_upto_region 16 with fail
          refine (fun (h : ∀ w10 : World, Below w.heap.size w w10 → Blk w10 w6.heap.size 27 cx → Blk w10 w8.heap.size 27 cF → w9.grownBy w10 (some w8.heap.size) → Code.wp Tryz.prog _ _ _ w10) => h _ ((HW9.out.setCell (p := ⟨w8.heap.size, 0, none⟩) (by show w.heap.size ≤ w8.heap.size; omega) _).setCell (p := ⟨w8.heap.size, 34, none⟩) (by show w.heap.size ≤ w8.heap.size; omega) _) ((DX.far (p := ⟨w8.heap.size, 0, none⟩) ne1 _).far (p := ⟨w8.heap.size, 34, none⟩) ne1 _) (by rw [← hCY]; first | exact ((DY.set_ 0 _).set_ 34 _) | (simp only [beq_iff_eq] at e1; rw [e1]; exact ((DY.set_ 0 _).set_ 34 _)) | (simp only [beq_iff_eq] at e4; rw [e4]; exact ((DY.set_ 0 _).set_ 34 _)) | (simp only [beq_iff_eq] at e1 e4; rw [e1, e4]; exact ((DY.set_ 0 _).set_ 34 _))) (grown_setCell.trans grown_setCell)) ?_
          intro w10 hb10 X10 Y10 G10
          have OXm := own_through HOX9.out.1 (by decide) DY G10
          have OXt := own_through HOX9.out.2 (by decide) DY G10
          have OYt := own_through HOY9.out.2 (by decide) DY G10
          rw [← HBTD.out.2.1] at OYt
          have MX : MachR w10 (.agg cx) x := ⟨HLX.out, _, tvx, by rw [HCX.out], RdS.of_own OXm, RdS.of_own OXt⟩
          have MY : MachR w10 (.agg cF) x := ⟨HLX.out, _, tvy, by rw [HcF.out], RdS.of_own OXm, RdS.of_own OYt⟩
          have HS := Lib.hid (same_c (.agg cx) (.agg cF) x w10 MX MY HLEN.out.1 HLEN.out.2)
          have HB10 := Lib.hid hb10
          clear OXm OXt OYt MX MY G10 X0 X2 X34 Y0 Y2 Y34 fY0 fY2 fY34 c1' e12 hCY hb10
          go_wp2_with (first
            | (refine wpList_load_row rfl 27 (.tmp 15) rfl w6.heap.size rfl 27 cx (0, 0) _ X10 Tryz.underlying27 rfl hszx ?_)
            | (refine wpList_load_row rfl 27 (.tmp 17) rfl w8.heap.size rfl 27 cF (0, 0) _ Y10 Tryz.underlying27 rfl hszF ?_))
          refine HS.out.mono ?_
          rintro e w11 ⟨rfl, hb11⟩
          go_wp2
          go_ret
          exact ⟨rfl, HB10.out.trans (hb11.mono (HB10.out.size))⟩
      · have e3 : (d == 1) = false := by simpa using q3
        have hrq : Hid (y.regs = x.regs) := Lib.hid (by rcases HRG.out with h | h; exact h.symm; exact absurd h.1 q3)
        clear q3
        have hpe : x.pc = x.pc := rfl
        have hre : y.regs = x.regs := hrq.out
        have hCY : ((cy.setIfInBounds 0 (.int .u64 (x.pc))).setIfInBounds 34 (.slice Ax x.mem.length qx)) = cF := by
          rw [HCY.out, ms0, ms34 (r := { y with pc := x.pc }) HLY.out, hcF]
          exact mcells_congr hpe hre HBTD.out.1.symm HBTD.out.2.2.symm
        clear hpe hre
        have HcF := Lib.hid hcF
        clear hcF
        go_upto_region 16 with fail
        refine (fun (h : ∀ w10 : World, Below w.heap.size w w10 → Blk w10 w6.heap.size 27 cx → Blk w10 w8.heap.size 27 cF → w9.grownBy w10 (some w8.heap.size) → Code.wp Tryz.prog _ _ _ w10) => h _ ((HW9.out.setCell (p := ⟨w8.heap.size, 0, none⟩) (by show w.heap.size ≤ w8.heap.size; omega) _).setCell (p := ⟨w8.heap.size, 34, none⟩) (by show w.heap.size ≤ w8.heap.size; omega) _) ((DX.far (p := ⟨w8.heap.size, 0, none⟩) ne1 _).far (p := ⟨w8.heap.size, 34, none⟩) ne1 _) (by rw [← hCY]; first | exact ((DY.set_ 0 _).set_ 34 _) | (simp only [beq_iff_eq] at e1; rw [e1]; exact ((DY.set_ 0 _).set_ 34 _)) | (simp only [beq_iff_eq] at e4; rw [e4]; exact ((DY.set_ 0 _).set_ 34 _)) | (simp only [beq_iff_eq] at e1 e4; rw [e1, e4]; exact ((DY.set_ 0 _).set_ 34 _))) (grown_setCell.trans grown_setCell)) ?_
        intro w10 hb10 X10 Y10 G10
        have OXm := own_through HOX9.out.1 (by decide) DY G10
        have OXt := own_through HOX9.out.2 (by decide) DY G10
        have OYt := own_through HOY9.out.2 (by decide) DY G10
        rw [← HBTD.out.2.1] at OYt
        have MX : MachR w10 (.agg cx) x := ⟨HLX.out, _, tvx, by rw [HCX.out], RdS.of_own OXm, RdS.of_own OXt⟩
        have MY : MachR w10 (.agg cF) x := ⟨HLX.out, _, tvy, by rw [HcF.out], RdS.of_own OXm, RdS.of_own OYt⟩
        have HS := Lib.hid (same_c (.agg cx) (.agg cF) x w10 MX MY HLEN.out.1 HLEN.out.2)
        have HB10 := Lib.hid hb10
        clear OXm OXt OYt MX MY G10 X0 X2 X34 Y0 Y2 Y34 fY0 fY2 fY34 c1' e12 hCY hb10
        go_wp2_with (first
          | (refine wpList_load_row rfl 27 (.tmp 15) rfl w6.heap.size rfl 27 cx (0, 0) _ X10 Tryz.underlying27 rfl hszx ?_)
          | (refine wpList_load_row rfl 27 (.tmp 17) rfl w8.heap.size rfl 27 cF (0, 0) _ Y10 Tryz.underlying27 rfl hszF ?_))
        refine HS.out.mono ?_
        rintro e w11 ⟨rfl, hb11⟩
        go_wp2
        go_ret
        exact ⟨rfl, HB10.out.trans (hb11.mono (HB10.out.size))⟩
    · have e2 : (y.pc == T4) = false := by simpa using q2
      have hpq : Hid (y.pc = x.pc) := Lib.hid (by rcases HGO.out with h | h; exact h.symm; exact absurd h.2 q2)
      clear q1 q2
      by_cases q3 : d = 1
      · have e3 : (d == 1) = true := by simpa using q3
        by_cases q4 : xr = T2
        · have e4 : (xr == T2) = true := by simpa using q4
          by_cases q5 : yr = T4
          · have e5 : (yr == T4) = true := by simpa using q5
            have hrq : Hid (y.regs.set 1 xr = x.regs) := Lib.hid (by
              rcases HRG.out with h | h
              · rw [HXR.out, ← h]; exact set_same 1
              · rw [q4]; exact h.2.2.2.symm)
            clear q3 q4 q5
            have hpe : y.pc = x.pc := hpq.out
            have hre : y.regs.set 1 xr = x.regs := hrq.out
            have hCY : ((cy.setIfInBounds 2 (.int .u64 (xr))).setIfInBounds 34 (.slice Ax x.mem.length qx)) = cF := by
              rw [HCY.out, show (2 : Nat) = 1 + 1 from rfl, msRi (r := y) HLY.out 1 (by omega), ms34 (r := { y with regs := y.regs.set 1 xr }) (by show (y.regs.set 1 _).length = 32; rw [List.length_set]; exact HLY.out), hcF]
              exact mcells_congr hpe hre HBTD.out.1.symm HBTD.out.2.2.symm
            clear hpe hre
            have HcF := Lib.hid hcF
            clear hcF
            go_upto_region 16 with fail
            refine (fun (h : ∀ w10 : World, Below w.heap.size w w10 → Blk w10 w6.heap.size 27 cx → Blk w10 w8.heap.size 27 cF → w9.grownBy w10 (some w8.heap.size) → Code.wp Tryz.prog _ _ _ w10) => h _ ((HW9.out.setCell (p := ⟨w8.heap.size, 2, none⟩) (by show w.heap.size ≤ w8.heap.size; omega) _).setCell (p := ⟨w8.heap.size, 34, none⟩) (by show w.heap.size ≤ w8.heap.size; omega) _) ((DX.far (p := ⟨w8.heap.size, 2, none⟩) ne1 _).far (p := ⟨w8.heap.size, 34, none⟩) ne1 _) (by rw [← hCY]; first | exact ((DY.set_ 2 _).set_ 34 _) | (simp only [beq_iff_eq] at e1; rw [e1]; exact ((DY.set_ 2 _).set_ 34 _)) | (simp only [beq_iff_eq] at e4; rw [e4]; exact ((DY.set_ 2 _).set_ 34 _)) | (simp only [beq_iff_eq] at e1 e4; rw [e1, e4]; exact ((DY.set_ 2 _).set_ 34 _))) (grown_setCell.trans grown_setCell)) ?_
            intro w10 hb10 X10 Y10 G10
            have OXm := own_through HOX9.out.1 (by decide) DY G10
            have OXt := own_through HOX9.out.2 (by decide) DY G10
            have OYt := own_through HOY9.out.2 (by decide) DY G10
            rw [← HBTD.out.2.1] at OYt
            have MX : MachR w10 (.agg cx) x := ⟨HLX.out, _, tvx, by rw [HCX.out], RdS.of_own OXm, RdS.of_own OXt⟩
            have MY : MachR w10 (.agg cF) x := ⟨HLX.out, _, tvy, by rw [HcF.out], RdS.of_own OXm, RdS.of_own OYt⟩
            have HS := Lib.hid (same_c (.agg cx) (.agg cF) x w10 MX MY HLEN.out.1 HLEN.out.2)
            have HB10 := Lib.hid hb10
            clear OXm OXt OYt MX MY G10 X0 X2 X34 Y0 Y2 Y34 fY0 fY2 fY34 c1' e12 hCY hb10
            go_wp2_with (first
              | (refine wpList_load_row rfl 27 (.tmp 15) rfl w6.heap.size rfl 27 cx (0, 0) _ X10 Tryz.underlying27 rfl hszx ?_)
              | (refine wpList_load_row rfl 27 (.tmp 17) rfl w8.heap.size rfl 27 cF (0, 0) _ Y10 Tryz.underlying27 rfl hszF ?_))
            refine HS.out.mono ?_
            rintro e w11 ⟨rfl, hb11⟩
            go_wp2
            go_ret
            exact ⟨rfl, HB10.out.trans (hb11.mono (HB10.out.size))⟩
          · have e5 : (yr == T4) = false := by simpa using q5
            have hrq : Hid (y.regs = x.regs) := Lib.hid (by rcases HRG.out with h | h; exact h.symm; exact absurd (HXR2.out.trans h.2.2.1) q5)
            clear q3 q4 q5
            have hpe : y.pc = x.pc := hpq.out
            have hre : y.regs = x.regs := hrq.out
            have hCY : (cy.setIfInBounds 34 (.slice Ax x.mem.length qx)) = cF := by
              rw [HCY.out, ms34 (r := y) HLY.out, hcF]
              exact mcells_congr hpe hre HBTD.out.1.symm HBTD.out.2.2.symm
            clear hpe hre
            have HcF := Lib.hid hcF
            clear hcF
            go_upto_region 16 with fail
            refine (fun (h : ∀ w10 : World, Below w.heap.size w w10 → Blk w10 w6.heap.size 27 cx → Blk w10 w8.heap.size 27 cF → w9.grownBy w10 (some w8.heap.size) → Code.wp Tryz.prog _ _ _ w10) => h _ (HW9.out.setCell (p := ⟨w8.heap.size, 34, none⟩) (by show w.heap.size ≤ w8.heap.size; omega) _) (DX.far (p := ⟨w8.heap.size, 34, none⟩) ne1 _) (by rw [← hCY]; first | exact (DY.set_ 34 _) | (simp only [beq_iff_eq] at e1; rw [e1]; exact (DY.set_ 34 _)) | (simp only [beq_iff_eq] at e4; rw [e4]; exact (DY.set_ 34 _)) | (simp only [beq_iff_eq] at e1 e4; rw [e1, e4]; exact (DY.set_ 34 _))) grown_setCell) ?_
            intro w10 hb10 X10 Y10 G10
            have OXm := own_through HOX9.out.1 (by decide) DY G10
            have OXt := own_through HOX9.out.2 (by decide) DY G10
            have OYt := own_through HOY9.out.2 (by decide) DY G10
            rw [← HBTD.out.2.1] at OYt
            have MX : MachR w10 (.agg cx) x := ⟨HLX.out, _, tvx, by rw [HCX.out], RdS.of_own OXm, RdS.of_own OXt⟩
            have MY : MachR w10 (.agg cF) x := ⟨HLX.out, _, tvy, by rw [HcF.out], RdS.of_own OXm, RdS.of_own OYt⟩
            have HS := Lib.hid (same_c (.agg cx) (.agg cF) x w10 MX MY HLEN.out.1 HLEN.out.2)
            have HB10 := Lib.hid hb10
            clear OXm OXt OYt MX MY G10 X0 X2 X34 Y0 Y2 Y34 fY0 fY2 fY34 c1' e12 hCY hb10
            go_wp2_with (first
              | (refine wpList_load_row rfl 27 (.tmp 15) rfl w6.heap.size rfl 27 cx (0, 0) _ X10 Tryz.underlying27 rfl hszx ?_)
              | (refine wpList_load_row rfl 27 (.tmp 17) rfl w8.heap.size rfl 27 cF (0, 0) _ Y10 Tryz.underlying27 rfl hszF ?_))
            refine HS.out.mono ?_
            rintro e w11 ⟨rfl, hb11⟩
            go_wp2
            go_ret
            exact ⟨rfl, HB10.out.trans (hb11.mono (HB10.out.size))⟩
        · have e4 : (xr == T2) = false := by simpa using q4
          have hrq : Hid (y.regs = x.regs) := Lib.hid (by rcases HRG.out with h | h; exact h.symm; exact absurd (HXR.out.trans h.2.1) q4)
          clear q3 q4
          have hpe : y.pc = x.pc := hpq.out
          have hre : y.regs = x.regs := hrq.out
          have hCY : (cy.setIfInBounds 34 (.slice Ax x.mem.length qx)) = cF := by
            rw [HCY.out, ms34 (r := y) HLY.out, hcF]
            exact mcells_congr hpe hre HBTD.out.1.symm HBTD.out.2.2.symm
          clear hpe hre
          have HcF := Lib.hid hcF
          clear hcF
          go_upto_region 16 with fail
          refine (fun (h : ∀ w10 : World, Below w.heap.size w w10 → Blk w10 w6.heap.size 27 cx → Blk w10 w8.heap.size 27 cF → w9.grownBy w10 (some w8.heap.size) → Code.wp Tryz.prog _ _ _ w10) => h _ (HW9.out.setCell (p := ⟨w8.heap.size, 34, none⟩) (by show w.heap.size ≤ w8.heap.size; omega) _) (DX.far (p := ⟨w8.heap.size, 34, none⟩) ne1 _) (by rw [← hCY]; first | exact (DY.set_ 34 _) | (simp only [beq_iff_eq] at e1; rw [e1]; exact (DY.set_ 34 _)) | (simp only [beq_iff_eq] at e4; rw [e4]; exact (DY.set_ 34 _)) | (simp only [beq_iff_eq] at e1 e4; rw [e1, e4]; exact (DY.set_ 34 _))) grown_setCell) ?_
          intro w10 hb10 X10 Y10 G10
          have OXm := own_through HOX9.out.1 (by decide) DY G10
          have OXt := own_through HOX9.out.2 (by decide) DY G10
          have OYt := own_through HOY9.out.2 (by decide) DY G10
          rw [← HBTD.out.2.1] at OYt
          have MX : MachR w10 (.agg cx) x := ⟨HLX.out, _, tvx, by rw [HCX.out], RdS.of_own OXm, RdS.of_own OXt⟩
          have MY : MachR w10 (.agg cF) x := ⟨HLX.out, _, tvy, by rw [HcF.out], RdS.of_own OXm, RdS.of_own OYt⟩
          have HS := Lib.hid (same_c (.agg cx) (.agg cF) x w10 MX MY HLEN.out.1 HLEN.out.2)
          have HB10 := Lib.hid hb10
          clear OXm OXt OYt MX MY G10 X0 X2 X34 Y0 Y2 Y34 fY0 fY2 fY34 c1' e12 hCY hb10
          go_wp2_with (first
            | (refine wpList_load_row rfl 27 (.tmp 15) rfl w6.heap.size rfl 27 cx (0, 0) _ X10 Tryz.underlying27 rfl hszx ?_)
            | (refine wpList_load_row rfl 27 (.tmp 17) rfl w8.heap.size rfl 27 cF (0, 0) _ Y10 Tryz.underlying27 rfl hszF ?_))
          refine HS.out.mono ?_
          rintro e w11 ⟨rfl, hb11⟩
          go_wp2
          go_ret
          exact ⟨rfl, HB10.out.trans (hb11.mono (HB10.out.size))⟩
      · have e3 : (d == 1) = false := by simpa using q3
        have hrq : Hid (y.regs = x.regs) := Lib.hid (by rcases HRG.out with h | h; exact h.symm; exact absurd h.1 q3)
        clear q3
        have hpe : y.pc = x.pc := hpq.out
        have hre : y.regs = x.regs := hrq.out
        have hCY : (cy.setIfInBounds 34 (.slice Ax x.mem.length qx)) = cF := by
          rw [HCY.out, ms34 (r := y) HLY.out, hcF]
          exact mcells_congr hpe hre HBTD.out.1.symm HBTD.out.2.2.symm
        clear hpe hre
        have HcF := Lib.hid hcF
        clear hcF
        go_upto_region 16 with fail
        refine (fun (h : ∀ w10 : World, Below w.heap.size w w10 → Blk w10 w6.heap.size 27 cx → Blk w10 w8.heap.size 27 cF → w9.grownBy w10 (some w8.heap.size) → Code.wp Tryz.prog _ _ _ w10) => h _ (HW9.out.setCell (p := ⟨w8.heap.size, 34, none⟩) (by show w.heap.size ≤ w8.heap.size; omega) _) (DX.far (p := ⟨w8.heap.size, 34, none⟩) ne1 _) (by rw [← hCY]; first | exact (DY.set_ 34 _) | (simp only [beq_iff_eq] at e1; rw [e1]; exact (DY.set_ 34 _)) | (simp only [beq_iff_eq] at e4; rw [e4]; exact (DY.set_ 34 _)) | (simp only [beq_iff_eq] at e1 e4; rw [e1, e4]; exact (DY.set_ 34 _))) grown_setCell) ?_
        intro w10 hb10 X10 Y10 G10
        have OXm := own_through HOX9.out.1 (by decide) DY G10
        have OXt := own_through HOX9.out.2 (by decide) DY G10
        have OYt := own_through HOY9.out.2 (by decide) DY G10
        rw [← HBTD.out.2.1] at OYt
        have MX : MachR w10 (.agg cx) x := ⟨HLX.out, _, tvx, by rw [HCX.out], RdS.of_own OXm, RdS.of_own OXt⟩
        have MY : MachR w10 (.agg cF) x := ⟨HLX.out, _, tvy, by rw [HcF.out], RdS.of_own OXm, RdS.of_own OYt⟩
        have HS := Lib.hid (same_c (.agg cx) (.agg cF) x w10 MX MY HLEN.out.1 HLEN.out.2)
        have HB10 := Lib.hid hb10
        clear OXm OXt OYt MX MY G10 X0 X2 X34 Y0 Y2 Y34 fY0 fY2 fY34 c1' e12 hCY hb10
        go_wp2_with (first
          | (refine wpList_load_row rfl 27 (.tmp 15) rfl w6.heap.size rfl 27 cx (0, 0) _ X10 Tryz.underlying27 rfl hszx ?_)
          | (refine wpList_load_row rfl 27 (.tmp 17) rfl w8.heap.size rfl 27 cF (0, 0) _ Y10 Tryz.underlying27 rfl hszF ?_))
        refine HS.out.mono ?_
        rintro e w11 ⟨rfl, hb11⟩
        go_wp2
        go_ret
        exact ⟨rfl, HB10.out.trans (hb11.mono (HB10.out.size))⟩
  · have e1 : (x.pc == T2) = false := by simpa using q1
    have hpq : Hid (y.pc = x.pc) := Lib.hid (by rcases HGO.out with h | h; exact h.symm; exact absurd h.1 q1)
    clear q1
    by_cases q3 : d = 1
    · have e3 : (d == 1) = true := by simpa using q3
      by_cases q4 : xr = T2
      · have e4 : (xr == T2) = true := by simpa using q4
        by_cases q5 : yr = T4
        · have e5 : (yr == T4) = true := by simpa using q5
          have hrq : Hid (y.regs.set 1 xr = x.regs) := Lib.hid (by
            rcases HRG.out with h | h
            · rw [HXR.out, ← h]; exact set_same 1
            · rw [q4]; exact h.2.2.2.symm)
          clear q3 q4 q5
          have hpe : y.pc = x.pc := hpq.out
          have hre : y.regs.set 1 xr = x.regs := hrq.out
          have hCY : ((cy.setIfInBounds 2 (.int .u64 (xr))).setIfInBounds 34 (.slice Ax x.mem.length qx)) = cF := by
            rw [HCY.out, show (2 : Nat) = 1 + 1 from rfl, msRi (r := y) HLY.out 1 (by omega), ms34 (r := { y with regs := y.regs.set 1 xr }) (by show (y.regs.set 1 _).length = 32; rw [List.length_set]; exact HLY.out), hcF]
            exact mcells_congr hpe hre HBTD.out.1.symm HBTD.out.2.2.symm
          clear hpe hre
          have HcF := Lib.hid hcF
          clear hcF
          go_upto_region 16 with fail
          refine (fun (h : ∀ w10 : World, Below w.heap.size w w10 → Blk w10 w6.heap.size 27 cx → Blk w10 w8.heap.size 27 cF → w9.grownBy w10 (some w8.heap.size) → Code.wp Tryz.prog _ _ _ w10) => h _ ((HW9.out.setCell (p := ⟨w8.heap.size, 2, none⟩) (by show w.heap.size ≤ w8.heap.size; omega) _).setCell (p := ⟨w8.heap.size, 34, none⟩) (by show w.heap.size ≤ w8.heap.size; omega) _) ((DX.far (p := ⟨w8.heap.size, 2, none⟩) ne1 _).far (p := ⟨w8.heap.size, 34, none⟩) ne1 _) (by rw [← hCY]; first | exact ((DY.set_ 2 _).set_ 34 _) | (simp only [beq_iff_eq] at e1; rw [e1]; exact ((DY.set_ 2 _).set_ 34 _)) | (simp only [beq_iff_eq] at e4; rw [e4]; exact ((DY.set_ 2 _).set_ 34 _)) | (simp only [beq_iff_eq] at e1 e4; rw [e1, e4]; exact ((DY.set_ 2 _).set_ 34 _))) (grown_setCell.trans grown_setCell)) ?_
          intro w10 hb10 X10 Y10 G10
          have OXm := own_through HOX9.out.1 (by decide) DY G10
          have OXt := own_through HOX9.out.2 (by decide) DY G10
          have OYt := own_through HOY9.out.2 (by decide) DY G10
          rw [← HBTD.out.2.1] at OYt
          have MX : MachR w10 (.agg cx) x := ⟨HLX.out, _, tvx, by rw [HCX.out], RdS.of_own OXm, RdS.of_own OXt⟩
          have MY : MachR w10 (.agg cF) x := ⟨HLX.out, _, tvy, by rw [HcF.out], RdS.of_own OXm, RdS.of_own OYt⟩
          have HS := Lib.hid (same_c (.agg cx) (.agg cF) x w10 MX MY HLEN.out.1 HLEN.out.2)
          have HB10 := Lib.hid hb10
          clear OXm OXt OYt MX MY G10 X0 X2 X34 Y0 Y2 Y34 fY0 fY2 fY34 c1' e12 hCY hb10
          go_wp2_with (first
            | (refine wpList_load_row rfl 27 (.tmp 15) rfl w6.heap.size rfl 27 cx (0, 0) _ X10 Tryz.underlying27 rfl hszx ?_)
            | (refine wpList_load_row rfl 27 (.tmp 17) rfl w8.heap.size rfl 27 cF (0, 0) _ Y10 Tryz.underlying27 rfl hszF ?_))
          refine HS.out.mono ?_
          rintro e w11 ⟨rfl, hb11⟩
          go_wp2
          go_ret
          exact ⟨rfl, HB10.out.trans (hb11.mono (HB10.out.size))⟩
        · have e5 : (yr == T4) = false := by simpa using q5
          have hrq : Hid (y.regs = x.regs) := Lib.hid (by rcases HRG.out with h | h; exact h.symm; exact absurd (HXR2.out.trans h.2.2.1) q5)
          clear q3 q4 q5
          have hpe : y.pc = x.pc := hpq.out
          have hre : y.regs = x.regs := hrq.out
          have hCY : (cy.setIfInBounds 34 (.slice Ax x.mem.length qx)) = cF := by
            rw [HCY.out, ms34 (r := y) HLY.out, hcF]
            exact mcells_congr hpe hre HBTD.out.1.symm HBTD.out.2.2.symm
          clear hpe hre
          have HcF := Lib.hid hcF
          clear hcF
          go_upto_region 16 with fail
          refine (fun (h : ∀ w10 : World, Below w.heap.size w w10 → Blk w10 w6.heap.size 27 cx → Blk w10 w8.heap.size 27 cF → w9.grownBy w10 (some w8.heap.size) → Code.wp Tryz.prog _ _ _ w10) => h _ (HW9.out.setCell (p := ⟨w8.heap.size, 34, none⟩) (by show w.heap.size ≤ w8.heap.size; omega) _) (DX.far (p := ⟨w8.heap.size, 34, none⟩) ne1 _) (by rw [← hCY]; first | exact (DY.set_ 34 _) | (simp only [beq_iff_eq] at e1; rw [e1]; exact (DY.set_ 34 _)) | (simp only [beq_iff_eq] at e4; rw [e4]; exact (DY.set_ 34 _)) | (simp only [beq_iff_eq] at e1 e4; rw [e1, e4]; exact (DY.set_ 34 _))) grown_setCell) ?_
          intro w10 hb10 X10 Y10 G10
          have OXm := own_through HOX9.out.1 (by decide) DY G10
          have OXt := own_through HOX9.out.2 (by decide) DY G10
          have OYt := own_through HOY9.out.2 (by decide) DY G10
          rw [← HBTD.out.2.1] at OYt
          have MX : MachR w10 (.agg cx) x := ⟨HLX.out, _, tvx, by rw [HCX.out], RdS.of_own OXm, RdS.of_own OXt⟩
          have MY : MachR w10 (.agg cF) x := ⟨HLX.out, _, tvy, by rw [HcF.out], RdS.of_own OXm, RdS.of_own OYt⟩
          have HS := Lib.hid (same_c (.agg cx) (.agg cF) x w10 MX MY HLEN.out.1 HLEN.out.2)
          have HB10 := Lib.hid hb10
          clear OXm OXt OYt MX MY G10 X0 X2 X34 Y0 Y2 Y34 fY0 fY2 fY34 c1' e12 hCY hb10
          go_wp2_with (first
            | (refine wpList_load_row rfl 27 (.tmp 15) rfl w6.heap.size rfl 27 cx (0, 0) _ X10 Tryz.underlying27 rfl hszx ?_)
            | (refine wpList_load_row rfl 27 (.tmp 17) rfl w8.heap.size rfl 27 cF (0, 0) _ Y10 Tryz.underlying27 rfl hszF ?_))
          refine HS.out.mono ?_
          rintro e w11 ⟨rfl, hb11⟩
          go_wp2
          go_ret
          exact ⟨rfl, HB10.out.trans (hb11.mono (HB10.out.size))⟩
      · have e4 : (xr == T2) = false := by simpa using q4
        have hrq : Hid (y.regs = x.regs) := Lib.hid (by rcases HRG.out with h | h; exact h.symm; exact absurd (HXR.out.trans h.2.1) q4)
        clear q3 q4
        have hpe : y.pc = x.pc := hpq.out
        have hre : y.regs = x.regs := hrq.out
        have hCY : (cy.setIfInBounds 34 (.slice Ax x.mem.length qx)) = cF := by
          rw [HCY.out, ms34 (r := y) HLY.out, hcF]
          exact mcells_congr hpe hre HBTD.out.1.symm HBTD.out.2.2.symm
        clear hpe hre
        have HcF := Lib.hid hcF
        clear hcF
        go_upto_region 16 with fail
        refine (fun (h : ∀ w10 : World, Below w.heap.size w w10 → Blk w10 w6.heap.size 27 cx → Blk w10 w8.heap.size 27 cF → w9.grownBy w10 (some w8.heap.size) → Code.wp Tryz.prog _ _ _ w10) => h _ (HW9.out.setCell (p := ⟨w8.heap.size, 34, none⟩) (by show w.heap.size ≤ w8.heap.size; omega) _) (DX.far (p := ⟨w8.heap.size, 34, none⟩) ne1 _) (by rw [← hCY]; first | exact (DY.set_ 34 _) | (simp only [beq_iff_eq] at e1; rw [e1]; exact (DY.set_ 34 _)) | (simp only [beq_iff_eq] at e4; rw [e4]; exact (DY.set_ 34 _)) | (simp only [beq_iff_eq] at e1 e4; rw [e1, e4]; exact (DY.set_ 34 _))) grown_setCell) ?_
        intro w10 hb10 X10 Y10 G10
        have OXm := own_through HOX9.out.1 (by decide) DY G10
        have OXt := own_through HOX9.out.2 (by decide) DY G10
        have OYt := own_through HOY9.out.2 (by decide) DY G10
        rw [← HBTD.out.2.1] at OYt
        have MX : MachR w10 (.agg cx) x := ⟨HLX.out, _, tvx, by rw [HCX.out], RdS.of_own OXm, RdS.of_own OXt⟩
        have MY : MachR w10 (.agg cF) x := ⟨HLX.out, _, tvy, by rw [HcF.out], RdS.of_own OXm, RdS.of_own OYt⟩
        have HS := Lib.hid (same_c (.agg cx) (.agg cF) x w10 MX MY HLEN.out.1 HLEN.out.2)
        have HB10 := Lib.hid hb10
        clear OXm OXt OYt MX MY G10 X0 X2 X34 Y0 Y2 Y34 fY0 fY2 fY34 c1' e12 hCY hb10
        go_wp2_with (first
          | (refine wpList_load_row rfl 27 (.tmp 15) rfl w6.heap.size rfl 27 cx (0, 0) _ X10 Tryz.underlying27 rfl hszx ?_)
          | (refine wpList_load_row rfl 27 (.tmp 17) rfl w8.heap.size rfl 27 cF (0, 0) _ Y10 Tryz.underlying27 rfl hszF ?_))
        refine HS.out.mono ?_
        rintro e w11 ⟨rfl, hb11⟩
        go_wp2
        go_ret
        exact ⟨rfl, HB10.out.trans (hb11.mono (HB10.out.size))⟩
    · have e3 : (d == 1) = false := by simpa using q3
      have hrq : Hid (y.regs = x.regs) := Lib.hid (by rcases HRG.out with h | h; exact h.symm; exact absurd h.1 q3)
      clear q3
      have hpe : y.pc = x.pc := hpq.out
      have hre : y.regs = x.regs := hrq.out
      have hCY : (cy.setIfInBounds 34 (.slice Ax x.mem.length qx)) = cF := by
        rw [HCY.out, ms34 (r := y) HLY.out, hcF]
        exact mcells_congr hpe hre HBTD.out.1.symm HBTD.out.2.2.symm
      clear hpe hre
      have HcF := Lib.hid hcF
      clear hcF
      go_upto_region 16 with fail
      refine (fun (h : ∀ w10 : World, Below w.heap.size w w10 → Blk w10 w6.heap.size 27 cx → Blk w10 w8.heap.size 27 cF → w9.grownBy w10 (some w8.heap.size) → Code.wp Tryz.prog _ _ _ w10) => h _ (HW9.out.setCell (p := ⟨w8.heap.size, 34, none⟩) (by show w.heap.size ≤ w8.heap.size; omega) _) (DX.far (p := ⟨w8.heap.size, 34, none⟩) ne1 _) (by rw [← hCY]; first | exact (DY.set_ 34 _) | (simp only [beq_iff_eq] at e1; rw [e1]; exact (DY.set_ 34 _)) | (simp only [beq_iff_eq] at e4; rw [e4]; exact (DY.set_ 34 _)) | (simp only [beq_iff_eq] at e1 e4; rw [e1, e4]; exact (DY.set_ 34 _))) grown_setCell) ?_
      intro w10 hb10 X10 Y10 G10
      have OXm := own_through HOX9.out.1 (by decide) DY G10
      have OXt := own_through HOX9.out.2 (by decide) DY G10
      have OYt := own_through HOY9.out.2 (by decide) DY G10
      rw [← HBTD.out.2.1] at OYt
      have MX : MachR w10 (.agg cx) x := ⟨HLX.out, _, tvx, by rw [HCX.out], RdS.of_own OXm, RdS.of_own OXt⟩
      have MY : MachR w10 (.agg cF) x := ⟨HLX.out, _, tvy, by rw [HcF.out], RdS.of_own OXm, RdS.of_own OYt⟩
      have HS := Lib.hid (same_c (.agg cx) (.agg cF) x w10 MX MY HLEN.out.1 HLEN.out.2)
      have HB10 := Lib.hid hb10
      clear OXm OXt OYt MX MY G10 X0 X2 X34 Y0 Y2 Y34 fY0 fY2 fY34 c1' e12 hCY hb10
      go_wp2_with (first
        | (refine wpList_load_row rfl 27 (.tmp 15) rfl w6.heap.size rfl 27 cx (0, 0) _ X10 Tryz.underlying27 rfl hszx ?_)
        | (refine wpList_load_row rfl 27 (.tmp 17) rfl w8.heap.size rfl 27 cF (0, 0) _ Y10 Tryz.underlying27 rfl hszF ?_))
      refine HS.out.mono ?_
      rintro e w11 ⟨rfl, hb11⟩
      go_wp2
      go_ret
      exact ⟨rfl, HB10.out.trans (hb11.mono (HB10.out.size))⟩
end Go.Proofs.YtoehlmiadiiimaaGreatDoor
