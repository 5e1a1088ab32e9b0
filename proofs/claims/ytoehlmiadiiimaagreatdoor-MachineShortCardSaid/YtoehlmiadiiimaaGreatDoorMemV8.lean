/-
  The law MachineShort: its walk.
-/
import Derived.Test.YtoehlmiadiiimaaGreatDoorMemV7
import Derived.Test.YtoehlmiadiiimaaGreatDoorMemR8
namespace Go.Proofs.YtoehlmiadiiimaaGreatDoor
open Go.ChangeShapes Go.WideShapes Go.RowKit Go.Proofs.YtoehlmiadiiimaaGreatDoor.Ex

set_option maxRecDepth 100000 in
set_option maxHeartbeats 4000000 in
theorem short_ret (op d s t m : Int) (regs : List Int) (h32 : regs.length = 32) (pc : Nat) (hpc : pc < 4294967296) (nm : ByteArray) (f : Int) (en ef : Int) (is : Bool) (rM rN : Rn) (hcase : is = false ∨ f = 83 ∨ (f = 76 ∧ ¬ nm.toList = [106, 97, 108, 114])) (w : World) (hL : LG w) (h13 : 13 ≤ w.heap.size)
    (h30 : ∀ W, LG W → Calls Tryz.prog 30 #[.int .u8 op] W fun e w' => e = .returned (.tuple #[.string nm, .int .i64 en]) ∧ Below W.heap.size W w')
    (h31 : ∀ W, LG W → Calls Tryz.prog 31 #[.int .u8 op] W fun e w' => e = .returned (.tuple #[.int .u8 f, .int .i64 ef]) ∧ Below W.heap.size W w')
    (hsh : ∀ W, LG W → 13 ≤ W.heap.size → Calls Tryz.prog 32 #[insnV op d s t m, .agg (regs.map (Value.int .u64)).toArray, .int .u64 ((pc / 2 : Nat) : Int)] W fun e w' => Below W.heap.size W w' ∧ ∃ v1 v2, e = .returned (.tuple #[v1, v2, .bool is]) ∧ MachR w' v1 rM ∧ MachR w' v2 rN) :
    Calls Tryz.prog 9 #[insnV op d s t m, .agg (regs.map (Value.int .u64)).toArray, .int .u32 pc] w (GoodPost w) := by
  have H25 : Hid (∀ W, Below w.heap.size w W → Calls Tryz.prog 25 #[] W (GoodPost W)) := Lib.hid fun W hb => ret25 W (laidG_below hL (hb.mono h13))
  have H30 : Hid (∀ W, Below w.heap.size w W → Calls Tryz.prog 30 #[.int .u8 op] W fun e w' => e = .returned (.tuple #[.string nm, .int .i64 en]) ∧ Below W.heap.size W w') := Lib.hid fun W hb => h30 W (laidG_below hL (hb.mono h13))
  have H31 : Hid (∀ W, Below w.heap.size w W → Calls Tryz.prog 31 #[.int .u8 op] W fun e w' => e = .returned (.tuple #[.int .u8 f, .int .i64 ef]) ∧ Below W.heap.size W w') := Lib.hid fun W hb => h31 W (laidG_below hL (hb.mono h13))
  have HSH : Hid (∀ W, Below w.heap.size w W → Calls Tryz.prog 32 #[insnV op d s t m, .agg (regs.map (Value.int .u64)).toArray, .int .u64 ((pc / 2 : Nat) : Int)] W fun e w' => Below W.heap.size W w' ∧ ∃ v1 v2, e = .returned (.tuple #[v1, v2, .bool is]) ∧ MachR w' v1 rM ∧ MachR w' v2 rN) := Lib.hid fun W hb => hsh W (laidG_below hL (hb.mono h13)) (Nat.le_trans h13 hb.size)
  have hrow : (Tryz.prog.info? 23).map (·.size) = some (regs.map (Value.int .u64)).toArray.size := by rw [List.size_toArray, List.length_map, h32]; exact info23
  clear h30 h31 hsh hL h13 h32
  generalize (regs.map (Value.int .u64)).toArray = rg at *
  go_enter Tryz.func9, Tryz.ntmps9
  go_wp2_with fail
  refine (H25.out _ (((Below.refl _ _).alloc (Nat.le_refl _) _).alloc (by simp) _)).mono ?_
  intro e w1 hp1
  obtain ⟨rfl, hb1⟩ := hp1
  have hz1 : w.heap.size + 2 ≤ w1.heap.size := by have := hb1.size; simpa using this
  have D0 : Blk w1 w.heap.size 57 #[.int .u8 op, .int .i64 d, .int .i64 s, .int .i64 t, .int .i64 m] := ((Blk.new w 57 _).alloc _).below hb1 (by simp; omega)
  have D1 : Blk w1 (w.heap.size + 1) 23 rg := (blk1 w _ 23 rg).below hb1 (by simp)
  have HW1 := Lib.hid ((((Below.refl _ _).alloc (Nat.le_refl _) _).alloc (by simp) _).trans (hb1.mono (by simp; omega)) : Below w.heap.size w w1)
  have c0 : ∀ i, w1.cell? ⟨w.heap.size, i, none⟩ = (#[.int .u8 op, .int .i64 d, .int .i64 s, .int .i64 t, .int .i64 m] : Array Value)[i]? := D0.cell
  clear hb1
  go_wp2_with fail
  refine (H30.out _ HW1.out).mono ?_
  intro e w2 hp2
  obtain ⟨rfl, hb2⟩ := hp2
  have hz2 := Nat.le_trans hz1 hb2.size
  have E0 := D0.below hb2 D0.lt
  have E1 := D1.below hb2 D1.lt
  have HW2 := Lib.hid (HW1.out.trans (hb2.mono (by omega)))
  clear c0 D0 D1 hb2 hz1 HW1
  have c0 : ∀ i, w2.cell? ⟨w.heap.size, i, none⟩ = (#[.int .u8 op, .int .i64 d, .int .i64 s, .int .i64 t, .int .i64 m] : Array Value)[i]? := E0.cell
  go_wp2_with fail
  refine (H31.out _ HW2.out).mono ?_
  intro e w3 hp3
  obtain ⟨rfl, hb3⟩ := hp3
  have hz3 := Nat.le_trans hz2 hb3.size
  have F0 := E0.below hb3 E0.lt
  have F1 := E1.below hb3 E1.lt
  have HW3 := Lib.hid (HW2.out.trans (hb3.mono (by omega)))
  clear c0 E0 E1 hb3 hz2 HW2
  have c0 : ∀ i, w3.cell? ⟨w.heap.size, i, none⟩ = (#[.int .u8 op, .int .i64 d, .int .i64 s, .int .i64 t, .int .i64 m] : Array Value)[i]? := F0.cell
  go_wp2_with (refine wpList_load_row rfl 23 (.tmp 4) rfl (w.heap.size + 1) rfl 23 rg (0, 0) _ F1 Tryz.underlying23 rfl hrow ?_)
  rw [show ((pc : Int) / 2) = ((pc / 2 : Nat) : Int) from by omega]
  refine (HSH.out _ HW3.out).mono ?_
  intro e w4 hp4
  obtain ⟨hb4, v1, v2, rfl, hm1, hm2⟩ := hp4
  obtain ⟨c1, A1, q1, B1, p1, rfl, hs1, hall1, -, -, -, -, -⟩ := mach_open hm1
  obtain ⟨c2, A2, q2, B2, p2, rfl, hs2, hall2, -, -, -, -, -⟩ := mach_open hm2
  have HW4 := Lib.hid (HW3.out.trans (hb4.mono (by omega)))
  have hz4 := Nat.le_trans hz3 hb4.size
  have hsz1 : (Tryz.prog.info? 27).map (·.size) = some c1.size := by rw [hs1.out]; exact info27
  have hsz2 : (Tryz.prog.info? 27).map (·.size) = some c2.size := by rw [hs2.out]; exact info27
  clear c0 F0 F1 hb4 HW3 hm1 hm2 HSH H25 H30 H31 hrow
  have h3 : ∀ o1 Z, Blk (((w4.alloc o1).alloc (.cells Z 27)).setRow w4.heap.size c1) (w4.heap.size + 1) 27 Z := fun o1 Z => (setRow_other _ _ _ _ (by omega)).trans (blk1 w4 o1 27 Z)
  have hk : ∀ o1 o2, Below w4.heap.size w4 ((((w4.alloc o1).alloc o2).setRow w4.heap.size c1).setRow (w4.heap.size + 1) c2) := fun o1 o2 => below_setRow (below_setRow (((Below.refl _ _).alloc (Nat.le_refl _) _).alloc (by simp) _) (Nat.le_refl _) c1) (Nat.le_succ _) c2
  go_upto_region 5 with (first
    | (refine wpList_store_row rfl 27 (.tmp 12) (.tmp 39) rfl w4.heap.size c1 rfl rfl 27 _ (by exact heap_alloc2_old w4 _ _) hsz1 (by rw [hs1.out]; rfl) hall1 ?_)
    | (refine wpList_store_row rfl 27 (.tmp 13) (.tmp 40) rfl (w4.heap.size + 1) c2 rfl rfl 27 _ (by exact h3 _ _) hsz2 (by rw [hs2.out]; rfl) hall2 ?_))
  refine (fun (h : ∀ w5 : World, Below w4.heap.size w4 w5 → Code.wp Tryz.prog _ _ _ w5) => h _ (hk _ _)) ?_
  intro w5 hb5
  have HW5 := Lib.hid (HW4.out.trans (hb5.mono (HW4.out.size)))
  clear hb5 hk h3 HW4
  rcases hcase with rfl | rfl | ⟨rfl, hj⟩
  · go_wp2
    all_goals go_ret
    all_goals exact ⟨rfl, HW5.out⟩
  · cases is <;> go_wp2
    all_goals go_ret
    all_goals exact ⟨rfl, HW5.out⟩
  · cases is <;> go_wp2
    all_goals go_ret
    all_goals exact ⟨rfl, HW5.out⟩
end Go.Proofs.YtoehlmiadiiimaaGreatDoor
