/-
  machine.Same, at machines that are the same.
-/
import Derived.Test.YtoehlmiadiiimaaGreatDoorMemR6
namespace Go.Proofs.YtoehlmiadiiimaaGreatDoor
open Go.ChangeShapes Go.WideShapes Go.RowKit Go.Proofs.YtoehlmiadiiimaaGreatDoor.Ex

set_option maxRecDepth 100000 in
set_option maxHeartbeats 1000000 in
theorem equal38_c (v1 v2 : Value) (l : List Int) (w : World) (h1 : RdS w v1 (l.map (.int .u8))) (h2 : RdS w v2 (l.map (.int .u8))) (hl : l.length ≤ 1000000) : Calls Tryz.prog 38 #[v1, v2] w (GoodPost w) := by
  have HT1 := Lib.hid h1
  have HT2 := Lib.hid h2
  obtain ⟨A1, q1, rfl, -, -⟩ := h1.form
  obtain ⟨A2, q2, rfl, -, -⟩ := h2.form
  clear h1 h2
  simp only [List.length_map] at *
  go_enter Tryz.func38, Tryz.ntmps38
  go_wp2
  go_loopw [13] (fun i wr => ∃ j : Nat, j ≤ l.length ∧ i = .int .i64 j ∧ Hid (Below w.heap.size w wr)) (fun i _ => l.length - (intOf i).toNat)
  case atStart => exact ⟨0, Nat.zero_le _, rfl, Lib.hid (Below.refl _ _)⟩
  case round =>
    obtain ⟨j, hj, rfl, hB⟩ := hrel
    by_cases hlt : j < l.length
    · obtain ⟨ad1, rfl, hx1⟩ := rd_at (HT1.out.keep hB.out) hlt
      obtain ⟨ad2, rfl, hx2⟩ := rd_at (HT2.out.keep hB.out) hlt
      go_wp2
      go_region
      go_wp2
      go_roundw
      case rel => exact ⟨j + 1, by omega, by go_num, Lib.hid hB.out.drew⟩
      case measure => simp [intOf]; omega
    · obtain rfl : j = l.length := by omega
      go_wp2
      go_ret
      exact ⟨rfl, hB.out⟩
set_option maxRecDepth 100000 in
set_option maxHeartbeats 1000000 in
theorem equal39_c (v1 v2 : Value) (l : List Int) (w : World) (h1 : RdS w v1 (l.map (.int .u64))) (h2 : RdS w v2 (l.map (.int .u64))) (hl : l.length ≤ 1000000) : Calls Tryz.prog 39 #[v1, v2] w (GoodPost w) := by
  have HT1 := Lib.hid h1
  have HT2 := Lib.hid h2
  obtain ⟨A1, q1, rfl, -, -⟩ := h1.form
  obtain ⟨A2, q2, rfl, -, -⟩ := h2.form
  clear h1 h2
  simp only [List.length_map] at *
  go_enter Tryz.func39, Tryz.ntmps39
  go_wp2
  go_loopw [13] (fun i wr => ∃ j : Nat, j ≤ l.length ∧ i = .int .i64 j ∧ Hid (Below w.heap.size w wr)) (fun i _ => l.length - (intOf i).toNat)
  case atStart => exact ⟨0, Nat.zero_le _, rfl, Lib.hid (Below.refl _ _)⟩
  case round =>
    obtain ⟨j, hj, rfl, hB⟩ := hrel
    by_cases hlt : j < l.length
    · obtain ⟨ad1, rfl, hx1⟩ := rd_at (HT1.out.keep hB.out) hlt
      obtain ⟨ad2, rfl, hx2⟩ := rd_at (HT2.out.keep hB.out) hlt
      go_wp2
      go_region
      go_wp2
      go_roundw
      case rel => exact ⟨j + 1, by omega, by go_num, Lib.hid hB.out.drew⟩
      case measure => simp [intOf]; omega
    · obtain rfl : j = l.length := by omega
      go_wp2
      go_ret
      exact ⟨rfl, hB.out⟩
theorem run_equalIn_same {P : Program} (w : World) (d : Nat) (t e : TypeId) (n : Nat) (k : IntKind) (ht : P.underlying t = some (.array n e)) (he : P.underlying e = some (.int k)) (hsz : ∀ w, (sizeOf e).run P w = .ok 1 w)
    (xs : List Int) (hx : xs.length = n) :
    (Op.equalIn (d + 2) t (.agg (xs.map (Value.int k)).toArray) (.agg (xs.map (Value.int k)).toArray)).run P w = .ok true w := by
  rw [Op.equalIn]
  simp only [Sem.run_bind, run_underlying ht, Result.andThen_ok, hsz, Std.Legacy.Range.forIn_eq_forIn_range', Std.Legacy.Range.size, Nat.sub_zero, Nat.add_sub_cancel, Nat.div_one]
  have hl : ∀ i ∈ List.range' 0 n 1, i < n := fun i hi => by simpa using (List.mem_range'_1.1 hi).2
  generalize List.range' 0 n 1 = l at hl ⊢
  induction l with
  | nil => simp
  | cons i l ih =>
    have hi : i < n := hl i (by simp)
    have px : (part e (xs.map (Value.int k)).toArray (i * 1)).run P w = .ok (.int k (xs.getD i 0)) w := by
      simp [part, isAgg, run_underlying he, List.getD, List.getElem?_eq_getElem (show i < xs.length by omega)]
    have pe : (Op.equalIn (d + 1) e (.int k (xs.getD i 0)) (.int k (xs.getD i 0))).run P w = .ok true w := by
      rw [run_equalIn_int w d e k k _ _ he]
      simp
    simp only [List.forIn_cons, Sem.run_bind, px, pe, Result.andThen_ok]
    simp only [Bool.not_true, Bool.false_eq_true, if_false, Sem.run_pure, Result.andThen_ok]
    exact ih fun j hj => hl j (by simp [hj])
theorem size22 : ∀ w, (sizeOf 22).run Tryz.prog w = .ok 1 w := fun w => by
  kernel_rfl
theorem wpList_load_mid_w {P : Program} {ops : Array Oper} {rest : List Oper} {op : Oper} {a : Act} {w : World} {Q : Exit → Act → World → Prop} (hw : Region.wanted op (yielded ops a.tmps) = true) (ty : TypeId) (x : Operand) (ho : op.op = .load ty x)
    (b o : Nat) (hx : a.eval x = .pointer (some ⟨b, o, none⟩)) (cs : List Value) (d : TypeDesc) (hc : w.rangeAt b o cs)
    (hu : P.underlying ty = some d) (hd : d.isRow = true) (hi : (P.info? ty).map (·.size) = some cs.length)
    (h : wpList P ops Q rest (a.put op.dst (.agg cs.toArray)) w) : wpList P ops Q (op :: rest) a w :=
  wpList_step fun K hK => by rw [if_pos hw]; exact wp_load_mid ty x ho b o hx cs d hc hu hd hi (hK _ _ h)
set_option maxRecDepth 100000 in
set_option maxHeartbeats 2000000 in
theorem msame_c (v1 v2 : Value) (r : Rn) (w : World) (h1 : MachR w v1 r) (h2 : MachR w v2 r) (hm : r.mem.length ≤ 1000000) (ht : r.told.length ≤ 1000000) : Calls Tryz.prog 19 #[v1, v2] w (GoodPost w) := by
  have hlen := h1.len
  obtain ⟨mv1, tv1, hv1, hm1, ht1⟩ := h1.form
  obtain ⟨mv2, tv2, hv2, hm2, ht2⟩ := h2.form
  obtain ⟨A1, q1, rfl, -, -⟩ := hm1.form
  obtain ⟨A2, q2, rfl, -, -⟩ := hm2.form
  obtain ⟨B1, p1, rfl, -, -⟩ := ht1.form
  obtain ⟨B2, p2, rfl, -, -⟩ := ht2.form
  subst hv1; subst hv2
  have F : ∀ (mv tv : Value) (cs : Array Value), cs = (mcells r mv tv).toArray → cs[0]? = some (.int .u64 r.pc) ∧ cs[33]? = some (.int .u64 r.base) ∧ cs[34]? = some mv ∧ cs[35]? = some tv ∧ cs[36]? = some (.bool r.done) ∧ Hid (∀ i, i < 32 → cs[1 + i]? = some (.int .u64 (r.regs.getD i 0))) := by
    rintro mv tv cs rfl
    exact ⟨mc0, mc33 hlen, mc34 hlen, mc35 hlen, mc36 hlen, Lib.hid (mcR hlen)⟩
  obtain ⟨c0, c33, c34, c35, c36, cR⟩ := F _ _ _ (Eq.refl (mcells r (.slice A1 (r.mem.map (Value.int .u8)).length q1) (.slice B1 (r.told.map (Value.int .u64)).length p1)).toArray)
  obtain ⟨d0, d33, d34, d35, d36, dR⟩ := F _ _ _ (Eq.refl (mcells r (.slice A2 (r.mem.map (Value.int .u8)).length q2) (.slice B2 (r.told.map (Value.int .u64)).length p2)).toArray)
  clear F
  simp only [List.length_map] at *
  generalize (mcells r (.slice A1 r.mem.length q1) (.slice B1 r.told.length p1)).toArray = cs at *
  generalize (mcells r (.slice A2 r.mem.length q2) (.slice B2 r.told.length p2)).toArray = ds at *
  have E38 : ∀ W, Below w.heap.size w W → Calls Tryz.prog 38 #[.slice A1 r.mem.length q1, .slice A2 r.mem.length q2] W (GoodPost W) := fun W hb => equal38_c _ _ r.mem W (hm1.keep hb) (hm2.keep hb) hm
  have E39 : ∀ W, Below w.heap.size w W → Calls Tryz.prog 39 #[.slice B1 r.told.length p1, .slice B2 r.told.length p2] W (GoodPost W) := fun W hb => equal39_c _ _ r.told W (ht1.keep hb) (ht2.keep hb) ht
  have H38 := Lib.hid E38
  have H39 := Lib.hid E39
  have hR : ∀ (c : Array Value) (b : Nat) (W : World), Blk W b 27 c → Hid (∀ i, i < 32 → c[1 + i]? = some (.int .u64 (r.regs.getD i 0))) → W.rangeAt b 1 (r.regs.map (Value.int .u64)) := by
    intro c b W hb hc j u hu
    have hj : j < 32 := by
      rcases Nat.lt_or_ge j 32 with h | h
      · exact h
      · rw [List.getElem?_eq_none (by simp; omega)] at hu; cases hu
    rw [hb.cell (1 + j), hc.out j hj]
    have hjl : j < r.regs.length := by omega
    simp [hjl] at hu
    simp [List.getD, hjl, hu]
  have hS1 := hR cs w.heap.size ((w.alloc (.cells cs 27)).alloc (.cells ds 27)) ((Blk.new w 27 cs).alloc _) cR
  have hS2 := hR ds (w.heap.size + 1) ((w.alloc (.cells cs 27)).alloc (.cells ds 27)) (by simpa using Blk.new (w.alloc (.cells cs 27)) 27 ds) dR
  have hEq : ∀ W, (Op.equalIn 10000 23 (.agg (r.regs.map (Value.int .u64)).toArray) (.agg (r.regs.map (Value.int .u64)).toArray)).run Tryz.prog W = .ok true W := fun W => run_equalIn_same W 9998 23 22 32 .u64 Tryz.underlying23 Tryz.underlying22 size22 r.regs hlen
  have hsz23 : (Tryz.prog.info? 23).map (·.size) = some (r.regs.map (Value.int .u64)).length := by rw [List.length_map, hlen]; kernel_rfl
  clear h1 h2 hm1 hm2 ht1 ht2 hR E38 E39
  generalize r.regs.map (Value.int .u64) = rs at *
  go_enter Tryz.func19, Tryz.ntmps19
  go_wp2_with (first
    | (refine wpList_load_mid_w (by rfl) 23 (.tmp 11) rfl w.heap.size 1 rfl rs _ hS1 Tryz.underlying23 rfl hsz23 ?_)
    | (refine wpList_load_mid_w (by rfl) 23 (.tmp 13) rfl (w.heap.size + 1) 1 rfl rs _ hS2 Tryz.underlying23 rfl hsz23 ?_))
  refine (H38.out _ (((Below.refl _ _).alloc (Nat.le_refl _) _).alloc (by simp) _)).mono ?_
  intro e w1 hp1
  obtain ⟨rfl, hb1⟩ := hp1
  have D1 : Blk w1 w.heap.size 27 cs := ((Blk.new w 27 cs).alloc _).below hb1 (by simp; omega)
  have E1 : Blk w1 (w.heap.size + 1) 27 ds := (show Blk ((w.alloc (.cells cs 27)).alloc (.cells ds 27)) (w.heap.size + 1) 27 ds by simpa using Blk.new (w.alloc (.cells cs 27)) 27 ds).below hb1 (by simp)
  have HW1 := Lib.hid ((((Below.refl _ _).alloc (Nat.le_refl _) _).alloc (by simp) _).trans (hb1.mono (by simp; omega)) : Below w.heap.size w w1)
  have hz1 : w.heap.size + 2 ≤ w1.heap.size := by have := hb1.size; simpa using this
  have s35 := (D1.cell 35).trans c35
  have u35 := (E1.cell 35).trans d35
  clear hb1
  go_wp2_with fail
  refine (H39.out _ HW1.out).mono ?_
  intro e w2 hp2
  obtain ⟨rfl, hb2⟩ := hp2
  have s36 := ((D1.below hb2 (by omega)).cell 36).trans c36
  have u36 := ((E1.below hb2 (by omega)).cell 36).trans d36
  have HW2 := Lib.hid (HW1.out.trans (hb2.mono (by omega)))
  clear hb2
  go_wp2
  go_ret
  exact ⟨rfl, HW2.out⟩
end Go.Proofs.YtoehlmiadiiimaaGreatDoor
