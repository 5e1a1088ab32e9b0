/-
  The law MachineShort: its two machines.
-/
import Derived.Test.YtoehlmiadiiimaaGreatDoorMemV4
import Derived.Test.YtoehlmiadiiimaaGreatDoorMemV6
import Derived.Test.YtoehlmiadiiimaaGreatDoorMemR8
import Derived.Deep.MidRow
namespace Go.Proofs.YtoehlmiadiiimaaGreatDoor
open Go.ChangeShapes Go.WideShapes Go.RowKit Go.Proofs.YtoehlmiadiiimaaGreatDoor.Ex

section
variable (w : World) (o1 o2 o3 : Obj) (t : TypeId) (cs : Array Value)
theorem blk1 : Blk ((w.alloc o1).alloc (.cells cs t)) (w.heap.size + 1) t cs := by simpa using Blk.new (w.alloc o1) t cs
theorem blk2 : Blk (((w.alloc o1).alloc o2).alloc (.cells cs t)) (w.heap.size + 2) t cs := by simpa using Blk.new ((w.alloc o1).alloc o2) t cs
theorem blk3 : Blk ((((w.alloc o1).alloc o2).alloc o3).alloc (.cells cs t)) (w.heap.size + 3) t cs := by simpa using Blk.new (((w.alloc o1).alloc o2).alloc o3) t cs
theorem below4 (o4 : Obj) : Below w.heap.size w ((((w.alloc o1).alloc o2).alloc o3).alloc o4) := ((((Below.refl _ _).alloc (Nat.le_refl _) _).alloc (by simp) _).alloc (by simp; omega) _).alloc (by simp; omega) _
end
theorem rds_blk {W : World} {g : Nat} {t : TypeId} {l : List Value} (h : Blk W g t l.toArray) : RdS W (.slice (some ⟨g, 0, none⟩) l.length l.length) l :=
  ⟨_, _, rfl, Nat.le_refl _, fun _ => ⟨_, rfl, h.lt, fun j u hu => by rw [Addr.add_mid, Nat.zero_add, h.cell]; simpa using hu⟩⟩
/-- Cells laid from a place on. -/
def putL (cs : Array Value) : Nat → List Value → Array Value
  | _, [] => cs
  | o, v :: r => putL (cs.setIfInBounds o v) (o + 1) r
theorem Blk.setCells {g : Nat} {t : TypeId} : ∀ (l : List Value) (o : Nat) (w : World) (cs : Array Value), Blk w g t cs → Blk (w.setCells g o l) g t (putL cs o l)
  | [], _, _, _, h => h
  | v :: r, o, _, _, h => Blk.setCells r (o + 1) _ _ (h.set_ o v)
theorem size_setCells {b : Nat} : ∀ (l : List Value) (o : Nat) (w : World), (w.setCells b o l).heap.size = w.heap.size
  | [], _, _ => rfl
  | v :: r, o, w => (size_setCells r (o + 1) _).trans (by simp)
theorem putL_list : ∀ (l : List Value) (a x b : List Value), x.length = l.length → putL (a ++ x ++ b).toArray a.length l = (a ++ l ++ b).toArray
  | [], a, x, b, h => by
    have : x = [] := List.eq_nil_of_length_eq_zero h
    subst this; rfl
  | v :: r, a, [], b, h => by simp at h
  | v :: r, a, y :: x, b, h => by
    have e : (a ++ y :: x ++ b).toArray.setIfInBounds a.length v = ((a ++ [v]) ++ x ++ b).toArray := by simp
    rw [putL, e]
    have := putL_list r (a ++ [v]) x b (by simpa using h)
    rw [List.length_append] at this
    rw [show a.length + 1 = a.length + [v].length from rfl, this]
    simp
theorem putL_mcells {r : Rn} {mv tv : Value} (h : r.regs.length = 32) (regs : List Int) (h' : regs.length = 32) : putL (mcells r mv tv).toArray 1 (regs.map (Value.int .u64)) = (mcells { r with regs := regs } mv tv).toArray := by
  have := putL_list (regs.map (Value.int .u64)) [.int .u64 r.pc] (r.regs.map (Value.int .u64)) [.int .u64 r.base, mv, tv, .bool r.done] (by simp [h, h'])
  simpa [mcells] using this
theorem there_blk {w : World} {g : Nat} {t : TypeId} {cs : Array Value} (h : Blk w g t cs) (o n : Nat) (hs : o + n ≤ cs.size) : w.there g o n := fun j hj => ⟨by rw [h.cell, Option.isSome_iff_exists]; exact ⟨cs[o + j], Array.getElem?_eq_getElem (by omega)⟩, h.frozen _⟩
theorem grown_setCells {b : Nat} : ∀ (l : List Value) (o : Nat) (w : World), w.grownBy (w.setCells b o l) (some b)
  | [], _, _ => ⟨rfl, rfl, rfl, Nat.le_refl _, fun _ _ _ => rfl⟩
  | v :: r, o, w => by
    have h := grown_setCells (b := b) r (o + 1) (w.setCell ⟨b, o, none⟩ v)
    exact ⟨h.os, h.tape, h.output, Nat.le_trans (by simp) h.size, fun k hk hne => (h.block k (by simpa using hk) hne).trans (Below.heap_setCell w ⟨b, o, none⟩ v k (fun e => hne (by rw [e])))⟩
theorem grown_setCell {b o : Nat} {v : Value} {w : World} : w.grownBy (w.setCell ⟨b, o, none⟩ v) (some b) :=
  ⟨rfl, rfl, rfl, by simp, fun k _ hne => Below.heap_setCell w ⟨b, o, none⟩ v k (fun e => hne (by rw [e]))⟩
theorem grown_setRow {b : Nat} {cs : Array Value} {w : World} : w.grownBy (w.setRow b cs) (some b) :=
  ⟨rfl, rfl, rfl, by simp, fun k _ hne => setRow_other w b k cs (fun e => hne (by rw [e]))⟩
/-- The slices of a machine, through a write on a block of machines. -/
theorem own_through {w w' : World} {B b : Nat} {e : TypeId} {v : Value} {n : Nat} {xs : List Value} {cs : Array Value} (h : w.ownsRow B e 1 v n xs) (he : e ≠ 27) (hb : Blk w b 27 cs) (hg : w.grownBy w' (some b)) : w'.ownsRow B e 1 v n xs :=
  h.kept hg (.inr (own_blk_ne h hb he))
theorem blk_through {w w' : World} {b k : Nat} {t : TypeId} {cs : Array Value} (h : Blk w k t cs) (hg : w.grownBy w' (some b)) (hne : k ≠ b) : Blk w' k t cs := (hg.block k h.lt (by simpa using hne)).trans h
/-- All slices of two machines. -/
structure Owns2 (w : World) (m1 t1 m2 t2 : Value) (l1 l2 : List Int) : Prop where
  m1 : w.ownsRow 0 5 1 m1 l1.length (l1.map (.int .u8))
  t1 : w.ownsRow 0 22 1 t1 0 []
  m2 : w.ownsRow 0 5 1 m2 l2.length (l2.map (.int .u8))
  t2 : w.ownsRow 0 22 1 t2 0 []
theorem Owns2.through {w w' : World} {m1 t1 m2 t2 : Value} {l1 l2 : List Int} {b : Nat} {cs : Array Value} (h : Owns2 w m1 t1 m2 t2 l1 l2) (hb : Blk w b 27 cs) (hg : w.grownBy w' (some b)) : Owns2 w' m1 t1 m2 t2 l1 l2 :=
  ⟨own_through h.m1 (by decide) hb hg, own_through h.t1 (by decide) hb hg, own_through h.m2 (by decide) hb hg, own_through h.t2 (by decide) hb hg⟩
theorem yieldsIf_load_blk {P : Program} {ops : Array Oper} {S : World → Prop} {op : Oper} {a : Act} (hw : Region.wanted op (yielded ops a.tmps) = true) (ty : TypeId) (x : Operand) (ho : op.op = .load ty x)
    (g : Nat) (hx : a.eval x = .pointer (some ⟨g, 0, none⟩)) (t : TypeId) (cs : Array Value) (d : TypeDesc) (hS : ∀ w, S w → Blk w g t cs)
    (hu : P.underlying ty = some d) (hd : (match d with | .struct _ | .array _ _ => true | _ => false) = true) (hi : (P.info? ty).map (·.size) = some cs.size) : YieldsIf P ops S op (.agg cs) a :=
  .inl ⟨hw, fun w h => by
    unfold execOp
    simp only [ho, hx, Instr.loadAt, Instr.sureAddr, Sem.run_bind, Sem.run_pure, Result.andThen_ok, run_loadVar_row w g t ty cs (0, 0) d (hS w h) hu hd hi]⟩
theorem take_of {P : Program} {md : Region.Mode} {ops : Array Oper} {Q : Exit → Act → World → Prop} {S : World → Prop} {i fuel : Nat} {listed : Array Bool} {a : Act} {w : World} (hi : (ops[i]?).isSome = true)
    (hs : Region.noSelect ops = true) (hf : Region.free md ops listed i = true) (hr : (Region.ready md ops listed).contains i = true)
    (hQ : ∀ d v c a w, Q (.panic c) (Act.put a d v) w → Q (.panic c) a w) (hS : S w)
    (h : ∀ oi, ops[i]? = some oi → ∃ v, YieldsIf P ops S oi v a ∧ wpAnyH P md ops Q S fuel (listed.setIfInBounds i true) (a.put oi.dst v) w) : wpAnyH P md ops Q S (fuel + 1) listed a w := by
  obtain ⟨oi, ho⟩ := Option.isSome_iff_exists.1 hi
  obtain ⟨v, hy, hh⟩ := h oi ho
  exact wpAnyH_take ho hs hf hr (hQ oi.dst v) hy hS hh
theorem results_cell2 {P : Program} {fn : Func} {p p' q : Tmp} {ty : TypeId} (h : fn.results = #[.cell p ty, .cell p' ty, .tmp q]) (tmps : Array Value) (w : World) (g g' : Nat) (t : TypeId) (cs cs' : Array Value) (fr fr' : Nat × Nat) (d : TypeDesc)
    (hp : tmps.getD p undef = .pointer (some ⟨g, 0, none⟩)) (hp' : tmps.getD p' undef = .pointer (some ⟨g', 0, none⟩)) (hg : w.heap[g]? = some (.cells cs t fr)) (hg' : w.heap[g']? = some (.cells cs' t fr'))
    (hu : P.underlying ty = some d) (hd : (match d with | .struct _ | .array _ _ => true | _ => false) = true) (hi : (P.info? ty).map (·.size) = some cs.size) (hi' : (P.info? ty).map (·.size) = some cs'.size) :
    (results fn tmps).run P w = .ok (.tuple #[.agg cs, .agg cs', tmps.getD q undef]) w := by
  have k1 : tmps[p]?.getD undef = .pointer (some ⟨g, 0, none⟩) := by simpa using hp
  have k2 : tmps[p']?.getD undef = .pointer (some ⟨g', 0, none⟩) := by simpa using hp'
  simp [results, h, k1, k2, asAddr, run_loadVar_row w g t ty cs fr d hg hu hd hi, run_loadVar_row w g' t ty cs' fr' d hg' hu hd hi']
theorem msR0 {r : Rn} {mv tv : Value} (h : r.regs.length = 32) (x : Int) : (mcells r mv tv).toArray.setIfInBounds 1 (.int .u64 x) = (mcells { r with regs := r.regs.set 0 x } mv tv).toArray := by
  simp [mcells]
  cases hr : r.regs with
  | nil => rw [hr] at h; cases h
  | cons y ys => simp
theorem info23 : (Tryz.prog.info? 23).map (·.size) = some 32 := by kernel_rfl
theorem memH_eq (H : Nat) (hH : H < 65536) : [(H : Int) % 256, (H : Int) / 256, 0, 0] = memH H := by
  unfold memH
  rw [stv_nat, stv_nat]
  simp
  omega
theorem memW_eq (W : Nat) (hW : W < 4294967296) : [(W : Int) % 256, (W : Int) / 256 % 256, (W : Int) / 65536 % 256, (W : Int) / 16777216] = memW W := by
  unfold memW
  rw [stv_nat, stv_nat, stv_nat, stv_nat]
  simp
  omega
set_option maxRecDepth 100000 in
set_option maxHeartbeats 8000000 in
theorem short_c (op d s t m : Int) (regs : List Int) (h32 : regs.length = 32) (pc : Nat) (hpc : pc < 2147483648) (H Wd : Nat) (E F : Int) (is : Bool) (his : (E == 0 && F == 0) = is) (hH : H < 65536) (hWd : Wd < 4294967296) (w : World) (hL : LG w) (h13 : 13 ≤ w.heap.size)
    (h42 : ∀ W, Calls Tryz.prog 42 #[insnV op d s t m] W fun e w' => e = .returned (.tuple #[.int .u16 H, .int .i64 E]) ∧ Below W.heap.size W w')
    (h43 : ∀ W, LG W → Calls Tryz.prog 43 #[insnV op d s t m] W fun e w' => e = .returned (.tuple #[.int .u32 Wd, .int .i64 F]) ∧ Below W.heap.size W w') :
    Calls Tryz.prog 32 #[insnV op d s t m, .agg (regs.map (Value.int .u64)).toArray, .int .u64 pc] w fun e w' => Below w.heap.size w w' ∧ ∃ v1 v2, e = .returned (.tuple #[v1, v2, .bool is]) ∧ MachR w' v1 (rS pc regs (memH H)) ∧ MachR w' v2 (rS pc regs (memW Wd)) := by
  have H42 := Lib.hid h42
  have HIS := Lib.hid his
  clear his
  have H43 : Hid (∀ W, Below w.heap.size w W → Calls Tryz.prog 43 #[insnV op d s t m] W fun e w' => e = .returned (.tuple #[.int .u32 Wd, .int .i64 F]) ∧ Below W.heap.size W w') := Lib.hid fun W hb => h43 W (laidG_below hL (hb.mono h13))
  have H21 : Hid (∀ W mv (l : List Int), RdS W mv (l.map (.int .u8)) → l.length ≤ 65536 → Calls Tryz.prog 21 #[.int .u64 pc, mv, .int .u64 pc] W (NewPost W (rnN pc pc l))) := Lib.hid fun W mv l hm hl => new_in pc pc mv l W hm (by omega) hl
  have hrg : (regs.map (Value.int .u64)).toArray.size = 32 := by simpa using h32
  have HRG := Lib.hid (And.intro hrg h32)
  clear h42 h43 hL h13 hrg h32
  generalize hrgs : (regs.map (Value.int .u64)).toArray = rg at *
  have HRS := Lib.hid hrgs
  clear hrgs
  go_enter Tryz.func32, Tryz.ntmps32
  go_wp2_with fail
  refine (H42.out _).mono ?_
  rintro e w1 ⟨rfl, hb1⟩
  have hz1 : w.heap.size + 4 ≤ w1.heap.size := by have := hb1.size; simpa using this
  have D0 : Blk w1 w.heap.size 57 #[.int .u8 op, .int .i64 d, .int .i64 s, .int .i64 t, .int .i64 m] := ((((Blk.new w 57 _).alloc _).alloc _).alloc _).below hb1 (by simp; omega)
  have D1 : Blk w1 (w.heap.size + 1) 23 rg := (((blk1 w _ 23 rg).alloc _).alloc _).below hb1 (by simp)
  obtain ⟨Z2, D2⟩ : ∃ Z : Array Value, Blk w1 (w.heap.size + 2) 27 Z ∧ Hid (Z.size = 37) := ⟨_, ((blk2 w _ _ 27 _).alloc _).below hb1 (by simp), Lib.hid rfl⟩
  obtain ⟨Z3, D3⟩ : ∃ Z : Array Value, Blk w1 (w.heap.size + 3) 27 Z ∧ Hid (Z.size = 37) := ⟨_, (blk3 w _ _ _ 27 _).below hb1 (by simp), Lib.hid rfl⟩
  have HW1 := Lib.hid ((below4 w _ _ _ _).trans (hb1.mono (by simp; omega)) : Below w.heap.size w w1)
  have c0 : ∀ i, w1.cell? ⟨w.heap.size, i, none⟩ = (#[.int .u8 op, .int .i64 d, .int .i64 s, .int .i64 t, .int .i64 m] : Array Value)[i]? := D0.cell
  clear hb1
  go_wp2_with fail
  refine (H43.out _ HW1.out).mono ?_
  rintro e w2 ⟨rfl, hb2⟩
  have hz2 := Nat.le_trans hz1 hb2.size
  have D1' := D1.below hb2 D1.lt
  have D2' := D2.1.below hb2 D2.1.lt
  have D3' := D3.1.below hb2 D3.1.lt
  have HW2 := Lib.hid (HW1.out.trans (hb2.mono (by omega)))
  have HZ := Lib.hid (And.intro D2.2.out D3.2.out)
  clear hb2 D0 D1 D2 D3 c0 hz1 HW1
  go_wp2_with fail
  refine (H21.out _ _ [(H : Int) % 256, (H : Int) / 256, 0, 0] (rds_blk (l := [.int .u8 ((H : Int) % 256), .int .u8 ((H : Int) / 256), .int .u8 0, .int .u8 0]) (Blk.new w2 5 _)) (by simp)).mono ?_
  intro e w3 hp3
  obtain ⟨v3, rfl, ho3, hb3⟩ := hp3
  rw [memH_eq H hH] at ho3
  have hz3 : w2.heap.size + 1 ≤ w3.heap.size := by have := hb3.size; simpa using this
  have hb23 : Below w2.heap.size w2 w3 := ((Below.refl _ _).alloc (Nat.le_refl _) _).trans (hb3.mono (by simp))
  have E1 := D1'.below hb23 D1'.lt
  have E2 := D2'.below hb23 D2'.lt
  have E3 := D3'.below hb23 D3'.lt
  have HW3 := Lib.hid (HW2.out.trans (hb23.mono (by omega)))
  obtain ⟨mv3, tv3, rfl, hm3, ht3⟩ := ho3.form
  have hl3 : (rnN pc pc (memH H)).regs.length = 32 := rfl
  have hs3 := Lib.hid (mc_size (r := rnN pc pc (memH H)) (mv := mv3) (tv := tv3) hl3)
  have hall3 : (mcells (rnN pc pc (memH H)) mv3 tv3).toArray.all (·.oneCell') = true := mc_one (rds_one (RdS.of_own hm3)) (rds_one (RdS.of_own ht3))
  have hsz3 : (Tryz.prog.info? 27).map (·.size) = some (mcells (rnN pc pc (memH H)) mv3 tv3).toArray.size := by rw [hs3.out]; exact info27
  have HM3 := Lib.hid (And.intro (hm3.mono (Nat.zero_le _)) (ht3.mono (Nat.zero_le _)))
  obtain ⟨c3, hc3⟩ : ∃ c : Array Value, c = (mcells (rnN pc pc (memH H)) mv3 tv3).toArray := ⟨_, rfl⟩
  rw [← hc3] at hs3 hall3 hsz3 ⊢
  have HC3 := Lib.hid hc3
  clear hc3 hl3 hm3 ht3 ho3 hb3 hb23 D1' D2' D3' HW2
  go_upto_region 4 with (refine wpList_store_row rfl 27 (.tmp 13) (.tmp 37) rfl w3.heap.size c3 rfl rfl 27 _ (by exact heap_alloc_new w3 _) hsz3 (by rw [hs3.out]; rfl) hall3 ?_)
  go_wp2_with fail
  have hF3 : ∀ Z : Array Value, Blk ((w3.alloc (.cells Z 27)).setRow w3.heap.size c3) w3.heap.size 27 c3 := fun Z => setRow_heap _ _ Z _ 27 (0, 0) (heap_alloc_new w3 _)
  have hk3 : ∀ o, Below w3.heap.size w3 ((w3.alloc o).setRow w3.heap.size c3) := fun o => below_setRow ((Below.refl w3.heap.size w3).alloc (Nat.le_refl _) _) (Nat.le_refl _) c3
  refine (H21.out _ _ [(Wd : Int) % 256, (Wd : Int) / 256 % 256, (Wd : Int) / 65536 % 256, (Wd : Int) / 16777216] (rds_blk (l := [.int .u8 ((Wd : Int) % 256), .int .u8 ((Wd : Int) / 256 % 256), .int .u8 ((Wd : Int) / 65536 % 256), .int .u8 ((Wd : Int) / 16777216)]) (by simpa using Blk.new ((w3.alloc _).setRow w3.heap.size c3) 5 _)) (by simp)).mono ?_
  intro e w4 hp4
  obtain ⟨v4, rfl, ho4, hb4⟩ := hp4
  rw [memW_eq Wd hWd] at ho4
  have hz4 : w3.heap.size + 2 ≤ w4.heap.size := by have := hb4.size; simpa using this
  have hb34 : Below w3.heap.size w3 w4 := ((hk3 _).alloc (by simp) _).trans (hb4.mono (by simp; omega))
  have G3 : Blk w4 w3.heap.size 27 c3 := ((hF3 _).alloc _).below hb4 (by simp; omega)
  have F1 := E1.below hb34 E1.lt
  have F2 := E2.below hb34 E2.lt
  have F3 := E3.below hb34 E3.lt
  have HW4 := Lib.hid (HW3.out.trans (hb34.mono (by omega)))
  obtain ⟨mv4, tv4, rfl, hm4, ht4⟩ := ho4.form
  have hl4 : (rnN pc pc (memW Wd)).regs.length = 32 := rfl
  have hs4 := Lib.hid (mc_size (r := rnN pc pc (memW Wd)) (mv := mv4) (tv := tv4) hl4)
  have hall4 : (mcells (rnN pc pc (memW Wd)) mv4 tv4).toArray.all (·.oneCell') = true := mc_one (rds_one (RdS.of_own hm4)) (rds_one (RdS.of_own ht4))
  have hsz4 : (Tryz.prog.info? 27).map (·.size) = some (mcells (rnN pc pc (memW Wd)) mv4 tv4).toArray.size := by rw [hs4.out]; exact info27
  have HM4 : Hid (Owns2 w4 mv3 tv3 mv4 tv4 (memH H) (memW Wd)) := Lib.hid ⟨own_below HM3.out.1 hb34, own_below HM3.out.2 hb34, hm4.mono (Nat.zero_le _), ht4.mono (Nat.zero_le _)⟩
  obtain ⟨c4, hc4⟩ : ∃ c : Array Value, c = (mcells (rnN pc pc (memW Wd)) mv4 tv4).toArray := ⟨_, rfl⟩
  rw [← hc4] at hs4 hall4 hsz4 ⊢
  have HC4 := Lib.hid hc4
  clear hc4 hl4 hm4 ht4 ho4 hb4 hb34 E1 E2 E3 HW3 HM3 hF3 hk3 hall3 hsz3
  go_upto_region 5 with (refine wpList_store_row rfl 27 (.tmp 15) (.tmp 55) rfl w4.heap.size c4 rfl rfl 27 _ (by exact heap_alloc_new w4 _) hsz4 (by rw [hs4.out]; rfl) hall4 ?_)
  have hF4 : ∀ Z : Array Value, Blk ((w4.alloc (.cells Z 27)).setRow w4.heap.size c4) w4.heap.size 27 c4 := fun Z => setRow_heap _ _ Z _ 27 (0, 0) (heap_alloc_new w4 _)
  have hO4 : ∀ o k (t : TypeId) (cs : Array Value), k < w4.heap.size → Blk w4 k t cs → Blk ((w4.alloc o).setRow w4.heap.size c4) k t cs := fun o k t cs hk h => (setRow_other _ _ _ _ (by omega)).trans ((Below.heap_alloc w4 o _ hk).trans h)
  have hk4 : ∀ o, Below w4.heap.size w4 ((w4.alloc o).setRow w4.heap.size c4) := fun o => below_setRow ((Below.refl w4.heap.size w4).alloc (Nat.le_refl _) _) (Nat.le_refl _) c4
  refine (fun (h : ∀ w5 : World, w5.heap.size = w4.heap.size + 1 → Below w4.heap.size w4 w5 → Blk w5 w4.heap.size 27 c4 → Code.wp Tryz.prog _ _ _ w5) => h _ (by simp) (hk4 _) (hF4 _)) ?_
  intro w5 hz5 hb5 K4
  have K3 := G3.below hb5 G3.lt
  have K1 := F1.below hb5 F1.lt
  have K2' := F2.below hb5 F2.lt
  have K3' := F3.below hb5 F3.lt
  have HW5 := Lib.hid (HW4.out.trans (hb5.mono (by omega)))
  have HM5 : Hid (Owns2 w5 mv3 tv3 mv4 tv4 (memH H) (memW Wd)) := Lib.hid ⟨own_below HM4.out.m1 hb5, own_below HM4.out.t1 hb5, own_below HM4.out.m2 hb5, own_below HM4.out.t2 hb5⟩
  clear hb5 hk4 hF4 hO4 G3 F1 F2 F3 HM4 HW4
  have hrow : (Tryz.prog.info? 23).map (·.size) = some rg.size := by rw [HRG.out.1]; exact info23
  have hrall : rg.all (·.oneCell') = true := by rw [← HRS.out]; simp [Value.oneCell']
  go_upto_region 6 with (first
    | (refine wpList_load_row rfl 23 (.tmp 4) rfl (w.heap.size + 1) rfl 23 rg (0, 0) _ K1 Tryz.underlying23 rfl hrow ?_)
    | (refine wpList_store_mid rfl 23 (.tmp 58) (.tmp 57) rfl w3.heap.size 1 rg rfl rfl (there_blk K3 1 _ (by rw [hs3.out, HRG.out.1]; decide)) hrow hrall ?_))
  refine (fun (h : ∀ w6 : World, w6.heap.size = w5.heap.size → w5.grownBy w6 (some w3.heap.size) → Blk w6 w3.heap.size 27 (putL c3 1 rg.toList) → Code.wp Tryz.prog _ _ _ w6) => h _ (size_setCells _ _ _) (grown_setCells _ _ _) (Blk.setCells _ _ _ _ K3)) ?_
  intro w6 hz6 hg6 L3
  have L1 := blk_through K1 hg6 (by omega)
  have L2 := blk_through K2' hg6 (by omega)
  have L2' := blk_through K3' hg6 (by omega)
  have L4 := blk_through K4 hg6 (by omega)
  have HM6 := Lib.hid (HM5.out.through K3 hg6)
  have HW6 := Lib.hid (HW5.out.grown hg6 (by omega) (fun k hk => by injection hk with hk; omega))
  clear K1 K2' K3' K3 K4 hg6 HM5 HW5
  go_upto_region 7 with (first
    | (refine wpList_load_row rfl 23 (.tmp 4) rfl (w.heap.size + 1) rfl 23 rg (0, 0) _ L1 Tryz.underlying23 rfl hrow ?_)
    | (refine wpList_store_mid rfl 23 (.tmp 60) (.tmp 59) rfl w4.heap.size 1 rg rfl rfl (there_blk L4 1 _ (by rw [hs4.out, HRG.out.1]; decide)) hrow hrall ?_))
  refine (fun (h : ∀ w7 : World, w7.heap.size = w6.heap.size → w6.grownBy w7 (some w4.heap.size) → Blk w7 w4.heap.size 27 (putL c4 1 rg.toList) → Code.wp Tryz.prog _ _ _ w7) => h _ (size_setCells _ _ _) (grown_setCells _ _ _) (Blk.setCells _ _ _ _ L4)) ?_
  intro w7 hz7 hg7 M4
  have M2 := blk_through L2 hg7 (by omega)
  have M2' := blk_through L2' hg7 (by omega)
  have M3 := blk_through L3 hg7 (by omega)
  have HM7 := Lib.hid (HM6.out.through L4 hg7)
  have HW7 := Lib.hid (HW6.out.grown hg7 (by omega) (fun k hk => by injection hk with hk; omega))
  clear L1 L2 L2' L3 L4 hg7 HM6 HW6 hrow hrall
  have e3 : putL c3 1 rg.toList = (mcells { rnN pc pc (memH H) with regs := regs } mv3 tv3).toArray := by rw [HC3.out, ← HRS.out]; exact putL_mcells rfl regs HRG.out.2
  have e4 : putL c4 1 rg.toList = (mcells { rnN pc pc (memW Wd) with regs := regs } mv4 tv4).toArray := by rw [HC4.out, ← HRS.out]; exact putL_mcells rfl regs HRG.out.2
  rw [e3] at M3
  rw [e4] at M4
  clear e3 e4
  obtain ⟨x0, hx3⟩ : ∃ x : Int, w7.cell? ⟨w3.heap.size, 1, none⟩ = some (.int .u64 x) := ⟨_, (M3.cell 1).trans (mcR HRG.out.2 0 (by omega))⟩
  obtain ⟨y0, hx4⟩ : ∃ x : Int, w7.cell? ⟨w4.heap.size, 1, none⟩ = some (.int .u64 x) := ⟨_, (M4.cell 1).trans (mcR HRG.out.2 0 (by omega))⟩
  have z3 := M3.frozen 1
  have z4 := M4.frozen 1
  have ne34 : w3.heap.size ≠ w4.heap.size := by omega
  go_upto_region 9 with fail
  obtain ⟨cM, hcM⟩ : ∃ c : Array Value, c = (mcells (rS pc regs (memH H)) mv3 tv3).toArray := ⟨_, rfl⟩
  obtain ⟨cN, hcN⟩ : ∃ c : Array Value, c = (mcells (rS pc regs (memW Wd)) mv4 tv4).toArray := ⟨_, rfl⟩
  have hlM : (rS pc regs (memH H)).regs.length = 32 := by show (regs.set 0 0).length = 32; rw [List.length_set]; exact HRG.out.2
  have e3 : (mcells { rnN pc pc (memH H) with regs := regs } mv3 tv3).toArray.setIfInBounds 1 (.int .u64 0) = cM := by rw [hcM]; exact msR0 HRG.out.2 0
  have e4 : (mcells { rnN pc pc (memW Wd) with regs := regs } mv4 tv4).toArray.setIfInBounds 1 (.int .u64 0) = cN := by rw [hcN]; exact msR0 HRG.out.2 0
  have q1 := M3.set_ 1 (.int .u64 0)
  rw [e3] at q1
  have hgA : w7.grownBy (w7.setCell ⟨w3.heap.size, 1, none⟩ (.int .u64 0)) (some w3.heap.size) := grown_setCell
  have A2 := blk_through M2 hgA (by omega)
  have A2' := blk_through M2' hgA (by omega)
  have A4 := blk_through M4 hgA (by omega)
  have HMA := HM7.out.through M3 hgA
  have HWA := HW7.out.grown hgA (by omega) (fun k hk => by injection hk with hk; omega)
  have q2 := A4.set_ 1 (.int .u64 0)
  rw [e4] at q2
  have hgB : (w7.setCell ⟨w3.heap.size, 1, none⟩ (.int .u64 0)).grownBy ((w7.setCell ⟨w3.heap.size, 1, none⟩ (.int .u64 0)).setCell ⟨w4.heap.size, 1, none⟩ (.int .u64 0)) (some w4.heap.size) := grown_setCell
  have B2 := blk_through A2 hgB (by omega)
  have B2' := blk_through A2' hgB (by omega)
  have B3 := blk_through q1 hgB (by omega)
  have HMB := HMA.through A4 hgB
  have HWB := HWA.grown hgB (by simp; omega) (fun k hk => by injection hk with hk; omega)
  have hsM := Lib.hid (show cM.size = 37 from by rw [hcM]; exact mc_size hlM)
  have hsN := Lib.hid (show cN.size = 37 from by rw [hcN]; exact mc_size hlM)
  have hallM : cM.all (·.oneCell') = true := by rw [hcM]; exact mc_one (rds_one (RdS.of_own HM7.out.m1)) (rds_one (RdS.of_own HM7.out.t1))
  have hallN : cN.all (·.oneCell') = true := by rw [hcN]; exact mc_one (rds_one (RdS.of_own HM7.out.m2)) (rds_one (RdS.of_own HM7.out.t2))
  have hszM : (Tryz.prog.info? 27).map (·.size) = some cM.size := by rw [hsM.out]; exact info27
  have hszN : (Tryz.prog.info? 27).map (·.size) = some cN.size := by rw [hsN.out]; exact info27
  refine (fun (h : ∀ w8 : World, w8.heap.size = w7.heap.size → Hid (Owns2 w8 mv3 tv3 mv4 tv4 (memH H) (memW Wd)) → Hid (Below w.heap.size w w8) → Blk w8 w3.heap.size 27 cM → Blk w8 w4.heap.size 27 cN → Blk w8 (w.heap.size + 2) 27 Z2 → Blk w8 (w.heap.size + 3) 27 Z3 → Code.wp Tryz.prog _ _ _ w8) => h _ (by simp) (Lib.hid HMB) (Lib.hid HWB) B3 q2 B2 B2') ?_
  have HCM := Lib.hid hcM
  have HCN := Lib.hid hcN
  have HLM := Lib.hid hlM
  clear hcM hcN hlM e3 e4 q1 q2 hgA hgB A2 A2' A4 HMA HWA B2 B2' B3 HMB HWB M2 M2' M3 M4 HM7 HW7 hx3 hx4 z3 z4
  intro w8 hz8 HM8 HW8 M3 M4 M2 M2'
  have n1 : w.heap.size + 2 ≠ w3.heap.size := by omega
  have n2 : w.heap.size + 2 ≠ w4.heap.size := by omega
  have n3 : w.heap.size + 3 ≠ w3.heap.size := by omega
  have n4 : w.heap.size + 3 ≠ w4.heap.size := by omega
  by_cases hE : E = 0
  · subst hE
    by_cases hF : F = 0
    · subst hF
      obtain rfl : is = true := HIS.out.symm
      refine wp_region_noPanic ?_
      refine wp_region_held_drew (S := fun W => Blk W w3.heap.size 27 cM ∧ Blk W w4.heap.size 27 cN) mixed ⟨M3, M4⟩ ?_
      intro hS
      refine take_of (i := 0) rfl (by kernel_rfl) (by kernel_rfl) (by kernel_rfl) (fun _ _ _ _ _ h => (h : False).elim) hS (fun oi ho => ?_)
      simp only [List.getElem?_toArray, List.getElem?_cons_zero, Option.some.injEq] at ho
      subst ho
      refine ⟨_, yieldsIf_load_blk (by rfl) 27 (.tmp 13) rfl w3.heap.size rfl 27 cM _ (fun _ h => h.1) Tryz.underlying27 rfl hszM, ?_⟩
      simp only [Act.put, List.setIfInBounds_toArray, List.set_cons_zero, List.set_cons_succ]
      refine take_of (i := 1) rfl (by kernel_rfl) (by kernel_rfl) (by kernel_rfl) (fun _ _ _ _ _ h => (h : False).elim) hS (fun oi ho => ?_)
      simp only [List.getElem?_toArray, List.getElem?_cons_succ, List.getElem?_cons_zero, Option.some.injEq] at ho
      subst ho
      refine ⟨_, yieldsIf_load_blk (by rfl) 27 (.tmp 15) rfl w4.heap.size rfl 27 cN _ (fun _ h => h.2) Tryz.underlying27 rfl hszN, ?_⟩
      simp only [Act.put, List.setIfInBounds_toArray, List.set_cons_zero, List.set_cons_succ]
      refine take_of (i := 2) rfl (by kernel_rfl) (by kernel_rfl) (by kernel_rfl) (fun _ _ _ _ _ h => (h : False).elim) hS (fun oi ho => ?_)
      simp only [List.getElem?_toArray, List.getElem?_cons_succ, List.getElem?_cons_zero, Option.some.injEq] at ho
      subst ho
      refine ⟨?v2, Or.inl ⟨by rfl, ?y2⟩, ?r2⟩
      case y2 => intro W _; go_simp; try with_reducible rfl
      simp only [Act.put, List.setIfInBounds_toArray, List.set_cons_zero, List.set_cons_succ]
      refine take_of (i := 3) rfl (by kernel_rfl) (by kernel_rfl) (by kernel_rfl) (fun _ _ _ _ _ h => (h : False).elim) hS (fun oi ho => ?_)
      simp only [List.getElem?_toArray, List.getElem?_cons_succ, List.getElem?_cons_zero, Option.some.injEq] at ho
      subst ho
      refine ⟨?v3, Or.inl ⟨by rfl, ?y3⟩, ?r3⟩
      case y3 => intro W _; go_simp; try with_reducible rfl
      simp only [Act.put, List.setIfInBounds_toArray, List.set_cons_zero, List.set_cons_succ]
      refine take_of (i := 4) rfl (by kernel_rfl) (by kernel_rfl) (by kernel_rfl) (fun _ _ _ _ _ h => (h : False).elim) hS (fun oi ho => ?_)
      simp only [List.getElem?_toArray, List.getElem?_cons_succ, List.getElem?_cons_zero, Option.some.injEq] at ho
      subst ho
      refine ⟨?v4, Or.inl ⟨by rfl, ?y4⟩, ?r4⟩
      case y4 => intro W _; go_simp; try with_reducible rfl
      simp only [Act.put, List.setIfInBounds_toArray, List.set_cons_zero, List.set_cons_succ]
      refine take_of (i := 5) rfl (by kernel_rfl) (by kernel_rfl) (by kernel_rfl) (fun _ _ _ _ _ h => (h : False).elim) hS (fun oi ho => ?_)
      simp only [List.getElem?_toArray, List.getElem?_cons_succ, List.getElem?_cons_zero, Option.some.injEq] at ho
      subst ho
      refine ⟨?v5, Or.inl ⟨by rfl, ?y5⟩, ?r5⟩
      case y5 => intro W _; go_simp; try with_reducible rfl
      simp only [Act.put, List.setIfInBounds_toArray, List.set_cons_zero, List.set_cons_succ]
      refine take_of (i := 6) rfl (by kernel_rfl) (by kernel_rfl) (by kernel_rfl) (fun _ _ _ _ _ h => (h : False).elim) hS (fun oi ho => ?_)
      simp only [List.getElem?_toArray, List.getElem?_cons_succ, List.getElem?_cons_zero, Option.some.injEq] at ho
      subst ho
      refine ⟨?v6, Or.inl ⟨by rfl, ?y6⟩, ?r6⟩
      case y6 => intro W _; go_simp; try with_reducible rfl
      simp only [Act.put, List.setIfInBounds_toArray, List.set_cons_zero, List.set_cons_succ]
      refine take_of (i := 7) rfl (by kernel_rfl) (by kernel_rfl) (by kernel_rfl) (fun _ _ _ _ _ h => (h : False).elim) hS (fun oi ho => ?_)
      simp only [List.getElem?_toArray, List.getElem?_cons_succ, List.getElem?_cons_zero, Option.some.injEq] at ho
      subst ho
      refine ⟨?v7, Or.inl ⟨by rfl, ?y7⟩, ?r7⟩
      case y7 => intro W _; go_simp; try with_reducible rfl
      simp only [Act.put, List.setIfInBounds_toArray, List.set_cons_zero, List.set_cons_succ]
      refine take_of (i := 8) rfl (by kernel_rfl) (by kernel_rfl) (by kernel_rfl) (fun _ _ _ _ _ h => (h : False).elim) hS (fun oi ho => ?_)
      simp only [List.getElem?_toArray, List.getElem?_cons_succ, List.getElem?_cons_zero, Option.some.injEq] at ho
      subst ho
      refine ⟨?v8, Or.inl ⟨by rfl, ?y8⟩, ?r8⟩
      case y8 => intro W _; go_simp; try with_reducible rfl
      simp only [Act.put, List.setIfInBounds_toArray, List.set_cons_zero, List.set_cons_succ]
      refine take_of (i := 9) rfl (by kernel_rfl) (by kernel_rfl) (by kernel_rfl) (fun _ _ _ _ _ h => (h : False).elim) hS (fun oi ho => ?_)
      simp only [List.getElem?_toArray, List.getElem?_cons_succ, List.getElem?_cons_zero, Option.some.injEq] at ho
      subst ho
      refine ⟨?v9, Or.inl ⟨by rfl, ?y9⟩, ?r9⟩
      case y9 => intro W _; go_simp; try with_reducible rfl
      simp only [Act.put, List.setIfInBounds_toArray, List.set_cons_zero, List.set_cons_succ]
      refine take_of (i := 10) rfl (by kernel_rfl) (by kernel_rfl) (by kernel_rfl) (fun _ _ _ _ _ h => (h : False).elim) hS (fun oi ho => ?_)
      simp only [List.getElem?_toArray, List.getElem?_cons_succ, List.getElem?_cons_zero, Option.some.injEq] at ho
      subst ho
      refine ⟨?v10, Or.inl ⟨by rfl, ?y10⟩, ?r10⟩
      case y10 => intro W _; go_simp; try with_reducible rfl
      simp only [Act.put, List.setIfInBounds_toArray, List.set_cons_zero, List.set_cons_succ]
      refine take_of (i := 11) rfl (by kernel_rfl) (by kernel_rfl) (by kernel_rfl) (fun _ _ _ _ _ h => (h : False).elim) hS (fun oi ho => ?_)
      simp only [List.getElem?_toArray, List.getElem?_cons_succ, List.getElem?_cons_zero, Option.some.injEq] at ho
      subst ho
      refine ⟨?v11, Or.inl ⟨by rfl, ?y11⟩, ?r11⟩
      case y11 => intro W _; go_simp; try with_reducible rfl
      simp only [Act.put, List.setIfInBounds_toArray, List.set_cons_zero, List.set_cons_succ]
      refine take_of (i := 12) rfl (by kernel_rfl) (by kernel_rfl) (by kernel_rfl) (fun _ _ _ _ _ h => (h : False).elim) hS (fun oi ho => ?_)
      simp only [List.getElem?_toArray, List.getElem?_cons_succ, List.getElem?_cons_zero, Option.some.injEq] at ho
      subst ho
      refine ⟨?v12, Or.inl ⟨by rfl, ?y12⟩, ?r12⟩
      case y12 => intro W _; go_simp; try with_reducible rfl
      simp only [Act.put, List.setIfInBounds_toArray, List.set_cons_zero, List.set_cons_succ]
      refine take_of (i := 13) rfl (by kernel_rfl) (by kernel_rfl) (by kernel_rfl) (fun _ _ _ _ _ h => (h : False).elim) hS (fun oi ho => ?_)
      simp only [List.getElem?_toArray, List.getElem?_cons_succ, List.getElem?_cons_zero, Option.some.injEq] at ho
      subst ho
      refine ⟨?v13, Or.inl ⟨by rfl, ?y13⟩, ?r13⟩
      case y13 => intro W _; go_simp; try with_reducible rfl
      simp only [Act.put, List.setIfInBounds_toArray, List.set_cons_zero, List.set_cons_succ]
      refine take_of (i := 14) rfl (by kernel_rfl) (by kernel_rfl) (by kernel_rfl) (fun _ _ _ _ _ h => (h : False).elim) hS (fun oi ho => ?_)
      simp only [List.getElem?_toArray, List.getElem?_cons_succ, List.getElem?_cons_zero, Option.some.injEq] at ho
      subst ho
      refine ⟨?v14, Or.inl ⟨by rfl, ?y14⟩, ?r14⟩
      case y14 => intro W _; go_simp; try with_reducible rfl
      simp only [Act.put, List.setIfInBounds_toArray, List.set_cons_zero, List.set_cons_succ]
      refine take_of (i := 15) rfl (by kernel_rfl) (by kernel_rfl) (by kernel_rfl) (fun _ _ _ _ _ h => (h : False).elim) hS (fun oi ho => ?_)
      simp only [List.getElem?_toArray, List.getElem?_cons_succ, List.getElem?_cons_zero, Option.some.injEq] at ho
      subst ho
      refine ⟨?v15, Or.inl ⟨by rfl, ?y15⟩, ?r15⟩
      case y15 => intro W _; go_simp; try with_reducible rfl
      simp only [Act.put, List.setIfInBounds_toArray, List.set_cons_zero, List.set_cons_succ]
      refine wpAnyH_ready (rs := [16]) (by kernel_rfl) (by simp) ?_
      refine AllReadyH.cons rfl (fun K hK => ?_) AllReadyH.nil
      rw [if_pos (by rfl)]
      refine wp_store_row 27 (.tmp 6) (.tmp 65) rfl (w.heap.size + 2) cM rfl rfl 27 Z2 M2 hszM (by rw [HZ.out.1, hsM.out]) hallM ?_
      have g1 : w8.drew.grownBy (w8.drew.setRow (w.heap.size + 2) cM) (some (w.heap.size + 2)) := grown_setRow
      have P3 : Blk (w8.drew.setRow (w.heap.size + 2) cM) w3.heap.size 27 cM := blk_through (w := w8.drew) M3 g1 (by omega)
      have P4 : Blk (w8.drew.setRow (w.heap.size + 2) cM) w4.heap.size 27 cN := blk_through (w := w8.drew) M4 g1 (by omega)
      have P2' : Blk (w8.drew.setRow (w.heap.size + 2) cM) (w.heap.size + 3) 27 Z3 := blk_through (w := w8.drew) M2' g1 (by omega)
      have R2 : Blk (w8.drew.setRow (w.heap.size + 2) cM) (w.heap.size + 2) 27 cM := setRow_heap _ _ _ _ 27 (0, 0) M2
      have HM9 := Lib.hid (Owns2.through (w := w8.drew) ⟨HM8.out.m1, HM8.out.t1, HM8.out.m2, HM8.out.t2⟩ M2 g1)
      have HW9 := Lib.hid (HW8.out.drew.grown g1 (by simp; omega) (fun k hk => by injection hk with hk; omega))
      refine hK.out _ _ ⟨P3, P4⟩ (fun hS1 => ?_)
      clear hK g1
      simp only [Act.put]
      refine wpAnyH_ready (rs := [17]) (by kernel_rfl) (by simp) ?_
      refine AllReadyH.cons rfl (fun K hK => ?_) AllReadyH.nil
      rw [if_pos (by rfl)]
      refine wp_store_row 27 (.tmp 7) (.tmp 66) rfl (w.heap.size + 3) cN rfl rfl 27 Z3 P2' hszN (by rw [HZ.out.2, hsN.out]) hallN ?_
      generalize w8.drew.setRow (w.heap.size + 2) cM = w9 at *
      have g2 : w9.grownBy (w9.setRow (w.heap.size + 3) cN) (some (w.heap.size + 3)) := grown_setRow
      have R3 : Blk (w9.setRow (w.heap.size + 3) cN) (w.heap.size + 3) 27 cN := setRow_heap _ _ _ _ 27 (0, 0) P2'
      have R2' : Blk (w9.setRow (w.heap.size + 3) cN) (w.heap.size + 2) 27 cM := blk_through R2 g2 (by omega)
      have HM10 := Lib.hid (HM9.out.through P2' g2)
      have HW10 := Lib.hid (HW9.out.grown g2 HW9.out.size (fun k hk => by injection hk with hk; omega))
      refine hK.out _ _ ⟨blk_through P3 g2 (by omega), blk_through P4 g2 (by omega)⟩ (fun hS2 => ?_)
      clear hK g2
      simp only [Act.put]
      refine take_of (i := 18) rfl (by kernel_rfl) (by kernel_rfl) (by kernel_rfl) (fun _ _ _ _ _ h => (h : False).elim) hS2 (fun oi ho => ?_)
      simp only [List.getElem?_toArray, List.getElem?_cons_succ, List.getElem?_cons_zero, Option.some.injEq] at ho
      subst ho
      refine ⟨?v18, Or.inl ⟨by rfl, ?y18⟩, ?r18⟩
      case y18 => intro W _; go_simp; try with_reducible rfl
      simp only [Act.put, List.setIfInBounds_toArray]
      refine wpAnyH_done (by kernel_rfl) ?_ _
      refine NoPanic.normal ?_
      go_wp2
      refine bodyPost_ret (results_cell2 rfl _ _ (w.heap.size + 2) (w.heap.size + 3) 27 cM cN (0, 0) (0, 0) _ rfl rfl R2' R3 Tryz.underlying27 rfl hszM hszN) rfl ?_
      exact ⟨HW10.out, _, _, rfl, ⟨HLM.out, mv3, tv3, by rw [HCM.out], RdS.of_own HM10.out.m1, RdS.of_own HM10.out.t1⟩, ⟨HLM.out, mv4, tv4, by rw [HCN.out], RdS.of_own HM10.out.m2, RdS.of_own HM10.out.t2⟩⟩
    · have hF' : (F == 0) = false := by simpa using hF
      obtain rfl : is = false := by rw [← HIS.out, hF']; rfl
      refine wp_region_noPanic ?_
      refine wp_region_held_drew (S := fun W => Blk W w3.heap.size 27 cM ∧ Blk W w4.heap.size 27 cN) mixed ⟨M3, M4⟩ ?_
      intro hS
      refine take_of (i := 0) rfl (by kernel_rfl) (by kernel_rfl) (by kernel_rfl) (fun _ _ _ _ _ h => (h : False).elim) hS (fun oi ho => ?_)
      simp only [List.getElem?_toArray, List.getElem?_cons_zero, Option.some.injEq] at ho
      subst ho
      refine ⟨_, yieldsIf_load_blk (by rfl) 27 (.tmp 13) rfl w3.heap.size rfl 27 cM _ (fun _ h => h.1) Tryz.underlying27 rfl hszM, ?_⟩
      simp only [Act.put, List.setIfInBounds_toArray, List.set_cons_zero, List.set_cons_succ]
      refine take_of (i := 1) rfl (by kernel_rfl) (by kernel_rfl) (by kernel_rfl) (fun _ _ _ _ _ h => (h : False).elim) hS (fun oi ho => ?_)
      simp only [List.getElem?_toArray, List.getElem?_cons_succ, List.getElem?_cons_zero, Option.some.injEq] at ho
      subst ho
      refine ⟨_, yieldsIf_load_blk (by rfl) 27 (.tmp 15) rfl w4.heap.size rfl 27 cN _ (fun _ h => h.2) Tryz.underlying27 rfl hszN, ?_⟩
      simp only [Act.put, List.setIfInBounds_toArray, List.set_cons_zero, List.set_cons_succ]
      refine take_of (i := 2) rfl (by kernel_rfl) (by kernel_rfl) (by kernel_rfl) (fun _ _ _ _ _ h => (h : False).elim) hS (fun oi ho => ?_)
      simp only [List.getElem?_toArray, List.getElem?_cons_succ, List.getElem?_cons_zero, Option.some.injEq] at ho
      subst ho
      refine ⟨?v2b, Or.inl ⟨by rfl, ?y2b⟩, ?r2b⟩
      case y2b => intro W _; go_simp; try with_reducible rfl
      simp only [Act.put, List.setIfInBounds_toArray, List.set_cons_zero, List.set_cons_succ]
      refine take_of (i := 3) rfl (by kernel_rfl) (by kernel_rfl) (by kernel_rfl) (fun _ _ _ _ _ h => (h : False).elim) hS (fun oi ho => ?_)
      simp only [List.getElem?_toArray, List.getElem?_cons_succ, List.getElem?_cons_zero, Option.some.injEq] at ho
      subst ho
      refine ⟨?v3b, Or.inl ⟨by rfl, ?y3b⟩, ?r3b⟩
      case y3b => intro W _; go_simp; try with_reducible rfl
      simp only [Act.put, List.setIfInBounds_toArray, List.set_cons_zero, List.set_cons_succ]
      refine take_of (i := 4) rfl (by kernel_rfl) (by kernel_rfl) (by kernel_rfl) (fun _ _ _ _ _ h => (h : False).elim) hS (fun oi ho => ?_)
      simp only [List.getElem?_toArray, List.getElem?_cons_succ, List.getElem?_cons_zero, Option.some.injEq] at ho
      subst ho
      refine ⟨?v4b, Or.inl ⟨by rfl, ?y4b⟩, ?r4b⟩
      case y4b => intro W _; go_simp; try with_reducible rfl
      simp only [Act.put, List.setIfInBounds_toArray, List.set_cons_zero, List.set_cons_succ]
      refine take_of (i := 5) rfl (by kernel_rfl) (by kernel_rfl) (by kernel_rfl) (fun _ _ _ _ _ h => (h : False).elim) hS (fun oi ho => ?_)
      simp only [List.getElem?_toArray, List.getElem?_cons_succ, List.getElem?_cons_zero, Option.some.injEq] at ho
      subst ho
      refine ⟨?v5b, Or.inl ⟨by rfl, ?y5b⟩, ?r5b⟩
      case y5b => intro W _; go_simp; try with_reducible rfl
      simp only [Act.put, List.setIfInBounds_toArray, List.set_cons_zero, List.set_cons_succ]
      refine take_of (i := 6) rfl (by kernel_rfl) (by kernel_rfl) (by kernel_rfl) (fun _ _ _ _ _ h => (h : False).elim) hS (fun oi ho => ?_)
      simp only [List.getElem?_toArray, List.getElem?_cons_succ, List.getElem?_cons_zero, Option.some.injEq] at ho
      subst ho
      refine ⟨?v6b, Or.inl ⟨by rfl, ?y6b⟩, ?r6b⟩
      case y6b => intro W _; go_simp; try with_reducible rfl
      simp only [Act.put, List.setIfInBounds_toArray, List.set_cons_zero, List.set_cons_succ]
      refine take_of (i := 7) rfl (by kernel_rfl) (by kernel_rfl) (by kernel_rfl) (fun _ _ _ _ _ h => (h : False).elim) hS (fun oi ho => ?_)
      simp only [List.getElem?_toArray, List.getElem?_cons_succ, List.getElem?_cons_zero, Option.some.injEq] at ho
      subst ho
      refine ⟨?v7b, Or.inl ⟨by rfl, ?y7b⟩, ?r7b⟩
      case y7b => intro W _; go_simp; try with_reducible rfl
      simp only [Act.put, List.setIfInBounds_toArray, List.set_cons_zero, List.set_cons_succ]
      refine take_of (i := 8) rfl (by kernel_rfl) (by kernel_rfl) (by kernel_rfl) (fun _ _ _ _ _ h => (h : False).elim) hS (fun oi ho => ?_)
      simp only [List.getElem?_toArray, List.getElem?_cons_succ, List.getElem?_cons_zero, Option.some.injEq] at ho
      subst ho
      refine ⟨?v8b, Or.inl ⟨by rfl, ?y8b⟩, ?r8b⟩
      case y8b => intro W _; go_simp; try with_reducible rfl
      simp only [Act.put, List.setIfInBounds_toArray, List.set_cons_zero, List.set_cons_succ]
      refine take_of (i := 9) rfl (by kernel_rfl) (by kernel_rfl) (by kernel_rfl) (fun _ _ _ _ _ h => (h : False).elim) hS (fun oi ho => ?_)
      simp only [List.getElem?_toArray, List.getElem?_cons_succ, List.getElem?_cons_zero, Option.some.injEq] at ho
      subst ho
      refine ⟨_, Or.inr ⟨by rfl, rfl⟩, ?_⟩
      simp only [Act.put, List.setIfInBounds_toArray, List.set_cons_zero, List.set_cons_succ]
      refine take_of (i := 10) rfl (by kernel_rfl) (by kernel_rfl) (by kernel_rfl) (fun _ _ _ _ _ h => (h : False).elim) hS (fun oi ho => ?_)
      simp only [List.getElem?_toArray, List.getElem?_cons_succ, List.getElem?_cons_zero, Option.some.injEq] at ho
      subst ho
      refine ⟨_, Or.inr ⟨by rfl, rfl⟩, ?_⟩
      simp only [Act.put, List.setIfInBounds_toArray, List.set_cons_zero, List.set_cons_succ]
      refine take_of (i := 11) rfl (by kernel_rfl) (by kernel_rfl) (by kernel_rfl) (fun _ _ _ _ _ h => (h : False).elim) hS (fun oi ho => ?_)
      simp only [List.getElem?_toArray, List.getElem?_cons_succ, List.getElem?_cons_zero, Option.some.injEq] at ho
      subst ho
      refine ⟨?v11b, Or.inl ⟨by rfl, ?y11b⟩, ?r11b⟩
      case y11b => intro W _; go_simp; try with_reducible rfl
      simp only [Act.put, List.setIfInBounds_toArray, List.set_cons_zero, List.set_cons_succ]
      refine take_of (i := 12) rfl (by kernel_rfl) (by kernel_rfl) (by kernel_rfl) (fun _ _ _ _ _ h => (h : False).elim) hS (fun oi ho => ?_)
      simp only [List.getElem?_toArray, List.getElem?_cons_succ, List.getElem?_cons_zero, Option.some.injEq] at ho
      subst ho
      refine ⟨?v12b, Or.inl ⟨by rfl, ?y12b⟩, ?r12b⟩
      case y12b => intro W _; go_simp; try with_reducible rfl
      simp only [Act.put, List.setIfInBounds_toArray, List.set_cons_zero, List.set_cons_succ]
      refine take_of (i := 13) rfl (by kernel_rfl) (by kernel_rfl) (by kernel_rfl) (fun _ _ _ _ _ h => (h : False).elim) hS (fun oi ho => ?_)
      simp only [List.getElem?_toArray, List.getElem?_cons_succ, List.getElem?_cons_zero, Option.some.injEq] at ho
      subst ho
      refine ⟨_, Or.inr ⟨by rfl, rfl⟩, ?_⟩
      simp only [Act.put, List.setIfInBounds_toArray, List.set_cons_zero, List.set_cons_succ]
      refine take_of (i := 14) rfl (by kernel_rfl) (by kernel_rfl) (by kernel_rfl) (fun _ _ _ _ _ h => (h : False).elim) hS (fun oi ho => ?_)
      simp only [List.getElem?_toArray, List.getElem?_cons_succ, List.getElem?_cons_zero, Option.some.injEq] at ho
      subst ho
      refine ⟨_, Or.inr ⟨by rfl, rfl⟩, ?_⟩
      simp only [Act.put, List.setIfInBounds_toArray, List.set_cons_zero, List.set_cons_succ]
      refine take_of (i := 15) rfl (by kernel_rfl) (by kernel_rfl) (by kernel_rfl) (fun _ _ _ _ _ h => (h : False).elim) hS (fun oi ho => ?_)
      simp only [List.getElem?_toArray, List.getElem?_cons_succ, List.getElem?_cons_zero, Option.some.injEq] at ho
      subst ho
      refine ⟨?v15b, Or.inl ⟨by rfl, ?y15b⟩, ?r15b⟩
      case y15b => intro W _; go_simp; try with_reducible rfl
      simp only [Act.put, List.setIfInBounds_toArray, List.set_cons_zero, List.set_cons_succ]
      refine wpAnyH_ready (rs := [16]) (by kernel_rfl) (by simp) ?_
      refine AllReadyH.cons rfl (fun K hK => ?_) AllReadyH.nil
      rw [if_pos (by rfl)]
      refine wp_store_row 27 (.tmp 6) (.tmp 65) rfl (w.heap.size + 2) cM rfl rfl 27 Z2 M2 hszM (by rw [HZ.out.1, hsM.out]) hallM ?_
      have g1 : w8.drew.grownBy (w8.drew.setRow (w.heap.size + 2) cM) (some (w.heap.size + 2)) := grown_setRow
      have P3 : Blk (w8.drew.setRow (w.heap.size + 2) cM) w3.heap.size 27 cM := blk_through (w := w8.drew) M3 g1 (by omega)
      have P4 : Blk (w8.drew.setRow (w.heap.size + 2) cM) w4.heap.size 27 cN := blk_through (w := w8.drew) M4 g1 (by omega)
      have P2' : Blk (w8.drew.setRow (w.heap.size + 2) cM) (w.heap.size + 3) 27 Z3 := blk_through (w := w8.drew) M2' g1 (by omega)
      have R2 : Blk (w8.drew.setRow (w.heap.size + 2) cM) (w.heap.size + 2) 27 cM := setRow_heap _ _ _ _ 27 (0, 0) M2
      have HM9 := Lib.hid (Owns2.through (w := w8.drew) ⟨HM8.out.m1, HM8.out.t1, HM8.out.m2, HM8.out.t2⟩ M2 g1)
      have HW9 := Lib.hid (HW8.out.drew.grown g1 (by simp; omega) (fun k hk => by injection hk with hk; omega))
      refine hK.out _ _ ⟨P3, P4⟩ (fun hS1 => ?_)
      clear hK g1
      simp only [Act.put]
      refine wpAnyH_ready (rs := [17]) (by kernel_rfl) (by simp) ?_
      refine AllReadyH.cons rfl (fun K hK => ?_) AllReadyH.nil
      rw [if_pos (by rfl)]
      refine wp_store_row 27 (.tmp 7) (.tmp 66) rfl (w.heap.size + 3) cN rfl rfl 27 Z3 P2' hszN (by rw [HZ.out.2, hsN.out]) hallN ?_
      generalize w8.drew.setRow (w.heap.size + 2) cM = w9 at *
      have g2 : w9.grownBy (w9.setRow (w.heap.size + 3) cN) (some (w.heap.size + 3)) := grown_setRow
      have R3 : Blk (w9.setRow (w.heap.size + 3) cN) (w.heap.size + 3) 27 cN := setRow_heap _ _ _ _ 27 (0, 0) P2'
      have R2' : Blk (w9.setRow (w.heap.size + 3) cN) (w.heap.size + 2) 27 cM := blk_through R2 g2 (by omega)
      have HM10 := Lib.hid (HM9.out.through P2' g2)
      have HW10 := Lib.hid (HW9.out.grown g2 HW9.out.size (fun k hk => by injection hk with hk; omega))
      refine hK.out _ _ ⟨blk_through P3 g2 (by omega), blk_through P4 g2 (by omega)⟩ (fun hS2 => ?_)
      clear hK g2
      simp only [Act.put]
      refine take_of (i := 18) rfl (by kernel_rfl) (by kernel_rfl) (by kernel_rfl) (fun _ _ _ _ _ h => (h : False).elim) hS2 (fun oi ho => ?_)
      simp only [List.getElem?_toArray, List.getElem?_cons_succ, List.getElem?_cons_zero, Option.some.injEq] at ho
      subst ho
      refine ⟨?v18b, Or.inl ⟨by rfl, ?y18b⟩, ?r18b⟩
      case y18b => intro W _; go_simp; try with_reducible rfl
      simp only [Act.put, List.setIfInBounds_toArray]
      refine wpAnyH_done (by kernel_rfl) ?_ _
      refine NoPanic.normal ?_
      go_wp2
      refine bodyPost_ret (results_cell2 rfl _ _ (w.heap.size + 2) (w.heap.size + 3) 27 cM cN (0, 0) (0, 0) _ rfl rfl R2' R3 Tryz.underlying27 rfl hszM hszN) rfl ?_
      exact ⟨HW10.out, _, _, rfl, ⟨HLM.out, mv3, tv3, by rw [HCM.out], RdS.of_own HM10.out.m1, RdS.of_own HM10.out.t1⟩, ⟨HLM.out, mv4, tv4, by rw [HCN.out], RdS.of_own HM10.out.m2, RdS.of_own HM10.out.t2⟩⟩
  · have hE' : (E == 0) = false := by simpa using hE
    obtain rfl : is = false := by rw [← HIS.out, hE']; rfl
    refine wp_region_noPanic ?_
    refine wp_region_held_drew (S := fun W => Blk W w3.heap.size 27 cM ∧ Blk W w4.heap.size 27 cN) mixed ⟨M3, M4⟩ ?_
    intro hS
    refine take_of (i := 0) rfl (by kernel_rfl) (by kernel_rfl) (by kernel_rfl) (fun _ _ _ _ _ h => (h : False).elim) hS (fun oi ho => ?_)
    simp only [List.getElem?_toArray, List.getElem?_cons_zero, Option.some.injEq] at ho
    subst ho
    refine ⟨_, yieldsIf_load_blk (by rfl) 27 (.tmp 13) rfl w3.heap.size rfl 27 cM _ (fun _ h => h.1) Tryz.underlying27 rfl hszM, ?_⟩
    simp only [Act.put, List.setIfInBounds_toArray, List.set_cons_zero, List.set_cons_succ]
    refine take_of (i := 1) rfl (by kernel_rfl) (by kernel_rfl) (by kernel_rfl) (fun _ _ _ _ _ h => (h : False).elim) hS (fun oi ho => ?_)
    simp only [List.getElem?_toArray, List.getElem?_cons_succ, List.getElem?_cons_zero, Option.some.injEq] at ho
    subst ho
    refine ⟨_, yieldsIf_load_blk (by rfl) 27 (.tmp 15) rfl w4.heap.size rfl 27 cN _ (fun _ h => h.2) Tryz.underlying27 rfl hszN, ?_⟩
    simp only [Act.put, List.setIfInBounds_toArray, List.set_cons_zero, List.set_cons_succ]
    refine take_of (i := 2) rfl (by kernel_rfl) (by kernel_rfl) (by kernel_rfl) (fun _ _ _ _ _ h => (h : False).elim) hS (fun oi ho => ?_)
    simp only [List.getElem?_toArray, List.getElem?_cons_succ, List.getElem?_cons_zero, Option.some.injEq] at ho
    subst ho
    refine ⟨?v2c, Or.inl ⟨by rfl, ?y2c⟩, ?r2c⟩
    case y2c => intro W _; go_simp; try with_reducible rfl
    simp only [Act.put, List.setIfInBounds_toArray, List.set_cons_zero, List.set_cons_succ]
    refine take_of (i := 3) rfl (by kernel_rfl) (by kernel_rfl) (by kernel_rfl) (fun _ _ _ _ _ h => (h : False).elim) hS (fun oi ho => ?_)
    simp only [List.getElem?_toArray, List.getElem?_cons_succ, List.getElem?_cons_zero, Option.some.injEq] at ho
    subst ho
    refine ⟨?v3c, Or.inl ⟨by rfl, ?y3c⟩, ?r3c⟩
    case y3c => intro W _; go_simp; try with_reducible rfl
    simp only [Act.put, List.setIfInBounds_toArray, List.set_cons_zero, List.set_cons_succ]
    refine take_of (i := 4) rfl (by kernel_rfl) (by kernel_rfl) (by kernel_rfl) (fun _ _ _ _ _ h => (h : False).elim) hS (fun oi ho => ?_)
    simp only [List.getElem?_toArray, List.getElem?_cons_succ, List.getElem?_cons_zero, Option.some.injEq] at ho
    subst ho
    refine ⟨?v4c, Or.inl ⟨by rfl, ?y4c⟩, ?r4c⟩
    case y4c => intro W _; go_simp; try with_reducible rfl
    simp only [Act.put, List.setIfInBounds_toArray, List.set_cons_zero, List.set_cons_succ]
    refine take_of (i := 5) rfl (by kernel_rfl) (by kernel_rfl) (by kernel_rfl) (fun _ _ _ _ _ h => (h : False).elim) hS (fun oi ho => ?_)
    simp only [List.getElem?_toArray, List.getElem?_cons_succ, List.getElem?_cons_zero, Option.some.injEq] at ho
    subst ho
    refine ⟨_, Or.inr ⟨by rfl, rfl⟩, ?_⟩
    simp only [Act.put, List.setIfInBounds_toArray, List.set_cons_zero, List.set_cons_succ]
    refine take_of (i := 6) rfl (by kernel_rfl) (by kernel_rfl) (by kernel_rfl) (fun _ _ _ _ _ h => (h : False).elim) hS (fun oi ho => ?_)
    simp only [List.getElem?_toArray, List.getElem?_cons_succ, List.getElem?_cons_zero, Option.some.injEq] at ho
    subst ho
    refine ⟨_, Or.inr ⟨by rfl, rfl⟩, ?_⟩
    simp only [Act.put, List.setIfInBounds_toArray, List.set_cons_zero, List.set_cons_succ]
    refine take_of (i := 7) rfl (by kernel_rfl) (by kernel_rfl) (by kernel_rfl) (fun _ _ _ _ _ h => (h : False).elim) hS (fun oi ho => ?_)
    simp only [List.getElem?_toArray, List.getElem?_cons_succ, List.getElem?_cons_zero, Option.some.injEq] at ho
    subst ho
    refine ⟨?v7c, Or.inl ⟨by rfl, ?y7c⟩, ?r7c⟩
    case y7c => intro W _; go_simp; try with_reducible rfl
    simp only [Act.put, List.setIfInBounds_toArray, List.set_cons_zero, List.set_cons_succ]
    refine take_of (i := 8) rfl (by kernel_rfl) (by kernel_rfl) (by kernel_rfl) (fun _ _ _ _ _ h => (h : False).elim) hS (fun oi ho => ?_)
    simp only [List.getElem?_toArray, List.getElem?_cons_succ, List.getElem?_cons_zero, Option.some.injEq] at ho
    subst ho
    refine ⟨?v8c, Or.inl ⟨by rfl, ?y8c⟩, ?r8c⟩
    case y8c => intro W _; go_simp; try with_reducible rfl
    simp only [Act.put, List.setIfInBounds_toArray, List.set_cons_zero, List.set_cons_succ]
    refine take_of (i := 9) rfl (by kernel_rfl) (by kernel_rfl) (by kernel_rfl) (fun _ _ _ _ _ h => (h : False).elim) hS (fun oi ho => ?_)
    simp only [List.getElem?_toArray, List.getElem?_cons_succ, List.getElem?_cons_zero, Option.some.injEq] at ho
    subst ho
    refine ⟨_, Or.inr ⟨by rfl, rfl⟩, ?_⟩
    simp only [Act.put, List.setIfInBounds_toArray, List.set_cons_zero, List.set_cons_succ]
    refine take_of (i := 10) rfl (by kernel_rfl) (by kernel_rfl) (by kernel_rfl) (fun _ _ _ _ _ h => (h : False).elim) hS (fun oi ho => ?_)
    simp only [List.getElem?_toArray, List.getElem?_cons_succ, List.getElem?_cons_zero, Option.some.injEq] at ho
    subst ho
    refine ⟨_, Or.inr ⟨by rfl, rfl⟩, ?_⟩
    simp only [Act.put, List.setIfInBounds_toArray, List.set_cons_zero, List.set_cons_succ]
    refine take_of (i := 11) rfl (by kernel_rfl) (by kernel_rfl) (by kernel_rfl) (fun _ _ _ _ _ h => (h : False).elim) hS (fun oi ho => ?_)
    simp only [List.getElem?_toArray, List.getElem?_cons_succ, List.getElem?_cons_zero, Option.some.injEq] at ho
    subst ho
    refine ⟨?v11c, Or.inl ⟨by rfl, ?y11c⟩, ?r11c⟩
    case y11c => intro W _; go_simp; try with_reducible rfl
    simp only [Act.put, List.setIfInBounds_toArray, List.set_cons_zero, List.set_cons_succ]
    refine take_of (i := 12) rfl (by kernel_rfl) (by kernel_rfl) (by kernel_rfl) (fun _ _ _ _ _ h => (h : False).elim) hS (fun oi ho => ?_)
    simp only [List.getElem?_toArray, List.getElem?_cons_succ, List.getElem?_cons_zero, Option.some.injEq] at ho
    subst ho
    refine ⟨?v12c, Or.inl ⟨by rfl, ?y12c⟩, ?r12c⟩
    case y12c => intro W _; go_simp; try with_reducible rfl
    simp only [Act.put, List.setIfInBounds_toArray, List.set_cons_zero, List.set_cons_succ]
    refine take_of (i := 13) rfl (by kernel_rfl) (by kernel_rfl) (by kernel_rfl) (fun _ _ _ _ _ h => (h : False).elim) hS (fun oi ho => ?_)
    simp only [List.getElem?_toArray, List.getElem?_cons_succ, List.getElem?_cons_zero, Option.some.injEq] at ho
    subst ho
    refine ⟨_, Or.inr ⟨by rfl, rfl⟩, ?_⟩
    simp only [Act.put, List.setIfInBounds_toArray, List.set_cons_zero, List.set_cons_succ]
    refine take_of (i := 14) rfl (by kernel_rfl) (by kernel_rfl) (by kernel_rfl) (fun _ _ _ _ _ h => (h : False).elim) hS (fun oi ho => ?_)
    simp only [List.getElem?_toArray, List.getElem?_cons_succ, List.getElem?_cons_zero, Option.some.injEq] at ho
    subst ho
    refine ⟨_, Or.inr ⟨by rfl, rfl⟩, ?_⟩
    simp only [Act.put, List.setIfInBounds_toArray, List.set_cons_zero, List.set_cons_succ]
    refine take_of (i := 15) rfl (by kernel_rfl) (by kernel_rfl) (by kernel_rfl) (fun _ _ _ _ _ h => (h : False).elim) hS (fun oi ho => ?_)
    simp only [List.getElem?_toArray, List.getElem?_cons_succ, List.getElem?_cons_zero, Option.some.injEq] at ho
    subst ho
    refine ⟨?v15c, Or.inl ⟨by rfl, ?y15c⟩, ?r15c⟩
    case y15c => intro W _; go_simp; try with_reducible rfl
    simp only [Act.put, List.setIfInBounds_toArray, List.set_cons_zero, List.set_cons_succ]
    refine wpAnyH_ready (rs := [16]) (by kernel_rfl) (by simp) ?_
    refine AllReadyH.cons rfl (fun K hK => ?_) AllReadyH.nil
    rw [if_pos (by rfl)]
    refine wp_store_row 27 (.tmp 6) (.tmp 65) rfl (w.heap.size + 2) cM rfl rfl 27 Z2 M2 hszM (by rw [HZ.out.1, hsM.out]) hallM ?_
    have g1 : w8.drew.grownBy (w8.drew.setRow (w.heap.size + 2) cM) (some (w.heap.size + 2)) := grown_setRow
    have P3 : Blk (w8.drew.setRow (w.heap.size + 2) cM) w3.heap.size 27 cM := blk_through (w := w8.drew) M3 g1 (by omega)
    have P4 : Blk (w8.drew.setRow (w.heap.size + 2) cM) w4.heap.size 27 cN := blk_through (w := w8.drew) M4 g1 (by omega)
    have P2' : Blk (w8.drew.setRow (w.heap.size + 2) cM) (w.heap.size + 3) 27 Z3 := blk_through (w := w8.drew) M2' g1 (by omega)
    have R2 : Blk (w8.drew.setRow (w.heap.size + 2) cM) (w.heap.size + 2) 27 cM := setRow_heap _ _ _ _ 27 (0, 0) M2
    have HM9 := Lib.hid (Owns2.through (w := w8.drew) ⟨HM8.out.m1, HM8.out.t1, HM8.out.m2, HM8.out.t2⟩ M2 g1)
    have HW9 := Lib.hid (HW8.out.drew.grown g1 (by simp; omega) (fun k hk => by injection hk with hk; omega))
    refine hK.out _ _ ⟨P3, P4⟩ (fun hS1 => ?_)
    clear hK g1
    simp only [Act.put]
    refine wpAnyH_ready (rs := [17]) (by kernel_rfl) (by simp) ?_
    refine AllReadyH.cons rfl (fun K hK => ?_) AllReadyH.nil
    rw [if_pos (by rfl)]
    refine wp_store_row 27 (.tmp 7) (.tmp 66) rfl (w.heap.size + 3) cN rfl rfl 27 Z3 P2' hszN (by rw [HZ.out.2, hsN.out]) hallN ?_
    generalize w8.drew.setRow (w.heap.size + 2) cM = w9 at *
    have g2 : w9.grownBy (w9.setRow (w.heap.size + 3) cN) (some (w.heap.size + 3)) := grown_setRow
    have R3 : Blk (w9.setRow (w.heap.size + 3) cN) (w.heap.size + 3) 27 cN := setRow_heap _ _ _ _ 27 (0, 0) P2'
    have R2' : Blk (w9.setRow (w.heap.size + 3) cN) (w.heap.size + 2) 27 cM := blk_through R2 g2 (by omega)
    have HM10 := Lib.hid (HM9.out.through P2' g2)
    have HW10 := Lib.hid (HW9.out.grown g2 HW9.out.size (fun k hk => by injection hk with hk; omega))
    refine hK.out _ _ ⟨blk_through P3 g2 (by omega), blk_through P4 g2 (by omega)⟩ (fun hS2 => ?_)
    clear hK g2
    simp only [Act.put]
    refine take_of (i := 18) rfl (by kernel_rfl) (by kernel_rfl) (by kernel_rfl) (fun _ _ _ _ _ h => (h : False).elim) hS2 (fun oi ho => ?_)
    simp only [List.getElem?_toArray, List.getElem?_cons_succ, List.getElem?_cons_zero, Option.some.injEq] at ho
    subst ho
    refine ⟨?v18c, Or.inl ⟨by rfl, ?y18c⟩, ?r18c⟩
    case y18c => intro W _; go_simp; try with_reducible rfl
    simp only [Act.put, List.setIfInBounds_toArray]
    refine wpAnyH_done (by kernel_rfl) ?_ _
    refine NoPanic.normal ?_
    go_wp2
    refine bodyPost_ret (results_cell2 rfl _ _ (w.heap.size + 2) (w.heap.size + 3) 27 cM cN (0, 0) (0, 0) _ rfl rfl R2' R3 Tryz.underlying27 rfl hszM hszN) rfl ?_
    exact ⟨HW10.out, _, _, rfl, ⟨HLM.out, mv3, tv3, by rw [HCM.out], RdS.of_own HM10.out.m1, RdS.of_own HM10.out.t1⟩, ⟨HLM.out, mv4, tv4, by rw [HCN.out], RdS.of_own HM10.out.m2, RdS.of_own HM10.out.t2⟩⟩
end Go.Proofs.YtoehlmiadiiimaaGreatDoor
