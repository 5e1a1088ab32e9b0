/-
  The machine: New.
-/
import Derived.Test.YtoehlmiadiiimaaGreatDoorMemR5
namespace Go.Proofs.YtoehlmiadiiimaaGreatDoor
open Go.ChangeShapes Go.WideShapes Go.RowKit Go.Proofs.YtoehlmiadiiimaaGreatDoor.Ex

/-- A machine at its start. -/
def rnN (base pc : Int) (l : List Int) : Rn := ⟨pc, List.replicate 32 0, base, l, [], false, 0, false⟩
theorem built27n : (fun (pc base : Int) (A : Option Addr) (n c : Nat) => Tryz.prog.built 27 [(0, .int .u64 pc), (2, .int .u64 base), (3, .slice A n c)]) = fun pc base A n c => some (mcells (rnN base pc []) (.slice A n c) (.slice none 0 0)).toArray := by kernel_rfl
theorem wpList_build3 {P : Program} {w : World} {ops : Array Oper} {rest : List Oper} {o : Oper} {a : Act} {Q : Exit → Act → World → Prop} (hg : o.guard = none) (t : TypeId) (k1 k2 k3 : Nat) (x1 x2 x3 : Operand) (ho : o.op = .build t #[(k1, x1), (k2, x2), (k3, x3)]) (v1 v2 v3 : Value) (h1 : a.eval x1 = v1) (h2 : a.eval x2 = v2) (h3 : a.eval x3 = v3) (cells : Array Value)
    (hf : P.built t [(k1, v1), (k2, v2), (k3, v3)] = some cells) (h : wpList P ops Q rest (a.put o.dst (.agg cells)) w) : wpList P ops Q (o :: rest) a w := by
  have e : P.built t ((#[(k1, x1), (k2, x2), (k3, x3)].map fun (i, x) => (i, a.eval x)).toList) = some cells := by simpa [h1, h2, h3] using hf
  exact wpList_build hg t #[(k1, x1), (k2, x2), (k3, x3)] ho (by rw [e]; rfl) (by rw [e]; exact h)
/-- What New leaves behind. -/
def NewPost (w : World) (r : Rn) (e : Ending) (w' : World) : Prop := ∃ v, e = .returned (.tuple #[v, .int .i64 0]) ∧ MachO w.heap.size w' v r ∧ Below w.heap.size w w'
set_option maxRecDepth 100000 in
set_option maxHeartbeats 1000000 in
theorem new_in (base pc : Int) (mv : Value) (l : List Int) (w : World) (h : RdS w mv (l.map (.int .u8))) (hb : ¬ 2147483648 < base) (hl : l.length ≤ 65536) :
    Calls Tryz.prog 21 #[.int .u64 base, mv, .int .u64 pc] w (NewPost w (rnN base pc l)) := by
  have CM : ∀ W, Below w.heap.size w W → Calls Tryz.prog 36 #[mv] W (ClonePost W 5 (l.map (.int .u8))) := fun W hb => clone8_c mv _ W (h.keep hb) (bytes_one _) (by simp; omega)
  have HM := Lib.hid CM
  obtain ⟨A, c, rfl, hc, -⟩ := h.form
  have hl' : ¬ (65536 : Int) < (l.length : Int) := by omega
  rw [List.length_map] at HM ⊢
  have hz : (Tryz.prog.info? 27).map (·.size) = some z27.size := by rw [z27_size]; exact info27
  clear CM h hc
  go_enter Tryz.func21, Tryz.ntmps21
  go_wp2_with fail
  refine (HM.out _ ((Below.refl _ _).alloc (Nat.le_refl _) _)).mono ?_
  intro e w1 hcp
  obtain ⟨v1, rfl, ho1, hb1⟩ := hcp
  rw [List.length_map] at ho1
  obtain ⟨A1, q1, rfl, -, -⟩ := own_slice ho1
  have E1 := (hb1.block w.heap.size (by simp)).trans (heap_alloc_new w _)
  have hw1 := Lib.hid (((Below.refl _ _).alloc (Nat.le_refl _) _).trans (hb1.mono (by simp)) : Below w.heap.size w w1)
  have HO := Lib.hid ho1
  have hB := congrFun (congrFun (congrFun (congrFun (congrFun built27n pc) base) (A1 : Option Addr)) l.length) q1
  have hsz : (Tryz.prog.info? 27).map (·.size) = some (mcells (rnN base pc []) (.slice A1 l.length q1) (.slice none 0 0)).toArray.size := by rw [mc_size rfl]; exact info27
  have hall : (mcells (rnN base pc []) (.slice A1 l.length q1) (.slice none 0 0)).toArray.all (·.oneCell') = true := mc_one rfl rfl
  have hlen : (mcells (rnN base pc []) (.slice A1 l.length q1) (.slice none 0 0)).toArray.size = 37 := mc_size rfl
  go_wp2_with (first
    | (refine wpList_build3 rfl 27 0 2 3 _ _ _ rfl _ _ _ rfl rfl rfl _ hB ?_)
    | (refine wpList_store_row rfl 27 (.tmp 6) (.tmp 21) rfl w.heap.size (mcells (rnN base pc []) (.slice A1 l.length q1) (.slice none 0 0)).toArray rfl rfl 27 _ E1 hsz (by rw [hlen]; rfl) hall ?_))
  refine bodyPost_ret (results_cell_tmp rfl _ _ w.heap.size 27 _ (0, 0) _ rfl (setRow_heap _ _ _ _ _ _ E1) Tryz.underlying27 rfl hsz) rfl ?_
  refine ⟨_, rfl, ⟨rfl, _, _, rfl, ?_, World.ownsRow_nil _ _ _ _⟩, below_setRow hw1.out (Nat.le_refl _) _⟩
  have h0 : w1.ownsRow (w.heap.size + 1) 5 1 (.slice A1 l.length q1) l.length (l.map (Value.int .u8)) := by simpa using HO.out
  exact (own_setRow_far h0 (fun e => by have := (h0.lt _ e).1; omega) _).mono (by omega)
end Go.Proofs.YtoehlmiadiiimaaGreatDoor
