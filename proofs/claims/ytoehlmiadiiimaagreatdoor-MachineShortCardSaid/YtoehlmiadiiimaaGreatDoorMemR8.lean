import Derived.Test.YtoehlmiadiiimaaGreatDoorMemR3
import Derived.Deep.Slices
import Derived.OpenShut
import Derived.Test.YtoehlmiadiiimaaGreatDoorMacT
/-
  The machine: a machine that is handed to a law.
-/
namespace Go.Proofs.YtoehlmiadiiimaaGreatDoor
open Go.ChangeShapes Go.WideShapes Go.RowKit Go.Proofs.YtoehlmiadiiimaaGreatDoor.Ex

section
variable {H : Type} {enc : TypeId × Value → H} {w : World} {base : Nat} {spare : Nat → Bool} {held : Bool}
theorem cells22 : Tryz.prog.cellsOf 22 = 1 := by kernel_rfl
theorem cells5 : Tryz.prog.cellsOf 5 = 1 := by kernel_rfl
theorem cells23 : Tryz.prog.cellsOf 23 = 32 := by kernel_rfl
end
end Go.Proofs.YtoehlmiadiiimaaGreatDoor

/-
  The machine: Run, all its ways.
-/
namespace Go.Proofs.YtoehlmiadiiimaaGreatDoor
open Go.ChangeShapes Go.WideShapes Go.RowKit Go.Proofs.YtoehlmiadiiimaaGreatDoor.Ex

theorem checkE_or (r : Rn) : checkE r = 0 ∨ checkE r = 8 := by
  unfold checkE checkF
  (repeat' split) <;> simp
theorem checkE_zero {r : Rn} (h : checkE r = 0) : r.base ≤ 2147483648 ∧ r.mem.length ≤ 65536 ∧ r.regs.getD 0 0 = 0 ∧ r.told.length ≤ 1000 := by
  unfold checkE checkF at h
  split at h
  · cases h
  · split at h
    · cases h
    · split at h
      · cases h
      · split at h
        · cases h
        · omega
theorem checkE_of {r : Rn} (h1 : r.base ≤ 2147483648) (h2 : r.mem.length ≤ 65536) (h3 : r.regs.getD 0 0 = 0) (h4 : r.told.length ≤ 1000) : checkE r = 0 := by
  unfold checkE checkF
  rw [if_neg (by omega), if_neg (by omega), if_neg (by omega), if_neg (by omega)]
theorem rn0_own (B : Nat) (w : World) : MachO B w (.agg z27) rn0 := ⟨rfl, _, _, rfl, World.ownsRow_nil w _ _ _, World.ownsRow_nil w _ _ _⟩
end Go.Proofs.YtoehlmiadiiimaaGreatDoor


/-
  The machine's laws: alive.
-/
namespace Go.Proofs.YtoehlmiadiiimaaGreatDoor
open Go.Proofs.YtoehlmiadiiimaaGreatDoor.Ex
theorem told25 : (fun ts => (Tr.leaf (.bool true)).ok (runG Tryz.prog vars 13 o184 10000 25 [] ts) ⟨[], [], []⟩) = fun _ => true := by kernel_rfl
theorem ret25 : RetG Tryz.prog vars 13 25 [] (.bool true) :=
  ret_laidG mixed (o184_OK fun _ _ => 0) told25 (Fa.On.nil (fun _ => 0) _) rfl rfl rfl rfl rfl
end Go.Proofs.YtoehlmiadiiimaaGreatDoor

/-
  The law MachineMemory: the code of its texts, by the executor: the runs.
-/
namespace Go.Proofs.YtoehlmiadiiimaaGreatDoor
open Go.ChangeShapes Go.WideShapes Go.RowKit Go.Proofs.YtoehlmiadiiimaaGreatDoor.Ex

/- the texts' code -/
def codeM : Nat → List Int
  | 0 => [35, 0, 182, 0, 3, 69, 6, 0, 115, 0, 0, 0]
  | 1 => [35, 16, 182, 0, 3, 85, 6, 0, 115, 0, 0, 0]
  | 2 => [35, 32, 182, 0, 3, 101, 6, 0, 115, 0, 0, 0]
  | _ => [35, 48, 182, 0, 3, 53, 6, 0, 115, 0, 0, 0]
def memM (j : Nat) : List Int := codeM j ++ List.replicate 48 0
abbrev F0 : Fa := ⟨[], [], []⟩
end Go.Proofs.YtoehlmiadiiimaaGreatDoor

/-
  The law MachineMemory, in plain words: what is stored is loaded.
-/
namespace Go.Proofs.YtoehlmiadiiimaaGreatDoor
open Go.ChangeShapes Go.WideShapes Go.RowKit Go.Proofs.YtoehlmiadiiimaaGreatDoor.Ex

/- numbers -/
theorem or_add (a b i : Nat) (ha : a < 2 ^ i) (hs : a + 2 ^ i * b < 18446744073709551616) : bits .or .u64 (a : Int) ((2 ^ i * b : Nat) : Int) = ((a + 2 ^ i * b : Nat) : Int) := by
  have h1 : a < 2 ^ 64 := by omega
  have h2 : 2 ^ i * b < 2 ^ 64 := by omega
  have e : bits .or .u64 (a : Int) ((2 ^ i * b : Nat) : Int) = IntKind.u64.wrap ((BitVec.ofInt 64 (a : Int) ||| BitVec.ofInt 64 ((2 ^ i * b : Nat) : Int)).toNat : Int) := rfl
  rw [e, BitVec.toNat_or, BitVec.ofInt_natCast, BitVec.ofInt_natCast, BitVec.toNat_ofNat, BitVec.toNat_ofNat, Nat.mod_eq_of_lt h1, Nat.mod_eq_of_lt h2]
  have e2 : a ||| 2 ^ i * b = a + 2 ^ i * b := by
    rw [Nat.or_comm, ← Nat.two_pow_add_eq_or_of_lt ha]; omega
  rw [e2, IntKind.wrap_u64]
  omega
theorem stv_nat (x j : Nat) : stv (x : Int) j = ((x / 2 ^ (8 * j) % 256 : Nat) : Int) := by
  unfold stv
  rw [IntKind.wrap_u8', show ((2 : Int) ^ (8 * j)) = ((2 ^ (8 * j) : Nat) : Int) from by rw [Int.natCast_pow]; rfl]
  omega
theorem ldv_stv (x : Nat) : ∀ j, j ≤ 8 → ldv (fun i => stv (x : Int) i) j = ((x % 2 ^ (8 * j) : Nat) : Int)
  | 0, _ => by simp [ldv, Nat.mod_one]
  | j + 1, hj => by
    rw [ldv, ldv_stv x j (by omega), stv_nat]
    have hp : 2 ^ (8 * (j + 1)) = 2 ^ (8 * j) * 256 := by rw [Nat.mul_add, Nat.pow_add]
    have hle : 2 ^ (8 * (j + 1)) ≤ 18446744073709551616 := by
      have : 2 ^ (8 * (j + 1)) ≤ 2 ^ 64 := Nat.pow_le_pow_right (by omega) (by omega)
      omega
    have hlt : x % 2 ^ (8 * j) < 2 ^ (8 * j) := Nat.mod_lt _ (Nat.two_pow_pos _)
    have hc : x / 2 ^ (8 * j) % 256 < 256 := Nat.mod_lt _ (by omega)
    have hm : x % 2 ^ (8 * j) + 2 ^ (8 * j) * (x / 2 ^ (8 * j) % 256) = x % 2 ^ (8 * (j + 1)) := by rw [hp, Nat.mod_mul]
    have hb : x % 2 ^ (8 * (j + 1)) < 2 ^ (8 * (j + 1)) := Nat.mod_lt _ (Nat.two_pow_pos _)
    have e1 : IntKind.u64.wrap ((x / 2 ^ (8 * j) % 256 : Nat) : Int) = ((x / 2 ^ (8 * j) % 256 : Nat) : Int) := by rw [IntKind.wrap_u64]; omega
    have e2 : (((x / 2 ^ (8 * j) % 256 : Nat) : Int) * 2 ^ (8 * j)) = ((2 ^ (8 * j) * (x / 2 ^ (8 * j) % 256) : Nat) : Int) := by
      rw [Int.mul_comm, Int.natCast_mul, Int.natCast_pow]; rfl
    have e3 : IntKind.u64.wrap ((2 ^ (8 * j) * (x / 2 ^ (8 * j) % 256) : Nat) : Int) = ((2 ^ (8 * j) * (x / 2 ^ (8 * j) % 256) : Nat) : Int) := by rw [IntKind.wrap_u64]; omega
    rw [e1, e2, e3, or_add _ _ _ hlt (by omega), hm]
theorem ldv_congr {b b' : Nat → Int} : ∀ j, (∀ i, i < j → b i = b' i) → ldv b j = ldv b' j
  | 0, _ => rfl
  | j + 1, h => by rw [ldv, ldv, ldv_congr j (fun i hi => h i (by omega)), h j (by omega)]

/- memory -/
def regsM (x : Int) (p : Nat) : List Int := ((List.replicate 32 0).set 11 x).set 12 (p : Int)
/-- The machine that is run. -/
def rM (j : Nat) (x : Int) (p : Nat) : Rn := ⟨0, regsM x p, 0, memM j, [], false, 0, false⟩
end Go.Proofs.YtoehlmiadiiimaaGreatDoor


/-
  The machine: New.
-/
namespace Go.Proofs.YtoehlmiadiiimaaGreatDoor
open Go.ChangeShapes Go.WideShapes Go.RowKit Go.Proofs.YtoehlmiadiiimaaGreatDoor.Ex

/-- A machine at its start. -/
def rnN (base pc : Int) (l : List Int) : Rn := ⟨pc, List.replicate 32 0, base, l, [], false, 0, false⟩
theorem built27n : (fun (pc base : Int) (A : Option Addr) (n c : Nat) => Tryz.prog.built 27 [(0, .int .u64 pc), (2, .int .u64 base), (3, .slice A n c)]) = fun pc base A n c => some (mcells (rnN base pc []) (.slice A n c) (.slice none 0 0)).toArray := by kernel_rfl
theorem wpList_build3 {P : Program} {w : World} {ops : Array Oper} {rest : List Oper} {o : Oper} {a : Act} {Q : Exit → Act → World → Prop} (hg : o.guard = none) (t : TypeId) (k1 k2 k3 : Nat) (x1 x2 x3 : Operand) (ho : o.op = .build t #[(k1, x1), (k2, x2), (k3, x3)]) (v1 v2 v3 : Value) (h1 : a.eval x1 = v1) (h2 : a.eval x2 = v2) (h3 : a.eval x3 = v3) (cells : Array Value)
    (hf : P.built t [(k1, v1), (k2, v2), (k3, v3)] = some cells) (h : wpList P ops Q rest (a.put o.dst (.agg cells)) w) : wpList P ops Q (o :: rest) a w := by
  have e : P.built t ((#[(k1, x1), (k2, x2), (k3, x3)].map fun (i, x) => (i, a.eval x)).toList) = some cells := by simpa [h1, h2, h3] using hf
  exact wpList_build hg t #[(k1, x1), (k2, x2), (k3, x3)] ho (by rw [e]; rfl) (by rw [e]; exact h)
/-- What New leaves behind. -/
def NewPost (w : World) (r : Rn) (e : Ending) (w' : World) : Prop := ∃ v, e = .returned (.tuple #[v, .int .i64 0]) ∧ MachO w.heap.size w' v r ∧ Below w.heap.size w w'
set_option maxRecDepth 100000 in
set_option maxHeartbeats 1000000 in
theorem new_in (base pc : Int) (mv : Value) (l : List Int) (w : World) (h : RdS w mv (l.map (.int .u8))) (hb : ¬ 2147483648 < base) (hl : l.length ≤ 65536) :
    Calls Tryz.prog 21 #[.int .u64 base, mv, .int .u64 pc] w (NewPost w (rnN base pc l)) := by
  have CM : ∀ W, Below w.heap.size w W → Calls Tryz.prog 36 #[mv] W (ClonePost W 5 (l.map (.int .u8))) := fun W hb => clone8_c mv _ W (h.keep hb) (bytes_one _) (by simp; omega)
  have HM := Lib.hid CM
  obtain ⟨A, c, rfl, hc, -⟩ := h.form
  have hl' : ¬ (65536 : Int) < (l.length : Int) := by omega
  rw [List.length_map] at HM ⊢
  have hz : (Tryz.prog.info? 27).map (·.size) = some z27.size := by rw [z27_size]; exact info27
  clear CM h hc
  go_enter Tryz.func21, Tryz.ntmps21
  go_wp2_with fail
  refine (HM.out _ ((Below.refl _ _).alloc (Nat.le_refl _) _)).mono ?_
  intro e w1 hcp
  obtain ⟨v1, rfl, ho1, hb1⟩ := hcp
  rw [List.length_map] at ho1
  obtain ⟨A1, q1, rfl, -, -⟩ := own_slice ho1
  have E1 := (hb1.block w.heap.size (by simp)).trans (heap_alloc_new w _)
  have hw1 := Lib.hid (((Below.refl _ _).alloc (Nat.le_refl _) _).trans (hb1.mono (by simp)) : Below w.heap.size w w1)
  have HO := Lib.hid ho1
  have hB := congrFun (congrFun (congrFun (congrFun (congrFun built27n pc) base) (A1 : Option Addr)) l.length) q1
  have hsz : (Tryz.prog.info? 27).map (·.size) = some (mcells (rnN base pc []) (.slice A1 l.length q1) (.slice none 0 0)).toArray.size := by rw [mc_size rfl]; exact info27
  have hall : (mcells (rnN base pc []) (.slice A1 l.length q1) (.slice none 0 0)).toArray.all (·.oneCell') = true := mc_one rfl rfl
  have hlen : (mcells (rnN base pc []) (.slice A1 l.length q1) (.slice none 0 0)).toArray.size = 37 := mc_size rfl
  go_wp2_with (first
    | (refine wpList_build3 rfl 27 0 2 3 _ _ _ rfl _ _ _ rfl rfl rfl _ hB ?_)
    | (refine wpList_store_row rfl 27 (.tmp 6) (.tmp 21) rfl w.heap.size (mcells (rnN base pc []) (.slice A1 l.length q1) (.slice none 0 0)).toArray rfl rfl 27 _ E1 hsz (by rw [hlen]; rfl) hall ?_))
  refine bodyPost_ret (results_cell_tmp rfl _ _ w.heap.size 27 _ (0, 0) _ rfl (setRow_heap _ _ _ _ _ _ E1) Tryz.underlying27 rfl hsz) rfl ?_
  refine ⟨_, rfl, ⟨rfl, _, _, rfl, ?_, World.ownsRow_nil _ _ _ _⟩, below_setRow hw1.out (Nat.le_refl _) _⟩
  have h0 : w1.ownsRow (w.heap.size + 1) 5 1 (.slice A1 l.length q1) l.length (l.map (Value.int .u8)) := by simpa using HO.out
  exact (own_setRow_far h0 (fun e => by have := (h0.lt _ e).1; omega) _).mono (by omega)
end Go.Proofs.YtoehlmiadiiimaaGreatDoor

/-
  The law MachineOn.
-/
namespace Go.Proofs.YtoehlmiadiiimaaGreatDoor
open Go.ChangeShapes Go.WideShapes Go.RowKit Go.Proofs.YtoehlmiadiiimaaGreatDoor.Ex

theorem wrap64_small {x : Int} (h0 : 0 ≤ x) (h1 : x < 9223372036854775808) : wrap64 x = x := by
  have e := IntKind.wrap_u64
  unfold wrap64
  omega
def GoodPost (w : World) (e : Ending) (w' : World) : Prop := e = .returned (.bool true) ∧ Below w.heap.size w w'
end Go.Proofs.YtoehlmiadiiimaaGreatDoor

/-
  machine.Same, at machines that are the same.
-/
namespace Go.Proofs.YtoehlmiadiiimaaGreatDoor
open Go.ChangeShapes Go.WideShapes Go.RowKit Go.Proofs.YtoehlmiadiiimaaGreatDoor.Ex

end Go.Proofs.YtoehlmiadiiimaaGreatDoor

/-
  The law MachineStill.
-/
namespace Go.Proofs.YtoehlmiadiiimaaGreatDoor
open Go.ChangeShapes Go.WideShapes Go.RowKit Go.Proofs.YtoehlmiadiiimaaGreatDoor.Ex

theorem mach_open {w : World} {v : Value} {r : Rn} (h : MachR w v r) : ∃ cs A q B p, v = .agg cs ∧ Hid (cs.size = 37) ∧ cs.all (·.oneCell') = true ∧ cs[1]? = some (.int .u64 (r.regs.getD 0 0)) ∧ cs[33]? = some (.int .u64 r.base) ∧
    cs[34]? = some (.slice A r.mem.length q) ∧ cs[35]? = some (.slice B r.told.length p) ∧ Hid (RdS w (.slice B r.told.length p) (r.told.map (.int .u64))) := by
  obtain ⟨mv, tv, rfl, hm, ht⟩ := h.form
  obtain ⟨A, q, rfl, -, -⟩ := hm.form
  obtain ⟨B, p, rfl, -, -⟩ := ht.form
  have h1 := mcR (r := r) (mv := .slice A (r.mem.map (Value.int .u8)).length q) (tv := .slice B (r.told.map (Value.int .u64)).length p) h.len 0 (by omega)
  have h2 := mc33 (r := r) (mv := .slice A (r.mem.map (Value.int .u8)).length q) (tv := .slice B (r.told.map (Value.int .u64)).length p) h.len
  have h3 : (mcells r (.slice A (r.mem.map (Value.int .u8)).length q) (.slice B (r.told.map (Value.int .u64)).length p)).toArray[34]? = some (.slice A r.mem.length q) := by rw [mc34 h.len, List.length_map]
  have h4 : (mcells r (.slice A (r.mem.map (Value.int .u8)).length q) (.slice B (r.told.map (Value.int .u64)).length p)).toArray[35]? = some (.slice B r.told.length p) := by rw [mc35 h.len, List.length_map]
  rw [Nat.add_zero] at h1
  rw [List.length_map] at ht
  exact ⟨_, A, q, B, p, rfl, Lib.hid (mc_size h.len), mc_one rfl rfl, h1, h2, h3, h4, Lib.hid ht⟩
end Go.Proofs.YtoehlmiadiiimaaGreatDoor


