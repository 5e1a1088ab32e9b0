/-
  Short forms of instructions: read back, plain.
-/
import Derived.Test.YtoehlmiadiiimaaGreatDoorEncP
namespace Go.Proofs.YtoehlmiadiiimaaGreatDoor.Ex
open Go

/-- registers of a form, told by two numbers, and how many these are -/
def regF (f a b : Nat) : Int × Int × Int := match f with
  | 97 => (8 + (a : Int), 2, 0)
  | 108 => (8 + (a : Int), 8 + (b : Int), 0)
  | 115 => (0, 8 + (b : Int), 8 + (a : Int))
  | 114 => (1 + (a : Int), 1 + (a : Int), 0)
  | 122 => (1 + (a : Int), 0, 0)
  | 117 => (1 + (a : Int), 0, 0)
  | 112 => (2, 2, 0)
  | 113 => (8 + (a : Int), 8 + (a : Int), 0)
  | 109 => (8 + (a : Int), 8 + (a : Int), 8 + (b : Int))
  | 98 => (0, 8 + (a : Int), 0)
  | 119 => (1 + (a : Int), 2, 0)
  | 74 => (0, 1 + (a : Int), 0)
  | 75 => (1, 1 + (a : Int), 0)
  | 118 => (1 + (a : Int), 0, 1 + (b : Int))
  | 100 => (1 + (a : Int), 1 + (a : Int), 1 + (b : Int))
  | 116 => (0, 2, (a : Int))
  | _ => (0, 0, 0)
def regN (f : Nat) : Nat × Nat := match f with
  | 97 => (8, 1)
  | 108 => (8, 8)
  | 115 => (8, 8)
  | 114 => (31, 1)
  | 122 => (31, 1)
  | 117 => (31, 1)
  | 113 => (8, 1)
  | 109 => (8, 8)
  | 98 => (8, 1)
  | 119 => (31, 1)
  | 74 => (31, 1)
  | 75 => (31, 1)
  | 118 => (31, 31)
  | 100 => (31, 31)
  | 116 => (32, 1)
  | _ => (1, 1)
def r31 (n : Int) : Prop := 0 ≤ n ∧ n ≤ 31
theorem cover_regs (f : Nat) (hf : f ∈ RegsC.regForms) (d s t : Int) (h : regsP f d s t) (hz : zeroP f d s t) (hd : r31 d) (hs : r31 s) (ht : r31 t) : ∃ a, a < (regN f).1 ∧ ∃ b, b < (regN f).2 ∧ (d, s, t) = regF f a b := by
  obtain ⟨d1, d2⟩ := hd
  obtain ⟨s1, s2⟩ := hs
  obtain ⟨t1, t2⟩ := ht
  simp only [RegsC.regForms, List.mem_cons, List.not_mem_nil, or_false] at hf
  rcases hf with rfl | rfl | rfl | rfl | rfl | rfl | rfl | rfl | rfl | rfl | rfl | rfl | rfl | rfl | rfl | rfl | rfl | rfl <;> simp only [regsP, zeroP] at h hz <;> simp only [regN, regF, Prod.mk.injEq]
  · exact ⟨(d - 8).toNat, by omega, 0, by omega, by omega⟩
  · exact ⟨(d - 8).toNat, by omega, (s - 8).toNat, by omega, by omega⟩
  · exact ⟨(t - 8).toNat, by omega, (s - 8).toNat, by omega, by omega⟩
  · exact ⟨0, by omega, 0, by omega, by omega⟩
  · exact ⟨0, by omega, 0, by omega, by omega⟩
  · exact ⟨(d - 1).toNat, by omega, 0, by omega, by omega⟩
  · exact ⟨(d - 1).toNat, by omega, 0, by omega, by omega⟩
  · exact ⟨(d - 1).toNat, by omega, 0, by omega, by omega⟩
  · exact ⟨0, by omega, 0, by omega, by omega⟩
  · exact ⟨(d - 8).toNat, by omega, 0, by omega, by omega⟩
  · exact ⟨(d - 8).toNat, by omega, (t - 8).toNat, by omega, by omega⟩
  · exact ⟨(s - 8).toNat, by omega, 0, by omega, by omega⟩
  · exact ⟨(d - 1).toNat, by omega, 0, by omega, by omega⟩
  · exact ⟨(s - 1).toNat, by omega, 0, by omega, by omega⟩
  · exact ⟨(s - 1).toNat, by omega, 0, by omega, by omega⟩
  · exact ⟨(d - 1).toNat, by omega, (t - 1).toNat, by omega, by omega⟩
  · exact ⟨(d - 1).toNat, by omega, (t - 1).toNat, by omega, by omega⟩
  · exact ⟨t.toNat, by omega, 0, by omega, by omega⟩
def qF (k m j : Nat) : Int := match k with
  | 110 => (j : Int) - 2 ^ (m - 1)
  | 115 => (j : Int) - 2 ^ (m - 1)
  | 108 => if j < 32 then (j : Int) else (j : Int) + 1048512
  | _ => (j : Int)
theorem cover_q {k u m : Nat} (hx : (k, u, m) ∈ nums) {q : Int} (h : qP k m q) : ∃ j, j < 2 ^ m ∧ q = qF k m j := by
  simp only [nums, List.mem_cons, List.not_mem_nil, or_false, Prod.mk.injEq] at hx
  rcases hx with ⟨rfl, rfl, rfl⟩ | ⟨rfl, rfl, rfl⟩ | ⟨rfl, rfl, rfl⟩ | ⟨rfl, rfl, rfl⟩ | ⟨rfl, rfl, rfl⟩ | ⟨rfl, rfl, rfl⟩ | ⟨rfl, rfl, rfl⟩ | ⟨rfl, rfl, rfl⟩ | ⟨rfl, rfl, rfl⟩ | ⟨rfl, rfl, rfl⟩ | ⟨rfl, rfl, rfl⟩ | ⟨rfl, rfl, rfl⟩ | ⟨rfl, rfl, rfl⟩ <;> simp only [qP] at h <;> simp only [qF]
  · exact ⟨q.toNat, by omega, by omega⟩
  · exact ⟨q.toNat, by omega, by omega⟩
  · exact ⟨q.toNat, by omega, by omega⟩
  · exact ⟨q.toNat, by omega, by omega⟩
  · exact ⟨(q + 32).toNat, by omega, by omega⟩
  · exact ⟨(q + 32).toNat, by omega, by omega⟩
  · exact ⟨(q + 32).toNat, by omega, by omega⟩
  · rcases h with h | h
    · exact ⟨q.toNat, by omega, by rw [if_pos (by omega)]; omega⟩
    · exact ⟨(q - 1048512).toNat, by omega, by rw [if_neg (by omega)]; omega⟩
  · exact ⟨q.toNat, by omega, by omega⟩
  · exact ⟨(q + 1024).toNat, by omega, by omega⟩
  · exact ⟨(q + 128).toNat, by omega, by omega⟩
  · exact ⟨q.toNat, by omega, by omega⟩
  · exact ⟨q.toNat, by omega, by omega⟩

/-- what holds of all instructions of a row -/
def allRow (p : Int → Int → Int → Int → Bool) (r : RowL) : Bool :=
  (List.range (2 ^ r.places.length)).all fun j => (List.range (regN r.form).1).all fun a => (List.range (regN r.form).2).all fun b =>
    p (regF r.form a b).1 (regF r.form a b).2.1 (regF r.form a b).2.2 (r.unit * qF r.kind r.places.length j)
/-- registers that an instruction does not have -/
def noRegs (f : Nat) : Bool × Bool × Bool := match f with
  | 115 => (true, false, false)
  | 98 => (true, false, false)
  | 116 => (true, false, false)
  | 117 => (false, true, true)
  | 109 => (false, false, false)
  | 118 => (false, false, false)
  | 100 => (false, false, false)
  | _ => (false, false, true)
theorem may_facts {r : RowL} (hr : r ∈ rowsL) {d s t m : Int} (h : mayI r.op d s t m = true) : zeroP r.form d s t ∧ r31 d ∧ r31 s ∧ r31 t ∧ (-1048576 ≤ m ∧ m ≤ 1048575) := by
  have tab : (rowsL.all fun r => knownI r.op && RegsC.regForms.contains r.form && ((!(noRegs r.form).1 || !(shapeL (formI r.op)).d) && ((!(noRegs r.form).2.1 || !(shapeL (formI r.op)).s) && (!(noRegs r.form).2.2 || !(shapeL (formI r.op)).t))) &&
      (decide (-1048576 ≤ (shapeL (formI r.op)).lo) && decide ((shapeL (formI r.op)).hi ≤ 1048575))) = true := by kernel_rfl
  have tb := List.all_eq_true.1 tab r hr
  simp only [Bool.and_eq_true, Bool.or_eq_true, Bool.not_eq_true', decide_eq_true_eq, List.contains_iff_mem] at tb
  obtain ⟨⟨⟨-, hf⟩, z1, z2, z3⟩, b1, b2⟩ := tb
  unfold mayI at h
  simp only [Bool.and_eq_true] at h
  obtain ⟨-, h⟩ := h
  rw [mayF_eq] at h
  simp only [Bool.and_eq_true] at h
  obtain ⟨h1, h2, h3, h4⟩ := h
  have rr : ∀ (hs : Bool) (n : Int), regI hs n = true → r31 n ∧ (hs = false → n = 0) := by
    intro hs n h
    cases hs
    · have : n = 0 := by simpa [regI] using h
      subst this
      exact ⟨⟨by omega, by omega⟩, fun _ => rfl⟩
    · simp only [regI, inI, Bool.and_eq_true, decide_eq_true_eq] at h
      exact ⟨h, fun k => by cases k⟩
  obtain ⟨rd, zd⟩ := rr _ _ h1
  obtain ⟨rs, zs⟩ := rr _ _ h2
  obtain ⟨rt, zt⟩ := rr _ _ h3
  unfold numI inI at h4
  simp only [Bool.and_eq_true, decide_eq_true_eq] at h4
  refine ⟨?_, rd, rs, rt, by omega⟩
  simp only [RegsC.regForms, List.mem_cons, List.not_mem_nil, or_false] at hf
  rcases hf with e | e | e | e | e | e | e | e | e | e | e | e | e | e | e | e | e | e <;> rw [e] at z1 z2 z3 ⊢ <;> simp only [noRegs, zeroP, Bool.true_eq_false, false_or] at z1 z2 z3 ⊢
  all_goals first
    | exact zt z3
    | exact zd z1
    | exact ⟨zs z2, zt z3⟩
    | trivial
theorem allRow_spec {p : Int → Int → Int → Int → Bool} {r : RowL} (hr : r ∈ rowsL) (h : allRow p r = true) {d s t m : Int} (hm : mayI r.op d s t m = true) (h1 : regsOk r.form d s t = true) (h2 : numOk r.kind r.unit r.places.length m = true) : p d s t m = true := by
  obtain ⟨hz, hd, hs, ht, hb⟩ := may_facts hr hm
  have hf : r.form ∈ RegsC.regForms := by
    have tab : (rowsL.all fun r => RegsC.regForms.contains r.form) = true := by decide
    simpa using List.all_eq_true.1 tab r hr
  obtain ⟨a, ha, b, hb', e⟩ := cover_regs r.form hf d s t ((regsOk_P _ hf _ _ _).1 h1) hz hd hs ht
  obtain ⟨q, rfl, hq⟩ := (numOk_P _ _ _ (row_nums hr) m hb).1.1 h2
  obtain ⟨j, hj, rfl⟩ := cover_q (row_nums hr) hq
  have := List.all_eq_true.1 (List.all_eq_true.1 (List.all_eq_true.1 h j (List.mem_range.2 hj)) a (List.mem_range.2 ha)) b (List.mem_range.2 hb')
  rw [← e] at this
  exact this

/- reading back -/
theorem or_K (k : IntKind) (a b : Int) : ibin .or k a b = ior k a b := by
  unfold ibin
  rw [← ibinK_eq]
  show (match ck (kbeq k k) (some (.int k (ior k a b))) with | some (.int _ n) => n | _ => 0) = _
  rw [ck_eq, if_neg (by simp)]
noncomputable def andB (a b : Bool) : Bool := Bool.rec (motive := fun _ => Bool) false b a
theorem andB_eq (a b : Bool) : andB a b = (a && b) := by cases a <;> rfl
def grp (k : Nat) : List RowL := (rowsL.drop (4 * k)).take 4
theorem grp_all : rowsL = (List.range 9).flatMap grp := rfl
theorem grp_mem {q : RowL → Prop} (h : ∀ k, k < 9 → ∀ r ∈ grp k, q r) : ∀ r ∈ rowsL, q r := by
  intro r hr
  rw [grp_all] at hr
  obtain ⟨k, hk, hr⟩ := List.mem_flatMap.1 hr
  exact h k (List.mem_range.1 hk) r hr
end Go.Proofs.YtoehlmiadiiimaaGreatDoor.Ex
