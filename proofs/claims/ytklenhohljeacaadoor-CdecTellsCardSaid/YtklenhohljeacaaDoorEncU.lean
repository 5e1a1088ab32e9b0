/-
  Half words: by which row of the chapter a half word is read: plain, and the kernel's checks.
-/
import Derived.Test.YtklenhohljeacaaDoorEncR
namespace Go.Proofs.YtklenhohljeacaaDoor.Ex
open Go

def matchM (n : Nat) (r : RowL) : Bool := Nat.beq (Nat.land n (fixm r)) r.base
def masksL : List (Nat × Nat) := rowsL.map fun r => (fixm r, r.base)
noncomputable def idxM (n : Nat) (l : List (Nat × Nat)) : Nat → Nat :=
  List.rec (motive := fun _ => Nat → Nat) (fun k => k) (fun x _ ih k => Bool.rec (motive := fun _ => Nat) (ih (Nat.succ k)) k (Nat.beq (Nat.land n x.1) x.2)) l
theorem idxM_eq (n : Nat) : ∀ (l : List RowL) (k : Nat), idxM n (l.map fun r => (fixm r, r.base)) k = k + l.findIdx (matchM n)
  | [], k => rfl
  | r :: l, k => by
    show Bool.rec (motive := fun _ => Nat) (idxM n (l.map fun r => (fixm r, r.base)) (k + 1)) k (matchM n r) = _
    rw [List.findIdx_cons]
    cases matchM n r with
    | true => rfl
    | false => 
      rw [show (Bool.rec (motive := fun _ => Nat) (idxM n (l.map fun r => (fixm r, r.base)) (k + 1)) k false) = idxM n (l.map fun r => (fixm r, r.base)) (k + 1) from rfl, idxM_eq n l (k + 1)]
      simp only [cond_false]
      omega
noncomputable def idxK (k : Nat) (ms : List (Nat × Nat)) (r : RowL) (d s t m : Int) (x : Int) : Bool := Int.rec (motive := fun _ => Bool) (fun n => andB (Nat.beq (idxM n ms (nat_lit 0)) k) (eqK (decRow r n) r.op d s t m)) (fun _ => false) x
noncomputable def idxP (ms : List (Nat × Nat)) (k : Nat) (r : RowL) (d s t m : Int) : Bool :=
  Bool.rec (motive := fun _ => Bool) true (Bool.rec (motive := fun _ => Bool) true (idxK k ms r d s t m (ior .u16 (ior .u16 (r.base : Nat) (regsW r.form d s t)) (wVK r m))) (numOk r.kind r.unit r.places.length m)) (regsOk r.form d s t)
/-- the checks of some rows -/
noncomputable def idxRow (ms : List (Nat × Nat)) (k : Nat) : Bool := match rowsL[k]? with
  | some r => allRow (idxP ms k r) r
  | none => true
theorem idx_spec {k : Nat} {r : RowL} (hk : rowsL[k]? = some r) (h : idxRow masksL k = true) {d s t m : Int} (hm : mayI r.op d s t m = true) (h1 : regsOk r.form d s t = true) (h2 : numOk r.kind r.unit r.places.length m = true)
    {n : Nat} (hn : aV r d s t m = (n : Int)) : rowsL.findIdx (matchM n) = k ∧ decRow r n = ⟨r.op, d, s, t, m⟩ := by
  unfold idxRow at h
  rw [hk] at h
  have h := allRow_spec (List.mem_of_getElem? hk) h hm h1 h2
  unfold idxP at h
  rw [h1, h2] at h
  replace h : idxK k masksL r d s t m (ior .u16 (ior .u16 (r.base : Nat) (regsW r.form d s t)) (wVK r m)) = true := h
  have e : aV r d s t m = ior .u16 (ior .u16 (r.base : Nat) (regsW r.form d s t)) (wVK r m) := by unfold aV; rw [or_K, or_K, wVK_eq]
  rw [← e, hn] at h
  replace h : andB (Nat.beq (idxM n masksL 0) k) (eqK (decRow r n) r.op d s t m) = true := h
  rw [andB_eq, Bool.and_eq_true] at h
  have h3 := Nat.eq_of_beq_eq_true h.1
  unfold masksL at h3
  rw [idxM_eq, Nat.zero_add] at h3
  exact ⟨h3, eqK_eq h.2⟩

/- what may be read by a row may be -/
noncomputable def regRow (r : RowL) : Bool := (List.range 32).all fun u => (List.range 32).all fun l =>
  regI (shapeL (formI r.op)).d (decRegs r.form u l).1 && (regI (shapeL (formI r.op)).s (decRegs r.form u l).2.1 && regI (shapeL (formI r.op)).t (decRegs r.form u l).2.2)
noncomputable def quoRow (r : RowL) : Bool := (List.range (2 ^ r.places.length)).all fun v => !(numOk r.kind r.unit r.places.length (r.unit * decQ r.kind r.places.length v)) || numI (formI r.op) (r.unit * decQ r.kind r.places.length v)
theorem regs_may : (rowsL.all regRow) = true := by kernel_rfl
theorem quos_may : (rowsL.all quoRow) = true := by kernel_rfl
theorem known_rows : (rowsL.all fun r => knownI r.op) = true := by kernel_rfl
theorem bitsAt_lt (n : Nat) : ∀ ps : List Nat, bitsAt n ps < 2 ^ ps.length
  | [] => by simp [bitsAt]
  | p :: ps => by
    have := bitsAt_lt n ps
    simp only [bitsAt, List.length_cons, Nat.pow_succ]
    omega
theorem dec_may {r : RowL} (hr : r ∈ rowsL) (n : Nat) (h : numOk r.kind r.unit r.places.length (decRow r n).m = true) : mayI r.op (decRow r n).d (decRow r n).s (decRow r n).t (decRow r n).m = true := by
  have h1 := List.all_eq_true.1 (List.all_eq_true.1 (List.all_eq_true.1 regs_may r hr) (n / 128 % 32) (List.mem_range.2 (by omega))) (n / 4 % 32) (List.mem_range.2 (by omega))
  have h2 := List.all_eq_true.1 (List.all_eq_true.1 quos_may r hr) (bitsAt n r.places) (List.mem_range.2 (bitsAt_lt n r.places))
  simp only [Bool.and_eq_true] at h1
  obtain ⟨a1, a2, a3⟩ := h1
  unfold mayI
  rw [List.all_eq_true.1 known_rows r hr, mayF_eq, Bool.true_and]
  replace h : numOk r.kind r.unit r.places.length (r.unit * decQ r.kind r.places.length (bitsAt n r.places)) = true := h
  rw [h] at h2
  simp only [Bool.not_true, Bool.false_or] at h2
  show (regI _ (decRegs r.form (n / 128 % 32) (n / 4 % 32)).1 && (regI _ (decRegs r.form (n / 128 % 32) (n / 4 % 32)).2.1 && (regI _ (decRegs r.form (n / 128 % 32) (n / 4 % 32)).2.2 && numI _ (r.unit * decQ r.kind r.places.length (bitsAt n r.places))))) = true
  rw [a1, a2, a3, h2]; rfl
end Go.Proofs.YtklenhohljeacaaDoor.Ex
