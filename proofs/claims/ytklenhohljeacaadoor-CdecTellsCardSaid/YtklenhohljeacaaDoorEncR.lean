/-
  Half words: what the program reads of a short form is the instruction: the check of a row, for the kernel.
-/
import Derived.Test.YtklenhohljeacaaDoorEncW2
import Derived.Test.YtklenhohljeacaaDoorEncV
namespace Go.Proofs.YtklenhohljeacaaDoor.Ex
open Go

noncomputable def rawIs (x : Int) (op d s t m : Int) : Bool :=
  Int.rec (motive := fun _ => Bool) (fun n => andB (Nat.ble (Nat.succ n) (nat_lit 65536)) (andB (Nat.ble (Nat.succ (clsN n)) (nat_lit 39)) ((rawTr (clsN n)).isK (.ofNat n) op d s t m))) (fun _ => false) x
noncomputable def rawP (r : RowL) (d s t m : Int) : Bool :=
  Bool.rec (motive := fun _ => Bool) true (Bool.rec (motive := fun _ => Bool) true (rawIs (ior .u16 (ior .u16 (r.base : Nat) (regsW r.form d s t)) (wVK r m)) r.op d s t m) (numOk r.kind r.unit r.places.length m)) (regsOk r.form d s t)
/-- What the program reads of a short form is the instruction. -/
theorem raw_spec {r : RowL} (hr : r ∈ rowsL) (h : allRow (rawP r) r = true) {d s t m : Int} (hm : mayI r.op d s t m = true) (h1 : regsOk r.form d s t = true) (h2 : numOk r.kind r.unit r.places.length m = true) :
    ∃ n : Nat, aV r d s t m = (n : Int) ∧ n < 65536 ∧ rawR n = ⟨r.op, d, s, t, m⟩ := by
  have h := allRow_spec hr h hm h1 h2
  unfold rawP at h
  rw [h1, h2] at h
  replace h : rawIs (ior .u16 (ior .u16 (r.base : Nat) (regsW r.form d s t)) (wVK r m)) r.op d s t m = true := h
  have e : aV r d s t m = ior .u16 (ior .u16 (r.base : Nat) (regsW r.form d s t)) (wVK r m) := by unfold aV; rw [or_K, or_K, wVK_eq]
  rw [← e] at h
  cases hx : aV r d s t m with
  | negSucc n => rw [hx] at h; cases h
  | ofNat n =>
    rw [hx] at h
    replace h : andB (Nat.ble (Nat.succ n) 65536) (andB (Nat.ble (Nat.succ (clsN n)) 39) ((rawTr (clsN n)).isK (.ofNat n) r.op d s t m)) = true := h
    rw [andB_eq, andB_eq, Bool.and_eq_true, Bool.and_eq_true] at h
    obtain ⟨q1, q2, q3⟩ := h
    exact ⟨n, rfl, Nat.le_of_ble_eq_true q1, isK_spec _ _ (rawTr_pure _ (Nat.le_of_ble_eq_true q2)) q3⟩
end Go.Proofs.YtklenhohljeacaaDoor.Ex
