/-
  An executor over the model's code: operations, one by one (5): numbers, texts, conversions, maps.
-/
import Derived.Test.YtklenhohljeacaaDoorExOps4
namespace Go.Proofs.YtklenhohljeacaaDoor.Ex
open Go

section
variable {P : Program} {w : World} {ρ : Rho} {H : AHeap}

theorem guard_int {op : BinOp} {t : TypeId} {a a' : Operand} {k : IntKind} {n : Int} {v : Value} : (eqGuard op t a a' (.int k n) v).run P w = .ok () w := by cases op <;> rfl
theorem guard_str {op : BinOp} {t : TypeId} {a a' : Operand} {s : ByteArray} {v : Value} : (eqGuard op t a a' (.string s) v).run P w = .ok () w := by cases op <;> rfl

theorem op_abin {op : BinOp} {t : TypeId} {x y z : AV} {u v : Value} (hx : VR ρ x u) (hy : VR ρ y v) (h : abin op x y = some z) :
    ∃ r, (binOp op t u v).run P w = .ok r w ∧ VR ρ z r := by
  unfold abin at h
  split at h
  · rename_i k a k' b
    cases hx; cases hy
    split at h
    · split at h
      · cases h
      · rename_i hb
        injection h with h; subst h
        exact ⟨_, by simp [binOp, Op.shift, hb], .int _ _⟩
    · split at h
      · cases h
      · rename_i hb
        injection h with h; subst h
        exact ⟨_, by simp [binOp, Op.shift, hb], .int _ _⟩
    · split at h
      · cases h
      · rename_i hk
        have hk : k = k' := Decidable.of_not_not hk
        subst hk
        split at h
        · injection h with h; subst h; exact ⟨_, by simp [binOp, Op.intArith], .int _ _⟩
        · injection h with h; subst h; exact ⟨_, by simp [binOp, Op.intArith], .int _ _⟩
        · injection h with h; subst h; exact ⟨_, by simp [binOp, Op.intArith], .int _ _⟩
        · split at h
          · cases h
          · rename_i hb
            injection h with h; subst h; exact ⟨_, by simp [binOp, Op.intDiv, hb], .int _ _⟩
        · split at h
          · cases h
          · rename_i hb
            injection h with h; subst h; exact ⟨_, by simp [binOp, Op.intDiv, hb], .int _ _⟩
        · injection h with h; subst h; exact ⟨_, by simp [binOp, Op.intBits], .int _ _⟩
        · injection h with h; subst h; exact ⟨_, by simp [binOp, Op.intBits], .int _ _⟩
        · injection h with h; subst h; exact ⟨_, by simp [binOp, Op.intBits], .int _ _⟩
        · injection h with h; subst h; exact ⟨_, by simp [binOp, Op.intBits], .int _ _⟩
        · injection h with h; subst h; exact ⟨_, by simp [binOp, Op.intCmp], .bool _⟩
        · injection h with h; subst h; exact ⟨_, by simp [binOp, Op.intCmp], .bool _⟩
        · injection h with h; subst h; exact ⟨_, by simp [binOp, Op.intCmp], .bool _⟩
        · injection h with h; subst h; exact ⟨_, by simp [binOp, Op.intCmp], .bool _⟩
        · injection h with h; subst h; exact ⟨_, by simp [binOp, Op.intCmp], .bool _⟩
        · injection h with h; subst h; exact ⟨_, by simp [binOp, Op.intCmp], .bool _⟩
        · cases h
  · rename_i a b
    cases hx with | str s _ hs =>
    cases hy with | str t' _ ht =>
    subst hs; subst ht
    rw [bytes_eq, bytes_lss, ← ByteArray.toList_eq, ← ByteArray.toList_eq] at h
    split at h
    · injection h with h; subst h; exact ⟨_, by simp [binOp, Op.stringOp], .bool _⟩
    · injection h with h; subst h; exact ⟨_, by simp [binOp, Op.stringOp], .bool _⟩
    · split at h
      · rename_i hl
        injection h with h; subst h
        refine ⟨.string (s ++ t'), ?_, .str _ _ (by simp [ByteArray.toList_eq])⟩
        have : ¬ (IntKind.i64.max < ((s.size + t'.size : Nat) : Int)) := by
          simp [ByteArray.toList_eq] at hl
          have : IntKind.i64.max = 9223372036854775807 := by decide
          rw [this]; omega
        simp only [binOp, Op.stringOp, gt_iff_lt, this, if_false, Sem.run_pure]
      · cases h
    · injection h with h; subst h; exact ⟨_, by simp [binOp, Op.stringOp], .bool _⟩
    · injection h with h; subst h; exact ⟨_, by simp [binOp, Op.stringOp], .bool _⟩
    · injection h with h; subst h; exact ⟨_, by simp [binOp, Op.stringOp], .bool _⟩
    · injection h with h; subst h; exact ⟨_, by simp [binOp, Op.stringOp], .bool _⟩
    · cases h
  · cases h

theorem op_bin {op : BinOp} {t : TypeId} {a a' : Operand} {x y z : AV} {u v : Value} (hx : VR ρ x u) (hy : VR ρ y v) (h : abinT P op t x y = some z) :
    ∃ r, (do eqGuard op t a a' u v; binOp op t u v : Sem Value).run P w = .ok r w ∧ VR ρ z r := by
  unfold abinT at h
  split at h
  · obtain ⟨r, h1, h2⟩ := op_abin (P := P) (w := w) (t := t) hx hy h
    refine ⟨r, ?_, h2⟩
    cases hx
    simp only [Sem.run_bind, guard_int, Result.andThen_ok, h1]
  · obtain ⟨r, h1, h2⟩ := op_abin (P := P) (w := w) (t := t) hx hy h
    refine ⟨r, ?_, h2⟩
    cases hx
    simp only [Sem.run_bind, guard_str, Result.andThen_ok, h1]
  · rename_i n1 n2
    split at h
    · obtain ⟨b, hb, rfl⟩ := Option.map_eq_some_iff.1 h
      refine ⟨.bool b, ?_, .bool _⟩
      simp only [Sem.run_bind, guard_rel hx hy hb, Result.andThen_ok]
      have := op_aeqT (P := P) (w := w) hx hy hb
      have e : binOp .eql t u v = (do pure (.bool (← Op.equal t u v))) := by
        cases hx <;> cases hy <;> first | rfl | (exact absurd rfl (n1 _ _ _ _ rfl)) | (exact absurd rfl (n2 _ _ rfl)) | simp_all
      rw [e]
      simp [this]
    · obtain ⟨b, hb, rfl⟩ := Option.map_eq_some_iff.1 h
      refine ⟨.bool !b, ?_, .bool _⟩
      simp only [Sem.run_bind, guard_rel hx hy hb, Result.andThen_ok]
      have := op_aeqT (P := P) (w := w) hx hy hb
      have e : binOp .neq t u v = (do pure (.bool (!(← Op.equal t u v)))) := by
        cases hx <;> cases hy <;> first | rfl | (exact absurd rfl (n1 _ _ _ _ rfl)) | (exact absurd rfl (n2 _ _ rfl)) | simp_all
      rw [e]
      simp [this]
    · cases h

theorem op_un {op : UnOp} {x z : AV} {u : Value} (hx : VR ρ x u) (h : aun op x = some z) : ∃ r, (Op.unary op u).run P w = .ok r w ∧ VR ρ z r := by
  unfold aun at h
  split at h
  · injection h with h; subst h; cases hx; exact ⟨_, by simp [Op.unary, Op.intArith], .int _ _⟩
  · injection h with h; subst h; cases hx; exact ⟨_, by simp [Op.unary, Op.intBits], .int _ _⟩
  · injection h with h; subst h; cases hx; exact ⟨_, by simp [Op.unary], .bool _⟩
  · cases h
end
end Go.Proofs.YtklenhohljeacaaDoor.Ex
