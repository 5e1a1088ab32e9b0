/-
  An executor over the model's code: operations, one by one (5): numbers, texts, conversions, maps.
-/
import Derived.Test.YtklenhohljeacaaDoorExOps4
namespace Go.Proofs.YtklenhohljeacaaDoor.Ex
open Go
variable [Dec] [Env]

section
variable {P : Program} {w : World} {ρ : Rho} {H : AHeap}

omit [Dec] [Env] in
theorem guard_int {op : BinOp} {t : TypeId} {a a' : Operand} {k : IntKind} {n : Int} {v : Value} : (eqGuard op t a a' (.int k n) v).run P w = .ok () w := by cases op <;> rfl
omit [Dec] [Env] in
theorem guard_str {op : BinOp} {t : TypeId} {a a' : Operand} {s : ByteArray} {v : Value} : (eqGuard op t a a' (.string s) v).run P w = .ok () w := by cases op <;> rfl

theorem op_abin {op : BinOp} {t : TypeId} {x y z : AV} {u v : Value} (hx : VR ρ x u) (hy : VR ρ y v) (h : abin op x y = some z) :
    ∃ r, (binOp op t u v).run P w = .ok r w ∧ VR ρ z r := by
  unfold abin at h
  split at h
  · rename_i k a k' b
    cases hx; cases hy
    split at h
    · split at h
      · cases h
      · rename_i hb
        injection h with h; subst h
        exact ⟨_, by simp [binOp, Op.shift, hb], .int _ _⟩
    · split at h
      · cases h
      · rename_i hb
        injection h with h; subst h
        exact ⟨_, by simp [binOp, Op.shift, hb], .int _ _⟩
    · split at h
      · cases h
      · rename_i hk
        have hk : k = k' := Decidable.of_not_not hk
        subst hk
        split at h
        · injection h with h; subst h; exact ⟨_, by simp [binOp, Op.intArith], .int _ _⟩
        · injection h with h; subst h; exact ⟨_, by simp [binOp, Op.intArith], .int _ _⟩
        · injection h with h; subst h; exact ⟨_, by simp [binOp, Op.intArith], .int _ _⟩
        · split at h
          · cases h
          · rename_i hb
            injection h with h; subst h; exact ⟨_, by simp [binOp, Op.intDiv, hb], .int _ _⟩
        · split at h
          · cases h
          · rename_i hb
            injection h with h; subst h; exact ⟨_, by simp [binOp, Op.intDiv, hb], .int _ _⟩
        · injection h with h; subst h; exact ⟨_, by simp [binOp, Op.intBits], .int _ _⟩
        · injection h with h; subst h; exact ⟨_, by simp [binOp, Op.intBits], .int _ _⟩
        · injection h with h; subst h; exact ⟨_, by simp [binOp, Op.intBits], .int _ _⟩
        · injection h with h; subst h; exact ⟨_, by simp [binOp, Op.intBits], .int _ _⟩
        · injection h with h; subst h; exact ⟨_, by simp [binOp, Op.intCmp], .bool _⟩
        · injection h with h; subst h; exact ⟨_, by simp [binOp, Op.intCmp], .bool _⟩
        · injection h with h; subst h; exact ⟨_, by simp [binOp, Op.intCmp], .bool _⟩
        · injection h with h; subst h; exact ⟨_, by simp [binOp, Op.intCmp], .bool _⟩
        · injection h with h; subst h; exact ⟨_, by simp [binOp, Op.intCmp], .bool _⟩
        · injection h with h; subst h; exact ⟨_, by simp [binOp, Op.intCmp], .bool _⟩
        · cases h
  · rename_i a b
    cases hx with | str s _ hs =>
    cases hy with | str t' _ ht =>
    subst hs; subst ht
    rw [bytes_eq, bytes_lss, ← ByteArray.toList_eq, ← ByteArray.toList_eq] at h
    split at h
    · injection h with h; subst h; exact ⟨_, by simp [binOp, Op.stringOp], .bool _⟩
    · injection h with h; subst h; exact ⟨_, by simp [binOp, Op.stringOp], .bool _⟩
    · split at h
      · rename_i hl
        injection h with h; subst h
        refine ⟨.string (s ++ t'), ?_, .str _ _ (by simp [ByteArray.toList_eq])⟩
        have : ¬ (IntKind.i64.max < ((s.size + t'.size : Nat) : Int)) := by
          simp [ByteArray.toList_eq] at hl
          have : IntKind.i64.max = 9223372036854775807 := by decide
          rw [this]; omega
        simp only [binOp, Op.stringOp, gt_iff_lt, this, if_false, Sem.run_pure]
      · cases h
    · injection h with h; subst h; exact ⟨_, by simp [binOp, Op.stringOp], .bool _⟩
    · injection h with h; subst h; exact ⟨_, by simp [binOp, Op.stringOp], .bool _⟩
    · injection h with h; subst h; exact ⟨_, by simp [binOp, Op.stringOp], .bool _⟩
    · injection h with h; subst h; exact ⟨_, by simp [binOp, Op.stringOp], .bool _⟩
    · cases h
  · cases h

omit [Env] in
theorem aeqT_s1 {t : TypeId} {k : IntKind} {e : SE} {y : AV} : aeqT P t (.sint k e) y = none := by
  unfold aeqT; split <;> simp_all
omit [Env] in
theorem aeqT_s2 {t : TypeId} {k : IntKind} {e : SE} {x : AV} : aeqT P t x (.sint k e) = none := by
  unfold aeqT; split <;> simp_all

theorem op_bin {op : BinOp} {t : TypeId} {a a' : Operand} {x y z : AV} {u v : Value} (hx : VR ρ x u) (hy : VR ρ y v) (h : abinT P op t x y = some z) :
    ∃ r, (do eqGuard op t a a' u v; binOp op t u v : Sem Value).run P w = .ok r w ∧ VR ρ z r := by
  unfold abinT at h
  split at h
  · obtain ⟨r, h1, h2⟩ := op_abin (P := P) (w := w) (t := t) hx hy h
    refine ⟨r, ?_, h2⟩
    cases hx
    simp only [Sem.run_bind, guard_int, Result.andThen_ok, h1]
  · obtain ⟨r, h1, h2⟩ := op_abin (P := P) (w := w) (t := t) hx hy h
    refine ⟨r, ?_, h2⟩
    cases hx
    simp only [Sem.run_bind, guard_str, Result.andThen_ok, h1]
  · rename_i n1 n2
    split at h
    · obtain ⟨b, hb, rfl⟩ := Option.map_eq_some_iff.1 h
      refine ⟨.bool b, ?_, .bool _⟩
      simp only [Sem.run_bind, guard_rel hx hy hb, Result.andThen_ok]
      have := op_aeqT (P := P) (w := w) hx hy hb
      have e : binOp .eql t u v = (do pure (.bool (← Op.equal t u v))) := by
        cases hx <;> cases hy <;> first | rfl | (rw [aeqT_s1] at hb; cases hb; done) | (rw [aeqT_s2] at hb; cases hb; done) | (exact absurd rfl (n1 _ _ _ _ rfl)) | (exact absurd rfl (n2 _ _ rfl)) | simp_all
      rw [e]
      simp [this]
    · obtain ⟨b, hb, rfl⟩ := Option.map_eq_some_iff.1 h
      refine ⟨.bool !b, ?_, .bool _⟩
      simp only [Sem.run_bind, guard_rel hx hy hb, Result.andThen_ok]
      have := op_aeqT (P := P) (w := w) hx hy hb
      have e : binOp .neq t u v = (do pure (.bool (!(← Op.equal t u v)))) := by
        cases hx <;> cases hy <;> first | rfl | (rw [aeqT_s1] at hb; cases hb; done) | (rw [aeqT_s2] at hb; cases hb; done) | (exact absurd rfl (n1 _ _ _ _ rfl)) | (exact absurd rfl (n2 _ _ rfl)) | simp_all
      rw [e]
      simp [this]
    · cases h

theorem op_un {op : UnOp} {x z : AV} {u : Value} (hx : VR ρ x u) (h : aun op x = some z) : ∃ r, (Op.unary op u).run P w = .ok r w ∧ VR ρ z r := by
  unfold aun at h
  split at h
  · injection h with h; subst h; cases hx; exact ⟨_, by simp [Op.unary, Op.intArith], .int _ _⟩
  · injection h with h; subst h; cases hx; exact ⟨_, by simp [Op.unary, Op.intBits], .int _ _⟩
  · injection h with h; subst h; cases hx; exact ⟨_, by simp [Op.unary], .bool _⟩
  · cases h

theorem sbin_conc {op : BinOp} {k k' : IntKind} {a b : SE} {z : AV} (h : sbin op k a k' b = some z) :
    ∃ z', abin op (.int k (sev a)) (.int k' (sev b)) = some z' ∧ ∀ r, VR ρ z' r → VR ρ z r := by
  have key : ∀ (o : BinOp) (e e' : SE), (∃ n, abin o (.int k (sev e)) (.int k (sev e')) = some (.int k n)) → ∃ z', abin o (.int k (sev e)) (.int k (sev e')) = some z' ∧ ∀ r, VR ρ z' r → VR ρ (mkInt k (.bin o k e e')) r := by
    intro o e e' ⟨n, hn⟩
    refine ⟨_, hn, fun r hr => ?_⟩
    rw [hr.int_inv]
    have : n = sev (.bin o k e e') := by
      show n = ibin o k (sev e) (sev e')
      unfold ibin
      rw [hn]
    rw [this]
    exact mkInt_rel ρ k _
  unfold sbin at h
  split at h
  · split at h
    · rename_i n
      split at h
      · cases h
      · rename_i hn
        injection h with h; subst h
        have : abin .shl (.int k (sev a)) (.int k' (sev (.lit n))) = abin .shl (.int k (sev a)) (.int k (sev (.lit n))) := rfl
        rw [this]
        have e : sev (.lit n) = n := rfl
        exact key .shl a (.lit n) ⟨_, by simp [abin, e, hn]; rfl⟩
    · cases h
  · split at h
    · rename_i n
      split at h
      · cases h
      · rename_i hn
        injection h with h; subst h
        have : abin .shr (.int k (sev a)) (.int k' (sev (.lit n))) = abin .shr (.int k (sev a)) (.int k (sev (.lit n))) := rfl
        rw [this]
        have e : sev (.lit n) = n := rfl
        exact key .shr a (.lit n) ⟨_, by simp [abin, e, hn]; rfl⟩
    · cases h
  · split at h
    · cases h
    · rename_i hk
      have hk : k = k' := Decidable.of_not_not hk
      subst hk
      split at h
      · injection h with h; subst h; exact key .add a b ⟨_, by simp [abin]; rfl⟩
      · injection h with h; subst h; exact key .sub a b ⟨_, by simp [abin]; rfl⟩
      · injection h with h; subst h; exact key .mul a b ⟨_, by simp [abin]; rfl⟩
      · split at h
        · rename_i n
          split at h
          · cases h
          · rename_i hn
            injection h with h; subst h
            have e : sev (.lit n) = n := rfl
            exact key .quo a (.lit n) ⟨_, by simp [abin, e, hn]; rfl⟩
        · cases h
      · split at h
        · rename_i n
          split at h
          · cases h
          · rename_i hn
            injection h with h; subst h
            have e : sev (.lit n) = n := rfl
            exact key .rem a (.lit n) ⟨_, by simp [abin, e, hn]; rfl⟩
        · cases h
      · injection h with h; subst h; exact key .and a b ⟨_, by simp [abin]; rfl⟩
      · injection h with h; subst h; exact key .or a b ⟨_, by simp [abin]; rfl⟩
      · injection h with h; subst h; exact key .xor a b ⟨_, by simp [abin]; rfl⟩
      · injection h with h; subst h; exact key .andNot a b ⟨_, by simp [abin]; rfl⟩
      · obtain ⟨r, hr, rfl⟩ := Option.map_eq_some_iff.1 h
        refine ⟨.bool r, ?_, fun _ h => h⟩
        simp [abin, ← look_eq hr]
      · obtain ⟨r, hr, rfl⟩ := Option.map_eq_some_iff.1 h
        refine ⟨.bool !r, ?_, fun _ h => h⟩
        rw [← look_eq hr]
        simp [abin, bne]
      · obtain ⟨r, hr, rfl⟩ := Option.map_eq_some_iff.1 h
        refine ⟨.bool r, ?_, fun _ h => h⟩
        simp [abin, ← look_lt hr]
      · obtain ⟨r, hr, rfl⟩ := Option.map_eq_some_iff.1 h
        refine ⟨.bool !r, ?_, fun _ h => h⟩
        have e : decide (sev b ≤ sev a) = !decide (sev a < sev b) := by
          by_cases hh : sev a < sev b
          · rw [decide_eq_true hh, decide_eq_false (by omega)]; rfl
          · rw [decide_eq_false hh, decide_eq_true (by omega)]; rfl
        rw [← look_lt hr, ← e]
        simp [abin]
      · obtain ⟨r, hr, rfl⟩ := Option.map_eq_some_iff.1 h
        refine ⟨.bool r, ?_, fun _ h => h⟩
        simp [abin, ← look_lt hr]
      · obtain ⟨r, hr, rfl⟩ := Option.map_eq_some_iff.1 h
        refine ⟨.bool !r, ?_, fun _ h => h⟩
        have e : decide (sev a ≤ sev b) = !decide (sev b < sev a) := by
          by_cases hh : sev b < sev a
          · rw [decide_eq_true hh, decide_eq_false (by omega)]; rfl
          · rw [decide_eq_false hh, decide_eq_true (by omega)]; rfl
        rw [← look_lt hr, ← e]
        simp [abin]
      · cases h

theorem op_binS {op : BinOp} {t : TypeId} {a a' : Operand} {x y z : AV} {u v : Value} (hx : VR ρ x u) (hy : VR ρ y v) (h : abinS P op t x y = some z) :
    ∃ r, (do eqGuard op t a a' u v; binOp op t u v : Sem Value).run P w = .ok r w ∧ VR ρ z r := by
  unfold abinS at h
  split at h
  · exact op_bin hx hy h
  · obtain ⟨p, hp, h⟩ := Option.bind_eq_some_iff.1 h
    obtain ⟨q, hq, h⟩ := Option.bind_eq_some_iff.1 h
    obtain ⟨z', hz, hr⟩ := sbin_conc (ρ := ρ) h
    rw [ival_rel hp hx, ival_rel hq hy]
    obtain ⟨r, h1, h2⟩ := op_bin (P := P) (w := w) (t := t) (a := a) (a' := a') (ρ := ρ) (.int p.1 (sev p.2)) (.int q.1 (sev q.2)) (show abinT P op t (.int p.1 (sev p.2)) (.int q.1 (sev q.2)) = some z' from hz)
    exact ⟨r, h1, hr r h2⟩

theorem op_unS {op : UnOp} {x z : AV} {u : Value} (hx : VR ρ x u) (h : aunS op x = some z) : ∃ r, (Op.unary op u).run P w = .ok r w ∧ VR ρ z r := by
  have key : ∀ (o : UnOp) (k : IntKind) (e : SE), (∃ n, aun o (.int k (sev e)) = some (.int k n)) → ∃ r, (Op.unary o (.int k (sev e))).run P w = .ok r w ∧ VR ρ (mkInt k (.un o k e)) r := by
    intro o k e ⟨n, hn⟩
    obtain ⟨r, h1, h2⟩ := op_un (P := P) (w := w) (ρ := ρ) (.int k (sev e)) hn
    refine ⟨r, h1, ?_⟩
    rw [h2.int_inv]
    have : n = sev (.un o k e) := by
      show n = iun o k (sev e)
      unfold iun
      rw [hn]
    rw [this]
    exact mkInt_rel ρ k _
  unfold aunS at h
  split at h
  · injection h with h; subst h; cases hx; exact key .neg _ _ ⟨_, rfl⟩
  · injection h with h; subst h; cases hx; exact key .xor _ _ ⟨_, rfl⟩
  · exact op_un hx h
end
end Go.Proofs.YtklenhohljeacaaDoor.Ex
