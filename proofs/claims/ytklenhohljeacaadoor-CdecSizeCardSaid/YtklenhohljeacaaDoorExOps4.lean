/-
  An executor over the model's code: operations, one by one (4): fields, elements, numbers, texts, equality.
-/
import Derived.Test.YtklenhohljeacaaDoorExOps3
import Derived.Laws.Strings
import Derived.Laws.StructEq
namespace Go.Proofs.YtklenhohljeacaaDoor.Ex
open Go
variable [Dec] [Env]

section
variable {P : Program} {w : World} {ρ : Rho} {H : AHeap}

theorem op_fieldAddr {t f : Nat} {b o n : Nat} {v : Value} {fs : Array Field} {g : Field} (hv : VR ρ (.ptr b o) v) (hu : und P t = some (.struct fs)) (hf : fs[f]? = some g)
    (hs : sz P g.type = some n) (hn : n ≠ 0) : ∃ u, (Instr.fieldAt t v f).run P w = .ok u w ∧ VR ρ (.ptr b (o + g.offset)) u := by
  cases hv with
  | ptr _ _ r hr =>
  refine ⟨_, ?_, .ptr b (o + g.offset) r hr⟩
  simp [Instr.fieldAt, run_und hu, hf, Instr.sureAddr, fieldPlace, run_sz hs, hn, add_none, Nat.add_assoc]

theorem op_field {t f : Nat} {cs : List AV} {x : AV} {v : Value} {fs : Array Field} {g : Field} (hv : VR ρ (.agg cs) v) (hu : und P t = some (.struct fs)) (hf : fs[f]? = some g)
    (hx : apart P g.type cs g.offset = some x) : ∃ u, (Instr.field t v f).run P w = .ok u w ∧ VR ρ x u := by
  cases hv with
  | agg _ vs h =>
  obtain ⟨u, hu', hr⟩ := run_part (P := P) (w := w) h hx
  exact ⟨u, by simp [Instr.field, run_und hu, hf, asAgg, hu'], hr⟩

theorem op_indexAddr_array {t e len b o n : Nat} {i : Int} {k : IntKind} {v : Value} (hv : VR ρ (.ptr b o) v) (hu : und P t = some (.array len e)) (hs : sz P e = some n) (h0 : 0 ≤ i) (h1 : i < len) :
    ∃ u, (Instr.indexAt t v (.int k i)).run P w = .ok u w ∧ VR ρ (.ptr b (o + i.toNat * n)) u := by
  cases hv with
  | ptr _ _ r hr =>
  refine ⟨_, ?_, .ptr b (o + i.toNat * n) r hr⟩
  simp [Instr.indexAt, asIntOf, run_und hu, Instr.sureAddr, h0, h1, run_sz hs, add_none, Nat.add_assoc]

theorem op_indexAddr_slice {t e b o len cap n : Nat} {i : Int} {k : IntKind} {v : Value} (hv : VR ρ (.sl b o len cap) v) (hu : und P t = some (.slice e)) (hs : sz P e = some n) (h0 : 0 ≤ i) (h1 : i < len) :
    ∃ u, (Instr.indexAt t v (.int k i)).run P w = .ok u w ∧ VR ρ (.ptr b (o + i.toNat * n)) u := by
  cases hv with
  | sl _ _ _ _ cc r hr _ _ _ _ =>
    refine ⟨_, ?_, .ptr b (o + i.toNat * n) r hr⟩
    simp [Instr.indexAt, asIntOf, run_und hu, h0, h1, run_sz hs, add_none, Nat.add_assoc]
  | sl0 => omega

theorem op_index_array {t e len n : Nat} {cs : List AV} {x : AV} {i : Int} {k : IntKind} {v : Value} (hv : VR ρ (.agg cs) v) (hu : und P t = some (.array len e)) (hs : sz P e = some n) (h0 : 0 ≤ i) (h1 : i < len)
    (hx : apart P e cs (i.toNat * n) = some x) : ∃ u, (Instr.index t v (.int k i)).run P w = .ok u w ∧ VR ρ x u := by
  cases hv with
  | agg _ vs h =>
  obtain ⟨u, hu', hr⟩ := run_part (P := P) (w := w) h hx
  exact ⟨u, by simp [Instr.index, asIntOf, run_und hu, h0, h1, run_sz hs, hu'], hr⟩

theorem op_index_string {t n : Nat} {s : List Nat} {i : Int} {k : IntKind} {v : Value} (hv : VR ρ (.str s) v) (hu : und P t = some .string) (h0 : 0 ≤ i) (hx : s[i.toNat]? = some n) :
    (Instr.index t v (.int k i)).run P w = .ok (.int .u8 n) w := by
  cases hv with
  | str S _ h =>
  subst h
  simp only [List.getElem?_map, Option.map_eq_some_iff] at hx
  obtain ⟨b, hb, rfl⟩ := hx
  have hb' : S[i.toNat]? = some b := by
    have : i.toNat < S.size := by
      have := (List.getElem?_eq_some_iff.1 hb).1
      simpa using this
    rw [getElem?_pos S i.toNat this]
    rw [Array.getElem?_toList] at hb
    have h2 := (Array.getElem?_eq_some_iff.1 hb).2
    exact congrArg some h2
  simp [Instr.index, asIntOf, run_und hu, h0, hb']

theorem op_extract {xs : List AV} {i : Nat} {x : AV} {v : Value} (hv : VR ρ (.tup xs) v) (hx : xs[i]? = some x) : ∃ u, (Instr.extract v i).run P w = .ok u w ∧ VR ρ x u := by
  cases hv with
  | tup _ vs h =>
  obtain ⟨u, hu, hr⟩ := h.get i x hx
  exact ⟨u, by simp [Instr.extract, hu], hr⟩

omit [Dec] [Env] in
theorem bytes_eq {s t : ByteArray} : (s.data.toList.map UInt8.toNat == t.data.toList.map UInt8.toNat) = (s.toList == t.toList) := by
  rw [Bool.eq_iff_iff]
  simp only [beq_iff_eq]
  rw [ByteArray.toList_eq, ByteArray.toList_eq]
  constructor
  · intro h
    exact (List.map_inj_right (fun a b h => UInt8.toNat_inj.1 h)).1 h
  · intro h; rw [h]

omit [Dec] [Env] in
theorem bytes_lss : ∀ (s t : List UInt8), alss (s.map UInt8.toNat) (t.map UInt8.toNat) = Op.bytesLess s t
  | _, [] => by simp [alss, Op.bytesLess]
  | [], _ :: _ => by simp [alss, Op.bytesLess]
  | a :: x, b :: y => by
    simp only [List.map_cons, alss, Op.bytesLess, bytes_lss x y]
    have h1 : decide (a.toNat < b.toNat) = decide (a < b) := by simp [UInt8.lt_iff_toNat_lt]
    have h2 : (a.toNat == b.toNat) = (a == b) := by rw [Bool.eq_iff_iff]; simp [UInt8.toNat_inj]
    rw [h1, h2]

/-- A loop that looks whether all is alike. -/
def allg {α : Type} (g : α → Option Bool) : List α → Option Bool
  | [] => some true
  | a :: l => (g a).bind fun b => match b with
    | true => allg g l
    | false => some false

omit [Dec] [Env] in
theorem run_forIn_all {α : Type} (g : α → Option Bool) (F : α → Option Bool × Unit → Sem (ForInStep (Option Bool × Unit))) : ∀ (l : List α) (b : Bool),
    (∀ a ∈ l, ∀ b, g a = some b → (F a (none, ())).run P w = .ok (if b then .yield (none, ()) else .done (some false, ())) w) → allg g l = some b →
    (forIn l (none, ()) F).run P w = .ok (if b then (none, ()) else (some false, ())) w
  | [], b, _, h => by simp [allg] at h; subst h; simp
  | a :: l, b, hF, h => by
    simp only [allg, Option.bind_eq_some_iff] at h
    obtain ⟨c, hc, h⟩ := h
    have h1 := hF a (by simp) c hc
    simp only [List.forIn_cons, Sem.run_bind, h1, Result.andThen_ok]
    cases c with
    | true =>
      simp only [if_true]
      exact run_forIn_all g F l b (fun a ha => hF a (by simp [ha])) h
    | false =>
      simp at h; subst h
      simp

omit [Dec] [Env] in
theorem aeqFields_all (eq : TypeId → AV → AV → Option Bool) (xs ys : List AV) : ∀ fs : List Field, aeqFields P eq xs ys fs =
    allg (fun f => if f.name ≠ "_" then (apart P f.type xs f.offset).bind fun x => (apart P f.type ys f.offset).bind fun y => eq f.type x y else some true) fs
  | [] => rfl
  | f :: fs => by
    simp only [aeqFields, allg, aeqFields_all eq xs ys fs]
    split
    · cases apart P f.type xs f.offset <;> simp
      cases apart P f.type ys f.offset <;> simp
      rename_i x y
      cases eq f.type x y <;> simp
      rename_i b
      cases b <;> rfl
    · rfl

omit [Dec] [Env] in
theorem aeqElems_all (eq : AV → AV → Option Bool) (e n : Nat) (xs ys : List AV) : ∀ is : List Nat, aeqElems P eq e n xs ys is =
    allg (fun i => (apart P e xs (i * n)).bind fun x => (apart P e ys (i * n)).bind fun y => eq x y) is
  | [] => rfl
  | i :: is => by
    simp only [aeqElems, allg, aeqElems_all eq e n xs ys is]
    cases apart P e xs (i * n) <;> simp
    cases apart P e ys (i * n) <;> simp
    rename_i x y
    cases eq x y <;> simp
    rename_i b
    cases b <;> rfl

theorem run_equalIn : ∀ (d D : Nat) (t : TypeId) (x y : AV) (u v : Value) (b : Bool), d ≤ D → aeqD P d t x y = some b → VR ρ x u → VR ρ y v → (Op.equalIn D t u v).run P w = .ok b w := by
  intro d
  induction d with
  | zero => intro D t x y u v b _ h; simp [aeqD] at h
  | succ d ih =>
    intro D t x y u v b hD h hx hy
    obtain ⟨D, rfl⟩ : ∃ E, D = E + 1 := ⟨D - 1, by omega⟩
    simp only [aeqD] at h
    split at h
    · rename_i hu
      injection h with h; subst h
      cases hx; cases hy
      simp [Op.equalIn, run_und hu]
    · rename_i hu
      split at h
      · rename_i hk
        injection h with h; subst h; subst hk
        cases hx; cases hy
        simp [Op.equalIn, run_und hu]
      · cases h
    · rename_i hu _
      obtain ⟨p, hp, h⟩ := Option.bind_eq_some_iff.1 h
      obtain ⟨q, hq, h⟩ := Option.bind_eq_some_iff.1 h
      split at h
      · rename_i hk
        have e := look_eq h
        rw [ival_rel hp hx, ival_rel hq hy, hk]
        simp [Op.equalIn, run_und hu, ← e]
      · cases h
    · rename_i hu
      injection h with h; subst h
      cases hx with | str s _ hs =>
      cases hy with | str t _ ht =>
      subst hs; subst ht
      rw [bytes_eq, ← beq_toListBytes]
      simp only [Op.equalIn, Sem.run_bind, run_und hu, Result.andThen_ok, Sem.run_pure]
    · rename_i fs xs ys hu
      split at h
      · cases h
      · rename_i hst
        cases hx with | agg _ us hus =>
        cases hy with | agg _ vs hvs =>
        obtain ⟨l⟩ := fs
        rw [aeqFields_all] at h
        simp only [Op.equalIn, Sem.run_bind, run_und hu, Result.andThen_ok, run_program, hst, List.forIn_toArray]
        simp only [Bool.false_eq_true, if_false, Sem.run_bind]
        rw [run_forIn_all _ _ l b (fun f _ c hc => by
            split at hc
            · rename_i hn
              obtain ⟨x1, hx1, hc⟩ := Option.bind_eq_some_iff.1 hc
              obtain ⟨y1, hy1, hc⟩ := Option.bind_eq_some_iff.1 hc
              obtain ⟨u1, hu1, r1⟩ := run_part (P := P) (w := w) hus hx1
              obtain ⟨v1, hv1, r2⟩ := run_part (P := P) (w := w) hvs hy1
              have := ih D f.type x1 y1 u1 v1 c (by omega) hc r1 r2
              simp only [hn, if_true, Sem.run_bind, hu1, hv1, this, Result.andThen_ok, ne_eq, not_false_eq_true]
              cases c <;> simp
            · rename_i hn
              injection hc with hc; subst hc
              simp only [hn, if_false, Sem.run_pure, if_true]) h]
        cases b <;> simp
    · rename_i len e xs ys hu
      obtain ⟨n, hn, h⟩ := Option.bind_eq_some_iff.1 h
      cases hx with | agg _ us hus =>
      cases hy with | agg _ vs hvs =>
      rw [aeqElems_all] at h
      simp only [Op.equalIn, Sem.run_bind, run_und hu, Result.andThen_ok, run_sz hn]
      rw [Std.Legacy.Range.forIn_eq_forIn_range']
      simp only [Std.Legacy.Range.size, Nat.sub_zero, Nat.add_sub_cancel, Nat.div_one]
      rw [run_forIn_all _ _ (List.range' 0 len) b (fun i _ c hc => by
            obtain ⟨x1, hx1, hc⟩ := Option.bind_eq_some_iff.1 hc
            obtain ⟨y1, hy1, hc⟩ := Option.bind_eq_some_iff.1 hc
            obtain ⟨u1, hu1, r1⟩ := run_part (P := P) (w := w) hus hx1
            obtain ⟨v1, hv1, r2⟩ := run_part (P := P) (w := w) hvs hy1
            have := ih D e x1 y1 u1 v1 c (by omega) hc r1 r2
            simp only [Sem.run_bind, hu1, hv1, this, Result.andThen_ok]
            cases c <;> simp) h]
      cases b <;> simp
    · cases h

theorem op_aeqD {D : Nat} {t : TypeId} {x y : AV} {u v : Value} {b : Bool} (hD : 11 ≤ D) (hx : VR ρ x u) (hy : VR ρ y v) (h : aeqT P t x y = some b) :
    (Op.equalIn (D + 1) t u v).run P w = .ok b w := by
  unfold aeqT at h
  split at h
  · rename_i hu; injection h with h; subst h; cases hx; cases hy; simp [Op.equalIn, run_und hu]
  · rename_i hu; injection h with h; subst h; cases hx; cases hy; simp [Op.equalIn, run_und hu]
  · rename_i hu; injection h with h; subst h; cases hx; cases hy; simp [Op.equalIn, run_und hu]
  · rename_i hu; injection h with h; subst h; cases hx; cases hy; simp [Op.equalIn, run_und hu]
  · rename_i hu; injection h with h; subst h; cases hx; cases hy; simp [Op.equalIn, run_und hu]
  · rename_i hu; injection h with h; subst h; cases hx; cases hy <;> simp [Op.equalIn, run_und hu]
  · rename_i hu; injection h with h; subst h; cases hy; cases hx <;> simp [Op.equalIn, run_und hu]
  · rename_i hu; injection h with h; subst h; cases hx; cases hy; simp [Op.equalIn, run_und hu]
  · rename_i hu; injection h with h; subst h; cases hx; cases hy; simp [Op.equalIn, run_und hu]
  · rename_i hu; injection h with h; subst h; cases hx; cases hy; simp [Op.equalIn, run_und hu]
  · rename_i hu; injection h with h; subst h; cases hx; cases hy; simp [Op.equalIn, run_und hu]
  · rename_i hu; injection h with h; subst h; cases hx; cases hy; simp [Op.equalIn, run_und hu]
  · rename_i hu; injection h with h; subst h; cases hx; cases hy; simp [Op.equalIn, run_und hu]
  · rename_i hu; injection h with h; subst h; cases hx; cases hy; simp [Op.equalIn, run_und hu]
  · rename_i hu; injection h with h; subst h; cases hx; cases hy; simp [Op.equalIn, run_und hu]
  · rename_i hu
    cases hx with | iface _ _ _ h1 =>
    cases hy with | iface _ _ _ h2 =>
    split at h
    · rename_i hne
      injection h with h; subst h
      simp [Op.equalIn, run_und hu, hne]
    · rename_i heq
      have heq : _ = _ := Decidable.of_not_not heq
      subst heq
      split at h
      · rename_i i hi
        split at h
        · rename_i hc
          have := run_equalIn (P := P) (w := w) 10 D _ _ _ _ _ b (by omega) h h1 h2
          simp [Op.equalIn, run_und hu, run_info hi, hc]
          exact this
        · cases h
      · cases h
  · split at h
    · cases h
    · exact run_equalIn 10 (D + 1) _ _ _ _ _ b (by omega) h hx hy
  · split at h
    · cases h
    · exact run_equalIn 10 (D + 1) _ _ _ _ _ b (by omega) h hx hy
  · cases h

theorem op_aeqT {t : TypeId} {x y : AV} {u v : Value} {b : Bool} (hx : VR ρ x u) (hy : VR ρ y v) (h : aeqT P t x y = some b) :
    (Op.equal t u v).run P w = .ok b w := op_aeqD (D := 9999) (by omega) hx hy h

theorem guard_rel {op : BinOp} {t : TypeId} {a a' : Operand} {x y : AV} {u v : Value} {b : Bool} (hx : VR ρ x u) (hy : VR ρ y v) (h : aeqT P t x y = some b) :
    (eqGuard op t a a' u v).run P w = .ok () w := by
  cases hx with
  | nilif =>
    cases hy with
    | nilif => simp [aeqT] at h
    | _ => cases op <;> rfl
  | agg xs us hxs =>
    cases hy with
    | agg ys vs hys =>
      have hg : P.eqGuardType P.depth t = false := by
        unfold aeqT at h
        split at h <;> simp_all
      cases op <;> first | rfl | simp [eqGuard, run_program, hg]
    | _ => cases op <;> rfl
  | _ => cases op <;> rfl

end
end Go.Proofs.YtklenhohljeacaaDoor.Ex
