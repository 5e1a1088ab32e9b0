/-
  Half words: the chapter's rows, one behind the other, read a half word as the program does: plain.
-/
import Derived.Test.YtklenhohljeacaaDoorEncU1
import Derived.Test.YtklenhohljeacaaDoorEncJ
namespace Go.Proofs.YtklenhohljeacaaDoor.Ex
open Go

def ofB (r : RowL) (h : Nat) : Bool := matchM h r && (regsOk r.form (decRow r h).d (decRow r h).s (decRow r h).t && (numOk r.kind r.unit r.places.length (decRow r h).m && (aV r (decRow r h).d (decRow r h).s (decRow r h).t (decRow r h).m == (h : Int))))
def docIdx (h : Nat) : Nat := rowsL.findIdx fun r => ofB r h
theorem ofB_parts {r : RowL} {h : Nat} (hb : ofB r h = true) : matchM h r = true ∧ regsOk r.form (decRow r h).d (decRow r h).s (decRow r h).t = true ∧ numOk r.kind r.unit r.places.length (decRow r h).m = true ∧
    aV r (decRow r h).d (decRow r h).s (decRow r h).t (decRow r h).m = (h : Int) := by
  unfold ofB at hb
  simp only [Bool.and_eq_true, beq_iff_eq] at hb
  exact ⟨hb.1, hb.2.1, hb.2.2.1, hb.2.2.2⟩
theorem len33 : rowsL.length = 33 := rfl
theorem ofB_idx {k : Nat} {r : RowL} (hk : rowsL[k]? = some r) {h : Nat} (hb : ofB r h = true) : rowsL.findIdx (matchM h) = k := by
  obtain ⟨-, h1, h2, h3⟩ := ofB_parts hb
  have hlt : k < 33 := (List.getElem?_eq_some_iff.1 hk).1
  exact (idx_spec hk (idx_all k hlt) (dec_may (List.mem_of_getElem? hk) h h2) h1 h2 h3).1
def insnL (i : InsnL) : InsnR := ⟨i.op, i.d, i.s, i.t, i.m⟩
theorem ofB_raw {r : RowL} (hr : r ∈ rowsL) {h : Nat} (hb : ofB r h = true) : rawR h = insnL (decRow r h) := by
  obtain ⟨-, h1, h2, h3⟩ := ofB_parts hb
  obtain ⟨n, e1, e2, e3⟩ := raw_spec hr (raws_all r hr) (dec_may hr h h2) h1 h2
  have : n = h := by rw [h3] at e1; exact (Int.ofNat_inj.1 e1).symm
  subst this
  exact e3
theorem sel_first {op d s t m : Int} : ∀ {rs : List RowL} {k0 k : Nat} {r : RowL}, rs[k]? = some r → (r.op : Int) = op → regsOk r.form d s t = true → numOk r.kind r.unit r.places.length m = true → ∃ k' r', sel op d s t m rs k0 = some (k', r') ∧ k' ≤ k0 + k
  | [], _, _, _, h, _, _, _ => by cases h
  | x :: rs, k0, k, r, h, h1, h2, h3 => by
    unfold sel
    cases hx : decide ((x.op : Int) = op) && (regsOk x.form d s t && numOk x.kind x.unit x.places.length m) with
    | true => exact ⟨k0, x, rfl, by omega⟩
    | false =>
      cases k with
      | zero =>
        simp only [List.getElem?_cons_zero, Option.some.injEq] at h
        subst h
        rw [h1, h2, h3] at hx
        simp at hx
      | succ k =>
        rw [List.getElem?_cons_succ] at h
        obtain ⟨k', r', e1, e2⟩ := sel_first (k0 := k0 + 1) h h1 h2 h3
        exact ⟨k', r', e1, by omega⟩
/- two rows of one instruction: their registers part, but for those of one pair -/
noncomputable def pairOk (i j : Nat) : Bool := match rowsL[i]?, rowsL[j]? with
  | some r, some r' => !(Nat.beq r.op r'.op) || (Nat.beq i j || ((Nat.beq i 9 && Nat.beq j 6) || ((Nat.beq i 6 && Nat.beq j 9) || ((List.range (regN r.form).1).all fun a => (List.range (regN r.form).2).all fun b => !(regsOk r'.form (regF r.form a b).1 (regF r.form a b).2.1 (regF r.form a b).2.2)))))
  | _, _ => true
theorem pairs_ok : ((List.range 33).all fun i => (List.range 33).all fun j => pairOk i j) = true := by kernel_rfl
theorem pair_of {i j : Nat} {r r' : RowL} (hi : rowsL[i]? = some r) (hj : rowsL[j]? = some r') (ho : (r.op : Int) = r'.op) {d s t m : Int} (hm : mayI r.op d s t m = true) (h1 : regsOk r.form d s t = true) (h2 : regsOk r'.form d s t = true) :
    i = j ∨ (i = 9 ∧ j = 6) ∨ (i = 6 ∧ j = 9) := by
  have li : i < 33 := (List.getElem?_eq_some_iff.1 hi).1
  have lj : j < 33 := (List.getElem?_eq_some_iff.1 hj).1
  have h := List.all_eq_true.1 (List.all_eq_true.1 pairs_ok i (List.mem_range.2 li)) j (List.mem_range.2 lj)
  unfold pairOk at h
  rw [hi, hj] at h
  have hr := List.mem_of_getElem? hi
  obtain ⟨hz, hd, hs, ht, -⟩ := may_facts hr hm
  obtain ⟨a, ha, b, hb, e⟩ := cover_regs r.form (form_mem hr) d s t ((regsOk_P _ (form_mem hr) _ _ _).1 h1) hz hd hs ht
  simp only [Bool.or_eq_true, Bool.and_eq_true, Bool.not_eq_true', nat_beq, decide_eq_false_iff_not, decide_eq_true_eq] at h
  rcases h with h | h | h | h | h
  · omega
  · exact .inl h
  · exact .inr (.inl h)
  · exact .inr (.inr h)
  · have := List.all_eq_true.1 (List.all_eq_true.1 h a (List.mem_range.2 ha)) b (List.mem_range.2 hb)
    rw [← e] at this
    simp only [h2] at this
    cases this
def nine : RowL := ⟨22, [97, 100, 100, 105], 24833, 112, 110, 16, [6, 2, 5, 3, 4, 12]⟩
theorem nine_at : rowsL[9]? = some nine := rfl
noncomputable def p9 (r : RowL) (d s t m : Int) : Bool := !(regsOk r.form d s t) || (!(numOk r.kind r.unit r.places.length m) || (Nat.beq ((aV r d s t m).toNat / 8192) 3 && twiceB ⟨r.op, d, s, t, m⟩))
theorem nine_ok : allRow (p9 nine) nine = true := by kernel_rfl
/-- What a row reads the program reads. -/
theorem of_read {k : Nat} {r : RowL} (hk : rowsL[k]? = some r) {h : Nat} (hb : ofB r h = true) : readB h = true := by
  have hr := List.mem_of_getElem? hk
  obtain ⟨-, h1, h2, h3⟩ := ofB_parts hb
  have hm := dec_may hr h h2
  have e := ofB_raw hr hb
  obtain ⟨k', r', e1, e2⟩ := sel_first (k0 := 0) (op := (r.op : Int)) hk rfl h1 h2
  obtain ⟨f1, f2, f3, f4⟩ := sel_facts e1
  have hk' := (sel_index e1).2
  rw [Nat.sub_zero] at hk'
  have hE : encE r.op (decRow r h).d (decRow r h).s (decRow r h).t (decRow r h).m = 0 := by unfold encE halfB; rw [hm, e1]; rfl
  have hV : encV r.op (decRow r h).d (decRow r h).s (decRow r h).t (decRow r h).m = aV r' (decRow r h).d (decRow r h).s (decRow r h).t (decRow r h).m := by unfold encV halfV; rw [hm, e1]
  unfold readB
  rw [e]
  show (encE r.op (decRow r h).d (decRow r h).s (decRow r h).t (decRow r h).m == 0 && (encV r.op (decRow r h).d (decRow r h).s (decRow r h).t (decRow r h).m == (h : Int) || (twiceB ⟨r.op, (decRow r h).d, (decRow r h).s, (decRow r h).t, (decRow r h).m⟩ && Nat.beq (h / 8192) 3))) = true
  rw [hE, hV]
  rcases pair_of hk hk' f2.symm hm h1 f3 with h4 | ⟨h4, h5⟩ | ⟨h4, h5⟩
  · subst h4
    rw [hk] at hk'
    injection hk' with hk'
    subst hk'
    rw [h3]; simp
  · subst h4
    rw [nine_at] at hk
    injection hk with hk
    subst hk
    have := allRow_spec hr nine_ok hm h1 h2
    unfold p9 at this
    rw [h1, h2, h3] at this
    simp only [Bool.not_true, Bool.false_or, Bool.and_eq_true, Int.toNat_natCast] at this
    rw [this.1, this.2]; simp
  · omega
noncomputable def chkT (h : Nat) : Bool := !(twiceB (rawR h)) || ofB nine h
theorem nine1 : ((List.range 1024).all fun j => chkT (24577 + 4 * j)) = true := by kernel_rfl
theorem nine2 : ((List.range' 1024 1024).all fun j => chkT (24577 + 4 * j)) = true := by kernel_rfl
theorem nines (h : Nat) (_ : h < 65536) (h3 : h / 8192 = 3) : chkT h = true := by
  by_cases h1 : h % 4 = 1
  · by_cases hj : h < 24577 + 4096
    · have := List.all_eq_true.1 nine1 ((h - 24577) / 4) (List.mem_range.2 (by omega))
      rwa [show 24577 + 4 * ((h - 24577) / 4) = h by omega] at this
    · have := List.all_eq_true.1 nine2 ((h - 24577) / 4) (List.mem_range'_1.2 (by omega))
      rwa [show 24577 + 4 * ((h - 24577) / 4) = h by omega] at this
  · have hc : clsN h = 3 ∨ clsN h = 19 ∨ clsN h = 27 := by
      have : Nat.beq (8 * (h % 4) + h / 8192) 12 = false := by rw [nat_beq]; exact decide_eq_false (by omega)
      unfold clsN
      rw [this]
      simp only
      omega
    have tab : ([3, 19, 27].all fun n => (rawTr n).all opNot) = true := by kernel_rfl
    obtain ⟨v, hv, hk⟩ := Tr.all_at (η := ηh h) (φ := fun _ _ => 0) (List.all_eq_true.1 tab (clsN h) (by simp; omega))
    have ht : twiceB (rawR h) = false := by
      unfold rawR
      rw [hv]
      unfold opNot at hk
      split at hk
      · rename_i n _ _ _ _
        have hk : (n == (22 : Int)) = false := by simpa using hk
        unfold twiceB
        simp only [insnOf, fieldV]
        rw [hk]; rfl
      · cases hk
    unfold chkT
    rw [ht]; rfl
/-- What the program reads some row reads. -/
theorem read_of {h : Nat} (hh : h < 65536) (hb : readB h = true) : ∃ (k : Nat) (r : RowL), rowsL[k]? = some r ∧ ofB r h = true := by
  have hb' := hb
  unfold readB at hb
  rw [Bool.and_eq_true, beq_iff_eq] at hb
  obtain ⟨hE, hV⟩ := hb
  cases hm : mayI (rawR h).op (rawR h).d (rawR h).s (rawR h).t (rawR h).m with
  | false => unfold encE at hE; rw [hm] at hE; cases hE
  | true =>
  cases hs : sel (rawR h).op (rawR h).d (rawR h).s (rawR h).t (rawR h).m rowsL 0 with
  | none => unfold encE halfB at hE; rw [hm, hs] at hE; cases hE
  | some x =>
    obtain ⟨k, r⟩ := x
    obtain ⟨hr, ho, h1, h2⟩ := sel_facts hs
    have hk := (sel_index hs).2
    rw [Nat.sub_zero] at hk
    have hlt : k < 33 := (List.getElem?_eq_some_iff.1 hk).1
    have e1 : encV (rawR h).op (rawR h).d (rawR h).s (rawR h).t (rawR h).m = aV r (rawR h).d (rawR h).s (rawR h).t (rawR h).m := by unfold encV halfV; rw [hm, hs]
    rw [e1] at hV
    by_cases hc : aV r (rawR h).d (rawR h).s (rawR h).t (rawR h).m = (h : Int)
    · rw [← ho] at hm
      obtain ⟨hi, b2⟩ := idx_spec hk (idx_all k hlt) hm h1 h2 hc
      refine ⟨k, r, hk, ?_⟩
      have hmm : matchM h r = true := by
        have hl := List.findIdx_getElem (p := matchM h) (xs := rowsL) (w := by rw [hi]; exact hlt)
        have : rowsL[rowsL.findIdx (matchM h)]'(by rw [hi]; exact hlt) = r := by
          have := (List.getElem?_eq_some_iff.1 hk).2
          simp only [hi]; exact this
        rw [this] at hl
        exact hl
      unfold ofB
      rw [b2, hmm]
      simp only [h1, h2, hc]
      simp
    · have hc' : (aV r (rawR h).d (rawR h).s (rawR h).t (rawR h).m == (h : Int)) = false := by simpa using hc
      rw [hc', Bool.false_or, Bool.and_eq_true] at hV
      have h3 := Nat.eq_of_beq_eq_true hV.2
      have := nines h hh h3
      unfold chkT at this
      rw [hV.1] at this
      exact ⟨9, nine, nine_at, by simpa using this⟩
/-- The rows, one behind the other, read as the program does. -/
theorem doc_read {h : Nat} (hh : h < 65536) : (∃ (k : Nat) (r : RowL), rowsL[k]? = some r ∧ docIdx h = k ∧ ofB r h = true ∧ readB h = true ∧ rawR h = insnL (decRow r h)) ∨ (docIdx h = 33 ∧ readB h = false) := by
  cases hb : readB h with
  | true =>
    obtain ⟨k, r, hk, ho⟩ := read_of hh hb
    refine .inl ⟨k, r, hk, ?_, ho, rfl, ofB_raw (List.mem_of_getElem? hk) ho⟩
    have hlt := (List.getElem?_eq_some_iff.1 hk).1
    have hg : rowsL[k] = r := (List.getElem?_eq_some_iff.1 hk).2
    unfold docIdx
    rw [List.findIdx_eq hlt]
    refine ⟨by rw [hg]; exact ho, fun j hj => ?_⟩
    cases hoj : ofB rowsL[j] h with
    | false => rfl
    | true =>
      have q1 := ofB_idx (List.getElem?_eq_getElem (show j < rowsL.length by omega)) hoj
      have q2 := ofB_idx hk ho
      omega
  | false =>
    refine .inr ⟨?_, rfl⟩
    unfold docIdx
    rw [show (33 : Nat) = rowsL.length from rfl, List.findIdx_eq_length]
    intro r hr
    cases ho : ofB r h with
    | false => rfl
    | true =>
      obtain ⟨k, hk⟩ := List.mem_iff_getElem?.1 hr
      rw [of_read hk ho] at hb
      cases hb
end Go.Proofs.YtklenhohljeacaaDoor.Ex
