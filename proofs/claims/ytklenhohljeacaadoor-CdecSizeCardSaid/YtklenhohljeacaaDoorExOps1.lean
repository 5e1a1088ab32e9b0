/-
  An executor over the model's code: operations, one by one (1): types, loads, stores.
-/
import Derived.Test.YtklenhohljeacaaDoorExRel
namespace Go.Proofs.YtklenhohljeacaaDoor.Ex
open Go
variable [Dec] [Env]

section
variable {P : Program} {w : World} {ρ : Rho} {H : AHeap}

omit [Dec] [Env] in
theorem run_und {t : TypeId} {d : TypeDesc} (h : und P t = some d) : (underlying t).run P w = .ok d w := run_underlying h w

omit [Dec] [Env] in
theorem run_info {t : TypeId} {i : TypeInfo} (h : P.info? t = some i) : (typeInfo t).run P w = .ok i w := by
  simp [typeInfo, h]

omit [Dec] [Env] in
theorem run_sz {t : TypeId} {n : Nat} (h : sz P t = some n) : (sizeOf t).run P w = .ok n w := by
  unfold sz at h
  obtain ⟨i, hi, rfl⟩ := Option.map_eq_some_iff.1 h
  simp [sizeOf, run_info hi]

theorem run_zero {t : TypeId} {z : AV} (h : zero P t = some z) : ∃ v, (∀ w, (zeroValue t).run P w = .ok v w) ∧ ∀ ρ, VR ρ z v := by
  unfold zero at h
  obtain ⟨v, hv, hz⟩ := Option.bind_eq_some_iff.1 h
  obtain ⟨i, hi, hiz⟩ := Option.bind_eq_some_iff.1 hv
  exact ⟨v, fun w => by simp [zeroValue, run_info hi, hiz], fun ρ => ofV_rel v z hz⟩

omit [Dec] [Env] in
theorem run_agg {t : TypeId} {b : Bool} (h : agg? P t = some b) : (isAgg t).run P w = .ok b w := by
  unfold agg? at h
  split at h
  · rename_i hu; injection h with h; subst h; simp [isAgg, run_und hu]
  · rename_i hu; injection h with h; subst h; simp [isAgg, run_und hu]
  · rename_i d h1 h2 hu
    injection h with h; subst h
    simp only [isAgg, Sem.run_bind, run_und hu, Result.andThen_ok]
    cases d with
    | struct fs => exact absurd rfl (h1 _)
    | array n e => exact absurd rfl (h2 _ _)
    | _ => simp
  · cases h

omit [Dec] [Env] in
theorem cell_of {b o : Nat} {C : Array Value} {e : TypeId} {fr : Nat × Nat} (h : w.heap[b]? = some (.cells C e fr)) : w.cell? ⟨b, o, none⟩ = C[o]? := by
  simp [World.cell?, h]

omit [Dec] [Env] in
theorem frozen_of {b o : Nat} {C : Array Value} {e : TypeId} {fr : Nat × Nat} (h : w.heap[b]? = some (.cells C e fr)) : w.frozen? ⟨b, o, none⟩ = (decide (fr.1 ≤ o) && decide (o < fr.2)) := by
  obtain ⟨lo, hi⟩ := fr
  simp [World.frozen?, h]

omit [Dec] [Env] in
theorem add_none (b o n : Nat) : (⟨b, o, none⟩ : Addr).add n = ⟨b, o + n, none⟩ := by
  unfold Addr.add; split <;> simp_all

theorem run_part {t : TypeId} {cs : List AV} {vs : List Value} {off : Nat} {x : AV} (h : VRs ρ cs vs) (hx : apart P t cs off = some x) :
    ∃ v, (part t vs.toArray off).run P w = .ok v w ∧ VR ρ x v := by
  unfold apart at hx
  split at hx
  · rename_i ha
    obtain ⟨n, hn, rfl⟩ := Option.map_eq_some_iff.1 hx
    refine ⟨.agg (((vs.drop off).take n)).toArray, ?_, .agg _ _ ((h.drop off).take n)⟩
    simp [part, run_agg ha, run_sz hn]
  · rename_i ha
    obtain ⟨v, hv, hr⟩ := h.get off x hx
    refine ⟨v, ?_, hr⟩
    simp [part, run_agg ha, hv]
  · cases hx

/-- The cells that a block of the executor's heap stands for. -/
theorem Inv.block (h : Inv P ρ H w) {b : Nat} {c : List AV} {e : TypeId} {t : Bool} {r : RB} (hb : H.get b = some (.cells c e t)) (hr : ρ b = some r) :
    ∃ C fr, w.heap[r.cb]? = some (.cells C e fr) ∧ t = r.tight ∧ C.size = r.size ∧ r.co + c.length ≤ C.size ∧ VRs ρ c ((C.toList.drop r.co).take c.length) ∧
      (∀ i, i < c.length → ¬ (fr.1 ≤ r.co + i ∧ r.co + i < fr.2)) ∧ (t = false → (∀ i, i < C.size → ¬ (fr.1 ≤ i ∧ i < fr.2)) ∧ P.cellsOf e = r.esz) := by
  obtain ⟨C, hC, hO⟩ := h.obj b _ r hb hr
  cases C <;> try exact hO.elim
  rename_i C E fr
  obtain ⟨h1, h2, h3, h4, h5, h6, h7⟩ := hO
  subst h1
  exact ⟨C, fr, hC, h2, h3, h4, h5, h6, h7⟩

theorem get_cells (h : Inv P ρ H w) {b : Nat} {c : List AV} {e : TypeId} {t : Bool} {r : RB} (hb : H.get b = some (.cells c e t)) (hr : ρ b = some r) (o n : Nat) (hn : o + n ≤ c.length) :
    ∃ vs : List Value, (∀ j v, vs[j]? = some v → w.cell? ((⟨r.cb, r.co + o, none⟩ : Addr).add j) = some v) ∧ VRs ρ ((c.drop o).take n) vs ∧ vs.length = n := by
  obtain ⟨C, fr, hC, _, _, h4, h5, _, _⟩ := h.block hb hr
  have hl : ((c.drop o).take n).length = n := by simp; omega
  have hlen : ((((C.toList.drop r.co).take c.length).drop o).take n).length = n := by
    rw [← ((h5.drop o).take n).length]; exact hl
  refine ⟨(((C.toList.drop r.co).take c.length).drop o).take n, fun j v hj => ?_, (h5.drop o).take n, hlen⟩
  rw [add_none, cell_of hC]
  have hjn : j < n := by
    have := (List.getElem?_eq_some_iff.1 hj).1
    rw [hlen] at this; exact this
  rw [List.getElem?_take_of_lt hjn, List.getElem?_drop, List.getElem?_take_of_lt (by omega), List.getElem?_drop] at hj
  rw [← Array.getElem?_toList, show r.co + o + j = r.co + (o + j) by omega]
  exact hj

theorem run_cells (h : Inv P ρ H w) {b : Nat} {c : List AV} {e : TypeId} {t : Bool} {r : RB} (hb : H.get b = some (.cells c e t)) (hr : ρ b = some r) (o n : Nat) (hn : o + n ≤ c.length) :
    ∃ vs : List Value, (∀ a : Addr, a = ⟨r.cb, r.co + o, none⟩ → (loadCells a n).run P w = .ok vs.toArray w) ∧ VRs ρ ((c.drop o).take n) vs ∧ vs.length = n := by
  obtain ⟨vs, h1, h2, h3⟩ := get_cells h hb hr o n hn
  refine ⟨vs, ?_, h2, h3⟩
  rintro a rfl
  have := run_loadCells_list (P := P) w ⟨r.cb, r.co + o, none⟩ vs h1
  rw [h3] at this
  exact this

theorem run_load (h : Inv P ρ H w) {t : TypeId} {b o : Nat} {x : AV} {r : RB} (hr : ρ b = some r) (hx : aload P H t b o = some x) :
    ∃ v, (loadVar t ⟨r.cb, r.co + o, none⟩).run P w = .ok v w ∧ VR ρ x v := by
  unfold aload at hx
  split at hx
  · rename_i c e tt hb
    split at hx
    · rename_i ha
      obtain ⟨n, hn, hx⟩ := Option.bind_eq_some_iff.1 hx
      split at hx
      · rename_i hlt
        injection hx with hx; subst hx
        obtain ⟨vs, hvs, hrel, _⟩ := run_cells h hb hr o n hlt
        refine ⟨.agg vs.toArray, ?_, .agg _ _ hrel⟩
        simp [loadVar, run_agg ha, run_sz hn, hvs _ rfl]
      · cases hx
    · rename_i ha
      obtain ⟨C, fr, hC, _, _, h4, h5, _, _⟩ := h.block hb hr
      obtain ⟨v, hv, hrel⟩ := h5.get o x hx
      refine ⟨v, ?_, hrel⟩
      have ho : o < c.length := (List.getElem?_eq_some_iff.1 hx).1
      rw [List.getElem?_take_of_lt ho, List.getElem?_drop] at hv
      have hc : w.cell? ⟨r.cb, r.co + o, none⟩ = some v := by rw [cell_of hC, ← Array.getElem?_toList]; exact hv
      simp [loadVar, run_agg ha, hc]
    · cases hx
  · cases hx

omit [Dec] [Env] in
theorem setCells_heap (b : Nat) : ∀ (vs : List Value) (o : Nat) (w : World) (C : Array Value) (e : TypeId) (fr : Nat × Nat), w.heap[b]? = some (.cells C e fr) → o + vs.length ≤ C.size →
    (w.setCells b o vs).heap = w.heap.setIfInBounds b (.cells (C.toList.take o ++ vs ++ C.toList.drop (o + vs.length)).toArray e fr) ∧ (w.setCells b o vs).os = w.os ∧ (w.setCells b o vs).tape = w.tape ∧ (w.setCells b o vs).output = w.output
  | [], o, w, C, e, fr, h, hl => by
    refine ⟨?_, rfl, rfl, rfl⟩
    simp only [World.setCells, List.append_nil, List.length_nil, Nat.add_zero, List.take_append_drop, Array.toArray_toList]
    apply Array.ext'
    apply List.ext_getElem?
    intro i
    rw [Array.getElem?_toList, Array.getElem?_toList, Array.getElem?_setIfInBounds]
    split
    · subst_vars; split
      · exact h
      · rename_i hx; exact Array.getElem?_eq_none (by omega)
    · rfl
  | v :: vs, o, w, C, e, fr, h, hl => by
    simp at hl
    have h1 : (w.setCell ⟨b, o, none⟩ v).heap[b]? = some (.cells (C.setIfInBounds o v) e fr) := by
      simp only [World.setCell, Array.getElem?_modify, h]; simp
    obtain ⟨k1, k2, k3, k4⟩ := setCells_heap b vs (o + 1) (w.setCell ⟨b, o, none⟩ v) (C.setIfInBounds o v) e fr h1 (by simp; omega)
    refine ⟨?_, k2, k3, k4⟩
    rw [World.setCells, k1]
    have hlt : b < w.heap.size := (Array.getElem?_eq_some_iff.1 h).1
    have e1 : (C.setIfInBounds o v).toList.take (o + 1) ++ vs ++ (C.setIfInBounds o v).toList.drop (o + 1 + vs.length) = C.toList.take o ++ (v :: vs) ++ C.toList.drop (o + (v :: vs).length) := by
      rw [Array.toList_setIfInBounds]
      have e2 : (C.toList.set o v).take (o + 1) = C.toList.take o ++ [v] := by
        rw [List.take_succ_eq_append_getElem (by simp; omega)]
        simp [List.take_set_of_le]
      rw [e2, List.drop_set_of_lt (by omega)]
      simp [Nat.add_assoc, Nat.add_comm 1]
    rw [e1]
    apply Array.ext'
    apply List.ext_getElem?
    intro i
    simp only [Array.getElem?_toList, Array.getElem?_setIfInBounds, World.setCell, Array.size_modify, Array.getElem?_modify]
    by_cases e : b = i
    · simp [e]
    · simp [e]

/-- Cells are written. -/
theorem run_write (h : Inv P ρ H w) {lim b o : Nat} {xs : List AV} {vs : List Value} {r : RB} {H' : AHeap} (hr : ρ b = some r) (hv : VRs ρ xs vs) (hx : awrite H lim b o xs = some H') :
    ∃ w', (∀ a : Addr, a = ⟨r.cb, r.co + o, none⟩ → (storeCells a vs).run P w = .ok () w') ∧ Step P lim ρ H w ρ H' w' ∧ H'.next = H.next := by
  unfold awrite at hx
  split at hx
  · rename_i hlim
    split at hx
    · rename_i c e t hb
      split at hx
      · rename_i hc
        injection hx with hx; subst hx
        obtain ⟨hlen, hone⟩ := hc
        obtain ⟨C, fr, hC, h2, h3, h4, h5, h6, h7⟩ := h.block hb hr
        have hvl := hv.length
        have hones := hv.ones hone
        refine ⟨w.setCells r.cb (r.co + o) vs, ?_, ?_, rfl⟩
        · rintro a rfl
          have := run_storeCells_cells (P := P) r.cb (r.co + o) vs 0 w (fun j hj => by
              rw [cell_of hC]; simp; omega)
            (fun j hj => by
              rw [frozen_of hC]
              have := h6 (o + j) (by omega)
              rw [show r.co + (o + j) = r.co + o + 0 + j by omega] at this
              simpa using this) hones
          simpa using this
        · obtain ⟨k1, k2, k3, k4⟩ := setCells_heap r.cb vs (r.co + o) w C e fr hC (by omega)
          refine Step.put h b _ _ r hb hr hlim _ ?_ k1 k2 k3 k4
          refine ⟨rfl, h2, ?_, ?_, ?_, ?_, ?_⟩
          · simp; omega
          · simp [splice]; omega
          · have hs := VRs.splice (c := c) (vs := xs) o h5 hv
            have hl : (splice c o xs).length = c.length := by simp [splice]; omega
            rw [hl]
            have : (List.drop r.co ((C.toList.take (r.co + o) ++ vs ++ C.toList.drop (r.co + o + vs.length)).toArray).toList).take c.length
                = List.take o ((C.toList.drop r.co).take c.length) ++ vs ++ List.drop (o + vs.length) ((C.toList.drop r.co).take c.length) := by
              dsimp only
              apply List.ext_getElem?
              intro i
              by_cases hi : i < c.length
              · rw [List.getElem?_take_of_lt hi, List.getElem?_drop]
                by_cases h1 : i < o
                · rw [List.append_assoc, List.getElem?_append_left (by simp; omega), List.getElem?_take_of_lt (by omega), List.append_assoc, List.getElem?_append_left (by simp; omega), List.getElem?_take_of_lt h1,
                    List.getElem?_take_of_lt hi, List.getElem?_drop]
                · by_cases h1' : i < o + vs.length
                  · rw [List.append_assoc, List.getElem?_append_right (by simp; omega), List.getElem?_append_left (by simp; omega), List.append_assoc, List.getElem?_append_right (by simp; omega), List.getElem?_append_left (by simp; omega)]
                    congr 1
                    simp; omega
                  · rw [List.getElem?_append_right (by simp; omega), List.getElem?_drop, List.getElem?_append_right (by simp; omega), List.getElem?_drop, List.getElem?_take_of_lt (by simp; omega), List.getElem?_drop]
                    congr 1
                    simp; omega
              · rw [List.getElem?_eq_none (by simp; omega), List.getElem?_eq_none (by simp; omega)]
            rw [this]; exact hs
          · intro i hi
            have hl : (splice c o xs).length = c.length := by simp [splice]; omega
            rw [hl] at hi
            exact h6 i hi
          · intro ht
            obtain ⟨g1, g2⟩ := h7 ht
            refine ⟨fun i hi => g1 i ?_, g2⟩
            simp at hi; omega
      · cases hx
    · cases hx
  · cases hx

theorem run_store {v : Value} (h : Inv P ρ H w) {lim b o : Nat} {t : TypeId} {x : AV} {r : RB} {H' : AHeap} (hr : ρ b = some r) (hv : VR ρ x v) (hx : astore P H lim t b o x = some H') :
    ∃ w', (storeVar t ⟨r.cb, r.co + o, none⟩ v).run P w = .ok () w' ∧ Step P lim ρ H w ρ H' w' := by
  unfold astore at hx
  split at hx
  · rename_i hs
    have hc := hv.cells
    obtain ⟨w', hw, hst, _⟩ := run_write h hr hc hx
    refine ⟨w', ?_, hst⟩
    have hl := hc.length
    have hz : v.cells.size = x.cells.length := by rw [hl]; simp
    simp [storeVar, run_sz hs.symm, hz, hw _ rfl]
  · cases hx
end
end Go.Proofs.YtklenhohljeacaaDoor.Ex
