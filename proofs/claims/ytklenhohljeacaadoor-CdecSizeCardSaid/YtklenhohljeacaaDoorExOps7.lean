/-
  An executor over the model's code: operations, one by one (7): append, copy, len.
-/
import Derived.Test.YtklenhohljeacaaDoorExOps6
namespace Go.Proofs.YtklenhohljeacaaDoor.Ex
open Go
variable [Dec] [Env]

section
variable {P : Program} {w : World} {ρ : Rho} {H : AHeap}

theorem src_rel (hI : Inv P ρ H w) {size n : Nat} {x : AV} {v : Value} {new : List AV} (hv : VR ρ x v) (h : asrc H size x = some (n, new)) :
    (Builtin.lenOf v).run P w = .ok n w ∧ ∃ vs : List Value, (∀ w', (∀ a, w'.cell? a = w.cell? a) → (Builtin.firstCells size n v).run P w' = .ok vs.toArray w') ∧ VRs ρ new vs := by
  unfold asrc at h
  split at h
  · simp only [Option.some.injEq, Prod.mk.injEq] at h
    obtain ⟨rfl, rfl⟩ := h
    cases hv
    exact ⟨by simp [Builtin.lenOf], [], fun w' _ => by simp [Builtin.firstCells], .nil⟩
  · rename_i b o n' c
    split at h
    · rename_i cs e t hb
      split at h
      · rename_i hlen
        simp only [Option.some.injEq, Prod.mk.injEq] at h
        obtain ⟨rfl, rfl⟩ := h
        cases hv with
        | sl _ _ _ _ cc r hr _ _ _ _ =>
          obtain ⟨vs, hvs, hrel, hl⟩ := get_cells hI hb hr o (n' * size) hlen
          refine ⟨by simp [Builtin.lenOf], vs, fun w' hw' => ?_, hrel⟩
          simp only [Builtin.firstCells]
          have := run_loadCells_list (P := P) w' ⟨r.cb, r.co + o, none⟩ vs (fun j v hj => by rw [hw']; exact hvs j v hj)
          rw [hl] at this
          exact this
        | sl0 _ _ a =>
          refine ⟨by simp [Builtin.lenOf], [], fun w' _ => by simp [Builtin.firstCells, loadCells, loadCellsFrom], ?_⟩
          simpa using VRs.nil
      · cases h
    · cases h
  · rename_i s
    simp only [Option.some.injEq, Prod.mk.injEq] at h
    obtain ⟨rfl, rfl⟩ := h
    cases hv with | str S _ hS =>
    subst hS
    refine ⟨by simp [Builtin.lenOf], S.data.toList.map fun b => .int .u8 b.toNat, fun w' _ => ?_, abytes_rel S⟩
    have : (S.extract 0 S.size).data = S.data := by
      apply Array.ext'
      rw [Lib.extract_data]
      simp only [List.drop_zero, Nat.sub_zero]
      exact List.take_of_length_le (by simp)
    simp only [Builtin.firstCells, List.length_map, Array.length_toList, Sem.run_pure]
    congr 1
    rw [show S.data.size = S.size from rfl, this]
    apply Array.ext'; simp
  · cases h

omit [Dec] [Env] in
theorem growBy_le (N : Nat) : ∀ r c, c ≤ N + (N + 768) / 4 → Builtin.growBy N r c ≤ N + (N + 768) / 4
  | 0, c, h => h
  | r + 1, c, h => by
    unfold Builtin.growBy
    split
    · exact h
    · exact growBy_le N r _ (by omega)

omit [Dec] [Env] in
theorem nextcap_le {N c : Nat} (h : c < N) : Builtin.nextslicecap N c ≤ 2 * N + 1000 := by
  unfold Builtin.nextslicecap
  split
  · omega
  · split
    · omega
    · have := growBy_le N 4 c (by omega); omega

omit [Dec] [Env] in
theorem zeroCells_size (z : Array Value) (n : Nat) : (Builtin.zeroCells z n).size = n * z.size := by simp [Builtin.zeroCells]

omit [Dec] [Env] in
/-- An append that makes a new array. -/
theorem run_append_grow {t t' ty elem n need sLen sCap : Nat} {d' : TypeDesc} {info : TypeInfo} {base : Option Addr} {v zv : Value} {old new : List Value}
    (hu : und P t = some (.slice elem)) (hu' : und P t' = some d') (hd' : ∀ k, d' ≠ .int k) (hi : P.info? elem = some info) (hz : info.zero = some zv)
    (hlen : (Builtin.lenOf v).run P w = .ok n w) (hold : (Builtin.firstCells info.size sLen (.slice base sLen sCap)).run P w.drew = .ok old.toArray w.drew)
    (hnew : (Builtin.firstCells info.size n v).run P w.drew = .ok new.toArray w.drew) (hneed : need = sLen + n) (hcap : ¬ need ≤ sCap) (hsmall : need ≤ 1048576) (hb : info.bytes ≤ 65536)
    (ts : Array TypeId) (h0 : ts[0]? = some t) (h1 : ts[1]? = some t') :
    (Builtin.append_ ts ty #[.slice base sLen sCap, v]).run P w = .ok (.slice (some ⟨w.heap.size, 0, none⟩) need (grownCap w need sCap elem))
      (w.drew.alloc (.cells (old.toArray ++ new.toArray ++ Builtin.zeroCells zv.cells (grownCap w need sCap elem - need)) elem)) := by
  have hnc := nextcap_le (N := need) (c := sCap) (by omega)
  have hmul : Builtin.nextslicecap need sCap * info.bytes ≤ (2 * need + 1000) * 65536 := Nat.mul_le_mul hnc hb
  have hnc2 : ¬ (281474976710656 < Builtin.nextslicecap need sCap * info.bytes) := by omega
  have hmx : ¬ (9223372036854775807 < (need : Int)) := by omega
  subst hneed
  have hmx' : ¬ (9223372036854775807 < ((sLen : Int) + (n : Int))) := by omega
  simp [Builtin.append_, h0, h1, run_underlying hu, run_underlying hu', sizeOf, typeInfo, zeroValue, hi, hz, hlen, hcap, hmx', hnc2, Question.forced, hold, hnew, newRow, grownCap]
  congr 2
  apply Array.ext'
  simp [List.append_assoc]

omit [Dec] [Env] in
/-- An append that finds room. -/
theorem run_append_fits {t t' ty elem n sLen sCap : Nat} {d' : TypeDesc} {info : TypeInfo} {base : Option Addr} {v : Value} {new : List Value} {w' : World}
    (hu : und P t = some (.slice elem)) (hu' : und P t' = some d') (hd' : ∀ k, d' ≠ .int k) (hi : P.info? elem = some info)
    (hlen : (Builtin.lenOf v).run P w = .ok n w) (hnew : (Builtin.firstCells info.size n v).run P w = .ok new.toArray w) (hcap : sLen + n ≤ sCap)
    (hst : ∀ a, base = some a → (storeCells (a.add (sLen * info.size)) new).run P w = .ok () w') (hnil : base = none → w' = w)
    (ts : Array TypeId) (h0 : ts[0]? = some t) (h1 : ts[1]? = some t') :
    (Builtin.append_ ts ty #[.slice base sLen sCap, v]).run P w = .ok (.slice base (sLen + n) sCap) w' := by
  cases base with
  | none =>
    have := hnil rfl; subst this
    simp [Builtin.append_, h0, h1, run_underlying hu, run_underlying hu', sizeOf, typeInfo, hi, hlen, hcap, hnew]
  | some a =>
    simp [Builtin.append_, h0, h1, run_underlying hu, run_underlying hu', sizeOf, typeInfo, hi, hlen, hcap, hnew, hst a rfl]

theorem op_append {lim : Nat} {t t' ty : TypeId} {d' : TypeDesc} {s x y : AV} {u v : Value} {H' : AHeap} (hI : Inv P ρ H w) (hs : VR ρ s u) (hx : VR ρ x v) (hl : lim ≤ H.next)
    (hu' : und P t' = some d') (hd' : ∀ k, d' ≠ .int k) (ts : Array TypeId) (h0 : ts[0]? = some t) (h1 : ts[1]? = some t') (h : aappend P lim H t s x = some (y, H')) :
    ∃ ρ' r w', (Builtin.append_ ts ty #[u, v]).run P w = .ok r w' ∧ VR ρ' y r ∧ Step P lim ρ H w ρ' H' w' := by
  unfold aappend at h
  split at h
  · rename_i elem hu
    replace h := Option.bind_eq_some_iff.1 h
    obtain ⟨info, hi, h⟩ := h
    replace h := Option.bind_eq_some_iff.1 h
    obtain ⟨z, hz, h⟩ := h
    obtain ⟨zv, hzv, hzz⟩ := Option.bind_eq_some_iff.1 hz
    replace h := Option.bind_eq_some_iff.1 h
    obtain ⟨⟨n, new⟩, hsrc, h⟩ := h
    obtain ⟨hlen, vs, hvs, hrel⟩ := src_rel hI hx hsrc
    have hcell : ∀ a, w.drew.cell? a = w.cell? a := fun a => by simp
    have hzl : zv.cells.toList.length = z.cells.length := by rw [(ofV_rel (ρ := ρ) zv z hzz).cells.length]
    clear hz
    dsimp only at h
    split at h
    · rename_i hc
      obtain ⟨hb, hsz, hzs, hone⟩ := hc
      -- what a new row stands for
      have fresh : ∀ (H0 : AHeap) (old : List AV) (olds : List Value) (base : Option Addr) (sLen sCap : Nat), Inv P ρ H0 w → H0.next = H.next → VRs ρ old olds → olds.length = sLen * info.size → vs.length = n * info.size → ¬ (sLen + n ≤ sCap) → sLen + n ≤ 1048576 →
          (Builtin.firstCells info.size sLen (.slice base sLen sCap)).run P w.drew = .ok olds.toArray w.drew →
          ∃ ρ' r w', (Builtin.append_ ts ty #[.slice base sLen sCap, v]).run P w = .ok r w' ∧ VR ρ' (.sl H.next 0 (sLen + n) (sLen + n)) r ∧ Step P lim ρ H0 w ρ' (H0.alloc (.cells (old ++ new) elem false)) w' := by
        intro H0 old olds base sLen sCap hI0 hn0 hor hol hvl hcap hsmall hold
        have hrun := run_append_grow (P := P) (ty := ty) (zv := zv) hu hu' hd' hi hzv hlen hold (hvs _ hcell) rfl hcap hsmall hb ts h0 h1
        have hg : sLen + n ≤ grownCap w (sLen + n) sCap elem := by simp [grownCap, Question.cut]
        have hsize : (olds.toArray ++ vs.toArray ++ Builtin.zeroCells zv.cells (grownCap w (sLen + n) sCap elem - (sLen + n))).size = grownCap w (sLen + n) sCap elem * info.size := by
          simp only [Array.size_append, List.size_toArray, zeroCells_size]
          rw [← Array.length_toList, hzl, hzs, hol, hvl, ← Nat.add_mul, ← Nat.add_mul]
          congr 1; omega
        have hes : P.cellsOf elem = info.size := by simp [Program.cellsOf, hi]
        have hlist : (olds.toArray ++ vs.toArray ++ Builtin.zeroCells zv.cells (grownCap w (sLen + n) sCap elem - (sLen + n))).toList = (olds ++ vs) ++ (Builtin.zeroCells zv.cells (grownCap w (sLen + n) sCap elem - (sLen + n))).toList := by
          simp
        generalize olds.toArray ++ vs.toArray ++ Builtin.zeroCells zv.cells (grownCap w (sLen + n) sCap elem - (sLen + n)) = CN at hrun hsize hlist
        have hOR := OR.loose (P := P) (ρ := ρ.put H0.next ⟨w.heap.size, 0, false, CN.size, info.size⟩) (c := old ++ new) (Cs := olds ++ vs) (e := elem) (k := w.heap.size) (esz := info.size) (fr := (0, 0))
          (C := CN) ((hor.append hrel).mono (Rho.put_ext (hI0.fresh _ (Nat.le_refl _)))) (by rw [hlist]; exact List.take_left) (by rw [← Array.length_toList, hlist]; simp) hes (fun i _ => by simp)
        refine ⟨_, _, _, hrun, ?_, Step.new hI0 _ _ ⟨w.heap.size, 0, false, CN.size, info.size⟩ rfl hOR (by omega) (by simp) (heap_alloc_new w.drew _) (fun k hk => RowKit.Below.heap_alloc w.drew _ _ hk) rfl rfl rfl⟩
        refine VR.sl H.next 0 (sLen + n) (sLen + n) _ ⟨w.heap.size, 0, false, CN.size, info.size⟩ (by rw [← hn0]; simp [Rho.put]) (Nat.le_refl _) hg (by simp) (fun _ => ?_)
        rw [hsize]; simp
      have hvl : vs.length = n * info.size := by rw [← hrel.length]; exact hsz
      split at h
      · -- the nil slice
        cases hs
        split at h
        · rename_i hn
          simp only [Option.some.injEq, Prod.mk.injEq] at h
          obtain ⟨rfl, rfl⟩ := h
          subst hn
          exact ⟨ρ, _, w, run_append_fits hu hu' hd' hi hlen (hvs w fun _ => rfl) (by omega) (by simp) (fun _ => rfl) ts h0 h1, .nilsl, Step.refl hI⟩
        · rename_i hn
          split at h
          · rename_i hn2
            simp only [Option.some.injEq, Prod.mk.injEq] at h
            obtain ⟨rfl, rfl⟩ := h
            have := fresh H [] [] none 0 0 hI rfl .nil (by simp) hvl (by omega) (by omega) (by simp [Builtin.firstCells])
            simpa using this
          · cases h
      · rename_i b o len cap
        split at h
        · rename_i hn
          simp only [Option.some.injEq, Prod.mk.injEq] at h
          obtain ⟨rfl, rfl⟩ := h
          subst hn
          have hvs0 : vs = [] := List.length_eq_zero_iff.1 (by simpa using hvl)
          subst hvs0
          cases hs with
          | sl _ _ _ _ cc r hr hll hcc htt hss =>
            exact ⟨ρ, _, w, run_append_fits hu hu' hd' hi hlen (hvs w fun _ => rfl) (by omega) (fun a _ => by simp [storeCells]) (by simp) ts h0 h1, .sl b o len cap cc r hr hll hcc htt hss, Step.refl hI⟩
          | sl0 _ _ a =>
            exact ⟨ρ, _, w, run_append_fits hu hu' hd' hi hlen (hvs w fun _ => rfl) (by omega) (fun a _ => by simp [storeCells]) (by simp) ts h0 h1, .sl0 b o a, Step.refl hI⟩
        · rename_i hn
          split at h
          · rename_i hfit
            obtain ⟨H1, hw, h⟩ := Option.map_eq_some_iff.1 h
            simp only [Prod.mk.injEq] at h
            obtain ⟨rfl, rfl⟩ := h
            cases hs with
            | sl _ _ _ _ cc r hr hll hcc htt hss =>
              obtain ⟨w', hrun, hst, -⟩ := run_write (P := P) hI hr hrel hw
              refine ⟨ρ, _, w', run_append_fits hu hu' hd' hi hlen (hvs w fun _ => rfl) (by omega) (fun a ha => ?_) (by simp) ts h0 h1, .sl b o (len + n) cap cc r hr hfit hcc htt hss, hst⟩
              injection ha with ha
              subst ha
              exact hrun _ (by rw [add_none, Nat.add_assoc])
            | sl0 => omega
          · rename_i hfit
            split at h
            · rename_i hsmall
              replace h := Option.bind_eq_some_iff.1 h
              obtain ⟨⟨n', old⟩, hso, h⟩ := h
              obtain ⟨hlo, olds, hold, hor⟩ := src_rel hI hs hso
              have hnl : n' = len := by
                simp only [asrc] at hso
                split at hso
                · split at hso
                  · injection hso with hso; exact (Prod.mk.inj hso).1.symm
                  · cases hso
                · cases hso
              subst hnl
              have holen : olds.length = n' * info.size := by
                rw [← hor.length]
                simp only [asrc] at hso
                split at hso
                · split at hso
                  · rename_i hlt
                    injection hso with hso
                    rw [← (Prod.mk.inj hso).2]; simp; omega
                  · cases hso
                · cases hso
              dsimp only at h
              split at h
              · rename_i c e tight hgb
                split at h
                · rename_i he
                  subst he
                  split at h
                  · rename_i ht
                    simp only [Option.some.injEq, Prod.mk.injEq] at h
                    obtain ⟨rfl, rfl⟩ := h
                    cases hs with
                    | sl _ _ _ _ cc r hr hll hcc htt hss =>
                      obtain ⟨C, fr, hC, k2, -⟩ := hI.block hgb hr
                      have := htt (by rw [← k2]; exact ht)
                      subst this
                      exact fresh H old olds _ _ _ hI rfl hor holen hvl hfit hsmall (hold _ hcell)
                    | sl0 _ _ a =>
                      exact fresh H old olds _ _ _ hI rfl hor holen hvl hfit hsmall (hold _ hcell)
                  · rename_i ht
                    split at h
                    · rename_i hlb
                      simp only [Option.some.injEq, Prod.mk.injEq] at h
                      obtain ⟨rfl, rfl⟩ := h
                      have hd := Step.drop hI b hlb
                      have grow : ∀ base cc, ¬ (n' + n ≤ cc) → (Builtin.firstCells info.size n' (.slice base n' cc)).run P w.drew = .ok olds.toArray w.drew →
                          ∃ ρ' r w', (Builtin.append_ ts ty #[.slice base n' cc, v]).run P w = .ok r w' ∧ VR ρ' (.sl H.next 0 (n' + n) (n' + n)) r ∧ Step P lim ρ H w ρ' ((H.put b none).alloc (.cells (old ++ new) e false)) w' := by
                        intro base cc hcc hold'
                        obtain ⟨ρ', r, w', q1, q2, q3⟩ := fresh (H.put b none) old olds base n' cc hd.inv rfl hor holen hvl hcc hsmall hold'
                        exact ⟨ρ', r, w', q1, q2, hd.trans q3⟩
                      cases hs with
                      | sl _ _ _ _ cc r hr hll hcc htt hss =>
                        by_cases hroom : n' + n ≤ cc
                        · obtain ⟨C, fr, hC, k2, k3, k4, k5, k6, k7⟩ := hI.block hgb hr
                          have hrt : r.tight = false := by rw [← k2]; simpa using ht
                          have hss' := hss hrt
                          obtain ⟨k7a, k7b⟩ := k7 (by simpa using ht)
                          have hes : info.size = r.esz := by rw [← k7b]; simp [Program.cellsOf, hi]
                          have hm1 : (n' + n) * r.esz ≤ cc * r.esz := Nat.mul_le_mul_right _ hroom
                          have hm2 : (n' + n) * r.esz = n' * r.esz + n * r.esz := Nat.add_mul _ _ _
                          rw [hes] at hvl holen
                          have hcl : olds.length ≤ c.length - o := by
                            have := hor.length
                            simp only [asrc] at hso
                            rw [hgb] at hso
                            simp only at hso
                            split at hso
                            · rename_i hlt; rw [holen, ← hes]; omega
                            · cases hso
                          have hones := hrel.ones hone
                          have hrun := run_storeCells_cells (P := P) r.cb (r.co + o + n' * r.esz) vs 0 w (fun j hj => by
                              rw [cell_of hC]; simp; omega)
                            (fun j hj => by
                              rw [frozen_of hC]
                              have := k7a (r.co + o + n' * r.esz + 0 + j) (by omega)
                              simpa using this) hones
                          obtain ⟨s1, s2, s3, s4⟩ := setCells_heap r.cb vs (r.co + o + n' * r.esz) w C e fr hC (by omega)
                          refine ⟨ρ.put H.next ⟨r.cb, r.co + o, false, r.size, r.esz⟩, _, _, run_append_fits hu hu' hd' hi hlen (hvs w fun _ => rfl) hroom (fun a ha => ?_) (by simp) ts h0 h1,
                            VR.sl H.next 0 (n' + n) (n' + n) cc ⟨r.cb, r.co + o, false, r.size, r.esz⟩ (by simp [Rho.put]) (Nat.le_refl _) hroom (by simp) (fun _ => by simp; exact hss'),
                            Step.take hI b _ r ⟨r.cb, r.co + o, false, r.size, r.esz⟩ hr ⟨_, hgb⟩ hlb rfl _ ?_ s1 s2 s3 s4 hl⟩
                          · injection ha with ha
                            subst ha
                            rw [add_none, hes]
                            simpa using hrun
                          · have hlen2 := (hor.append hrel).length
                            refine ⟨rfl, rfl, ?_, ?_, ?_, ?_, ?_⟩
                            · simp; omega
                            · simp [hlen2]; omega
                            · rw [hlen2]
                              have : (List.drop (r.co + o) ((C.toList.take (r.co + o + n' * r.esz) ++ vs ++ C.toList.drop (r.co + o + n' * r.esz + vs.length)).toArray).toList).take (olds ++ vs).length = olds ++ vs := by
                                have h1 := hold w (fun _ => rfl)
                                simp only [Builtin.firstCells] at h1
                                have hl3 : ((C.toList.drop (r.co + o)).take (n' * info.size)).length = n' * info.size := by
                                  rw [hes]; simp; omega
                                have h2 := run_loadCells_list (P := P) w ⟨r.cb, r.co + o, none⟩ ((C.toList.drop (r.co + o)).take (n' * info.size)) (fun j v hj => by
                                  rw [add_none, cell_of hC, ← Array.getElem?_toList]
                                  have hjn := (List.getElem?_eq_some_iff.1 hj).1
                                  rw [hl3] at hjn
                                  rw [List.getElem?_take_of_lt hjn, List.getElem?_drop] at hj
                                  exact hj)
                                rw [hl3, h1] at h2
                                injection h2 with h2
                                have h3 : olds = (C.toList.drop (r.co + o)).take (n' * info.size) := by simpa using congrArg Array.toList h2
                                rw [hes] at h3
                                dsimp only
                                apply List.ext_getElem?
                                intro i
                                by_cases hi' : i < (olds ++ vs).length
                                · rw [List.getElem?_take_of_lt hi', List.getElem?_drop]
                                  simp at hi'
                                  by_cases hi1 : i < olds.length
                                  · rw [List.append_assoc, List.getElem?_append_left (by simp; omega), List.getElem?_take_of_lt (by omega), List.getElem?_append_left hi1, h3, List.getElem?_take_of_lt (by omega), List.getElem?_drop]
                                  · rw [List.append_assoc, List.getElem?_append_right (by simp; omega), List.getElem?_append_left (by simp; omega), List.getElem?_append_right (by omega)]
                                    congr 1
                                    simp; omega
                                · rw [List.getElem?_eq_none (by simp at hi' ⊢; omega), List.getElem?_eq_none (by omega)]
                              rw [this]
                              exact (hor.append hrel).mono (Rho.put_ext (hI.fresh _ (Nat.le_refl _)))
                            · intro i hi
                              exact k7a _ (by simp [hlen2] at hi; simp; omega)
                            · intro _
                              exact ⟨fun i hi => k7a i (by simp at hi; omega), k7b⟩
                        · exact grow _ cc hroom (hold _ hcell)
                      | sl0 _ _ a => exact grow _ 0 hfit (hold _ hcell)
                    · cases h
                · cases h
              · cases h
            · cases h
      · cases h
    · cases h
  · cases h
end
end Go.Proofs.YtklenhohljeacaaDoor.Ex
