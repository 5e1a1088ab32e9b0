/-
  An executor over the model's code: operations, one by one (8): len, copy, maps.
-/
import Derived.Test.YtklenhohljeacaaDoorExOps7
namespace Go.Proofs.YtklenhohljeacaaDoor.Ex
open Go
variable [Dec] [Env]

section
variable {P : Program} {w : World} {ρ : Rho} {H : AHeap}

theorem Inv.map (h : Inv P ρ H w) {b : Nat} {es : List Ent} {k : Nat} {r : RB} (hb : H.get b = some (.map es k)) (hr : ρ b = some r) :
    ∃ ES : Array MapEntry, w.heap[r.cb]? = some (.map ES k) ∧ ER ρ es ES.toList := by
  obtain ⟨C, hC, hO⟩ := h.obj b _ r hb hr
  cases C <;> try exact hO.elim
  obtain ⟨rfl, h2⟩ := hO
  exact ⟨_, hC, h2⟩

omit [Dec] [Env] in
theorem run_getMap {r k : Nat} {ES : Array MapEntry} (h : w.heap[r]? = some (.map ES k)) : (getObj r).run P w = .ok (.map ES k) w := by
  simp [getObj, Sem.run, h]

theorem ER.length : ∀ {es : List Ent} {ms : List MapEntry}, ER ρ es ms → es.length = ms.length
  | _, _, .nil => rfl
  | _, _, .cons _ _ _ _ _ _ _ t => by simp [t.length]

theorem op_len {t ty : TypeId} {x y : AV} {v : Value} (hI : Inv P ρ H w) (hv : VR ρ x v) (ts : Array TypeId) (h0 : ts[0]? = some t) (h : alen P H t x = some y) :
    ∃ r, (Builtin.len_ ts ty #[v]).run P w = .ok r w ∧ VR ρ y r := by
  unfold alen at h
  split at h
  · rename_i s hu
    injection h with h; subst h
    cases hv with | str S _ hS =>
    refine ⟨.int .i64 S.size, by simp [Builtin.len_, h0, run_und hu, goInt], ?_⟩
    have : s.length = S.size := by rw [hS]; simp
    rw [this]; exact .int _ _
  · rename_i n e hu
    injection h with h; subst h
    exact ⟨_, by simp [Builtin.len_, h0, run_und hu, goInt], .int _ _⟩
  · rename_i e b o n c hu
    injection h with h; subst h
    cases hv with
    | sl => exact ⟨_, by simp [Builtin.len_, h0, run_und hu, goInt], .int _ _⟩
    | sl0 => exact ⟨_, by simp [Builtin.len_, h0, run_und hu, goInt], .int _ _⟩
  · rename_i e hu
    injection h with h; subst h
    cases hv
    exact ⟨_, by simp [Builtin.len_, h0, run_und hu, goInt], .int _ _⟩
  · rename_i k e hu
    injection h with h; subst h
    cases hv
    exact ⟨_, by simp [Builtin.len_, h0, run_und hu, goInt], .int _ _⟩
  · rename_i k e r hu
    split at h
    · rename_i es c hb
      injection h with h; subst h
      cases hv with | map _ r hr =>
      obtain ⟨ES, hES, hER⟩ := hI.map hb hr
      refine ⟨.int .i64 ES.size, by simp [Builtin.len_, h0, run_und hu, run_getMap hES, goInt], ?_⟩
      rw [hER.length]
      simpa using VR.int _ _
    · cases h
  · cases h

theorem op_copy {lim : Nat} {t ty : TypeId} {d s y : AV} {u v : Value} {H' : AHeap} (hI : Inv P ρ H w) (hd : VR ρ d u) (hs : VR ρ s v) (ts : Array TypeId) (h0 : ts[0]? = some t)
    (h : acopy P lim H t d s = some (y, H')) : ∃ r w', (Builtin.copy_ ts ty #[u, v]).run P w = .ok r w' ∧ VR ρ y r ∧ Step P lim ρ H w ρ H' w' := by
  unfold acopy at h
  split at h
  · rename_i elem b o dl dc hu
    replace h := Option.bind_eq_some_iff.1 h
    obtain ⟨size, hsz, h⟩ := h
    split at h
    · rename_i h0'
      subst h0'
      have hn : ∀ (a : Option Addr) (cc : Nat), (Builtin.copy_ ts ty #[.slice a 0 cc, v]).run P w = .ok (goInt 0) w := by
        intro a cc
        split at h
        · cases hs <;> cases a <;> simp [Builtin.copy_, h0, run_und hu, run_sz hsz, Builtin.lenOf, Builtin.firstCells, loadCells, loadCellsFrom, storeCells]
        · cases hs <;> cases a <;> simp [Builtin.copy_, h0, run_und hu, run_sz hsz, Builtin.lenOf, Builtin.firstCells, storeCells]
        · cases hs with | str S _ hS =>
          have h2 : S.extract 0 0 = .empty := by simp
          cases a <;> simp [Builtin.copy_, h0, run_und hu, run_sz hsz, Builtin.lenOf, Builtin.firstCells, storeCells]
        · cases h
      have hy : y = .int .i64 0 ∧ H' = H := by
        split at h <;> simp at h <;> exact ⟨h.1.symm, h.2.symm⟩
      obtain ⟨rfl, rfl⟩ := hy
      cases hd with
      | sl _ _ _ _ cc r hr _ _ _ _ => exact ⟨_, w, hn _ cc, .int _ _, Step.refl hI⟩
      | sl0 _ _ a => exact ⟨_, w, hn _ 0, .int _ _, Step.refl hI⟩
    rename_i hdl
    replace h := Option.bind_eq_some_iff.1 h
    obtain ⟨⟨n, new⟩, hsrc, h⟩ := h
    -- what is read
    have hread : ∃ vs : List Value, (Builtin.lenOf v >>= fun l => Builtin.firstCells size (Nat.min l dl) v).run P w = .ok vs.toArray w ∧ (Builtin.lenOf v >>= fun l => pure (Nat.min l dl)).run P w = .ok n w ∧ VRs ρ new vs := by
      split at hsrc
      · rename_i b' o' n' c'
        have hv' : ∃ v', VR ρ (.sl b' o' (min n' dl) c') v' ∧ ∃ a k cc, v = .slice a k cc ∧ k = n' ∧ v' = .slice a (min n' dl) cc := by
          cases hs with
          | sl _ _ _ _ cc r hr hll hcc htt hss => exact ⟨_, .sl b' o' (min n' dl) c' cc r hr (by omega) hcc htt hss, _, _, _, rfl, rfl, rfl⟩
          | sl0 _ _ a => exact ⟨.slice (some a) 0 0, by simpa using VR.sl0 (ρ := ρ) b' o' a, _, _, _, rfl, rfl, by simp⟩
        obtain ⟨v', hv', a, k, cc, rfl, rfl, rfl⟩ := hv'
        obtain ⟨hlen, vs, hvs, hrel⟩ := src_rel hI hv' hsrc
        have h1 := hvs w (fun _ => rfl)
        simp [Builtin.lenOf] at hlen
        subst hlen
        refine ⟨vs, ?_, by simp [Builtin.lenOf], hrel⟩
        cases a <;> simpa [Builtin.lenOf, Builtin.firstCells] using h1
      · rename_i l
        simp only [asrc, Option.some.injEq, Prod.mk.injEq] at hsrc
        obtain ⟨rfl, rfl⟩ := hsrc
        cases hs with | str S _ hS =>
        subst hS
        have hl : (List.take dl (S.data.toList.map UInt8.toNat)).length = min S.size dl := by simp [Nat.min_comm]
        refine ⟨(S.data.toList.take (min S.size dl)).map fun b => .int .u8 b.toNat, ?_, by simp [Builtin.lenOf, hl], ?_⟩
        · simp only [Builtin.lenOf, Builtin.firstCells, Sem.run_bind, Sem.run_pure, Result.andThen_ok]
          congr 1
          apply Array.ext'
          simp only [Array.toList_map, Lib.extract_data]
          simp
        · rw [← List.map_take]
          have e : List.take dl S.data.toList = List.take (min S.size dl) S.data.toList := by
            apply List.ext_getElem?
            intro i
            simp only [List.getElem?_take]
            have : S.size = S.data.toList.length := by simp
            by_cases h1 : i < dl <;> by_cases h2 : i < min S.size dl
            · simp [h1, h2]
            · rw [if_pos h1, if_neg h2]; exact List.getElem?_eq_none (by omega)
            · omega
            · simp [h1, h2]
          rw [e]
          exact VRs.map_bytes _
      · simp only [Option.some.injEq, Prod.mk.injEq] at hsrc
        obtain ⟨rfl, rfl⟩ := hsrc
        cases hs
        exact ⟨[], by simp [Builtin.lenOf, Builtin.firstCells], by simp [Builtin.lenOf], .nil⟩
      · cases hsrc
    obtain ⟨vs, hr1, hr2, hrel⟩ := hread
    dsimp only at h
    split at h
    · rename_i hone
      obtain ⟨H1, hw, h⟩ := Option.map_eq_some_iff.1 h
      simp only [Prod.mk.injEq] at h
      obtain ⟨rfl, rfl⟩ := h
      have hrun : ∀ (a : Addr) (cc : Nat) (w' : World), (storeCells a vs).run P w = .ok () w' → (Builtin.copy_ ts ty #[.slice (some a) dl cc, v]).run P w = .ok (goInt n) w' := by
        intro a cc w' hst
        obtain ⟨l, hl, hl2⟩ : ∃ l, (Builtin.lenOf v).run P w = .ok l w ∧ Nat.min l dl = n := by
          cases v <;> simp [Builtin.lenOf] at hr2 ⊢ <;> exact hr2
        rw [Sem.run_bind, hl, Result.andThen_ok, hl2] at hr1
        have h2 : ts[0]? = some t := h0
        simp [Builtin.copy_, h2, run_und hu, hl, hl2, run_sz hsz, hr1, hst]
      cases hd with
      | sl _ _ _ _ cc r hr _ _ _ _ =>
        obtain ⟨w', hst, hstep, -⟩ := run_write (P := P) hI hr hrel hw
        exact ⟨_, w', hrun _ cc w' (hst _ rfl), .int _ _, hstep⟩
      | sl0 _ _ a => exact absurd rfl hdl
    · cases h
  · rename_i e hu
    cases hd
    split at h
    · rename_i hsz
      obtain ⟨size, hsz⟩ := Option.isSome_iff_exists.1 hsz
      have hn : (Builtin.copy_ ts ty #[.slice none 0 0, v]).run P w = .ok (goInt 0) w := by
        split at h
        · cases hs <;> simp [Builtin.copy_, h0, run_und hu, run_sz hsz, Builtin.lenOf, Builtin.firstCells, loadCells, loadCellsFrom]
        · cases hs <;> simp [Builtin.copy_, h0, run_und hu, run_sz hsz, Builtin.lenOf, Builtin.firstCells]
        · cases hs with | str S _ hS =>
          simp [Builtin.copy_, h0, run_und hu, run_sz hsz, Builtin.lenOf, Builtin.firstCells]
        · cases h
      have hy : y = .int .i64 0 ∧ H' = H := by
        split at h <;> simp at h <;> exact ⟨h.1.symm, h.2.symm⟩
      obtain ⟨rfl, rfl⟩ := hy
      exact ⟨_, w, hn, .int _ _, Step.refl hI⟩
    · cases h
  · cases h
end
end Go.Proofs.YtklenhohljeacaaDoor.Ex
