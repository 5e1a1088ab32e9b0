/-
  An executor over the model's code: operations, one by one (2): what is built, made, sliced.
-/
import Derived.Test.YtklenhohljeacaaDoorExOps1
namespace Go.Proofs.YtklenhohljeacaaDoor.Ex
open Go
variable [Dec] [Env]

section
variable {P : Program} {w : World} {ρ : Rho} {H : AHeap}

omit [Dec] [Env] in
theorem foldl_set (off : Nat) : ∀ (vs : List Value) (k : Nat) (C : Array Value), off + k + vs.length ≤ C.size →
    (vs.zipIdx k).foldl (fun cs (x : Value × Nat) => cs.setIfInBounds (off + x.2) x.1) C = (C.toList.take (off + k) ++ vs ++ C.toList.drop (off + k + vs.length)).toArray
  | [], k, C, h => by simp
  | v :: vs, k, C, h => by
    simp at h
    rw [List.zipIdx_cons, List.foldl_cons, foldl_set off vs (k + 1) _ (by simp; omega)]
    congr 1
    rw [Array.toList_setIfInBounds]
    have e2 : (C.toList.set (off + k) v).take (off + (k + 1)) = C.toList.take (off + k) ++ [v] := by
      rw [show off + (k + 1) = off + k + 1 by omega, List.take_succ_eq_append_getElem (by simp; omega)]
      simp [List.take_set_of_le]
    rw [e2, List.drop_set_of_lt (by omega)]
    simp [Nat.add_assoc, Nat.add_comm 1]

theorem fill_rel {place : Nat → Option (Nat × Nat)} : ∀ {ps : List (Nat × AV)} {qs : List (Nat × Value)} {cells cs : List AV} {C : List Value},
    ps.map (·.1) = qs.map (·.1) → VRs ρ (ps.map (·.2)) (qs.map (·.2)) → VRs ρ cells C → afill place cells ps = some cs →
    ∃ D : List Value, Instr.fill place C.toArray qs = some D.toArray ∧ VRs ρ cs D
  | [], [], cells, cs, C, _, _, hC, h => by simp [afill] at h; subst h; exact ⟨C, rfl, hC⟩
  | [], _ :: _, _, _, _, h, _, _, _ => by simp at h
  | _ :: _, [], _, _, _, h, _, _, _ => by simp at h
  | (i, x) :: ps, (j, v) :: qs, cells, cs, C, h1, h2, hC, h => by
    simp at h1
    obtain ⟨rfl, h1⟩ := h1
    cases h2 with
    | cons _ _ _ _ hv h2 =>
    simp only [afill] at h
    split at h
    · cases h
    · rename_i off size hp
      split at h
      · rename_i hc
        obtain ⟨hsz, hlt⟩ := hc
        have hcells := hv.cells
        have hl : x.cells.length = v.cells.size := by rw [hcells.length]; simp
        have hCl := hC.length
        have := VRs.splice off hC hcells
        obtain ⟨D, hD, hrel⟩ := fill_rel h1 h2 this h
        refine ⟨D, ?_, hrel⟩
        simp only [Instr.fill, hp]
        have hcond : ((v.cells.size ≠ size) || decide (off + v.cells.size > C.toArray.size)) = false := by
          simp; omega
        simp only [hcond]
        have hfold := foldl_set off v.cells.toList 0 C.toArray (by simp; omega)
        have e : (v.cells.zipIdx.foldl (fun cs (x : Value × Nat) => cs.setIfInBounds (off + x.2) x.1) C.toArray) = (C.take off ++ v.cells.toList ++ C.drop (off + v.cells.toList.length)).toArray := by
          rw [← Array.foldl_toList, Array.toList_zipIdx]
          simpa using hfold
        show Instr.fill place (v.cells.zipIdx.foldl (fun cs (x : Value × Nat) => cs.setIfInBounds (off + x.2) x.1) C.toArray) qs = _
        rw [e]
        exact hD
      · cases h

omit [Dec] [Env] in
theorem run_mapM {α β : Type} (g : α → Sem β) (f : α → β) : ∀ (l : List α), (∀ a ∈ l, (g a).run P w = .ok (f a) w) → (l.mapM g).run P w = .ok (l.map f) w
  | [], _ => by simp
  | a :: l, h => by
    simp [List.mapM_cons, h a (by simp), run_mapM g f l (fun b hb => h b (by simp [hb]))]

theorem pair_rel {gl : Nat} {fr : AFr} {a : Act} (hf : FR ρ fr a.tmps) (hg : GOK ρ gl) {parts : Array (Nat × Operand)} {vs : List AV} (h : aevs gl fr (parts.toList.map (·.2)) = some vs) :
    (aparts (parts.toList.map (·.1)) vs).map (·.1) = (parts.toList.map fun p => (p.1, a.eval p.2)).map (·.1) ∧
    VRs ρ ((aparts (parts.toList.map (·.1)) vs).map (·.2)) ((parts.toList.map fun p => (p.1, a.eval p.2)).map (·.2)) := by
  have hr := aevs_rel hf hg h
  have hl := hr.length
  simp at hl
  constructor
  · simp only [aparts]
    rw [List.map_fst_zip (by simp [hl])]
    simp
  · simp only [aparts]
    rw [List.map_snd_zip (by simp [hl])]
    simpa [Function.comp_def] using hr

theorem build_struct {t : TypeId} {fs : Array Field} {z : AV} {ps : List (Nat × AV)} {qs : List (Nat × Value)} {cs : List AV} (hu : und P t = some (.struct fs))
    (ha : fs.all (fun f => (sz P f.type).isSome) = true) (hz : zero P t = some z) (h1 : ps.map (·.1) = qs.map (·.1)) (h2 : VRs ρ (ps.map (·.2)) (qs.map (·.2)))
    (h : afill (aplaces P fs) z.cells ps = some cs) : ∃ v, (Instr.build t qs.toArray).run P w = .ok v w ∧ VR ρ (.agg cs) v := by
  obtain ⟨zv, hzr, hzv⟩ := run_zero hz
  obtain ⟨D, hD, hrel⟩ := fill_rel h1 h2 (hzv ρ).cells h
  refine ⟨.agg D.toArray, ?_, .agg _ _ hrel⟩
  have hm : (fs.mapM (fun f => do pure (f.offset, ← sizeOf f.type) : Field → Sem (Nat × Nat))).run P w = .ok (fs.toList.map fun f => (f.offset, (sz P f.type).getD 0)).toArray w := by
    obtain ⟨l⟩ := fs
    rw [List.mapM_toArray]
    simp only [Sem.run_map]
    rw [run_mapM _ (fun f => (f.offset, (sz P f.type).getD 0)) l]
    · rfl
    · intro f hf
      have hs : (sz P f.type).isSome = true := by
        have := Array.all_eq_true_iff_forall_mem.1 ha f (by simpa using hf)
        exact this
      obtain ⟨n, hn⟩ := Option.isSome_iff_exists.1 hs
      simp [run_sz hn, hn]
  have hpl : (fun i => (fs.toList.map fun f => (f.offset, (sz P f.type).getD 0)).toArray[i]?) = aplaces P fs := by
    funext i
    simp only [aplaces, List.getElem?_toArray, List.getElem?_map, Array.getElem?_toList]
    cases hi : fs[i]? with
    | none => simp
    | some f =>
      have hs : (sz P f.type).isSome = true := Array.all_eq_true_iff_forall_mem.1 ha f (Array.mem_of_getElem? hi)
      obtain ⟨n, hn⟩ := Option.isSome_iff_exists.1 hs
      simp [hn]
  simp only [Instr.build, Sem.run_bind, hzr, Result.andThen_ok, run_und hu, hm]
  simp only [Array.toArray_toList] at hD
  rw [hpl, show zv.cells = zv.cells.toList.toArray by simp]
  simp [hD]

theorem build_array {t e n k : Nat} {z : AV} {ps : List (Nat × AV)} {qs : List (Nat × Value)} {cs : List AV} (hu : und P t = some (.array k e))
    (hs : sz P e = some n) (hz : zero P t = some z) (h1 : ps.map (·.1) = qs.map (·.1)) (h2 : VRs ρ (ps.map (·.2)) (qs.map (·.2)))
    (h : afill (fun i => some (i * n, n)) z.cells ps = some cs) : ∃ v, (Instr.build t qs.toArray).run P w = .ok v w ∧ VR ρ (.agg cs) v := by
  obtain ⟨zv, hzr, hzv⟩ := run_zero hz
  obtain ⟨D, hD, hrel⟩ := fill_rel h1 h2 (hzv ρ).cells h
  refine ⟨.agg D.toArray, ?_, .agg _ _ hrel⟩
  simp only [Array.toArray_toList] at hD
  simp only [Instr.build, Sem.run_bind, hzr, Result.andThen_ok, run_und hu, run_sz hs]
  simp [hD]

omit [Dec] [Env] in
theorem zeros_eq (Z : List Value) (n : Nat) (_hZ : 0 < Z.length) :
    (Array.range (n * Z.length)).map (fun i => Z.toArray[i % Z.toArray.size]!) = ((List.replicate n Z).flatten).toArray := by
  apply Array.ext'
  simp only [Array.toList_map, Array.toList_range]
  induction n with
  | zero => simp
  | succ n ih =>
    rw [Nat.succ_mul, Nat.add_comm, List.range_add, List.map_append, List.replicate_succ, List.flatten_cons]
    congr 1
    · apply List.ext_getElem?
      intro i
      by_cases hi : i < Z.length
      · simp [hi, Nat.mod_eq_of_lt hi]
      · rw [List.getElem?_eq_none (by simp; omega), List.getElem?_eq_none (by omega)]
    · rw [← ih, List.map_map]
      apply List.map_congr_left
      intro i _
      simp

theorem OR.row {c : List AV} {C : List Value} {e : TypeId} {t : Bool} {k esz : Nat} (h : VRs ρ c C) (he : t = false → P.cellsOf e = esz) :
    OR P ρ ⟨k, 0, t, C.length, esz⟩ (.cells c e t) (.cells C.toArray e (0, 0)) := by
  refine ⟨rfl, rfl, by simp, by simp [h.length], ?_, ?_, ?_⟩
  · simp [h.length]; exact h
  · intro i _; simp
  · intro ht; exact ⟨fun i _ => by simp, he ht⟩

/-- A new row. -/
theorem Step.row {lim : Nat} (h : Inv P ρ H w) {c : List AV} {C : List Value} {e : TypeId} (hc : VRs ρ c C) (hl : lim ≤ H.next) :
    ∃ ρ', Step P lim ρ H w ρ' (H.alloc (.cells c e true)) (w.alloc (.cells C.toArray e)) ∧ ρ' H.next = some ⟨w.heap.size, 0, true, C.length, 0⟩ :=
  ⟨_, Step.alloc h _ _ ⟨w.heap.size, 0, true, C.length, 0⟩ rfl (OR.row (hc.mono (Rho.put_ext (h.fresh _ (Nat.le_refl _)))) (by simp)) hl, by simp [Rho.put]⟩

theorem new_ptr {ρ' : Rho} {b k n s : Nat} {t : Bool} (h : ρ' b = some ⟨k, 0, t, n, s⟩) : VR ρ' (.ptr b 0) (.pointer (some ⟨k, 0, none⟩)) := VR.ptr b 0 _ h
theorem new_sl {ρ' : Rho} {b k n s l c : Nat} (h : ρ' b = some ⟨k, 0, true, n, s⟩) (hl : l ≤ c) : VR ρ' (.sl b 0 l c) (.slice (some ⟨k, 0, none⟩) l c) :=
  VR.sl b 0 l c c _ h hl (Nat.le_refl _) (fun _ => rfl) (by simp)

omit [Dec] [Env] in
theorem run_newRow (e : TypeId) (C : Array Value) : (newRow e C).run P w = .ok ⟨w.heap.size, 0, none⟩ (w.alloc (.cells C e)) := by
  simp [newRow]

theorem op_alloc {lim e : Nat} {z : AV} (h : Inv P ρ H w) (hz : zero P e = some z) (hl : lim ≤ H.next) :
    ∃ ρ' v w', (Instr.alloc e true (.tuple #[])).run P w = .ok v w' ∧ VR ρ' (.ptr H.next 0) v ∧ Step P lim ρ H w ρ' (H.alloc (.cells z.cells e true)) w' := by
  obtain ⟨zv, hzr, hzv⟩ := run_zero hz
  obtain ⟨ρ', hst, hn⟩ := Step.row (e := e) h (hzv ρ).cells hl
  refine ⟨ρ', _, _, ?_, new_ptr hn, hst⟩
  simp [Instr.alloc, hzr, newVar, run_newRow]

theorem op_box {lim e : Nat} {x : AV} {v : Value} (h : Inv P ρ H w) (hv : VR ρ x v) (hl : lim ≤ H.next) :
    ∃ ρ' v' w', (Instr.box e v).run P w = .ok v' w' ∧ VR ρ' (.ptr H.next 0) v' ∧ Step P lim ρ H w ρ' (H.alloc (.cells x.cells e true)) w' := by
  obtain ⟨ρ', hst, hn⟩ := Step.row (e := e) h hv.cells hl
  refine ⟨ρ', _, _, ?_, new_ptr hn, hst⟩
  simp [Instr.box, newVar, run_newRow]

theorem op_buildSlice {lim t e n len : Nat} {z : AV} {ps : List (Nat × AV)} {qs : List (Nat × Value)} {cs : List AV} (h : Inv P ρ H w) (hu : und P t = some (.slice e))
    (hs : sz P e = some n) (hz : zero P e = some z) (hzl : z.cells.length = n) (hb : len * n ≤ 16777216) (h1 : ps.map (·.1) = qs.map (·.1)) (h2 : VRs ρ (ps.map (·.2)) (qs.map (·.2)))
    (hf : afill (fun i => some (i * n, n)) (azeros z.cells len) ps = some cs) (hl : lim ≤ H.next) :
    ∃ ρ' v w', (Instr.buildSlice t len qs.toArray).run P w = .ok v w' ∧ VR ρ' (.sl H.next 0 len len) v ∧ Step P lim ρ H w ρ' (H.alloc (.cells cs e true)) w' := by
  obtain ⟨zv, hzr, hzv⟩ := run_zero hz
  have hzc := (hzv ρ).cells
  have hzn : zv.cells.toList.length = n := by rw [← hzc.length]; exact hzl
  obtain ⟨D, hD, hrel⟩ := fill_rel h1 h2 (VRs.azeros hzc len) hf
  obtain ⟨ρ', hst, hn⟩ := Step.row (e := e) h hrel hl
  refine ⟨ρ', _, _, ?_, new_sl hn (Nat.le_refl _), hst⟩
  have hb' : ¬ (len * n > 2 ^ 24) := by omega
  by_cases h0 : len * n = 0
  · have hD' : Instr.fill (fun i => some (i * n, n)) #[] qs = some D.toArray := by
      have : (List.replicate len zv.cells.toList).flatten = [] := by
        rcases Nat.mul_eq_zero.1 h0 with h0 | h0
        · subst h0; rfl
        · rw [h0] at hzn
          have : zv.cells.toList = [] := List.length_eq_zero_iff.1 hzn
          rw [this]; simp
      rw [this] at hD
      exact hD
    have hD2 : Instr.fill (fun i => some (i * n, n)) ((Array.range (len * n)).map fun x => (#[] : Array Value)[x % (#[] : Array Value).size]!) qs = some D.toArray := by
      rw [h0]; simpa [Array.range_zero'] using hD'
    simp only [Instr.buildSlice, Sem.run_bind, run_und hu, run_sz hs, Result.andThen_ok, h0, if_true]
    simp [hD', run_newRow, Array.range_zero']
  · have hz0 : 0 < zv.cells.toList.length := by
      rw [hzn]; exact Nat.pos_of_ne_zero fun e => h0 (by simp [e])
    have hz := zeros_eq zv.cells.toList len hz0
    rw [hzn] at hz
    simp only [Array.toArray_toList] at hz
    simp only [Instr.buildSlice, Sem.run_bind, run_und hu, run_sz hs, Result.andThen_ok, hb', if_false, h0, Sem.run_pure, hzr]
    rw [hz]
    simp [hD, run_newRow]

theorem op_makeSlice {lim t e : Nat} {k k' : IntKind} {l c : Int} {z : AV} {info : TypeInfo} (h : Inv P ρ H w) (hu : und P t = some (.slice e))
    (hi : P.info? e = some info) (hz : zero P e = some z) (h0 : 0 ≤ l) (h1 : l ≤ c) (h2 : c ≤ 16777216) (hby : info.bytes ≤ 65536) (hzl : z.cells.length = info.size) (hl : lim ≤ H.next) :
    ∃ ρ' v w', (Instr.makeSlice t (.int k l) (.int k' c)).run P w = .ok v w' ∧ VR ρ' (.sl H.next 0 l.toNat c.toNat) v ∧ Step P lim ρ H w ρ' (H.alloc (.cells (azeros z.cells c.toNat) e true)) w' := by
  obtain ⟨zv, hzr, hzv⟩ := run_zero hz
  have hzc := (hzv ρ).cells
  have hzn : zv.cells.toList.length = info.size := by rw [← hzc.length]; exact hzl
  obtain ⟨ρ', hst, hn⟩ := Step.row (e := e) h (VRs.azeros hzc c.toNat) hl
  refine ⟨ρ', _, _, ?_, new_sl hn (by omega), hst⟩
  have hs : sz P e = some info.size := by simp [sz, hi]
  have wl : IntKind.i64.wrap l = l := by unfold IntKind.wrap IntKind.bits IntKind.signed; simp; omega
  have wc : IntKind.i64.wrap c = c := by unfold IntKind.wrap IntKind.bits IntKind.signed; simp; omega
  have hbc : (info.bytes : Int) * c ≤ 65536 * 16777216 := Int.mul_le_mul (by omega) h2 (by omega) (by omega)
  have hbn : c.toNat * info.bytes ≤ 16777216 * 65536 := Nat.mul_le_mul (by omega) hby
  have tl : (decide (c < 0) || decide ((info.bytes : Int) * c > 2 ^ 48)) = false := by
    simp; omega
  have hc1 : ((decide (c < 0) || decide ((info.bytes : Int) * c > 2 ^ 48)) || decide (l < 0) || decide (l > c)) = false := by
    rw [tl]; simp; omega
  have hroom : ¬ (c.toNat * info.bytes > roomBytes) := by unfold roomBytes; omega
  have hcond : (c < 0 ∨ 281474976710656 < (info.bytes : Int) * c) = False := by simp; omega
  have hl0 : ¬ l < 0 := by omega
  have hlc : ¬ c < l := by omega
  by_cases hz0 : c.toNat * info.size = 0
  · have hfl : (List.replicate c.toNat zv.cells.toList).flatten = [] := by
      rcases Nat.mul_eq_zero.1 hz0 with h0 | h0
      · rw [h0]; rfl
      · rw [h0] at hzn
        have : zv.cells.toList = [] := List.length_eq_zero_iff.1 hzn
        rw [this]; simp
    rw [hfl]
    simp [Instr.makeSlice, run_und hu, asInt, asIntOf, run_info hi, wl, wc, hl0, hlc, askRoom, run_sz hs, hz0, run_newRow, hcond, Array.range_zero']
  · have hz1 : 0 < zv.cells.toList.length := by
      rw [hzn]; exact Nat.pos_of_ne_zero fun e => hz0 (by simp [e])
    have hzz := zeros_eq zv.cells.toList c.toNat hz1
    rw [hzn] at hzz
    simp only [Array.toArray_toList] at hzz
    rw [← hzz]
    simp [Instr.makeSlice, run_und hu, asInt, asIntOf, run_info hi, wl, wc, hl0, hlc, askRoom, run_sz hs, hz0, run_newRow, hzr, hcond]
end
end Go.Proofs.YtklenhohljeacaaDoor.Ex
