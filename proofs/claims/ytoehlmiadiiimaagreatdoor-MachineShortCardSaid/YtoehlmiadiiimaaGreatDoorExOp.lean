/-
  An executor over the model's code: one operation, whichever it is.
-/
import Derived.Test.YtoehlmiadiiimaaGreatDoorExOps
namespace Go.Proofs.YtoehlmiadiiimaaGreatDoor.Ex
open Go
variable [Dec] [Env]

def ResOK (P : Program) (lim : Nat) (ρ : Rho) (H : AHeap) (w : World) (a : Act) (o : Oper) : Res → Prop
  | .val v H' => ∃ ρ' v' w', (execOp a.eval o).run P w = .ok (.value v') w' ∧ VR ρ' v v' ∧ Step P lim ρ H w ρ' H' w' ∧ (lookOp o = true → ρ' = ρ ∧ w' = w ∧ H' = H)
  | .skip H' => lookOp o = false ∧ ∃ ρ' w', (execOp a.eval o).run P w = .ok .skip w' ∧ Step P lim ρ H w ρ' H' w'
  | .enter f args H' => lookOp o = false ∧ H' = H ∧ ∃ args' : List Value, (execOp a.eval o).run P w = .ok (.enter f args'.toArray) w ∧ VRs ρ args args'

section
variable {P : Program} {w : World} {ρ : Rho} {H : AHeap} {fr : AFr} {a : Act} {gl lim : Nat}

theorem res_val {o : Oper} {v : AV} {H' : AHeap} {s : Sem Value} (he : execOp a.eval o = (do pure (.value (← s)) : Sem Next)) (hp : lookOp o = false) (h : ∃ ρ' v' w', s.run P w = .ok v' w' ∧ VR ρ' v v' ∧ Step P lim ρ H w ρ' H' w') :
    ResOK P lim ρ H w a o (.val v H') := by
  obtain ⟨ρ', v', w', h1, h2, h3⟩ := h
  exact ⟨ρ', v', w', by rw [he]; simp [h1], h2, h3, fun h => by rw [hp] at h; cases h⟩

theorem res_same {o : Oper} {v : AV} {s : Sem Value} (he : execOp a.eval o = (do pure (.value (← s)) : Sem Next)) (hI : Inv P ρ H w) (h : ∃ v', s.run P w = .ok v' w ∧ VR ρ v v') :
    ResOK P lim ρ H w a o (.val v H) := by
  obtain ⟨v', h1, h2⟩ := h
  exact ⟨ρ, v', w, by rw [he]; simp [h1], h2, Step.refl hI, fun _ => ⟨rfl, rfl, rfl⟩⟩

theorem res_skip {o : Oper} {H' : AHeap} {s : Sem Unit} (he : execOp a.eval o = (do s; pure .skip : Sem Next)) (hp : lookOp o = false) (h : ∃ w', s.run P w = .ok () w' ∧ Step P lim ρ H w ρ H' w') :
    ResOK P lim ρ H w a o (.skip H') := by
  obtain ⟨w', h1, h3⟩ := h
  exact ⟨hp, ρ, w', by rw [he]; simp [h1], h3⟩

theorem opt_rel (hf : FR ρ fr a.tmps) (hg : GOK ρ gl) {y : Option Operand} {z : Option AV} (h : (match y with | none => some none | some y => (aev gl fr y).map some) = some z) : OVR ρ z (y.map a.eval) := by
  cases y with
  | none => simp at h; subst h; exact .none
  | some y =>
    obtain ⟨v, hv, rfl⟩ := Option.map_eq_some_iff.1 h
    exact .some _ _ (aev_rel hf hg hv)

set_option maxHeartbeats 4000000 in
theorem aop_sound {o : Oper} {res : Res} (hI : Inv P ρ H w) (hf : FR ρ fr a.tmps) (hg : GOK ρ gl) (hl : lim ≤ H.next) (h : aop P gl lim fr H o = some res) : ResOK P lim ρ H w a o res := by
  obtain ⟨dst, op, type, pos, after, guard⟩ := o
  unfold aop at h
  dsimp only at h
  split at h
  · -- move
    obtain ⟨v, hv, rfl⟩ := Option.map_eq_some_iff.1 h
    exact ⟨ρ, _, w, rfl, aev_rel hf hg hv, Step.refl hI, fun _ => ⟨rfl, rfl, rfl⟩⟩
  · obtain ⟨v, hv, rfl⟩ := Option.map_eq_some_iff.1 h
    exact ⟨ρ, _, w, rfl, aev_rel hf hg hv, Step.refl hI, fun _ => ⟨rfl, rfl, rfl⟩⟩
  · -- pick
    rename_i c x y
    replace h := Option.bind_eq_some_iff.1 h; obtain ⟨cv, hc, h⟩ := h
    have hcv := aev_rel hf hg hc
    split at h
    · obtain ⟨v, hv, rfl⟩ := Option.map_eq_some_iff.1 h
      generalize hq : a.eval c = q at hcv
      cases hcv
      exact ⟨ρ, _, w, by simp [execOp, hq, asBool], aev_rel hf hg hv, Step.refl hI, fun _ => ⟨rfl, rfl, rfl⟩⟩
    · obtain ⟨v, hv, rfl⟩ := Option.map_eq_some_iff.1 h
      generalize hq : a.eval c = q at hcv
      cases hcv
      exact ⟨ρ, _, w, by simp [execOp, hq, asBool], aev_rel hf hg hv, Step.refl hI, fun _ => ⟨rfl, rfl, rfl⟩⟩
    · cases h
  · -- alloc
    obtain ⟨z, hz, rfl⟩ := Option.map_eq_some_iff.1 h
    exact res_val rfl rfl (op_alloc hI hz hl)
  · -- box
    obtain ⟨v, hv, rfl⟩ := Option.map_eq_some_iff.1 h
    exact res_val rfl rfl (op_box hI (aev_rel hf hg hv) hl)
  · -- build
    rename_i t parts
    replace h := Option.bind_eq_some_iff.1 h; obtain ⟨vs, hvs, h⟩ := h
    replace h := Option.bind_eq_some_iff.1 h; obtain ⟨z, hz, h⟩ := h
    obtain ⟨h1, h2⟩ := pair_rel hf hg hvs
    have he : (parts.map fun (i, x) => (i, a.eval x)) = (parts.toList.map fun p => (p.1, a.eval p.2)).toArray := by
      apply Array.ext'; simp
    split at h
    · rename_i fs hu
      split at h
      · rename_i hall
        obtain ⟨cs, hcs, rfl⟩ := Option.map_eq_some_iff.1 h
        refine res_same (s := Instr.build t (parts.map fun (i, x) => (i, a.eval x))) rfl hI ?_
        rw [he]
        exact build_struct hu hall hz h1 h2 hcs
      · cases h
    · rename_i n e hu
      replace h := Option.bind_eq_some_iff.1 h; obtain ⟨k, hk, h⟩ := h
      obtain ⟨cs, hcs, rfl⟩ := Option.map_eq_some_iff.1 h
      refine res_same (s := Instr.build t (parts.map fun (i, x) => (i, a.eval x))) rfl hI ?_
      rw [he]
      exact build_array hu hk hz h1 h2 hcs
    · cases h
  · -- buildSlice
    rename_i t len parts
    replace h := Option.bind_eq_some_iff.1 h; obtain ⟨vs, hvs, h⟩ := h
    obtain ⟨h1, h2⟩ := pair_rel hf hg hvs
    have he : (parts.map fun (i, x) => (i, a.eval x)) = (parts.toList.map fun p => (p.1, a.eval p.2)).toArray := by
      apply Array.ext'; simp
    split at h
    · rename_i e hu
      replace h := Option.bind_eq_some_iff.1 h; obtain ⟨n, hn, h⟩ := h
      replace h := Option.bind_eq_some_iff.1 h; obtain ⟨z, hz, h⟩ := h
      split at h
      · rename_i hc
        obtain ⟨cs, hcs, rfl⟩ := Option.map_eq_some_iff.1 h
        refine res_val (s := Instr.buildSlice t len (parts.map fun (i, x) => (i, a.eval x))) rfl rfl ?_
        rw [he]
        exact op_buildSlice hI hu hn hz hc.1 hc.2 h1 h2 hcs hl
      · cases h
    · cases h
  · -- load
    rename_i t x
    replace h := Option.bind_eq_some_iff.1 h; obtain ⟨p, hp, h⟩ := h
    have hv := aev_rel hf hg hp
    split at h
    · obtain ⟨v, hv', rfl⟩ := Option.map_eq_some_iff.1 h
      refine res_same (s := Instr.loadAt t (a.eval x)) rfl hI ?_
      generalize a.eval x = q at hv
      cases hv with | ptr b o r hr =>
      obtain ⟨u, hu, hrel⟩ := run_load (P := P) hI hr hv'
      exact ⟨u, by simp [Instr.loadAt, Instr.sureAddr, hu], hrel⟩
    · cases h
  · -- store
    rename_i t x y
    replace h := Option.bind_eq_some_iff.1 h; obtain ⟨p, hp, h⟩ := h
    replace h := Option.bind_eq_some_iff.1 h; obtain ⟨v, hy, h⟩ := h
    have hv := aev_rel hf hg hp
    split at h
    · obtain ⟨H', hs, rfl⟩ := Option.map_eq_some_iff.1 h
      refine res_skip (s := Instr.storeAt t (a.eval x) (a.eval y)) rfl rfl ?_
      generalize a.eval x = q at hv
      cases hv with | ptr b o r hr =>
      obtain ⟨w', hw, hst⟩ := run_store (P := P) hI hr (aev_rel hf hg hy) hs
      exact ⟨w', by simp [Instr.storeAt, Instr.sureAddr, hw], hst⟩
    · cases h
  · -- nilCheck
    rename_i x
    replace h := Option.bind_eq_some_iff.1 h; obtain ⟨v, hv, h⟩ := h
    have hr := aev_rel hf hg hv
    split at h
    · injection h with h; subst h
      generalize hq : a.eval x = q at hr
      cases hr with | ptr b o r hr =>
      exact ⟨ρ, _, w, by simp [execOp, hq], .ptr _ _ r hr, Step.refl hI, fun _ => ⟨rfl, rfl, rfl⟩⟩
    · injection h with h; subst h
      generalize hq : a.eval x = q at hr
      cases hr with | fn f xs ys us vs h1 h2 =>
      exact ⟨ρ, _, w, by simp [execOp, hq], .fn _ _ _ us vs h1 h2, Step.refl hI, fun _ => ⟨rfl, rfl, rfl⟩⟩
    · cases h
  · -- binOp
    rename_i bop t x y yt
    replace h := Option.bind_eq_some_iff.1 h; obtain ⟨u, hu, h⟩ := h
    replace h := Option.bind_eq_some_iff.1 h; obtain ⟨v, hv, h⟩ := h
    obtain ⟨z, hz, rfl⟩ := Option.map_eq_some_iff.1 h
    exact res_same (s := do eqGuard bop t x y (a.eval x) (a.eval y); binOp bop t (a.eval x) (a.eval y)) rfl hI (op_binN (aev_rel hf hg hu) (aev_rel hf hg hv) hz)
  · -- unOp
    replace h := Option.bind_eq_some_iff.1 h; obtain ⟨u, hu, h⟩ := h
    obtain ⟨z, hz, rfl⟩ := Option.map_eq_some_iff.1 h
    exact res_same rfl hI (op_unS (aev_rel hf hg hu) hz)
  · -- convert
    replace h := Option.bind_eq_some_iff.1 h; obtain ⟨u, hu, h⟩ := h
    obtain ⟨⟨z, H'⟩, hz, rfl⟩ := Option.map_eq_some_iff.1 h
    exact res_val rfl rfl (op_convS hI (aev_rel hf hg hu) hz hl)
  · -- makeInterface
    rename_i t x
    replace h := Option.bind_eq_some_iff.1 h; obtain ⟨u, hu, h⟩ := h
    split at h
    · cases h
    · rename_i d hn hd
      injection h with h; subst h
      refine res_same (s := Instr.makeInterface t (a.eval x)) rfl hI ⟨.iface t (a.eval x), ?_, .iface t _ _ (aev_rel hf hg hu)⟩
      simp only [Instr.makeInterface, Sem.run_bind, run_und hd, Result.andThen_ok]
      cases d with
      | interface ms => exact absurd rfl (hn ms)
      | _ => simp
    · cases h
  · -- makeFunc
    rename_i f first captured
    replace h := Option.bind_eq_some_iff.1 h; obtain ⟨xs, hxs, h⟩ := h
    obtain ⟨ys, hys, rfl⟩ := Option.map_eq_some_iff.1 h
    have e1 : first.map a.eval = (first.toList.map a.eval).toArray := by apply Array.ext'; simp
    have e2 : captured.map a.eval = (captured.toList.map a.eval).toArray := by apply Array.ext'; simp
    refine res_same (s := Instr.makeFunc (.func f) (first.map a.eval) (captured.map a.eval)) rfl hI ⟨_, rfl, ?_⟩
    rw [e1, e2]
    exact .fn _ xs ys _ _ (aevs_rel hf hg hxs) (aevs_rel hf hg hys)
  · -- makeMap
    rename_i t
    injection h with h; subst h
    refine res_val (s := Instr.makeMap t none) rfl rfl ⟨ρ.put H.next ⟨w.heap.size, 0, true, 0, 0⟩, .map (some w.heap.size), w.alloc (.map #[] 0), by simp [Instr.makeMap], ?_, ?_⟩
    · exact VR.map H.next ⟨w.heap.size, 0, true, 0, 0⟩ (by simp [Rho.put])
    · exact Step.alloc hI _ _ ⟨w.heap.size, 0, true, 0, 0⟩ rfl ⟨rfl, .nil⟩ hl
  · -- makeSlice
    rename_i t l c
    replace h := Option.bind_eq_some_iff.1 h; obtain ⟨lv, hlv, h⟩ := h
    replace h := Option.bind_eq_some_iff.1 h; obtain ⟨cv, hcv, h⟩ := h
    have h1 := aev_rel hf hg hlv
    have h2 := aev_rel hf hg hcv
    split at h
    · rename_i e k ln k' cn hu
      replace h := Option.bind_eq_some_iff.1 h; obtain ⟨info, hi, h⟩ := h
      replace h := Option.bind_eq_some_iff.1 h; obtain ⟨z, hz, h⟩ := h
      split at h
      · rename_i hc
        injection h with h; subst h
        refine res_val (s := Instr.makeSlice t (a.eval l) (a.eval c)) rfl rfl ?_
        generalize a.eval l = q1 at h1
        generalize a.eval c = q2 at h2
        cases h1; cases h2
        exact op_makeSlice hI hu hi hz hc.1 hc.2.1 hc.2.2.1 hc.2.2.2.1 hc.2.2.2.2 hl
      · cases h
    · cases h
  · -- slice
    rename_i t x lo hi mx
    replace h := Option.bind_eq_some_iff.1 h; obtain ⟨v, hv, h⟩ := h
    replace h := Option.bind_eq_some_iff.1 h; obtain ⟨l1, hl1, h⟩ := h
    replace h := Option.bind_eq_some_iff.1 h; obtain ⟨l2, hl2, h⟩ := h
    replace h := Option.bind_eq_some_iff.1 h; obtain ⟨l3, hl3, h⟩ := h
    obtain ⟨y, hy, rfl⟩ := Option.map_eq_some_iff.1 h
    exact res_same (s := Instr.sliceAt t (a.eval x) (lo.map a.eval) (hi.map a.eval) (mx.map a.eval)) rfl hI (op_slice hI (aev_rel hf hg hv) (opt_rel hf hg hl1) (opt_rel hf hg hl2) (opt_rel hf hg hl3) hy)
  · -- fieldAddr
    rename_i t x f
    replace h := Option.bind_eq_some_iff.1 h; obtain ⟨v, hv, h⟩ := h
    split at h
    · rename_i fs b o hu
      replace h := Option.bind_eq_some_iff.1 h; obtain ⟨g, hgf, h⟩ := h
      replace h := Option.bind_eq_some_iff.1 h; obtain ⟨n, hn, h⟩ := h
      split at h
      · cases h
      · rename_i hn0
        injection h with h; subst h
        exact res_same (s := Instr.fieldAt t (a.eval x) f) rfl hI (op_fieldAddr (aev_rel hf hg hv) hu hgf hn hn0)
    · cases h
  · -- field
    rename_i t x f
    replace h := Option.bind_eq_some_iff.1 h; obtain ⟨v, hv, h⟩ := h
    split at h
    · rename_i fs cs hu
      replace h := Option.bind_eq_some_iff.1 h; obtain ⟨g, hgf, h⟩ := h
      obtain ⟨y, hy, rfl⟩ := Option.map_eq_some_iff.1 h
      exact res_same (s := Instr.field t (a.eval x) f) rfl hI (op_field (aev_rel hf hg hv) hu hgf hy)
    · cases h
  · -- indexAddr
    rename_i t x ix
    replace h := Option.bind_eq_some_iff.1 h; obtain ⟨v, hv, h⟩ := h
    replace h := Option.bind_eq_some_iff.1 h; obtain ⟨i, hi, h⟩ := h
    have h1 := aev_rel hf hg hv
    have h2 := aev_rel hf hg hi
    split at h
    · rename_i len e b o k n hu
      replace h := Option.bind_eq_some_iff.1 h; obtain ⟨m, hm, h⟩ := h
      split at h
      · rename_i hc
        injection h with h; subst h
        refine res_same (s := Instr.indexAt t (a.eval x) (a.eval ix)) rfl hI ?_
        generalize a.eval ix = q at h2
        cases h2
        exact op_indexAddr_array h1 hu hm hc.1 hc.2
      · cases h
    · rename_i e b o len cap k n hu
      replace h := Option.bind_eq_some_iff.1 h; obtain ⟨m, hm, h⟩ := h
      split at h
      · rename_i hc
        injection h with h; subst h
        refine res_same (s := Instr.indexAt t (a.eval x) (a.eval ix)) rfl hI ?_
        generalize a.eval ix = q at h2
        cases h2
        exact op_indexAddr_slice h1 hu hm hc.1 hc.2
      · cases h
    · cases h
  · -- index
    rename_i t x ix
    replace h := Option.bind_eq_some_iff.1 h; obtain ⟨v, hv, h⟩ := h
    replace h := Option.bind_eq_some_iff.1 h; obtain ⟨i, hi, h⟩ := h
    have h1 := aev_rel hf hg hv
    have h2 := aev_rel hf hg hi
    split at h
    · rename_i len e cs k n hu
      replace h := Option.bind_eq_some_iff.1 h; obtain ⟨m, hm, h⟩ := h
      split at h
      · rename_i hc
        obtain ⟨y, hy, rfl⟩ := Option.map_eq_some_iff.1 h
        refine res_same (s := Instr.index t (a.eval x) (a.eval ix)) rfl hI ?_
        generalize a.eval ix = q at h2
        cases h2
        exact op_index_array h1 hu hm hc.1 hc.2 hy
      · cases h
    · rename_i s k n hu
      split at h
      · rename_i hc
        obtain ⟨y, hy, rfl⟩ := Option.map_eq_some_iff.1 h
        refine res_same (s := Instr.index t (a.eval x) (a.eval ix)) rfl hI ?_
        generalize a.eval ix = q at h2
        cases h2
        exact ⟨_, op_index_string h1 hu hc hy, .int _ _⟩
      · cases h
    · cases h
  · -- lookup
    rename_i t x k ok
    replace h := Option.bind_eq_some_iff.1 h; obtain ⟨m, hm, h⟩ := h
    replace h := Option.bind_eq_some_iff.1 h; obtain ⟨kv, hk, h⟩ := h
    obtain ⟨y, hy, rfl⟩ := Option.map_eq_some_iff.1 h
    exact res_same (s := Instr.lookup t (a.eval x) (a.eval k) ok) rfl hI (op_lookup hI (aev_rel hf hg hm) (aev_rel hf hg hk) hy)
  · -- mapUpdate
    rename_i t x k y
    replace h := Option.bind_eq_some_iff.1 h; obtain ⟨m, hm, h⟩ := h
    replace h := Option.bind_eq_some_iff.1 h; obtain ⟨kv, hk, h⟩ := h
    replace h := Option.bind_eq_some_iff.1 h; obtain ⟨xv, hx, h⟩ := h
    obtain ⟨H', hH, rfl⟩ := Option.map_eq_some_iff.1 h
    exact res_skip (s := Instr.mapUpdate t (a.eval x) (a.eval k) (a.eval y)) rfl rfl (op_mapPut hI (aev_rel hf hg hm) (aev_rel hf hg hk) (aev_rel hf hg hx) hH)
  · rename_i t x k y
    replace h := Option.bind_eq_some_iff.1 h; obtain ⟨m, hm, h⟩ := h
    replace h := Option.bind_eq_some_iff.1 h; obtain ⟨kv, hk, h⟩ := h
    replace h := Option.bind_eq_some_iff.1 h; obtain ⟨xv, hx, h⟩ := h
    obtain ⟨H', hH, rfl⟩ := Option.map_eq_some_iff.1 h
    exact res_skip (s := Instr.mapUpdate t (a.eval x) (a.eval k) (a.eval y)) rfl rfl (op_mapPut hI (aev_rel hf hg hm) (aev_rel hf hg hk) (aev_rel hf hg hx) hH)
  · -- range
    rename_i t x
    replace h := Option.bind_eq_some_iff.1 h; obtain ⟨v, hv, h⟩ := h
    have h1 := aev_rel hf hg hv
    split at h
    · rename_i s hu
      injection h with h; subst h
      refine res_val (s := Instr.range t (a.eval x)) rfl rfl ?_
      generalize a.eval x = q at h1
      cases h1 with | str S _ hS =>
      refine ⟨ρ.put H.next ⟨w.heap.size, 0, true, 0, 0⟩, .pointer (some ⟨w.heap.size, 0, none⟩), w.alloc (.stringIter S 0), ?_, ?_, ?_⟩
      · simp [Instr.range, run_und hu]
      · exact VR.ptr H.next 0 ⟨w.heap.size, 0, true, 0, 0⟩ (by simp [Rho.put])
      · exact Step.alloc hI _ _ ⟨w.heap.size, 0, true, 0, 0⟩ rfl ⟨rfl, rfl, hS⟩ hl
    · cases h
  · -- extract
    rename_i x i
    replace h := Option.bind_eq_some_iff.1 h; obtain ⟨v, hv, h⟩ := h
    split at h
    · obtain ⟨y, hy, rfl⟩ := Option.map_eq_some_iff.1 h
      exact res_same (s := Instr.extract (a.eval x) i) rfl hI (op_extract (aev_rel hf hg hv) hy)
    · cases h
  · -- call
    rename_i c
    obtain ⟨callee, cargs, cts⟩ := c
    replace h := Option.bind_eq_some_iff.1 h; obtain ⟨args, hargs, h⟩ := h
    have hra := aevs_rel hf hg hargs
    have e1 : cargs.map a.eval = (cargs.toList.map a.eval).toArray := by apply Array.ext'; simp
    dsimp only at h hra
    split at h
    · rename_i b
      obtain ⟨⟨z, H'⟩, hz, rfl⟩ := Option.map_eq_some_iff.1 h
      have ht : ∀ i t, cts.toList[i]? = some t → cts[i]? = some t := fun i t h => by rw [← Array.getElem?_toList]; exact h
      have hex : ∃ consts, execOp a.eval ⟨dst, .call ⟨.builtin b, cargs, cts⟩, type, pos, after, guard⟩ = builtin b cts type consts (cargs.map a.eval) := ⟨_, rfl⟩
      obtain ⟨consts, hex⟩ := hex
      suffices hres : ∃ ρ' v' w', (builtin b cts type consts (cargs.map a.eval)).run P w = .ok (.value v') w' ∧ VR ρ' z v' ∧ Step P lim ρ H w ρ' H' w' by
        obtain ⟨ρ', v', w', h1, h2, h3⟩ := hres
        exact ⟨ρ', v', w', by rw [hex]; exact h1, h2, h3, fun h => by cases h⟩
      rw [e1]
      generalize cargs.toList.map a.eval = vs at hra
      generalize hcts : cts.toList = ctl at hz ht
      unfold abuiltin at hz
      split at hz
      · rename_i t t' rest s x
        split at hz
        · rename_i k hd
          cases hra with | cons _ u _ _ hu hra =>
          cases hra with | cons _ v _ _ hv hra =>
          cases hra
          obtain ⟨ρ', r, w', h1, h2, h3⟩ := op_append (ty := type) hI hu hv hl hd (fun h => by cases h) (fun _ => ⟨k, rfl⟩) cts (ht 0 t (by simp)) (ht 1 t' (by simp)) hz
          exact ⟨ρ', r, w', by simp [builtin, h1], h2, h3⟩
        · rename_i d hn hd
          cases hra with | cons _ u _ _ hu hra =>
          cases hra with | cons _ v _ _ hv hra =>
          cases hra
          obtain ⟨ρ', r, w', h1, h2, h3⟩ := op_append (ty := type) hI hu hv hl hd (fun _ k hk => hn k (by rw [hk])) (fun h => by cases h) cts (ht 0 t (by simp)) (ht 1 t' (by simp)) hz
          exact ⟨ρ', r, w', by simp [builtin, h1], h2, h3⟩
        · cases hz
      · rename_i t rest x
        obtain ⟨y, hy, hz⟩ := Option.map_eq_some_iff.1 hz
        simp only [Prod.mk.injEq] at hz
        obtain ⟨rfl, rfl⟩ := hz
        cases hra with | cons _ u _ _ hu hra =>
        cases hra
        obtain ⟨r, h1, h2⟩ := op_len (P := P) (ty := type) hI hu cts (ht 0 t (by simp)) hy
        exact ⟨ρ, r, w, by simp [builtin, h1], h2, Step.refl hI⟩
      · rename_i t rest x y
        cases hra with | cons _ u _ _ hu hra =>
        cases hra with | cons _ v _ _ hv hra =>
        cases hra
        obtain ⟨r, w', h1, h2, h3⟩ := op_copy (P := P) (ty := type) hI hu hv cts (ht 0 t (by simp)) hz
        exact ⟨ρ, r, w', by simp [builtin, h1], h2, h3⟩
      · rename_i k x k' y
        split at hz
        · rename_i hk
          simp only [Option.some.injEq, Prod.mk.injEq] at hz
          obtain ⟨rfl, rfl⟩ := hz
          subst hk
          cases hra with | cons _ u _ _ hu hra =>
          cases hra with | cons _ v _ _ hv hra =>
          cases hra; cases hu; cases hv
          exact ⟨ρ, _, w, by simp [builtin, Builtin.min_, Builtin.min2], .int _ _, Step.refl hI⟩
        · cases hz
      · rename_i k x k' y
        split at hz
        · rename_i hk
          simp only [Option.some.injEq, Prod.mk.injEq] at hz
          obtain ⟨rfl, rfl⟩ := hz
          subst hk
          cases hra with | cons _ u _ _ hu hra =>
          cases hra with | cons _ v _ _ hv hra =>
          cases hra; cases hu; cases hv
          exact ⟨ρ, _, w, by simp [builtin, Builtin.max_, Builtin.max2], .int _ _, Step.refl hI⟩
        · cases hz
      · cases hz
    · rename_i f
      replace h := Option.bind_eq_some_iff.1 h; obtain ⟨fv, hfv, h⟩ := h
      have h1 := aev_rel hf hg hfv
      split at h
      · rename_i f' first captured
        split at h
        · rename_i hcal
          injection h with h; subst h
          refine ⟨rfl, rfl, ?_⟩
          generalize hq : a.eval f = q at h1
          cases h1 with | fn _ xs ys us vs hu hv =>
          refine ⟨us ++ cargs.toList.map a.eval ++ vs, ?_, (hu.append hra).append hv⟩
          unfold acallee at hcal
          split at hcal
          · rename_i fn hfn
            simp at hcal
            have hb : fn.body ≠ none := Option.isSome_iff_ne_none.1 hcal.1
            simp [execOp, resolve, hq, Deferred.ofValue, invoke, callFunc, run_program, hfn, hb, hcal.2, e1]
          · cases hcal
        · cases h
      · cases h
    · cases h
  · cases h
end
end Go.Proofs.YtoehlmiadiiimaaGreatDoor.Ex
