/-
  An executor over the model's code: operations, one by one (9): maps; a text's runes.
-/
import Derived.Test.YtklenhohljeacaaDoorExOps8
namespace Go.Proofs.YtklenhohljeacaaDoor.Ex
open Go
variable [Dec] [Env]

section
variable {P : Program} {w : World} {ρ : Rho} {H : AHeap}

omit [Dec] [Env] in
theorem keyType_cases {kt : TypeId} {k : AV} (h : keyType P kt k = true) : ∃ d, und P kt = some d ∧
    ((d = .bool ∧ ∃ b, k = .bool b) ∨ ((∃ j, d = .int j) ∧ ∃ i n, k = .int i n) ∨ (d = .string ∧ ∃ s, k = .str s)) := by
  unfold keyType at h
  split at h
  · rename_i hu; exact ⟨_, hu, .inl ⟨rfl, _, rfl⟩⟩
  · rename_i hu; exact ⟨_, hu, .inr (.inl ⟨⟨_, rfl⟩, _, _, rfl⟩)⟩
  · rename_i hu; exact ⟨_, hu, .inr (.inr ⟨rfl, _, rfl⟩)⟩
  · cases h

omit [Dec] [Env] in
theorem run_checkKey {kt : TypeId} {k : AV} (h : keyType P kt k = true) (e : Bool) (n : Nat) (v : Value) : (Instr.checkKey e (n + 1) kt v).run P w = .ok () w := by
  obtain ⟨d, hu, hd⟩ := keyType_cases h
  simp only [Instr.checkKey, Sem.run_bind, run_und hu, Result.andThen_ok]
  rcases hd with ⟨rfl, -⟩ | ⟨⟨j, rfl⟩, -⟩ | ⟨rfl, -⟩ <;> cases v <;> simp

theorem sameNow_rel {kt : TypeId} {d : TypeDesc} {k x : AV} {kv xv : Value} {b : Bool} (h : keyType P kt k = true) (hu : und P kt = some d) (hk : VR ρ k kv) (hx : VR ρ x xv) (he : keyEq k x = some b) :
    Instr.sameNow d kv xv = some b ∧ (b = true → ∀ n, Instr.sameBits n xv kv = true) := by
  obtain ⟨d', hu', hd⟩ := keyType_cases h
  rw [hu'] at hu; injection hu with hu; subst hu
  rcases hd with ⟨rfl, b1, rfl⟩ | ⟨⟨j, rfl⟩, i, m, rfl⟩ | ⟨rfl, s, rfl⟩
  · cases x <;> simp [keyEq] at he
    subst he
    cases hk; cases hx
    refine ⟨by simp [Instr.sameNow], fun h n => ?_⟩
    cases n <;> simp [Instr.sameBits] at h ⊢ <;> exact h.symm
  · cases x <;> simp [keyEq] at he
    obtain ⟨rfl, rfl⟩ := he
    cases hk; cases hx
    refine ⟨by simp [Instr.sameNow], fun h n => ?_⟩
    cases n <;> simp [Instr.sameBits] at h ⊢ <;> exact h.symm
  · cases x <;> simp [keyEq] at he
    subst he
    cases hk with | str S _ hS =>
    cases hx with | str T _ hT =>
    subst hS; subst hT
    refine ⟨by simp only [Instr.sameNow]; rw [bytes_eq, beq_toListBytes], fun h n => ?_⟩
    rw [bytes_eq, ← beq_toListBytes] at h
    have h2 : (T == S) = true := by
      rw [beq_toListBytes] at h ⊢
      simp at h ⊢; exact h.symm
    cases n <;> simpa [Instr.sameBits] using h2

theorem find_rel {kt : TypeId} {d : TypeDesc} {k : AV} {kv : Value} (h : keyType P kt k = true) (hu : und P kt = some d) (hk : VR ρ k kv) : ∀ {es : List Ent} {ms : List MapEntry} {i : Nat} {r : Option (Nat × AV)}, ER ρ es ms → afind k es i = some r →
    (r = none ∧ Instr.findNow d kv ms i = some none) ∨ (∃ j x v m, r = some (i + j, x) ∧ Instr.findNow d kv ms i = some (some (i + j, v)) ∧ VR ρ x v ∧ ms[j]? = some m ∧ ∀ n, Instr.sameBits n m.key kv = true)
  | _, _, i, r, .nil, h => by simp [afind] at h; subst h; exact .inl ⟨rfl, rfl⟩
  | _, _, i, r, .cons e m es ms hek hev hb t, hf => by
    simp only [afind] at hf
    split at hf
    · rename_i he
      injection hf with hf; subst hf
      obtain ⟨h1, h2⟩ := sameNow_rel h hu hk hek he
      exact .inr ⟨0, e.val, m.val, m, by simp, by simp [Instr.findNow, h1], hev, by simp, h2 rfl⟩
    · rename_i he
      obtain ⟨h1, -⟩ := sameNow_rel h hu hk hek he
      rcases find_rel h hu hk t hf with ⟨rfl, h3⟩ | ⟨j, x, v, m', rfl, h3, h4, h5, h6⟩
      · exact .inl ⟨rfl, by simp [Instr.findNow, h1, h3]⟩
      · refine .inr ⟨j + 1, x, v, m', by simp; omega, ?_, h4, by simpa using h5, h6⟩
        simp only [Instr.findNow, h1, h3]
        congr 3; omega
    · cases hf

theorem op_lookup {t : TypeId} {m k y : AV} {mv kv : Value} {ok : Bool} (hI : Inv P ρ H w) (hm : VR ρ m mv) (hk : VR ρ k kv) (h : alookup P H t m k ok = some y) :
    ∃ r, (Instr.lookup t mv kv ok).run P w = .ok r w ∧ VR ρ y r := by
  unfold alookup at h
  split at h
  · rename_i kt et hu
    split at h
    · rename_i hkt
      replace h := Option.bind_eq_some_iff.1 h
      obtain ⟨es, hes, h⟩ := h
      replace h := Option.bind_eq_some_iff.1 h
      obtain ⟨r, hr, h⟩ := h
      obtain ⟨d, hud, -⟩ := keyType_cases hkt
      have hck := fun e => run_checkKey (w := w) hkt e 9999 kv
      have hfk : ∀ ms q, Instr.findNow d kv ms 0 = some q → (Instr.findKey kt kv ms).run P w = .ok q w := by
        intro ms q hq
        simp [Instr.findKey, run_und hud, hq]
      have hcases : (mv = .map none ∧ es = []) ∨ ∃ r c, ∃ ES : Array MapEntry, mv = .map (some r) ∧ w.heap[r]? = some (.map ES c) ∧ ER ρ es ES.toList := by
        unfold amapOf at hes
        split at hes
        · injection hes with hes; subst hes
          cases hm
          exact .inl ⟨rfl, rfl⟩
        · split at hes
          · rename_i hb
            injection hes with hes; subst hes
            cases hm with | map _ r hr =>
            obtain ⟨ES, hES, hER⟩ := hI.map hb hr
            exact .inr ⟨_, _, ES, rfl, hES, hER⟩
          · cases hes
        · cases hes
      rcases hcases with ⟨rfl, rfl⟩ | ⟨r', c, ES, rfl, hES, hER⟩
      · simp [afind] at hr; subst hr
        obtain ⟨z, hz, rfl⟩ := Option.map_eq_some_iff.1 h
        obtain ⟨zv, hzr, hzv⟩ := run_zero hz
        have hf := hfk [] none (by simp [Instr.findNow])
        refine ⟨if ok then .tuple #[zv, .bool false] else zv, ?_, ?_⟩
        · simp [Instr.lookup, run_und hu, hck, hf, hzr]
        · cases ok
          · exact hzv ρ
          · exact .tup _ [zv, .bool false] (.cons _ _ _ _ (hzv ρ) (.cons _ _ _ _ (.bool _) .nil))
      · rcases find_rel hkt hud hk hER hr with ⟨rfl, h1⟩ | ⟨j, x, v, e, rfl, h1, h2, h3, h4⟩
        · obtain ⟨z, hz, rfl⟩ := Option.map_eq_some_iff.1 h
          obtain ⟨zv, hzr, hzv⟩ := run_zero hz
          refine ⟨if ok then .tuple #[zv, .bool false] else zv, ?_, ?_⟩
          · simp [Instr.lookup, run_und hu, hck, hfk _ _ h1, hzr, run_getMap hES]
          · cases ok
            · exact hzv ρ
            · exact .tup _ [zv, .bool false] (.cons _ _ _ _ (hzv ρ) (.cons _ _ _ _ (.bool _) .nil))
        · simp only [Option.some.injEq] at h; subst h
          refine ⟨if ok then .tuple #[v, .bool true] else v, ?_, ?_⟩
          · simp [Instr.lookup, run_und hu, hck, hfk _ _ h1, run_getMap hES]
          · cases ok
            · exact h2
            · exact .tup _ [v, .bool true] (.cons _ _ _ _ h2 (.cons _ _ _ _ (.bool _) .nil))
    · cases h
  · cases h

theorem ER.modify : ∀ {es : List Ent} {ms : List MapEntry}, ER ρ es ms → ∀ {k x : AV} {kv v : Value}, VR ρ k kv → VR ρ x v → ∀ i, ER ρ (es.modify i fun e => { e with key := k, val := x }) (ms.modify i fun e => { e with key := kv, val := v })
  | _, _, .nil, _, _, _, _, _, _, i => by simpa using ER.nil
  | _, _, .cons e m es ms hk hv hb t, k, x, kv, v, h1, h2, i => by
    cases i with
    | zero => exact .cons { e with key := k, val := x } { m with key := kv, val := v } es ms h1 h2 hb t
    | succ i => simpa using ER.cons e m _ _ hk hv hb (t.modify h1 h2 i)

theorem ER.push : ∀ {es : List Ent} {ms : List MapEntry}, ER ρ es ms → ∀ {e : Ent} {m : MapEntry}, VR ρ e.key m.key → VR ρ e.val m.val → m.born = e.born → ER ρ (es ++ [e]) (ms ++ [m])
  | _, _, .nil, _, _, h1, h2, h3 => .cons _ _ _ _ h1 h2 h3 .nil
  | _, _, .cons e m es ms hk hv hb t, _, _, h1, h2, h3 => .cons e m _ _ hk hv hb (t.push h1 h2 h3)

omit [Dec] [Env] in
theorem run_setMap {r k k' : Nat} {ES ES' : Array MapEntry} (h : w.heap[r]? = some (.map ES k)) : (setObj r (.map ES' k')).run P w = .ok () { w with heap := w.heap.setIfInBounds r (.map ES' k') } := by
  simp [setObj, Sem.run, h]

theorem op_mapPut {lim : Nat} {t : TypeId} {m k x : AV} {mv kv xv : Value} {H' : AHeap} (hI : Inv P ρ H w) (hm : VR ρ m mv) (hk : VR ρ k kv) (hx : VR ρ x xv) (h : amapPut P lim H t m k x = some H') :
    ∃ w', (Instr.mapUpdate t mv kv xv).run P w = .ok () w' ∧ Step P lim ρ H w ρ H' w' := by
  unfold amapPut at h
  split at h
  · rename_i kt et b hu
    split at h
    · rename_i hc
      obtain ⟨hkt, hlim⟩ := hc
      split at h
      · rename_i es c hb
        replace h := Option.bind_eq_some_iff.1 h
        obtain ⟨r, hr, h⟩ := h
        cases hm with | map _ rb hrb =>
        obtain ⟨ES, hES, hER⟩ := hI.map hb hrb
        obtain ⟨d, hud, -⟩ := keyType_cases hkt
        have hck := fun e => run_checkKey (w := w) hkt e 9999 kv
        have hfk : ∀ ms q, Instr.findNow d kv ms 0 = some q → (Instr.findKey kt kv ms).run P w = .ok q w := by
          intro ms q hq
          simp [Instr.findKey, run_und hud, hq]
        have hco := hI.obj b _ rb hb hrb
        rcases find_rel hkt hud hk hER hr with ⟨rfl, h1⟩ | ⟨j, y, v, e, rfl, h1, h2, h3, h4⟩
        · simp only [Option.some.injEq] at h; subst h
          refine ⟨{ w with heap := w.heap.setIfInBounds rb.cb (.map (ES.push { key := kv, val := xv, born := c }) (c + 1)) }, ?_, Step.put (w' := { w with heap := w.heap.setIfInBounds rb.cb (.map (ES.push { key := kv, val := xv, born := c }) (c + 1)) }) hI b _ (.map (es ++ [⟨k, x, c⟩]) (c + 1)) rb hb hrb hlim (.map (ES.push { key := kv, val := xv, born := c }) (c + 1)) ⟨rfl, ?_⟩ rfl rfl rfl rfl⟩
          · simp [Instr.mapUpdate, run_und hu, hck, hfk _ _ h1, run_getMap hES, run_setMap hES]
          · simp only [Array.toList_push]
            exact hER.push hk hx rfl
        · simp only [Option.some.injEq] at h; subst h
          simp only [Nat.zero_add] at h1 ⊢
          have hkk : ((ES[j]?).map (·.key)).getD kv = e.key := by
            rw [← Array.getElem?_toList, h3]; rfl
          have hstay : ∀ o, o = e.key → (Instr.keyThatStays o kv).run P w = .ok kv w := by
            rintro o rfl
            simp [Instr.keyThatStays, h4]
          refine ⟨{ w with heap := w.heap.setIfInBounds rb.cb (.map (ES.modify j fun e => { e with key := kv, val := xv }) c) }, ?_, Step.put (w' := { w with heap := w.heap.setIfInBounds rb.cb (.map (ES.modify j fun e => { e with key := kv, val := xv }) c) }) hI b _ (.map (es.modify j fun e => { e with key := k, val := x }) c) rb hb hrb hlim (.map (ES.modify j fun e => { e with key := kv, val := xv }) c) ⟨rfl, ?_⟩ rfl rfl rfl rfl⟩
          · simp [Instr.mapUpdate, run_und hu, hck, hfk _ _ h1, run_getMap hES, run_setMap hES, hstay _ hkk]
          · rw [Array.toList_modify]
            exact hER.modify hk hx j
      · cases h
    · cases h
  · cases h
end
end Go.Proofs.YtklenhohljeacaaDoor.Ex
