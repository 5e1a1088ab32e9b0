/-
  An executor over the model's code: regions that draw their order.
-/
import Derived.Test.YtklenhohljeacaaDoorExSound
namespace Go.Proofs.YtklenhohljeacaaDoor.Ex
open Go
variable [Dec] [Env]

section
variable {P : Program} {gl lim : Nat}

omit [Dec] [Env] in
theorem aevs_congr {fr fr' : AFr} : ∀ (os : List Operand), (∀ x ∈ os, aev gl fr x = aev gl fr' x) → aevs gl fr os = aevs gl fr' os
  | [], _ => rfl
  | o :: os, h => by simp only [aevs, h o (by simp), aevs_congr os fun x hx => h x (by simp [hx])]

omit [Env] in
theorem aop_congr {fr fr' : AFr} {H : AHeap} {o : Oper} (h : ∀ x ∈ o.op.operands, aev gl fr x = aev gl fr' x) : aop P gl lim fr H o = aop P gl lim fr' H o := by
  obtain ⟨dst, op, type, pos, after, guard⟩ := o
  have many : ∀ (xs : Array Operand), (∀ x ∈ xs, aev gl fr x = aev gl fr' x) → aevs gl fr xs.toList = aevs gl fr' xs.toList := fun xs hx => aevs_congr _ fun x hm => hx x (by simpa using hm)
  cases op <;> simp only [Op.operands] at h <;> simp only [aop]
  case build t ps => rw [aevs_congr _ fun x hx => h x (by simpa using hx)]
  case buildSlice t n ps => rw [aevs_congr _ fun x hx => h x (by simpa using hx)]
  case makeFunc fn first captured =>
    cases fn with
    | func f =>
      dsimp only
      rw [many first fun x hx => h x (by simp [hx]), many captured fun x hx => h x (by simp [hx])]
    | _ => rfl
  case makeMap t r => cases r <;> rfl
  case call c =>
    obtain ⟨callee, args, ts⟩ := c
    simp only [Call.operands] at h
    rw [many args fun x hx => h x (by simp [hx])]
    cases callee with
    | value f => have := h f (by simp); dsimp only; rw [this]
    | invoke r m => rfl
    | builtin b => rfl
  case slice t x lo hi mx => cases lo <;> cases hi <;> cases mx <;> simp_all
  all_goals (first | rfl | (simp_all; done))

omit [Env] in
theorem aop_pure {fr : AFr} {o : Oper} (hp : pureOp o = true) : ∃ X : Option AV, ∀ lim H, aop P gl lim fr H o = X.map fun v => Res.val v H := by
  obtain ⟨dst, op, type, pos, after, guard⟩ := o
  cases op <;> simp only [pureOp, Bool.false_eq_true] at hp
  case move x => exact ⟨aev gl fr x, fun _ _ => rfl⟩
  case assign x => exact ⟨aev gl fr x, fun _ _ => rfl⟩
  case pick c x y =>
    refine ⟨(aev gl fr c).bind fun c => match c with | .bool true => aev gl fr x | .bool false => aev gl fr y | _ => none, fun _ _ => ?_⟩
    simp only [aop, Option.map_bind]
    congr 1; funext c; dsimp only [Function.comp]; cases c <;> try rfl
    rename_i b; cases b <;> rfl
  case build t parts =>
    refine ⟨(aevs gl fr (parts.toList.map (·.2))).bind fun vs => (zero P t).bind fun z =>
      match und P t with
      | some (.struct fs) => if fs.all (fun f => (sz P f.type).isSome) = true then (afill (aplaces P fs) z.cells (aparts (parts.toList.map (·.1)) vs)).map .agg else none
      | some (.array _ e) => (sz P e).bind fun n => (afill (fun i => some (i * n, n)) z.cells (aparts (parts.toList.map (·.1)) vs)).map .agg
      | _ => none, fun _ _ => ?_⟩
    simp only [aop, Option.map_bind]
    congr 1; funext vs; dsimp only [Function.comp]
    rw [Option.map_bind]
    congr 1; funext z; dsimp only [Function.comp]
    cases und P t with
    | none => rfl
    | some d =>
      cases d <;> try rfl
      · simp [Option.map_bind, Option.map_map, Function.comp_def]
      · dsimp only
        split
        · simp [Option.map_map, Function.comp_def]
        · rfl
  case nilCheck x =>
    refine ⟨(aev gl fr x).bind fun v => match v with | .ptr b o => some (.ptr b o) | .fn (.func f) xs ys => some (.fn (.func f) xs ys) | _ => none, fun _ _ => ?_⟩
    simp only [aop, Option.map_bind]
    congr 1; funext v; dsimp only [Function.comp]; cases v <;> try rfl
    rename_i f _ _; cases f <;> rfl
  case binOp op t x y yt =>
    refine ⟨(aev gl fr x).bind fun u => (aev gl fr y).bind fun v => abinS P op t u v, fun _ _ => ?_⟩
    simp [aop, Option.map_bind, Function.comp_def]
  case unOp op t x =>
    refine ⟨(aev gl fr x).bind fun u => aunS op u, fun _ _ => ?_⟩
    simp [aop, Option.map_bind, Function.comp_def]
  case makeInterface t x =>
    refine ⟨(aev gl fr x).bind fun v => match und P t with | some (.interface _) => none | some _ => some (.iface t v) | none => none, fun _ _ => ?_⟩
    simp only [aop, Option.map_bind]
    congr 1; funext v; dsimp only [Function.comp]
    cases und P t with
    | none => rfl
    | some d => cases d <;> rfl
  case makeFunc fn first captured =>
    cases fn with
    | func f =>
      refine ⟨(aevs gl fr first.toList).bind fun xs => (aevs gl fr captured.toList).map fun ys => .fn (.func f) xs ys, fun _ _ => ?_⟩
      simp [aop, Option.map_bind, Option.map_map, Function.comp_def]
    | _ => exact ⟨none, fun _ _ => rfl⟩
  case fieldAddr t x f =>
    refine ⟨(aev gl fr x).bind fun a => match und P t, a with
      | some (.struct fs), .ptr b o => (fs[f]?).bind fun f => (sz P f.type).bind fun n => if n = 0 then none else some (.ptr b (o + f.offset))
      | _, _ => none, fun _ _ => ?_⟩
    simp only [aop, Option.map_bind]
    congr 1; funext v; dsimp only [Function.comp]
    cases und P t with
    | none => rfl
    | some d =>
      cases d <;> try rfl
      cases v <;> try rfl
      dsimp only
      rw [Option.map_bind]; congr 1; funext g; dsimp only [Function.comp]; rw [Option.map_bind]; congr 1; funext n; dsimp only [Function.comp]; split <;> rfl
  case field t x f =>
    refine ⟨(aev gl fr x).bind fun a => match und P t, a with
      | some (.struct fs), .agg cs => (fs[f]?).bind fun f => apart P f.type cs f.offset
      | _, _ => none, fun _ _ => ?_⟩
    simp only [aop, Option.map_bind]
    congr 1; funext v; dsimp only [Function.comp]
    cases und P t with
    | none => rfl
    | some d =>
      cases d <;> try rfl
      cases v <;> try rfl
      dsimp only
      rw [Option.map_bind]; rfl
  case indexAddr t x ix =>
    refine ⟨(aev gl fr x).bind fun a => (aev gl fr ix).bind fun i => match und P t, a, i with
      | some (.array len e), .ptr b o, .int _ i => (sz P e).bind fun n => if 0 ≤ i ∧ i < (len : Int) then some (.ptr b (o + i.toNat * n)) else none
      | some (.slice e), .sl b o len _, .int _ i => (sz P e).bind fun n => if 0 ≤ i ∧ i < (len : Int) then some (.ptr b (o + i.toNat * n)) else none
      | _, _, _ => none, fun _ _ => ?_⟩
    simp only [aop, Option.map_bind]
    congr 1; funext v; dsimp only [Function.comp]; rw [Option.map_bind]
    congr 1; funext i; dsimp only [Function.comp]
    cases und P t with
    | none => rfl
    | some d =>
      cases d <;> try rfl
      · cases v <;> try rfl
        cases i <;> try rfl
        dsimp only
        rw [Option.map_bind]; congr 1; funext n; dsimp only [Function.comp]; split <;> rfl
      · cases v <;> try rfl
        cases i <;> try rfl
        dsimp only
        rw [Option.map_bind]; congr 1; funext n; dsimp only [Function.comp]; split <;> rfl
  case index t x ix =>
    refine ⟨(aev gl fr x).bind fun a => (aev gl fr ix).bind fun i => match und P t, a, i with
      | some (.array len e), .agg cs, .int _ i => (sz P e).bind fun n => if 0 ≤ i ∧ i < (len : Int) then apart P e cs (i.toNat * n) else none
      | some .string, .str s, .int _ i => if 0 ≤ i then (s[i.toNat]?).map fun b => .int .u8 (Int.ofNat b) else none
      | _, _, _ => none, fun _ _ => ?_⟩
    simp only [aop, Option.map_bind]
    congr 1; funext v; dsimp only [Function.comp]; rw [Option.map_bind]
    congr 1; funext i; dsimp only [Function.comp]
    cases und P t with
    | none => rfl
    | some d =>
      cases d <;> try rfl
      · cases v <;> try rfl
        cases i <;> try rfl
        dsimp only
        split
        · rw [Option.map_map]; rfl
        · rfl
      · cases v <;> try rfl
        cases i <;> try rfl
        dsimp only
        rw [Option.map_bind]; congr 1; funext n; dsimp only [Function.comp]; split <;> rfl
  case extract x i =>
    refine ⟨(aev gl fr x).bind fun a => match a with | .tup vs => vs[i]? | _ => none, fun _ _ => ?_⟩
    simp only [aop, Option.map_bind]
    congr 1; funext v; dsimp only [Function.comp]; cases v <;> rfl

omit [Env] in
/-- What a pure operation answers hangs on no heap. -/
theorem aop_pure_heap {lim' : Nat} {fr : AFr} {H H2 : AHeap} {o : Oper} {r : Res} (hp : pureOp o = true) (h : aop P gl lim fr H o = some r) : ∃ v, r = .val v H ∧ aop P gl lim' fr H2 o = some (.val v H2) := by
  obtain ⟨X, hX⟩ := aop_pure (P := P) (gl := gl) (fr := fr) hp
  rw [hX] at h ⊢
  obtain ⟨v, hv, rfl⟩ := Option.map_eq_some_iff.1 h
  exact ⟨v, rfl, by rw [hv]; rfl⟩

omit [Dec] [Env] in
theorem foldl_before (acc : Array Nat) (i : Nat) : ∀ (l : List Edge) (s : Nat), (l.foldl (fun s e => if Region.binds .any e then s ||| 2 ^ e.on ||| acc.getD e.on 0 else s) s).testBit i = true →
    s.testBit i = true ∨ ∃ e ∈ l, Region.binds .any e = true ∧ (e.on = i ∨ (acc.getD e.on 0).testBit i = true)
  | [], s, h => .inl h
  | e :: l, s, h => by
    rw [List.foldl_cons] at h
    rcases foldl_before acc i l _ h with h | ⟨e', he, h1, h2⟩
    · split at h
      · rename_i hb
        simp only [Nat.testBit_or, Bool.or_eq_true, Nat.testBit_two_pow, decide_eq_true_eq] at h
        rcases h with (h | h) | h
        · exact .inl h
        · exact .inr ⟨e, by simp, hb, .inl h⟩
        · exact .inr ⟨e, by simp, hb, .inr h⟩
      · exact .inl h
    · exact .inr ⟨e', by simp [he], h1, h2⟩

omit [Dec] [Env] in
theorem before_spec (ops : Array Oper) : (Region.before ops).size = ops.size ∧ ∀ j o i, ops[j]? = some o → isBefore (Region.before ops) i j = true → (∀ e ∈ o.after, Region.binds .any e = true → e.on < j) →
    ∃ e ∈ o.after, Region.binds .any e = true ∧ (e.on = i ∨ isBefore (Region.before ops) i e.on = true) := by
  have key : ∀ (l : List Oper) (acc : Array Nat), (l.foldl (fun acc o => acc.push (o.after.foldl (fun s e => if Region.binds .any e then s ||| 2 ^ e.on ||| acc.getD e.on 0 else s) 0)) acc).size = acc.size + l.length ∧
      (∀ k, k < acc.size → (l.foldl (fun acc o => acc.push (o.after.foldl (fun s e => if Region.binds .any e then s ||| 2 ^ e.on ||| acc.getD e.on 0 else s) 0)) acc).getD k 0 = acc.getD k 0) ∧
      ∀ j o i, l[j]? = some o → ((l.foldl (fun acc o => acc.push (o.after.foldl (fun s e => if Region.binds .any e then s ||| 2 ^ e.on ||| acc.getD e.on 0 else s) 0)) acc).getD (acc.size + j) 0).testBit i = true →
        (∀ e ∈ o.after, Region.binds .any e = true → e.on < acc.size + j) →
        ∃ e ∈ o.after, Region.binds .any e = true ∧ (e.on = i ∨ ((l.foldl (fun acc o => acc.push (o.after.foldl (fun s e => if Region.binds .any e then s ||| 2 ^ e.on ||| acc.getD e.on 0 else s) 0)) acc).getD e.on 0).testBit i = true) := by
    intro l
    induction l with
    | nil => intro acc; exact ⟨rfl, fun _ _ => rfl, fun j o i h => by simp at h⟩
    | cons x l ih =>
      intro acc
      obtain ⟨h1, h2, h3⟩ := ih (acc.push (x.after.foldl (fun s e => if Region.binds .any e then s ||| 2 ^ e.on ||| acc.getD e.on 0 else s) 0))
      rw [List.foldl_cons]
      refine ⟨by rw [h1]; simp; omega, fun k hk => ?_, fun j o i hj hb he => ?_⟩
      · rw [h2 k (by simp; omega)]
        simp [Array.getD_eq_getD_getElem?, Array.getElem?_push, Nat.ne_of_lt hk]
      · cases j with
        | zero =>
          simp at hj; subst hj
          rw [Nat.add_zero, h2 acc.size (by simp)] at hb
          simp only [Array.getD_eq_getD_getElem?, Array.getElem?_push_size, Option.getD_some] at hb
          rw [← Array.foldl_toList] at hb
          have hb' := foldl_before acc i x.after.toList 0 (by simpa [Array.getD_eq_getD_getElem?] using hb)
          rcases hb' with hb' | ⟨e, hem, hbi, hon⟩
          · simp at hb'
          · refine ⟨e, by simpa using hem, hbi, hon.imp id fun hon => ?_⟩
            have hlt := he e (by simpa using hem) hbi
            rw [h2 e.on (by simp; omega)]
            simp only [Array.getD_eq_getD_getElem?, Array.getElem?_push] at hon ⊢
            rw [if_neg (by omega)]
            exact hon
        | succ j =>
          have := h3 j o i (by simpa using hj) (by simpa [Nat.add_assoc, Nat.add_comm 1 j] using hb) (fun e hem hbi => by have := he e hem hbi; simp; omega)
          exact this
  obtain ⟨h1, h2, h3⟩ := key ops.toList #[]
  unfold Region.before isBefore
  rw [← Array.foldl_toList]
  refine ⟨by rw [h1]; simp, fun j o i hj hb he => ?_⟩
  have := h3 j o i (by simpa using hj) (by simpa using hb) (fun e hem hbi => by simpa using he e hem hbi)
  exact this
end
end Go.Proofs.YtklenhohljeacaaDoor.Ex
