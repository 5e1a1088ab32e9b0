/-
  What the laid variables of the Cdec laws give the executor: its first two blocks.
-/
import Derived.Test.YtklenhohljeacaaDoorRows
import Derived.Test.YtklenhohljeacaaDoorExUse
import Derived.OpenShut
import Derived.LaidMore
namespace Go.Proofs.YtklenhohljeacaaDoor
open Ex

theorem gAlu : Tryd.prog.globalNamed "quoin/cdec.alu" = some 0 := by kernel_rfl
theorem gNames : Tryd.prog.globalNamed "quoin/insn.names" = some 1 := by kernel_rfl
theorem tAlu : (Tryd.prog.globals[0]?).map (·.type) = some 92 := by kernel_rfl
theorem tNames : (Tryd.prog.globals[1]?).map (·.type) = some 103 := by kernel_rfl
theorem cells9 : Tryd.prog.cellsOf 9 = 1 := by kernel_rfl
theorem cells92 : Tryd.prog.cellsOf 92 = 6 := by kernel_rfl
theorem cells103 : Tryd.prog.cellsOf 103 = 94 := by kernel_rfl
theorem under92 : Tryd.prog.underlying 92 = some (.array 6 9) := by kernel_rfl
theorem under103 : Tryd.prog.underlying 103 = some (.array 94 9) := by kernel_rfl

def dnat : DataW Unit → List Nat
  | .lit (.string s) => s.map UInt8.toNat
  | _ => []
def dparts : DataW Unit → List (DataW Unit)
  | .agg l => l
  | _ => []
def dstrs (d : DataW Unit) : List AV := (dparts d).map fun d => .str (dnat d)
def names : List AV := dstrs Rows.laid_quoin_insn_names
def alu : List AV := dstrs Rows.laid_quoin_cdec_alu

theorem vrs_of_get {ρ : Rho} : ∀ (L : List (DataW Unit)) (cs : List Value), cs.length = L.length →
    (∀ i, i < L.length → ∃ s : ByteArray, cs[i]? = some (.string s) ∧ L[i]? = some (.lit (.string s.data.toList))) → VRs ρ (L.map fun d => .str (dnat d)) cs
  | [], [], _, _ => .nil
  | [], _ :: _, h, _ => by simp at h
  | _ :: _, [], h, _ => by simp at h
  | d :: L, c :: cs, h, k => by
    obtain ⟨s, h1, h2⟩ := k 0 (by simp)
    simp only [List.getElem?_cons_zero, Option.some.injEq] at h1 h2
    subst h1; subst h2
    refine .cons _ _ _ _ (.str s _ ?_) (vrs_of_get L cs (by simpa using h) fun i hi => ?_)
    · simp [dnat]
    · have := k (i + 1) (by simpa using hi)
      simpa using this

theorem strings_of_trod {P : Program} {W : World} {n e t fuel : Nat} {cs : Array Value} {L : List (DataW Unit)} {p : List MemPlace} {sp : Nat → Bool} (ht : P.underlying t = some (.array n e)) (he : P.underlying e = some .string) (hc : P.cellsOf e = 1) (hn : P.cellsOf t = n)
    (h : DataW.trod (fun _ => ()) P W 0 sp false fuel t cs.toList = some (.agg L, p)) : cs.size = n ∧ ∀ ρ, VRs ρ (L.map fun d => .str (dnat d)) cs.toList := by
  obtain ⟨xs, m, rfl, hx, hl, hxl, hel⟩ := DataW.trod_array ht h
  simp only [Prod.mk.injEq, DataW.agg.injEq] at hx
  obtain ⟨hL, _⟩ := hx
  have hsz : cs.size = n := by rw [← hn, ← hl]; simp
  refine ⟨hsz, fun ρ => vrs_of_get _ _ (by rw [hL]; simp [hxl, hsz]) fun i hi => ?_⟩
  have hi' : i < n := by rw [hL] at hi; simpa [hxl] using hi
  have h0 := hel i hi'
  have hxi : i < xs.length := by omega
  rw [List.getElem?_eq_getElem hxi] at h0
  obtain ⟨s, e1, e2, _⟩ := DataW.trod_string he h0
  refine ⟨s, ?_, ?_⟩
  · rw [hc, Nat.mul_one] at e1
    have := congrArg (fun l => l[0]?) e1
    simpa using this
  · rw [hL]
    simp [List.getElem?_eq_getElem hxi, e2]

/-- What the condition gives: the two blocks. -/
theorem of_laid {W : World} (h : laidMetH Tryd.prog [("quoin/insn.names", Rows.laid_quoin_insn_names), ("quoin/cdec.alu", Rows.laid_quoin_cdec_alu)] W) :
    ∃ C0 t0 C1 t1, W.heap[0]? = some (.cells C0 t0 (0, 0)) ∧ W.heap[1]? = some (.cells C1 t1 (0, 0)) ∧ C0.size = 6 ∧ C1.size = 94 ∧ ∀ ρ, VRs ρ alu C0.toList ∧ VRs ρ names C1.toList := by
  rw [MakeChecks.laidMetH_plain _ _ _ (by kernel_rfl)] at h
  obtain ⟨ps, ⟨g1, t1, cs1, f1, p1, q1, hg1, ht1, hv1, hd1, ⟨g0, t0, cs0, f0, p0, q0, hg0, ht0, hv0, hd0, rfl, rfl⟩, rfl⟩, _, hp⟩ := h
  obtain rfl := Option.some.inj (gAlu.symm.trans hg0)
  obtain rfl := Option.some.inj (gNames.symm.trans hg1)
  obtain rfl := Option.some.inj (tAlu.symm.trans ht0)
  obtain rfl := Option.some.inj (tNames.symm.trans ht1)
  obtain ⟨z0, s0⟩ := strings_of_trod (L := dparts Rows.laid_quoin_cdec_alu) under92 Tryd.underlying9 cells9 cells92 hd0
  obtain ⟨z1, s1⟩ := strings_of_trod (L := dparts Rows.laid_quoin_insn_names) under103 Tryd.underlying9 cells9 cells103 hd1
  have m0 : MemPlace.cell 0 0 ∈ MemPlace.row ⟨0, 0, none⟩ cs0.size := by
    rw [z0]; exact of_decide_eq_true (by kernel_rfl)
  have m1 : MemPlace.cell 1 0 ∈ MemPlace.row ⟨1, 0, none⟩ cs1.size := by
    rw [z1]; exact of_decide_eq_true (by kernel_rfl)
  obtain ⟨⟨c0, u0, w0⟩, _⟩ := hp 0 0 (by simp [m0])
  obtain ⟨⟨c1, u1, w1⟩, _⟩ := hp 1 0 (by simp [m1])
  unfold World.var? at hv0 hv1
  rw [gAlu] at hv0
  rw [gNames] at hv1
  simp only [Option.bind_some, w0, w1, Option.some.injEq] at hv0 hv1
  subst hv0; subst hv1
  exact ⟨_, _, _, _, w0, w1, z0, z1, fun ρ => ⟨s0 ρ, s1 ρ⟩⟩

noncomputable def heap0 (t0 t1 : TypeId) : AHeap := ((⟨0, .leaf⟩ : AHeap).alloc (.cells alu t0 true)).alloc (.cells names t1 true)
def rho0 : Rho := fun b => if b = 0 then some ⟨0, 0, true, 6, 1⟩ else if b = 1 then some ⟨1, 0, true, 94, 1⟩ else none

theorem alu_len : alu.length = 6 := by kernel_rfl
theorem names_len : names.length = 94 := by kernel_rfl

theorem gok0 : GOK rho0 2 := fun g hg => by
  match g, hg with
  | 0, _ => exact ⟨_, rfl, rfl, rfl⟩
  | 1, _ => exact ⟨_, rfl, rfl, rfl⟩

theorem heap0_get (t0 t1 : TypeId) (b : Nat) (o : AObj) (h : (heap0 t0 t1).get b = some o) : (b = 0 ∧ o = .cells alu t0 true) ∨ (b = 1 ∧ o = .cells names t1 true) := by
  have e1 : (heap0 t0 t1).get b = if b = 1 then some (.cells names t1 true) else ((⟨0, .leaf⟩ : AHeap).alloc (.cells alu t0 true)).get b := AHeap.get_alloc _ _ _
  have e0 : ((⟨0, .leaf⟩ : AHeap).alloc (.cells alu t0 true)).get b = if b = 0 then some (.cells alu t0 true) else (⟨0, .leaf⟩ : AHeap).get b := AHeap.get_alloc _ _ _
  rw [e1] at h
  by_cases h1 : b = 1
  · rw [if_pos h1] at h
    exact Or.inr ⟨h1, (Option.some.inj h).symm⟩
  · rw [if_neg h1, e0] at h
    by_cases h0 : b = 0
    · rw [if_pos h0] at h
      exact Or.inl ⟨h0, (Option.some.inj h).symm⟩
    · rw [if_neg h0] at h
      simp [AHeap.get, T.get_leaf] at h

theorem inv0 {P : Program} {W : World} {C0 C1 : Array Value} {t0 t1 : TypeId} (h0 : W.heap[0]? = some (.cells C0 t0 (0, 0))) (h1 : W.heap[1]? = some (.cells C1 t1 (0, 0))) (z0 : C0.size = 6) (z1 : C1.size = 94)
    (hv : ∀ ρ, VRs ρ alu C0.toList ∧ VRs ρ names C1.toList) : Inv P rho0 (heap0 t0 t1) W where
  obj b o r hb hr := by
    rcases heap0_get t0 t1 b o hb with ⟨rfl, rfl⟩ | ⟨rfl, rfl⟩
    · cases hr
      refine ⟨_, h0, rfl, rfl, z0, by rw [alu_len, z0]; exact Nat.le_refl _, ?_, by simp, fun h => by cases h⟩
      rw [alu_len, ← z0, List.drop_zero, List.take_of_length_le (by simp)]
      exact (hv rho0).1
    · cases hr
      refine ⟨_, h1, rfl, rfl, z1, by rw [names_len, z1]; exact Nat.le_refl _, ?_, by simp, fun h => by cases h⟩
      rw [names_len, ← z1, List.drop_zero, List.take_of_length_le (by simp)]
      exact (hv rho0).2
  inj b c o p r s hb hc hr hs e := by
    rcases heap0_get t0 t1 b o hb with ⟨rfl, rfl⟩ | ⟨rfl, rfl⟩ <;> rcases heap0_get t0 t1 c p hc with ⟨rfl, rfl⟩ | ⟨rfl, rfl⟩ <;> cases hr <;> cases hs <;> simp_all
  fresh b hb := by
    have : 2 ≤ b := hb
    unfold rho0
    rw [if_neg (by omega), if_neg (by omega)]
  lt b r hr := by
    unfold rho0 at hr
    have l0 := (Array.getElem?_eq_some_iff.1 h0).1
    have l1 := (Array.getElem?_eq_some_iff.1 h1).1
    split at hr
    · cases hr; exact l0
    · split at hr
      · cases hr; exact l1
      · cases hr

theorem mixed : Tryd.prog.follows .mixedOrders = true := by kernel_rfl

/-- A call out of the two blocks alone that answers true. -/
theorem calls_told {orc : ACall} (horc : CallOK Tryd.prog 2 orc) {n : Nat} {f : FuncId} (told : (fun t0 t1 => isTrue (acall Tryd.prog orc (exec Tryd.prog 2 orc n) 2 f [] (heap0 t0 t1))) = fun _ _ => true)
    {W : World} (h : laidMetH Tryd.prog [("quoin/insn.names", Rows.laid_quoin_insn_names), ("quoin/cdec.alu", Rows.laid_quoin_cdec_alu)] W) :
    Calls Tryd.prog f #[] W fun e W' => e = .returned (.bool true) ∧ RowKit.Below W.heap.size W W' := by
  obtain ⟨C0, t0, C1, t1, h0, h1, z0, z1, hv⟩ := of_laid h
  have hi : Inv Tryd.prog rho0 (heap0 t0 t1) W := inv0 h0 h1 z0 z1 hv
  have ht : isTrue (acall Tryd.prog orc (exec Tryd.prog 2 orc n) 2 f [] (heap0 t0 t1)) = true := congrFun (congrFun told t0) t1
  cases hq : acall Tryd.prog orc (exec Tryd.prog 2 orc n) 2 f [] (heap0 t0 t1) with
  | none => rw [hq] at ht; cases ht
  | some r =>
    obtain ⟨v, H'⟩ := r
    rw [hq] at ht
    refine (call_sound mixed horc n 2 f [] (heap0 t0 t1) v H' hq rho0 W [] hi .nil gok0 (Nat.le_refl _)).mono ?_
    rintro e w' ⟨ρ', v', he, hv', hs⟩
    have hb := hs.below (Nat.le_refl _) hi
    cases v with
    | bool b =>
      cases b with
      | true => cases hv'; exact ⟨he, hb⟩
      | false => cases ht
    | _ => cases ht
end Go.Proofs.YtklenhohljeacaaDoor
