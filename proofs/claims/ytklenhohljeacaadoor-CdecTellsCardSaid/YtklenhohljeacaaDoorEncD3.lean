/-
  What the laid variables of the Cdec laws give the executor: its first two blocks; calls out of them.
-/
import Derived.Test.YtklenhohljeacaaDoorRows
import Derived.Test.YtklenhohljeacaaDoorEncD2
import Derived.Test.YtklenhohljeacaaDoorEncZ
import Derived.OpenShut
import Derived.LaidMore
namespace Go.Proofs.YtklenhohljeacaaDoor
open Go.Proofs.YtklenhohljeacaaDoor.Ex

theorem gAlu : Tryd.prog.globalNamed "quoin/cdec.alu" = some 0 := by kernel_rfl
theorem gNames : Tryd.prog.globalNamed "quoin/insn.names" = some 1 := by kernel_rfl
theorem tAlu : (Tryd.prog.globals[0]?).map (·.type) = some 92 := by kernel_rfl
theorem tNames : (Tryd.prog.globals[1]?).map (·.type) = some 103 := by kernel_rfl
theorem cells9 : Tryd.prog.cellsOf 9 = 1 := by kernel_rfl
theorem cells92 : Tryd.prog.cellsOf 92 = 6 := by kernel_rfl
theorem cells103 : Tryd.prog.cellsOf 103 = 94 := by kernel_rfl
theorem under92 : Tryd.prog.underlying 92 = some (.array 6 9) := by kernel_rfl
theorem under103 : Tryd.prog.underlying 103 = some (.array 94 9) := by kernel_rfl

def dnat : DataW Unit → List Nat
  | .lit (.string s) => s.map UInt8.toNat
  | _ => []
def dparts : DataW Unit → List (DataW Unit)
  | .agg l => l
  | _ => []
def dstrs (d : DataW Unit) : List AV := (dparts d).map fun d => .str (dnat d)
def names : List AV := dstrs Rows.laid_quoin_insn_names
def alu : List AV := dstrs Rows.laid_quoin_cdec_alu

theorem vrs_of_get (D : Dec) (E : @Env D) {ρ : Rho} : ∀ (L : List (DataW Unit)) (cs : List Value), cs.length = L.length →
    (∀ i, i < L.length → ∃ s : ByteArray, cs[i]? = some (.string s) ∧ L[i]? = some (.lit (.string s.data.toList))) → @VRs D E ρ (L.map fun d => .str (dnat d)) cs
  | [], [], _, _ => .nil
  | [], _ :: _, h, _ => by simp at h
  | _ :: _, [], h, _ => by simp at h
  | d :: L, c :: cs, h, k => by
    obtain ⟨s, h1, h2⟩ := k 0 (by simp)
    simp only [List.getElem?_cons_zero, Option.some.injEq] at h1 h2
    subst h1; subst h2
    refine .cons _ _ _ _ (.str s _ ?_) (vrs_of_get D E L cs (by simpa using h) fun i hi => ?_)
    · simp [dnat]
    · have := k (i + 1) (by simpa using hi)
      simpa using this

theorem strings_of_trod {P : Program} {W : World} {n e t fuel : Nat} {cs : Array Value} {L : List (DataW Unit)} {p : List MemPlace} {sp : Nat → Bool} (ht : P.underlying t = some (.array n e)) (he : P.underlying e = some .string) (hc : P.cellsOf e = 1) (hn : P.cellsOf t = n)
    (h : DataW.trod (fun _ => ()) P W 0 sp false fuel t cs.toList = some (.agg L, p)) : cs.size = n ∧ ∀ (D : Dec) (E : @Env D) ρ, @VRs D E ρ (L.map fun d => .str (dnat d)) cs.toList := by
  obtain ⟨xs, m, rfl, hx, hl, hxl, hel⟩ := DataW.trod_array ht h
  simp only [Prod.mk.injEq, DataW.agg.injEq] at hx
  obtain ⟨hL, _⟩ := hx
  have hsz : cs.size = n := by rw [← hn, ← hl]; simp
  refine ⟨hsz, fun D E ρ => vrs_of_get D E _ _ (by rw [hL]; simp [hxl, hsz]) fun i hi => ?_⟩
  have hi' : i < n := by rw [hL] at hi; simpa [hxl] using hi
  have h0 := hel i hi'
  have hxi : i < xs.length := by omega
  rw [List.getElem?_eq_getElem hxi] at h0
  obtain ⟨s, e1, e2, _⟩ := DataW.trod_string he h0
  refine ⟨s, ?_, ?_⟩
  · rw [hc, Nat.mul_one] at e1
    have := congrArg (fun l => l[0]?) e1
    simpa using this
  · rw [hL]
    simp [List.getElem?_eq_getElem hxi, e2]

/-- What the condition gives: the two blocks. -/
theorem of_laid {W : World} (h : laidMetH Tryd.prog [("quoin/insn.names", Rows.laid_quoin_insn_names), ("quoin/cdec.alu", Rows.laid_quoin_cdec_alu)] W) :
    ∃ C0 t0 C1 t1, W.heap[0]? = some (.cells C0 t0 (0, 0)) ∧ W.heap[1]? = some (.cells C1 t1 (0, 0)) ∧ C0.size = 6 ∧ C1.size = 94 ∧ ∀ (D : Dec) (E : @Env D) ρ, @VRs D E ρ alu C0.toList ∧ @VRs D E ρ names C1.toList := by
  rw [MakeChecks.laidMetH_plain _ _ _ (by kernel_rfl)] at h
  obtain ⟨ps, ⟨g1, t1, cs1, f1, p1, q1, hg1, ht1, hv1, hd1, ⟨g0, t0, cs0, f0, p0, q0, hg0, ht0, hv0, hd0, rfl, rfl⟩, rfl⟩, _, hp⟩ := h
  obtain rfl := Option.some.inj (gAlu.symm.trans hg0)
  obtain rfl := Option.some.inj (gNames.symm.trans hg1)
  obtain rfl := Option.some.inj (tAlu.symm.trans ht0)
  obtain rfl := Option.some.inj (tNames.symm.trans ht1)
  obtain ⟨z0, s0⟩ := strings_of_trod (L := dparts Rows.laid_quoin_cdec_alu) under92 Tryd.underlying9 cells9 cells92 hd0
  obtain ⟨z1, s1⟩ := strings_of_trod (L := dparts Rows.laid_quoin_insn_names) under103 Tryd.underlying9 cells9 cells103 hd1
  have m0 : MemPlace.cell 0 0 ∈ MemPlace.row ⟨0, 0, none⟩ cs0.size := by
    rw [z0]; exact of_decide_eq_true (by kernel_rfl)
  have m1 : MemPlace.cell 1 0 ∈ MemPlace.row ⟨1, 0, none⟩ cs1.size := by
    rw [z1]; exact of_decide_eq_true (by kernel_rfl)
  obtain ⟨⟨c0, u0, w0⟩, _⟩ := hp 0 0 (by simp [m0])
  obtain ⟨⟨c1, u1, w1⟩, _⟩ := hp 1 0 (by simp [m1])
  unfold World.var? at hv0 hv1
  rw [gAlu] at hv0
  rw [gNames] at hv1
  simp only [Option.bind_some, w0, w1, Option.some.injEq] at hv0 hv1
  subst hv0; subst hv1
  exact ⟨_, _, _, _, w0, w1, z0, z1, fun D E ρ => ⟨s0 D E ρ, s1 D E ρ⟩⟩

noncomputable def heap0 (t0 t1 : TypeId) : AHeap := ((⟨0, .leaf⟩ : AHeap).alloc (.cells alu t0 true)).alloc (.cells names t1 true)
def rho0 : Rho := fun b => if b = 0 then some ⟨0, 0, true, 6, 1⟩ else if b = 1 then some ⟨1, 0, true, 94, 1⟩ else none

theorem alu_len : alu.length = 6 := by kernel_rfl
theorem names_len : names.length = 94 := by kernel_rfl

theorem gok0 : GOK rho0 2 := fun g hg => by
  match g, hg with
  | 0, _ => exact ⟨_, rfl, rfl, rfl⟩
  | 1, _ => exact ⟨_, rfl, rfl, rfl⟩

theorem heap0_get (t0 t1 : TypeId) (b : Nat) (o : AObj) (h : (heap0 t0 t1).get b = some o) : (b = 0 ∧ o = .cells alu t0 true) ∨ (b = 1 ∧ o = .cells names t1 true) := by
  have e1 : (heap0 t0 t1).get b = if b = 1 then some (.cells names t1 true) else ((⟨0, .leaf⟩ : AHeap).alloc (.cells alu t0 true)).get b := AHeap.get_alloc _ _ _
  have e0 : ((⟨0, .leaf⟩ : AHeap).alloc (.cells alu t0 true)).get b = if b = 0 then some (.cells alu t0 true) else (⟨0, .leaf⟩ : AHeap).get b := AHeap.get_alloc _ _ _
  rw [e1] at h
  by_cases h1 : b = 1
  · rw [if_pos h1] at h
    exact Or.inr ⟨h1, (Option.some.inj h).symm⟩
  · rw [if_neg h1, e0] at h
    by_cases h0 : b = 0
    · rw [if_pos h0] at h
      exact Or.inl ⟨h0, (Option.some.inj h).symm⟩
    · rw [if_neg h0] at h
      simp [AHeap.get, T.get_leaf] at h

theorem inv0 [D : Dec] [E : Env] {P : Program} {W : World} {C0 C1 : Array Value} {t0 t1 : TypeId} (h0 : W.heap[0]? = some (.cells C0 t0 (0, 0))) (h1 : W.heap[1]? = some (.cells C1 t1 (0, 0))) (z0 : C0.size = 6) (z1 : C1.size = 94)
    (hv : ∀ (D : Dec) (E : @Env D) ρ, @VRs D E ρ alu C0.toList ∧ @VRs D E ρ names C1.toList) : Inv P rho0 (heap0 t0 t1) W where
  obj b o r hb hr := by
    rcases heap0_get t0 t1 b o hb with ⟨rfl, rfl⟩ | ⟨rfl, rfl⟩
    · cases hr
      refine ⟨_, h0, rfl, rfl, z0, by rw [alu_len, z0]; exact Nat.le_refl _, ?_, by simp, fun h => by cases h⟩
      rw [alu_len, ← z0, List.drop_zero, List.take_of_length_le (by simp)]
      exact (hv D E rho0).1
    · cases hr
      refine ⟨_, h1, rfl, rfl, z1, by rw [names_len, z1]; exact Nat.le_refl _, ?_, by simp, fun h => by cases h⟩
      rw [names_len, ← z1, List.drop_zero, List.take_of_length_le (by simp)]
      exact (hv D E rho0).2
  inj b c o p r s hb hc hr hs e := by
    rcases heap0_get t0 t1 b o hb with ⟨rfl, rfl⟩ | ⟨rfl, rfl⟩ <;> rcases heap0_get t0 t1 c p hc with ⟨rfl, rfl⟩ | ⟨rfl, rfl⟩ <;> cases hr <;> cases hs <;> simp_all
  fresh b hb := by
    have : 2 ≤ b := hb
    unfold rho0
    rw [if_neg (by omega), if_neg (by omega)]
  lt b r hr := by
    unfold rho0 at hr
    have l0 := (Array.getElem?_eq_some_iff.1 h0).1
    have l1 := (Array.getElem?_eq_some_iff.1 h1).1
    split at hr
    · cases hr; exact l0
    · split at hr
      · cases hr; exact l1
      · cases hr

abbrev laid : List (String × DataW Unit) := [("quoin/insn.names", Rows.laid_quoin_insn_names), ("quoin/cdec.alu", Rows.laid_quoin_cdec_alu)]
/-- A run out of the two blocks. -/
noncomputable def runL (orc : Fa → ACall) (n : Nat) (f : FuncId) (args : List AV) (t0 t1 : TypeId) (F : Fa) : Option AV :=
  (acallT Tryd.prog (orc F) (@execT F.dec Tryd.prog 2 (orc F) n) 2 f args (heap0 t0 t1) fun v H => some (v, H)).map (·.1)
/-- What a tree tells of a call out of the two blocks. -/
theorem calls_tree {orc : Fa → ACall} {φ : Nat → List Int → Int} (horc : OrcOK Tryd.prog 2 φ orc) {n : Nat} {f : FuncId} {args : List AV} {F : Fa} {t : Tr} (told : (fun t0 t1 => t.ok (runL orc n f args t0 t1) F) = fun _ _ => true)
    {η : Nat → Int} (hF : F.On η φ) {v : AV} (hv : t.at η φ = some v) (hp : v.plain = true) (ha : AV.plains args = true) {as_ : List Value} {u : Value} (e1 : AV.toVals η φ args = as_) (e2 : v.toVal η φ = u) {W : World} (h : laidMetH Tryd.prog laid W) :
    Calls Tryd.prog f as_.toArray W fun e W' => e = .returned u ∧ RowKit.Below W.heap.size W W' := by
  subst e1; subst e2
  obtain ⟨C0, t0, C1, t1, h0, h1, z0, z1, hvs⟩ := of_laid h
  obtain ⟨F', hF', hR⟩ := Tr.ok_at (congrFun (congrFun told t0) t1) hF hv
  letI : Dec := F'.dec
  letI : Env := hF'.env
  have hi : Inv Tryd.prog rho0 (heap0 t0 t1) W := inv0 h0 h1 z0 z1 hvs
  unfold runL at hR
  rw [callT_eq, Option.map_eq_some_iff] at hR
  obtain ⟨⟨x, H'⟩, hq, hx⟩ := hR
  simp only at hx
  subst hx
  refine (call_sound mixed (horc F' η hF') n 2 f args (heap0 t0 t1) x H' hq rho0 W _ hi (VRs.ofVal rho0 args ha) gok0 (Nat.le_refl _)).mono ?_
  rintro e w' ⟨ρ', v', he, hv', hs⟩
  rw [VR.toVal _ hp hv'] at he
  exact ⟨he, hs.below (Nat.le_refl _) hi⟩

def isStrs : List AV → Bool
  | [] => true
  | .str _ :: l => isStrs l
  | _ => false
theorem alu_strs : isStrs alu = true := by kernel_rfl
theorem names_strs : isStrs names = true := by kernel_rfl
/-- Texts stand for the same, whatever is known of numbers. -/
theorem strs_any : ∀ (l : List AV), isStrs l = true → ∀ (D D' : Dec) (E : @Env D) (E' : @Env D') {ρ ρ' : Rho} {vs : List Value}, @VRs D E ρ l vs → @VRs D' E' ρ' l vs
  | [], _, D, D', E, E', ρ, ρ', vs, h => by
    have hv : vs = [] := List.length_eq_zero_iff.1 (by simpa using (@VRs.length D E ρ [] vs h).symm)
    subst hv
    exact @VRs.nil D' E' ρ'
  | .str s :: l, hs, D, D', E, E', ρ, ρ', vs, h => by
    cases h with
    | cons _ v _ us h t =>
      refine @VRs.cons D' E' ρ' _ _ _ _ ?_ (strs_any l hs D D' E E' t)
      cases h with
      | str x _ e => exact @VR.str D' E' ρ' x _ e
/- the chapter's first examples: one run, wherever the two blocks are as they were laid -/
theorem told9 : (fun t0 t1 => isTrue (@acallT Tryd.prog noOrc (@execT Dec.none Tryd.prog 2 noOrc 10000) 2 9 [] (heap0 t0 t1) fun v H => some (v, H))) = fun _ _ => true := by kernel_rfl
theorem alive_calls {W : World} {t0 t1 : TypeId} {ρ : Rho} (hi : @Inv Dec.none Env.none Tryd.prog ρ (heap0 t0 t1) W) (hg : GOK ρ 2) : Calls Tryd.prog 9 #[] W fun e W' => e = .returned (.bool true) ∧ RowKit.Below W.heap.size W W' := by
  letI : Dec := Dec.none
  letI : Env := Env.none
  have ht : isTrue (acallT Tryd.prog noOrc (execT Tryd.prog 2 noOrc 10000) 2 9 [] (heap0 t0 t1) fun v H => some (v, H)) = true := congrFun (congrFun told9 t0) t1
  rw [callT_eq] at ht
  cases hq : acall Tryd.prog noOrc (exec Tryd.prog 2 noOrc 10000) 2 9 [] (heap0 t0 t1) with
  | none => rw [hq] at ht; cases ht
  | some r =>
    obtain ⟨v, H'⟩ := r
    rw [hq] at ht
    refine (call_sound mixed noOrc_ok 10000 2 9 [] (heap0 t0 t1) v H' hq ρ W [] hi .nil hg (Nat.le_refl _)).mono ?_
    rintro e w' ⟨ρ', v', he, hv', hs⟩
    have hb := hs.below (Nat.le_refl _) hi
    cases v with
    | bool b =>
      cases b with
      | true => cases hv'; exact ⟨he, hb⟩
      | false => cases ht
    | _ => cases ht
noncomputable def orcAlive : ACall := fun _ f args H => match Nat.beq f 9, args with
  | true, [] => match H.get 0, H.get 1 with
    | some (.cells c0 _ true), some (.cells c1 _ true) => match AV.eqbs c0 alu && AV.eqbs c1 names with
      | true => some (.bool true, H)
      | false => none
    | _, _ => none
  | _, _ => none
theorem inv_mk [Dec] [Env] {P : Program} {ρ : Rho} {H : AHeap} {w : World} (h1 : ∀ b o r, H.get b = some o → ρ b = some r → ∃ C, w.heap[r.cb]? = some C ∧ OR P ρ r o C)
    (h2 : ∀ b c o p r s, H.get b = some o → H.get c = some p → ρ b = some r → ρ c = some s → r.cb = s.cb → b = c) (h3 : ∀ b, H.next ≤ b → ρ b = none) (h4 : ∀ b r, ρ b = some r → r.cb < w.heap.size) : Inv P ρ H w := ⟨h1, h2, h3, h4⟩
theorem orcAlive_ok [Dec] [Env] : CallOK Tryd.prog 2 orcAlive := by
  intro lim f args H v H' h ρ w args' hI ha hg hl
  unfold orcAlive at h
  split at h
  · rename_i hf
    have hf := Nat.eq_of_beq_eq_true hf
    subst hf
    cases ha
    split at h
    · rename_i c0 t0 c1 t1 g0 g1
      split at h
      · rename_i he
        simp only [Option.some.injEq, Prod.mk.injEq] at h
        obtain ⟨rfl, rfl⟩ := h
        obtain ⟨q0, q1⟩ := Bool.and_eq_true_iff.1 he
        have q0 := AV.eqbs_eq _ _ q0
        have q1 := AV.eqbs_eq _ _ q1
        subst q0; subst q1
        obtain ⟨r0, hr0, -, -⟩ := hg 0 (by omega)
        obtain ⟨r1, hr1, -, -⟩ := hg 1 (by omega)
        have hi : @Inv Dec.none Env.none Tryd.prog (fun b => if b < 2 then ρ b else none) (heap0 t0 t1) w := by
          have get2 : ∀ b o, (heap0 t0 t1).get b = some o → b < 2 ∧ H.get b = some o := by
            intro b o hb
            rcases heap0_get t0 t1 b o hb with ⟨rfl, rfl⟩ | ⟨rfl, rfl⟩
            · exact ⟨by omega, g0⟩
            · exact ⟨by omega, g1⟩
          refine @inv_mk Dec.none Env.none _ _ _ _ ?_ ?_ ?_ ?_
          · intro b o r hb hr
            obtain ⟨hlt, hb'⟩ := get2 b o hb
            simp only [if_pos hlt] at hr
            obtain ⟨C, hC, hO⟩ := hI.obj b o r hb' hr
            refine ⟨C, hC, ?_⟩
            rcases heap0_get t0 t1 b o hb with ⟨rfl, rfl⟩ | ⟨rfl, rfl⟩
            · cases C with
              | cells C E fr =>
                obtain ⟨a1, a2, a3, a4, a5, a6, a7⟩ := hO
                exact ⟨a1, a2, a3, a4, strs_any _ alu_strs _ _ _ _ a5, a6, a7⟩
              | _ => exact hO.elim
            · cases C with
              | cells C E fr =>
                obtain ⟨a1, a2, a3, a4, a5, a6, a7⟩ := hO
                exact ⟨a1, a2, a3, a4, strs_any _ names_strs _ _ _ _ a5, a6, a7⟩
              | _ => exact hO.elim
          · intro b c o p r s hb hc hr hs e
            obtain ⟨l1, hb'⟩ := get2 b o hb
            obtain ⟨l2, hc'⟩ := get2 c p hc
            simp only [if_pos l1] at hr
            simp only [if_pos l2] at hs
            exact hI.inj b c o p r s hb' hc' hr hs e
          · intro b hb
            have : 2 ≤ b := hb
            exact if_neg (by omega)
          · intro b r hr
            by_cases hb2 : b < 2
            · rw [if_pos hb2] at hr
              exact hI.lt b r hr
            · rw [if_neg hb2] at hr
              cases hr
        refine orc_case hI (alive_calls hi fun g hgl => ?_) (.bool true)
        obtain ⟨r, h1, h2⟩ := hg g hgl
        exact ⟨r, by simp only [if_pos hgl]; exact h1, h2⟩
      · cases h
    · cases h
  · cases h
noncomputable def orcZ (F : Fa) : ACall := orElse orcAlive (orcD 8 16 F)
theorem orcZ_OK : OrcOK Tryd.prog 2 φ0 orcZ := fun F η h => @callOK_or F.dec h.env Tryd.prog 2 _ _ (@orcAlive_ok F.dec h.env) (orcD_OK enc check F η h)
end Go.Proofs.YtklenhohljeacaaDoor
