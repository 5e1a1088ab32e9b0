/-
  Half words, in the door program's own numbers: a heap as laid; what reads them.
-/
import Derived.Test.YtklenhohljeacaaDoorEncD3
import Derived.Test.YtklenhohljeacaaDoorEncI2
namespace Go.Proofs.YtklenhohljeacaaDoor
open Go.Proofs.YtklenhohljeacaaDoor.Ex

/-- The two blocks are as they were laid. -/
def Laid2 (w : World) : Prop := ∃ (t0 t1 : TypeId) (ρ : Rho), GOK ρ 2 ∧ ∀ (D : Dec) (E : @Env D), @Inv D E Tryd.prog ρ (heap0 t0 t1) w
theorem laid2_of {W : World} (h : laidMetH Tryd.prog laid W) : Laid2 W := by
  obtain ⟨C0, t0, C1, t1, h0, h1, z0, z1, hvs⟩ := of_laid h
  exact ⟨t0, t1, rho0, gok0, fun D E => @inv0 D E _ _ _ _ _ _ h0 h1 z0 z1 hvs⟩
noncomputable def chk (H : AHeap) : Bool := match H.get 0, H.get 1 with
  | some (.cells c0 _ true), some (.cells c1 _ true) => AV.eqbs c0 alu && AV.eqbs c1 names
  | _, _ => false
theorem laid2_inv [Di : Dec] [Ei : Env] (ρ : Rho) (H : AHeap) (w : World) (hc : chk H = true) (hI : Inv Tryd.prog ρ H w) (hg : GOK ρ 2) : Laid2 w := by
  unfold chk at hc
  split at hc
  · rename_i c0 t0 c1 t1 g0 g1
    obtain ⟨q0, q1⟩ := Bool.and_eq_true_iff.1 hc
    have q0 := AV.eqbs_eq _ _ q0
    have q1 := AV.eqbs_eq _ _ q1
    subst q0; subst q1
    have get2 : ∀ b o, (heap0 t0 t1).get b = some o → b < 2 ∧ H.get b = some o := by
      intro b o hb
      rcases heap0_get t0 t1 b o hb with ⟨rfl, rfl⟩ | ⟨rfl, rfl⟩
      · exact ⟨by omega, g0⟩
      · exact ⟨by omega, g1⟩
    refine ⟨t0, t1, fun b => if b < 2 then ρ b else none, fun g hgl => ?_, fun D E => ?_⟩
    · obtain ⟨r, h1, h2⟩ := hg g hgl
      exact ⟨r, by simp only [if_pos hgl]; exact h1, h2⟩
    · refine @inv_mk D E _ _ _ _ ?_ ?_ ?_ ?_
      · intro b o r hb hr
        obtain ⟨hlt, hb'⟩ := get2 b o hb
        simp only [if_pos hlt] at hr
        obtain ⟨C, hC, hO⟩ := @Inv.obj Di Ei _ _ _ _ hI b o r hb' hr
        refine ⟨C, hC, ?_⟩
        rcases heap0_get t0 t1 b o hb with ⟨rfl, rfl⟩ | ⟨rfl, rfl⟩
        · cases C with
          | cells C E' fr =>
            obtain ⟨a1, a2, a3, a4, a5, a6, a7⟩ := hO
            exact ⟨a1, a2, a3, a4, strs_any _ alu_strs _ _ _ _ a5, a6, a7⟩
          | _ => exact hO.elim
        · cases C with
          | cells C E' fr =>
            obtain ⟨a1, a2, a3, a4, a5, a6, a7⟩ := hO
            exact ⟨a1, a2, a3, a4, strs_any _ names_strs _ _ _ _ a5, a6, a7⟩
          | _ => exact hO.elim
      · intro b c o p r s hb hc hr hs e
        obtain ⟨l1, hb'⟩ := get2 b o hb
        obtain ⟨l2, hc'⟩ := get2 c p hc
        simp only [if_pos l1] at hr
        simp only [if_pos l2] at hs
        exact @Inv.inj Di Ei _ _ _ _ hI b c o p r s hb' hc' hr hs e
      · intro b hb
        have : 2 ≤ b := hb
        exact if_neg (by omega)
      · intro b r hr
        by_cases hb2 : b < 2
        · rw [if_pos hb2] at hr
          exact @Inv.lt Di Ei _ _ _ _ hI b r hr
        · rw [if_neg hb2] at hr
          cases hr
  · cases hc
/-- What a tree tells of a call out of a heap that is as laid. -/
theorem ret_laid {orc : Fa → ACall} {φ : Nat → List Int → Int} (horc : OrcOK Tryd.prog 2 φ orc) {n : Nat} {f : FuncId} {args : List AV} {F : Fa} {t : Tr} (told : (fun t0 t1 => t.ok (runL orc n f args t0 t1) F) = fun _ _ => true)
    {η : Nat → Int} (hF : F.On η φ) {v : AV} (hv : t.at η φ = some v) (hp : v.plain = true) (ha : AV.plains args = true) {as_ : List Value} {u : Value} (e1 : AV.toVals η φ args = as_) (e2 : v.toVal η φ = u) : RetL Laid2 Tryd.prog f as_ u := by
  subst e1; subst e2
  rintro W ⟨t0, t1, ρ, hg, hi⟩
  obtain ⟨F', hF', hR⟩ := Tr.ok_at (congrFun (congrFun told t0) t1) hF hv
  letI : Dec := F'.dec
  letI : Env := hF'.env
  unfold runL at hR
  rw [callT_eq, Option.map_eq_some_iff] at hR
  obtain ⟨⟨x, H'⟩, hq, hx⟩ := hR
  simp only at hx
  subst hx
  refine (call_sound mixed (horc F' η hF') n 2 f args (heap0 t0 t1) x H' hq ρ W _ (hi _ _) (VRs.ofVal ρ args ha) hg (Nat.le_refl _)).mono ?_
  rintro e w' ⟨ρ', v', he, hv', hs⟩
  rw [VR.toVal _ hp hv'] at he
  exact ⟨he, hs.below (Nat.le_refl _) (hi _ _)⟩
theorem noOrc_OK2 : OrcOK Tryd.prog 2 φ0 (fun _ => noOrc) := noOrc_OK Tryd.prog 2 φ0
noncomputable def rawIn (n : Nat) (t0 t1 : TypeId) : Bool := (rawTr n).ok (runL (fun _ => noOrc) 10000 19 [.sint .u16 (.var 0)] t0 t1) (FS n)
end Go.Proofs.YtklenhohljeacaaDoor
