/-
  The law MachineMemory: the code of its texts, by the executor, and the memory that is made of it.
-/
import Derived.Test.YtoehlmiadiiimaaGreatDoorMemT1
import Derived.Test.YtoehlmiadiiimaaGreatDoorMacT
namespace Go.Proofs.YtoehlmiadiiimaaGreatDoor
open Go.ChangeShapes Go.WideShapes Go.RowKit Go.Proofs.YtoehlmiadiiimaaGreatDoor.Ex

theorem inv_below [Dec] [Env] {P : Program} {ρ : Rho} {H : AHeap} {w w' : World} (hI : Inv P ρ H w) (hb : Below w.heap.size w w') : Inv P ρ H w' where
  obj b o r h1 h2 := by
    obtain ⟨C, hC, hO⟩ := hI.obj b o r h1 h2
    exact ⟨C, (hb.block r.cb (hI.lt b r h2)).trans hC, hO⟩
  inj := hI.inj
  fresh := hI.fresh
  lt b r h2 := Nat.lt_of_lt_of_le (hI.lt b r h2) hb.size
/-- What the text's code leaves behind: what an append of zeros makes of it. -/
def CodePost (W : World) (l : List Int) (e : Ending) (w' : World) : Prop :=
  Below W.heap.size W w' ∧ ∃ A n c, e = .returned (.tuple #[.slice A n c, .bool true]) ∧ ∀ w2, Below w'.heap.size w' w2 → ∃ r w3, (∀ ty, (Builtin.append_ #[24, 3] ty #[.slice A n c, .int .i64 48]).run Tryz.prog w2 = .ok r w3) ∧ RdS w3 r (l.map (.int .u8)) ∧ Below W.heap.size W w3
theorem vrs_bytes [Dec] [Env] {ρ : Rho} : ∀ (l : List Int) (vs : List Value), VRs ρ (bytesA l) vs → vs = l.map (.int .u8)
  | [], vs, h => by cases h; rfl
  | x :: l, vs, h => by
    cases h with
    | cons _ v _ us h1 h2 =>
      rw [h1.int_inv, vrs_bytes l us h2]; rfl
theorem und3 : und Tryz.prog 3 = some (.int .i64) := by kernel_rfl
theorem und24 : und Tryz.prog 24 = some (.slice 5) := by kernel_rfl
theorem code_c (j : Nat) (hj : j < 4) (W : World) (hL : LG W) : Calls Tryz.prog 26 #[.string ⟨((textM j).map UInt8.ofNat).toArray⟩] W (CodePost W (memM j)) := by
  obtain ⟨ts, ρ, hg, hi⟩ := hL
  have hR := congrFun (codeR_all j hj) ts
  letI : Dec := F0.dec
  letI : Env := (Fa.On.nil (fun _ => 0) (fun _ _ => 0)).env
  have horc := (o184_OK (fun _ _ => 0)) F0 (fun _ => 0) (Fa.On.nil _ _)
  unfold codeR at hR
  split at hR
  · rename_i v H' hq
    rw [callT_eq] at hq
    have hI := hi F0.dec (Fa.On.nil (fun _ => 0) (fun _ _ => 0)).env
    have hstr : VRs ρ [.str (textM j)] [.string ⟨((textM j).map UInt8.ofNat).toArray⟩] := by
      refine .cons _ _ _ _ (.str _ _ ?_) .nil
      have h : ∀ j, j < 4 → j = 0 ∨ j = 1 ∨ j = 2 ∨ j = 3 := fun j hj => by omega
      rcases h j hj with rfl | rfl | rfl | rfl <;> decide
    refine (call_sound mixed horc 10000 13 26 [.str (textM j)] (heapG vars 13 ts) v H' hq ρ W _ hI hstr hg (Nat.le_refl _)).mono ?_
    rintro e w' ⟨ρ', v', rfl, hv', hs⟩
    have hbw := hs.below (Nat.le_refl _) hI
    refine ⟨hbw, ?_⟩
    unfold codeK at hR
    split at hR
    · rename_i b o n c
      cases hv' with
      | tup _ us hus =>
        cases hus with
        | cons _ v1 _ us h1 hus =>
          cases hus with
          | cons _ v2 _ us h2 hus =>
            cases hus
            cases h2
            split at hR
            · rename_i b' o' n' c' H'' hap
              have main : ∀ A n1 c1, v1 = .slice A n1 c1 → ∀ w2, Below w'.heap.size w' w2 → ∃ r w3, (∀ ty, (Builtin.append_ #[24, 3] ty #[.slice A n1 c1, .int .i64 48]).run Tryz.prog w2 = .ok r w3) ∧ RdS w3 r ((memM j).map (.int .u8)) ∧ Below W.heap.size W w3 := by
                intro A n1 c1 hv1 w2 hb2
                subst hv1
                have hI2 := inv_below hs.inv hb2
                have hlim : 13 ≤ H'.next := hs.next
                obtain ⟨ρ'', r, w3, hrun, hr, hst⟩ := op_append (lim := 13) (ty := 0) hI2 h1 (VR.int .i64 48) hlim und3 (fun h => by cases h) (fun _ => ⟨_, rfl⟩) #[24, 3] rfl rfl hap
                refine ⟨r, w3, fun ty => hrun, ?_, ?_⟩
                · split at hR
                  · rename_i cs e t hget
                    simp only [Bool.and_eq_true] at hR
                    obtain ⟨e1, e2, e3⟩ := hR
                    have e1 := Nat.eq_of_beq_eq_true e1
                    have e2 := Nat.eq_of_beq_eq_true e2
                    have e3 := AV.eqbs_eq _ _ e3
                    subst e1; subst e2; subst e3
                    have h60 : ((memM j).map (Value.int .u8)).length = 60 := by rw [List.length_map]; exact memM_len j
                    cases hr with
                    | sl _ _ _ _ cc q hq hl hc ht hz =>
                      obtain ⟨C, hC, hO⟩ := hst.inv.obj b' _ q hget hq
                      cases C with
                      | cells C E fr =>
                        obtain ⟨o1, o2, o3, o4, o5, -, -⟩ := hO
                        have o5 := vrs_bytes _ _ o5
                        have hbl : (bytesA (memM j)).length = 60 := by unfold bytesA; rw [List.length_map]; exact memM_len j
                        rw [hbl] at o4 o5
                        refine ⟨⟨some ⟨q.cb, q.co + 0, none⟩, cc, by rw [h60], by rw [h60]; omega, fun _ => ⟨_, rfl, hst.inv.lt b' q hq, fun i u hu => ?_⟩⟩⟩
                        have hi : i < 60 := by
                          rcases Nat.lt_or_ge i 60 with h | h
                          · exact h
                          · rw [List.getElem?_eq_none (by omega)] at hu; cases hu
                        rw [← o5, List.getElem?_take_of_lt hi, List.getElem?_drop] at hu
                        have ea : (⟨q.cb, q.co + 0, none⟩ : Addr).add i = ⟨q.cb, q.co + i, none⟩ := by unfold Addr.add; split <;> simp_all
                        rw [ea, cell_of_row w3 q.cb (q.co + i) C E fr hC, ← Array.getElem?_toList]
                        exact hu
                      | _ => exact hO.elim
                  · cases hR
                · have hx : Below W.heap.size W w2 := hbw.trans (hb2.mono hbw.size)
                  refine ⟨hst.os.trans hx.os, hst.tape.trans hx.tape, hst.output.trans hx.output, Nat.le_trans hx.size hst.size, fun k hk => ?_⟩
                  rw [← hx.block k hk]
                  refine hst.frame k (Nat.lt_of_lt_of_le hk hx.size) fun b1 o1 r1 hb1 ho1 hr1 he => ?_
                  obtain ⟨c0, p0, s0, hc0, hp0, -, -⟩ := hs.img b1 o1 r1 hb1 ho1 hr1 (by omega)
                  obtain ⟨c', hm, -⟩ := heapT_get ts c0 p0 vars hp0
                  have := varsOK.lt _ hm
                  have : c0 < 13 := this
                  omega
              cases h1 with
              | sl _ _ _ _ cc q hq hl hc ht hz => exact ⟨_, _, _, rfl, main _ _ _ rfl⟩
              | sl0 _ _ a => exact ⟨_, _, _, rfl, main _ _ _ rfl⟩
            · cases hR
    · cases hR
  · cases hR
end Go.Proofs.YtoehlmiadiiimaaGreatDoor
