/-
  An executor over the model's code: operations, one by one (6): conversions, append, copy, len.
-/
import Derived.Test.YtklenhohljeacaaDoorExOps5
import Derived.Lib.ConvBytes
namespace Go.Proofs.YtklenhohljeacaaDoor.Ex
open Go
variable [Dec] [Env]

section
variable {P : Program} {w : World} {ρ : Rho} {H : AHeap}

theorem OR.loose {c : List AV} {C : Array Value} {Cs : List Value} {e : TypeId} {k esz : Nat} {fr : Nat × Nat} (h : VRs ρ c Cs) (hC : C.toList.take Cs.length = Cs) (hl : Cs.length ≤ C.size) (he : P.cellsOf e = esz)
    (hf : ∀ i, i < C.size → ¬ (fr.1 ≤ i ∧ i < fr.2)) : OR P ρ ⟨k, 0, false, C.size, esz⟩ (.cells c e false) (.cells C e fr) := by
  have hlen := h.length
  refine ⟨rfl, rfl, rfl, by simp; omega, ?_, ?_, ?_⟩
  · simp [hlen, hC]; exact h
  · intro i hi; simp only [Nat.zero_add]; exact hf i (by omega)
  · intro _; exact ⟨hf, he⟩

theorem abytes_rel (s : ByteArray) : VRs ρ (abytes (s.data.toList.map UInt8.toNat)) (s.data.toList.map fun b => Value.int .u8 b.toNat) := VRs.map_bytes _

omit [Dec] [Env] in
theorem cellsOf_sz {e n : Nat} (h : sz P e = some n) : P.cellsOf e = n := by
  obtain ⟨i, hi, rfl⟩ := Option.map_eq_some_iff.1 h
  simp [Program.cellsOf, hi]

theorem aofBytes_rel : ∀ {as : List AV} {vs : List Value} {l : List Nat}, VRs ρ as vs → aofBytes as = some l →
    ∃ ns : List Int, vs = ns.map (Value.int .u8) ∧ l = ns.map fun n => n.toNat % 256
  | _, _, l, .nil, h => by simp [aofBytes] at h; subst h; exact ⟨[], rfl, rfl⟩
  | _, _, l, .cons a v as vs hv t, h => by
    cases hv with
    | int k n =>
      cases k with
      | u8 =>
        simp only [aofBytes, Option.map_eq_some_iff] at h
        obtain ⟨l', hl, rfl⟩ := h
        obtain ⟨ns, rfl, rfl⟩ := aofBytes_rel t hl
        exact ⟨n :: ns, rfl, rfl⟩
      | _ => simp [aofBytes] at h
    | _ => simp [aofBytes] at h

omit [Dec] [Env] in
theorem foldl_bytes : ∀ (ns : List Int) (s : ByteArray), (ns.foldl (fun r n => r.push (UInt8.ofNat n.toNat)) s).data.toList.map UInt8.toNat = s.data.toList.map UInt8.toNat ++ ns.map fun n => n.toNat % 256
  | [], s => by simp
  | n :: ns, s => by
    rw [List.foldl_cons, foldl_bytes ns]
    simp [ByteArray.push]

theorem op_conv {lim : Nat} {src dst : TypeId} {x y : AV} {v : Value} {H' : AHeap} (hI : Inv P ρ H w) (hv : VR ρ x v) (h : aconv P H src dst x = some (y, H')) (hl : lim ≤ H.next) :
    ∃ ρ' u w', (convert src dst v).run P w = .ok u w' ∧ VR ρ' y u ∧ Step P lim ρ H w ρ' H' w' := by
  unfold aconv at h
  split at h
  · rename_i d k _ n hs hd
    simp only [Option.some.injEq, Prod.mk.injEq] at h
    obtain ⟨rfl, rfl⟩ := h
    cases hv
    exact ⟨ρ, _, w, by simp [convert, run_und hs, run_und hd, Conv.intToInt], .int _ _, Step.refl hI⟩
  · rename_i s hs hd
    simp only [Option.some.injEq, Prod.mk.injEq] at h
    obtain ⟨rfl, rfl⟩ := h
    cases hv with | str S _ hS =>
    exact ⟨ρ, .string S, w, by simp [convert, run_und hs, run_und hd], .str _ _ hS, Step.refl hI⟩
  · rename_i e s hs hd
    split at h
    · rename_i he
      split at h
      · rename_i hsz
        simp only [Option.some.injEq, Prod.mk.injEq] at h
        obtain ⟨rfl, rfl⟩ := h
        cases hv with | str S _ hS =>
        have hrun := Lib.run_convert_string_bytes w src dst e S hs hd he
        have hn : s.length = S.size := by rw [hS]; simp
        have hcap : S.size ≤ grownCap w S.size 0 e := by simp [grownCap, Question.cut]
        have hbc : (Lib.bytesCells w e S).size = grownCap w S.size 0 e := by
          simp [Lib.bytesCells]; omega
        have hrel : VRs ρ (abytes s) (S.data.toList.map fun b => Value.int .u8 b.toNat) := by rw [hS]; exact abytes_rel S
        have hOR : OR P (ρ.put H.next ⟨w.heap.size, 0, false, (Lib.bytesCells w e S).size, P.cellsOf e⟩) ⟨w.heap.size, 0, false, (Lib.bytesCells w e S).size, P.cellsOf e⟩ (.cells (abytes s) e false)
            (.cells (Lib.bytesCells w e S) e ((Lib.bytesCells w e S).size, (Lib.bytesCells w e S).size + 1)) :=
          OR.loose (hrel.mono (Rho.put_ext (hI.fresh _ (Nat.le_refl _)))) (by simp [Lib.bytesCells]) (by simp; omega) rfl (fun i hi => by simp; omega)
        refine ⟨_, _, _, hrun, ?_, Step.new hI _ _ _ rfl hOR hl (Lib.bytesWorld_size w e S) (Lib.bytesWorld_at_new w e S) (fun k hk => Lib.bytesWorld_at_old w e S k hk) ?_ ?_ ?_⟩
        · rw [hn]
          have h1 : P.cellsOf e = 1 := cellsOf_sz hsz.2
          exact VR.sl H.next 0 S.size S.size _ ⟨w.heap.size, 0, false, (Lib.bytesCells w e S).size, P.cellsOf e⟩ (by simp [Rho.put]) (Nat.le_refl _) hcap (by simp) (fun _ => by rw [h1]; simp; omega)
        · simp [Lib.bytesWorld, World.freeze, World.alloc, World.drew, -World.alloc_eq, -World.drew_eq]
        · simp [Lib.bytesWorld, World.freeze, World.alloc, World.drew, -World.alloc_eq, -World.drew_eq]
        · simp [Lib.bytesWorld, World.freeze, World.alloc, World.drew, -World.alloc_eq, -World.drew_eq]
      · cases h
    · cases h
  · rename_i e hs hd
    split at h
    · rename_i he
      simp only [Option.some.injEq, Prod.mk.injEq] at h
      obtain ⟨rfl, rfl⟩ := h
      cases hv
      exact ⟨ρ, .string .empty, w, by simp [convert, run_und hs, run_und hd, run_und he, Conv.bytesToString], .str _ _ (by simp), Step.refl hI⟩
    · cases h
  · rename_i e b o n c hs hd
    split at h
    · rename_i c' e' t he hb
      split at h
      · rename_i hlen
        simp only [Option.map_eq_some_iff, Prod.mk.injEq] at h
        obtain ⟨l, hl', rfl, rfl⟩ := h
        cases hv with
        | sl _ _ _ _ cc r hr _ _ _ _ =>
          obtain ⟨vs, hvs, hrel, hlen'⟩ := run_cells (P := P) hI hb hr o n hlen
          obtain ⟨ns, rfl, rfl⟩ := aofBytes_rel hrel hl'
          have := run_bytesToString (P := P) w ⟨r.cb, r.co + o, none⟩ n cc ns (hvs _ rfl)
          exact ⟨ρ, _, w, (run_convert_bytes_string w src dst e _ n cc hs he hd).trans this, .str _ _ (by rw [foldl_bytes]; simp), Step.refl hI⟩
        | sl0 _ _ a =>
          simp [aofBytes] at hl'
          subst hl'
          have := run_bytesToString (P := P) w a 0 0 [] (by simp [loadCells, loadCellsFrom])
          exact ⟨ρ, _, w, (run_convert_bytes_string w src dst e _ 0 0 hs he hd).trans this, .str _ _ (by simp), Step.refl hI⟩
      · cases h
    · cases h
  · cases h

theorem op_convS {lim : Nat} {src dst : TypeId} {x y : AV} {v : Value} {H' : AHeap} (hI : Inv P ρ H w) (hv : VR ρ x v) (h : aconvS P H src dst x = some (y, H')) (hl : lim ≤ H.next) :
    ∃ ρ' u w', (convert src dst v).run P w = .ok u w' ∧ VR ρ' y u ∧ Step P lim ρ H w ρ' H' w' := by
  unfold aconvS at h
  split at h
  · rename_i k e
    split at h
    · rename_i d k' hs hd
      simp only [Option.some.injEq, Prod.mk.injEq] at h
      obtain ⟨rfl, rfl⟩ := h
      cases hv
      exact ⟨ρ, .int k' (sev (.wrap k' e)), w, by simp [convert, run_und hs, run_und hd, Conv.intToInt]; rfl, mkInt_rel ρ k' _, Step.refl hI⟩
    · cases h
  · exact op_conv hI hv h hl
end
end Go.Proofs.YtklenhohljeacaaDoor.Ex
