/-
  The law MachineShort, any instruction, registers and address.
-/
import Derived.Test.YtoehlmiadiiimaaGreatDoorMemV10
namespace Go.Proofs.YtoehlmiadiiimaaGreatDoor
open Go.ChangeShapes Go.WideShapes Go.RowKit Go.Proofs.YtoehlmiadiiimaaGreatDoor.Ex

theorem known_no (op : Nat) (h : op = 0 ∨ 94 < op) (h8 : op < 256) (w : World) : Calls Tryz.prog 41 #[.int .u8 op] w fun e w' => e = .returned (.bool false) ∧ w = w' := by
  rcases h with rfl | h
  · go_enter Tryz.func41, Tryz.ntmps41
    go_wp2
    go_ret
    exact ⟨rfl, rfl⟩
  · have h1 : wrap64 (op : Int) = op := wrap64_small (by omega) (by omega)
    have h2 : ¬ (op : Int) ≤ 94 := by omega
    have h3 : (1 : Int) ≤ op := by omega
    go_enter Tryz.func41, Tryz.ntmps41
    go_wp2
    all_goals go_ret
    all_goals exact ⟨rfl, rfl⟩
theorem name_no (op : Nat) (h : op = 0 ∨ 94 < op) (h8 : op < 256) (w : World) : Calls Tryz.prog 30 #[.int .u8 op] w fun e w' => e = .returned (.tuple #[.string ⟨#[]⟩, .int .i64 2]) ∧ Below w.heap.size w w' := by
  go_enter Tryz.func30, Tryz.ntmps30
  go_wp2_with (go_at_call 41; refine (known_no op h h8 _).mono ?_; rintro e w' ⟨rfl, rfl⟩)
  refine bodyPost_ret (v := .tuple #[.string ⟨#[]⟩, .int .i64 2]) (by simp [results, Tryz.results30, go_sem]) rfl ?_
  exact ⟨rfl, Below.refl _ _⟩
theorem name_any (op : Int) (ho : u8R op) : ∃ nm en, ((knownI op = true → nm = nameB op.toNat) ∧ ∀ W, LG W → Calls Tryz.prog 30 #[.int .u8 op] W fun e w' => e = .returned (.tuple #[.string nm, .int .i64 en]) ∧ Below W.heap.size W w') := by
  obtain ⟨h0, h1⟩ := ho
  obtain ⟨n, rfl⟩ : ∃ n : Nat, op = (n : Int) := ⟨op.toNat, by omega⟩
  by_cases h : 1 ≤ n ∧ n ≤ 94
  · exact ⟨nameB n, 0, fun _ => rfl, fun W hL => name_c n h.1 h.2 W hL⟩
  · refine ⟨⟨#[]⟩, 2, fun hk => ?_, fun W _ => name_no n (by omega) (by omega) W⟩
    unfold knownI at hk
    simp only [Bool.and_eq_true, decide_eq_true_eq] at hk
    omega
theorem row_facts {op d s t m : Int} (h : halfB op d s t m = true) : (op = 3 → d = 0) ∧ (op = 4 → d = 0 ∨ d = 1) := by
  unfold halfB at h
  cases hs : sel op d s t m rowsL 0 with
  | none => rw [hs] at h; cases h
  | some x =>
    obtain ⟨k, r⟩ := x
    obtain ⟨hr, ho, h1, -⟩ := sel_facts hs
    have tab : (rowsL.all fun r => RegsC.regForms.contains r.form && ((!(Nat.beq r.op 3) || Nat.beq r.form 106) && (!(Nat.beq r.op 4) || (Nat.beq r.form 74 || Nat.beq r.form 75)))) = true := by decide
    have tb := List.all_eq_true.1 tab r hr
    simp only [Bool.and_eq_true, Bool.or_eq_true, Bool.not_eq_true', List.contains_iff_mem] at tb
    have hP := (regsOk_P r.form tb.1 d s t).1 h1
    refine ⟨fun h3 => ?_, fun h4 => ?_⟩
    · rcases tb.2.1 with h | h
      · have : Nat.beq r.op 3 = true := by rw [show r.op = 3 from by omega]; rfl
        rw [this] at h; cases h
      · rw [Nat.eq_of_beq_eq_true h] at hP
        exact hP.1
    · rcases tb.2.2 with h | h
      · have : Nat.beq r.op 4 = true := by rw [show r.op = 4 from by omega]; rfl
        rw [this] at h; cases h
      · rcases h with h | h
        · rw [Nat.eq_of_beq_eq_true h] at hP
          exact .inl hP.1
        · rw [Nat.eq_of_beq_eq_true h] at hP
          exact .inr hP.1
theorem form_ops (op : Nat) (h1 : 1 ≤ op) (h2 : op ≤ 94) : (formB op = 74 → op = 3) ∧ (op = 4 → formB op = 76) := by
  have h : ((List.range 94).all fun o => (!(Nat.beq (formB (o + 1)) 74) || Nat.beq (o + 1) 3) && (!(Nat.beq (o + 1) 4) || Nat.beq (formB (o + 1)) 76)) = true := by kernel_rfl
  have := List.all_eq_true.1 h (op - 1) (List.mem_range.2 (by omega))
  rw [Nat.sub_add_cancel h1] at this
  simp only [Bool.and_eq_true, Bool.or_eq_true, Bool.not_eq_true'] at this
  refine ⟨fun h => ?_, fun h => ?_⟩
  · rcases this.1 with k | k
    · rw [h] at k; cases k
    · exact Nat.eq_of_beq_eq_true k
  · rcases this.2 with k | k
    · rw [h] at k; cases k
    · exact Nat.eq_of_beq_eq_true k
theorem name_jalr (op : Nat) (h1 : 1 ≤ op) (h2 : op ≤ 94) (h4 : op ≠ 4) : ¬ (nameB op).toList = [106, 97, 108, 114] := by
  have h : ((List.range 94).all fun o => Nat.beq (o + 1) 4 || !(decide ((nameB (o + 1)).data.toList = [106, 97, 108, 114]))) = true := by kernel_rfl
  have := List.all_eq_true.1 h (op - 1) (List.mem_range.2 (by omega))
  rw [Nat.sub_add_cancel h1] at this
  rw [ByteArray.toList_eq]
  intro he
  simp only [Bool.or_eq_true, Bool.not_eq_true', decide_eq_false_iff_not] at this
  rcases this with k | k
  · exact h4 (Nat.eq_of_beq_eq_true k)
  · exact k he
theorem name_4 : (nameB 4).toList = [106, 97, 108, 114] := by rw [ByteArray.toList_eq]; rfl
theorem check_S (P : Nat) (hP : P < 2147483648) (regs : List Int) (h32 : regs.length = 32) (mem : List Int) (hm : mem.length = 4) : checkE (rS P regs mem) = 0 :=
  checkE_of (by show (P : Int) ≤ 2147483648; omega) (by show mem.length ≤ _; omega) (by
    show (regs.set 0 0).getD 0 0 = 0
    rw [List.getD_eq_getElem?_getD, List.getElem?_set_self (by omega)]; rfl) (by show 0 ≤ 1000; decide)
theorem regs_S {regs : List Int} (h : Regs64 regs) : Regs64 (regs.set 0 0) := regs_set h 0 ⟨Int.le_refl _, by decide⟩
theorem short_all (op d s t m : Int) (ho : u8R op) (regs : List Int) (h32 : regs.length = 32) (hr : Regs64 regs) (pc : Nat) (hpc : pc < 4294967296) (w : World) (hL : LG w) (h13 : 13 ≤ w.heap.size) :
    Calls Tryz.prog 9 #[insnV op d s t m, .agg (regs.map (Value.int .u64)).toArray, .int .u32 pc] w (GoodPost w) := by
  obtain ⟨nm, en, hnm, h30⟩ := name_any op ho
  have h31 : ∀ W, LG W → Calls Tryz.prog 31 #[.int .u8 op] W fun e w' => e = .returned (.tuple #[.int .u8 (formI op), .int .i64 (match knownI op with | true => 0 | false => 2)]) ∧ Below W.heap.size W w' := fun W _ => form op ho W
  have hP : pc / 2 < 2147483648 := by omega
  obtain ⟨eH1, eH2⟩ := enc_range op d s t m
  obtain ⟨H, hHe⟩ : ∃ H : Nat, encV op d s t m = (H : Int) := ⟨(encV op d s t m).toNat, by omega⟩
  have hH : H < 65536 := by omega
  have h42 : ∀ W, Calls Tryz.prog 42 #[insnV op d s t m] W fun e w' => e = .returned (.tuple #[.int .u16 H, .int .i64 (encE op d s t m)]) ∧ Below W.heap.size W w' := fun W => by have := enc op d s t m ho W; rw [hHe] at this; exact this
  cases hmay : mayI op d s t m with
  | false =>
    have hE : encE op d s t m = 20 := by unfold encE; rw [hmay]
    exact short_ret op d s t m regs h32 pc hpc nm _ en _ false (rS (pc / 2 : Nat) regs (memH H)) (rS (pc / 2 : Nat) regs (memW 0)) (.inl rfl) w hL h13 h30 h31 fun W hW h => by
      have := short_c op d s t m regs h32 (pc / 2) hP H 0 (encE op d s t m) 20 false (by rw [hE]; rfl) hH (by omega) W hW h h42 (fun W hW => word_no op d s t m ho hmay W hW)
      exact this
  | true =>
    have hk := hmay
    obtain ⟨b1, b2, b3, b4⟩ := may_ok hmay
    obtain ⟨o, rfl⟩ : ∃ n : Nat, op = (n : Int) := ⟨op.toNat, by omega⟩
    obtain ⟨d', rfl⟩ : ∃ n : Nat, d = (n : Int) := ⟨d.toNat, by omega⟩
    obtain ⟨s', rfl⟩ : ∃ n : Nat, s = (n : Int) := ⟨s.toNat, by omega⟩
    obtain ⟨t', rfl⟩ : ∃ n : Nat, t = (n : Int) := ⟨t.toNat, by omega⟩
    have o1 : 1 ≤ o := by omega
    have o2 : o ≤ 94 := by omega
    have hW := fun W (hW : LG W) => word_yes o d' s' t' m hmay W hW
    obtain ⟨hR, -⟩ := word_back o d' s' t' m hmay
    have hWl := word_lt (v := vN (formB o) m) o1 o2 hR
    cases hb : halfB (o : Int) (d' : Int) (s' : Int) (t' : Int) m with
    | false =>
      have hE : encE (o : Int) (d' : Int) (s' : Int) (t' : Int) m = 6 := by unfold encE; rw [hmay, hb]
      exact short_ret _ _ _ _ m regs h32 pc hpc nm _ en _ false (rS (pc / 2 : Nat) regs (memH H)) (rS (pc / 2 : Nat) regs (memW (wordN o d' s' t' (vN (formB o) m)))) (.inl rfl) w hL h13 h30 h31 fun W hW' h =>
        short_c _ _ _ _ m regs h32 (pc / 2) hP H _ _ 0 false (by rw [hE]; rfl) hH hWl W hW' h h42 hW
    | true =>
      have hE : encE (o : Int) (d' : Int) (s' : Int) (t' : Int) m = 0 := by unfold encE; rw [hmay, hb]
      obtain ⟨H', e1, -, h3, hrd, hre⟩ := half_fact hmay hb
      have hHH : H' = H := by omega
      subst hHH
      have hc : cdecR H' = (⟨o, d', s', t', m⟩, 0) := by unfold cdecR; rw [hrd, hre]; simp
      have hsh : ∀ W, LG W → 13 ≤ W.heap.size → Calls Tryz.prog 32 #[insnV o d' s' t' m, .agg (regs.map (Value.int .u64)).toArray, .int .u64 ((pc / 2 : Nat) : Int)] W fun e w' => Below W.heap.size W w' ∧ ∃ v1 v2, e = .returned (.tuple #[v1, v2, .bool true]) ∧ MachR w' v1 (rS (pc / 2 : Nat) regs (memH H')) ∧ MachR w' v2 (rS (pc / 2 : Nat) regs (memW (wordN o d' s' t' (vN (formB o) m)))) := fun W hW' h =>
        short_c _ _ _ _ m regs h32 (pc / 2) hP H' _ _ 0 true (by rw [hE]; rfl) hH hWl W hW' h h42 hW
      have hnm' : nm = nameB o := by
        have hkn : knownI (o : Int) = true := by unfold knownI; simp; omega
        rw [hnm hkn]; rfl
      rw [formI_B o o1 o2] at h31
      obtain ⟨f74, f4⟩ := form_ops o o1 o2
      by_cases hf : formB o = 83
      · exact short_ret _ _ _ _ m regs h32 pc hpc nm _ en _ true _ _ (.inr (.inl (by rw [hf]; rfl))) w hL h13 h30 h31 hsh
      · by_cases h76 : formB o = 76 ∧ o ≠ 4
        · exact short_ret _ _ _ _ m regs h32 pc hpc nm _ en _ true _ _ (.inr (.inr ⟨by rw [h76.1]; rfl, by rw [hnm']; exact name_jalr o o1 o2 h76.2⟩)) w hL h13 h30 h31 hsh
        · obtain ⟨rf3, rf4⟩ := row_facts hb
          have hlaw := short_law o d' s' t' m H' hmay hH h3 hc (pc / 2 : Nat) regs h32 hf (fun h => by rcases Nat.decEq o 4 with h' | h'; exact absurd ⟨h, h'⟩ h76; exact h') (fun h => by have := rf3 (by rw [f74 h]; rfl); omega)
          have c1 := check_S (pc / 2) hP regs h32 (memH H') rfl
          have c2 := check_S (pc / 2) hP regs h32 (memW (wordN o d' s' t' (vN (formB o) m))) rfl
          have hS : ∀ W v r, LG W → 13 ≤ W.heap.size → MachR W v r → r.pc = (pc / 2 : Nat) → r.regs = regs.set 0 0 → Calls Tryz.prog 13 #[v] W (StepAll W (stepR r)) := fun W v r hW' h hm hp hrr => step1_all v r W hm (by omega) (by rw [hrr]; exact regs_S hr) hW' h
          have hfn : ¬ ((formB o : Nat) : Int) = 83 := by omega
          cases hx : stepF (rS (pc / 2 : Nat) regs (memH H')) with
          | none =>
            cases hy : stepF (rS (pc / 2 : Nat) regs (memW (wordN o d' s' t' (vN (formB o) m)))) with
            | some y => rw [hx, hy] at hlaw; exact hlaw.elim
            | none =>
              have q1 : stepR (rS (pc / 2 : Nat) regs (memH H')) = (rn0, 300) := by unfold stepR; rw [if_pos c1, hx]
              have q2 : stepR (rS (pc / 2 : Nat) regs (memW (wordN o d' s' t' (vN (formB o) m)))) = (rn0, 300) := by unfold stepR; rw [if_pos c2, hy]
              have k1 : ∀ W v, LG W → 13 ≤ W.heap.size → MachR W v (rS (pc / 2 : Nat) regs (memH H')) → Calls Tryz.prog 13 #[v] W (StepAll W (rn0, 300)) := fun W v a b c => by have := hS W v _ a b c rfl rfl; rw [q1] at this; exact this
              have k2 : ∀ W v, LG W → 13 ≤ W.heap.size → MachR W v (rS (pc / 2 : Nat) regs (memW (wordN o d' s' t' (vN (formB o) m)))) → Calls Tryz.prog 13 #[v] W (StepAll W (rn0, 300)) := fun W v a b c => by have := hS W v _ a b c rfl rfl; rw [q2] at this; exact this
              by_cases h4 : o = 4
              · exact short_errB _ _ _ _ m regs h32 pc hpc nm _ en _ _ _ rn0 rn0 (by rw [f4 h4]; rfl) (by rw [hnm', h4]; exact name_4) w hL h13 h30 h31 hsh k1 k2
              · exact short_errA _ _ _ _ m regs h32 pc hpc nm _ en _ _ _ rn0 rn0 hfn (fun h => h76 ⟨by omega, h4⟩) w hL h13 h30 h31 hsh k1 k2
          | some x =>
            cases hy : stepF (rS (pc / 2 : Nat) regs (memW (wordN o d' s' t' (vN (formB o) m)))) with
            | none => rw [hx, hy] at hlaw; exact hlaw.elim
            | some y =>
              rw [hx, hy] at hlaw
              replace hlaw : Like d' ((pc / 2 : Nat) : Int) o x y := hlaw
              have q1 : stepR (rS (pc / 2 : Nat) regs (memH H')) = (x, 0) := by unfold stepR; rw [if_pos c1, hx]
              have q2 : stepR (rS (pc / 2 : Nat) regs (memW (wordN o d' s' t' (vN (formB o) m)))) = (y, 0) := by unfold stepR; rw [if_pos c2, hy]
              have k1 : ∀ W v, LG W → 13 ≤ W.heap.size → MachR W v (rS (pc / 2 : Nat) regs (memH H')) → Calls Tryz.prog 13 #[v] W (StepAll W (x, 0)) := fun W v a b c => by have := hS W v _ a b c rfl rfl; rw [q1] at this; exact this
              have k2 : ∀ W v, LG W → 13 ≤ W.heap.size → MachR W v (rS (pc / 2 : Nat) regs (memW (wordN o d' s' t' (vN (formB o) m)))) → Calls Tryz.prog 13 #[v] W (StepAll W (y, 0)) := fun W v a b c => by have := hS W v _ a b c rfl rfl; rw [q2] at this; exact this
              have kx := step_kept hx
              have xm : x.mem.length ≤ 1000000 := by rw [kx.mem]; show 4 ≤ 1000000; decide
              have xt : x.told.length ≤ 1000000 := by
                have := kx.most
                have e : (rS (pc / 2 : Nat) regs (memH H')).told.length = 0 := rfl
                rw [e] at this
                omega
              by_cases h4 : o = 4
              · refine short_okB _ _ _ _ m regs h32 pc hpc nm _ en _ _ _ x y (by rw [f4 h4]; rfl) (by rw [hnm', h4]; exact name_4) _ _ rfl rfl hlaw.base hlaw.told hlaw.done hlaw.goes xm xt ?_ w hL h13 h30 h31 hsh k1 k2
                rcases hlaw.regs with h | ⟨_, hd0, g1, g2, g3⟩
                · exact .inl h
                · have hd1 : d' = 1 := by rcases rf4 (by rw [h4]; rfl) with h | h <;> omega
                  subst hd1
                  exact .inr ⟨rfl, g1, g2, g3⟩
              · refine short_okA _ _ _ _ m regs h32 pc hpc nm _ en _ _ _ x y hfn (fun h => h76 ⟨by omega, h4⟩) (by rw [hnm']; exact name_jalr o o1 o2 h4) _ _ rfl rfl hlaw.base hlaw.told hlaw.done hlaw.goes xm xt ?_ w hL h13 h30 h31 hsh k1 k2
                rcases hlaw.regs with h | ⟨h, _⟩
                · exact h
                · exact absurd h h4
end Go.Proofs.YtoehlmiadiiimaaGreatDoor
