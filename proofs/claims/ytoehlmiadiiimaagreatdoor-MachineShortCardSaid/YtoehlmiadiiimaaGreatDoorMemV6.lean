import Derived.Test.YtoehlmiadiiimaaGreatDoorMemR8
import Derived.Test.YtoehlmiadiiimaaGreatDoorMemV4
import Derived.Test.YtoehlmiadiiimaaGreatDoorEncJ
import Derived.Deep.Cut
/-
  The law MachineShort, in plain words: a short instruction does what its long form does.
-/
namespace Go.Proofs.YtoehlmiadiiimaaGreatDoor
open Go.ChangeShapes Go.WideShapes Go.RowKit Go.Proofs.YtoehlmiadiiimaaGreatDoor.Ex

/-- A machine with these bytes, at its base. -/
def rS (pc : Int) (regs : List Int) (mem : List Int) : Rn := ⟨pc, regs.set 0 0, pc, mem, [], false, 0, false⟩
def memH (h : Nat) : List Int := [stv h 0, stv h 1, 0, 0]
def memW (w : Nat) : List Int := [stv w 0, stv w 1, stv w 2, stv w 3]
theorem ldm_H (h : Nat) (hh : h < 65536) : IntKind.u16.wrap (ldm (memH h) 0 2) = (h : Int) := by
  have : ldm (memH h) 0 2 = ldv (fun i => stv (h : Int) i) 2 := ldv_congr 2 fun i hi => by
    match i, hi with
    | 0, _ => rfl
    | 1, _ => rfl
  rw [this, ldv_stv h 2 (by omega), IntKind.wrap_u16]
  omega
theorem ldm_W2 (w : Nat) : IntKind.u16.wrap (ldm (memW w) 0 2) = ((w % 65536 : Nat) : Int) := by
  have : ldm (memW w) 0 2 = ldv (fun i => stv (w : Int) i) 2 := ldv_congr 2 fun i hi => by
    match i, hi with
    | 0, _ => rfl
    | 1, _ => rfl
  rw [this, ldv_stv w 2 (by omega), IntKind.wrap_u16]
  omega
theorem ldm_W4 (w : Nat) (hw : w < 4294967296) : IntKind.u32.wrap (ldm (memW w) 0 4) = (w : Int) := by
  have : ldm (memW w) 0 4 = ldv (fun i => stv (w : Int) i) 4 := ldv_congr 4 fun i hi => by
    match i, hi with
    | 0, _ => rfl
    | 1, _ => rfl
    | 2, _ => rfl
    | 3, _ => rfl
  rw [this, ldv_stv w 4 (by omega), IntKind.wrap_u32']
  omega
theorem place_S {r : Rn} (h : r.pc = r.base) (hl : r.mem.length = 4) (many : Nat) (hm : many ≤ 4) : place r r.pc many = some 0 := by
  have e : IntKind.u64.wrap (r.pc - r.base) = 0 := by rw [h, Int.sub_self]; rfl
  unfold place
  rw [e, hl]
  simp only [Int.toNat_zero]
  rw [if_pos (by omega)]
theorem and3 (h : Nat) (hh : h < 65536) : bits .and .u16 (h : Int) 3 = ((h % 4 : Nat) : Int) :=
  (and_nat .u16 h 3 (by show h ≤ 65535; omega) (by decide)).trans (by rw [show Nat.land h 3 = h % 4 from Nat.and_two_pow_sub_one_eq_mod h 2])
theorem fetch_H {r : Rn} (h : Nat) (hh : h < 65536) (h3 : h % 4 ≠ 3) (hp : r.pc = r.base) (hm : r.mem = memH h) (hodd : r.pc % 2 = 0) (hE : (cdecR h).2 = 0) : fetch r = some ((cdecR h).1, IntKind.u64.wrap (r.pc + 2)) := by
  have hl : r.mem.length = 4 := by rw [hm]; rfl
  unfold fetch
  rw [place_S hp hl 2 (by omega)]
  simp only
  rw [if_pos hodd, hm, ldm_H h hh, and3 h hh]
  have : (((h % 4 : Nat) : Int) == 3) = false := by simp; omega
  rw [this]
  simp only [Int.toNat_natCast]
  rw [if_pos hE]
theorem fetch_W {r : Rn} (w : Nat) (hw : w < 4294967296) (h3 : w % 4 = 3) (hp : r.pc = r.base) (hm : r.mem = memW w) (hodd : r.pc % 2 = 0) (hE : (decR w).2 = 0) : fetch r = some ((decR w).1, IntKind.u64.wrap (r.pc + 4)) := by
  have hl : r.mem.length = 4 := by rw [hm]; rfl
  unfold fetch
  rw [place_S hp hl 2 (by omega)]
  simp only
  rw [if_pos hodd, hm, ldm_W2 w, and3 _ (by omega)]
  have : (((w % 65536 % 4 : Nat) : Int) == 3) = true := by simp; omega
  rw [this]
  simp only
  rw [place_S hp hl 4 (by omega)]
  simp only
  rw [ldm_W4 w hw]
  simp only [Int.toNat_natCast]
  rw [if_pos hE]
theorem fetch_odd {r : Rn} (hp : r.pc = r.base) (hl : r.mem.length = 4) (hodd : ¬ r.pc % 2 = 0) : fetch r = none := by
  unfold fetch
  rw [place_S hp hl 2 (by omega)]
  simp only
  rw [if_neg hodd]
theorem base3 (op : Nat) (h1 : 1 ≤ op) (h2 : op ≤ 94) : baseB op % 4 = 3 ∧ maskF (formB op) % 4 = 3 := by
  have h : ((List.range 94).all fun o => Nat.beq (baseB (o + 1) % 4) 3 && Nat.beq (maskF (formB (o + 1)) % 4) 3) = true := by kernel_rfl
  have := List.all_eq_true.1 h (op - 1) (List.mem_range.2 (by omega))
  rw [Nat.sub_add_cancel h1, Bool.and_eq_true] at this
  exact ⟨Nat.eq_of_beq_eq_true this.1, Nat.eq_of_beq_eq_true this.2⟩
theorem word3 (op d s t v : Nat) (h1 : 1 ≤ op) (h2 : op ≤ 94) (h : RegsOK (formB op) d s t) : wordN op d s t v % 4 = 3 := by
  have hm := word_mask (v := v) h1 h2 h
  obtain ⟨b3, m3⟩ := base3 op h1 h2
  have e : wordN op d s t v % 2 ^ 2 &&& maskF (formB op) % 2 ^ 2 = baseB op % 2 ^ 2 := by
    rw [← hm]
    exact (Nat.and_mod_two_pow (n := 2)).symm
  rw [show (2 : Nat) ^ 2 = 4 from rfl, b3, m3] at e
  have hlt : wordN op d s t v % 4 < 4 := Nat.mod_lt _ (by omega)
  generalize wordN op d s t v % 4 = q at *
  have : ∀ q, q < 4 → q &&& 3 = 3 → q = 3 := by decide
  exact this q hlt e
/-- Two machines behind the short and the long form. -/
structure Like (rd : Nat) (pc : Int) (op : Nat) (x y : Rn) : Prop where
  goes : x.pc = y.pc ∨ (x.pc = IntKind.u64.wrap (pc + 2) ∧ y.pc = IntKind.u64.wrap (pc + 4))
  base : x.base = y.base
  told : x.told = y.told
  done : x.done = y.done
  len : x.regs.length = y.regs.length
  regs : x.regs = y.regs ∨ (op = 4 ∧ 0 < rd ∧ x.regs.getD rd 0 = IntKind.u64.wrap (pc + 2) ∧ y.regs.getD rd 0 = IntKind.u64.wrap (pc + 4) ∧ x.regs = y.regs.set rd (IntKind.u64.wrap (pc + 2)))
theorem like_wr {rd op : Nat} {pc a b : Int} {r r' : Rn} {v : Int} (hpc : a = b ∨ (a = IntKind.u64.wrap (pc + 2) ∧ b = IntKind.u64.wrap (pc + 4))) (h1 : r.base = r'.base) (h2 : r.told = r'.told) (h3 : r.done = r'.done) (h4 : r.regs = r'.regs) :
    Like rd pc op { r.wr rd v with pc := a } { r'.wr rd v with pc := b } := by
  refine ⟨hpc, h1, h2, h3, ?_, .inl ?_⟩
  · unfold Rn.wr; simp only; rw [h4]
  · unfold Rn.wr; simp only; rw [h4]
/-- What an instruction that neither loads nor stores does, held against itself in its long form. -/
theorem like_do (i : Ins) (r r' : Rn) (o1 : 1 ≤ i.op) (o2 : i.op ≤ 94) (hpc : r.pc = r'.pc) (hb : r.base = r'.base) (ht : r.told = r'.told) (hd : r.done = r'.done) (hr : r.regs = r'.regs) (h32 : r.regs.length = 32) (hrd : i.rd < 32) (h1 : r.on = IntKind.u64.wrap (r.pc + 2)) (h2 : r'.on = IntKind.u64.wrap (r.pc + 4))
    (hf : formB i.op ≠ 83) (hl : formB i.op = 76 → i.op = 4) (hj : formB i.op = 74 → i.rd = 0) :
    match doF i r, doF i r' with
    | none, none => True
    | some (a, x), some (b, y) => Like i.rd r.pc i.op { x with pc := a } { y with pc := b }
    | _, _ => False := by
  have hon : ∀ v, Like i.rd r.pc i.op { r.wr i.rd v with pc := r.on } { r'.wr i.rd v with pc := r'.on } := fun v => like_wr (.inr ⟨h1, h2⟩) hb ht hd hr
  have hmem := formB_mem i.op o1 o2
  unfold doF
  generalize formB i.op = F at *
  simp only [formsAll, List.mem_cons, List.not_mem_nil, or_false] at hmem
  rcases hmem with rfl | rfl | rfl | rfl | rfl | rfl | rfl | rfl | rfl | rfl | rfl | rfl | rfl | rfl | rfl
  · rw [← hpc]; exact hon _
  · have h0 := hj rfl
    rw [← hpc, h0]
    exact ⟨.inl rfl, hb, ht, hd, by show r.regs.length = r'.regs.length; rw [hr], .inl hr⟩
  · rw [← hpc, ← hr]
    by_cases hbr : brF i.op (r.regs[i.s1]?.getD 0) (r.regs[i.s2]?.getD 0) = true
    · rw [if_pos hbr, if_pos hbr]; exact like_wr (.inl rfl) hb ht hd hr
    · rw [if_neg hbr, if_neg hbr]; exact hon _
  · have h4 := hl rfl
    rw [if_pos h4, if_pos h4, ← hr]
    by_cases h0 : i.rd = 0
    · rw [h0]
      exact ⟨.inl rfl, hb, ht, hd, by show r.regs.length = r'.regs.length; rw [hr], .inl hr⟩
    · have e : ∀ (q : Rn) (v : Int), (q.wr i.rd v).regs = q.regs.set i.rd v := fun q v => by unfold Rn.wr; simp only; rw [if_neg h0]
      refine ⟨.inl rfl, hb, ht, hd, ?_, .inr ⟨h4, by omega, ?_, ?_, ?_⟩⟩
      · show (r.wr i.rd r.on).regs.length = (r'.wr i.rd r'.on).regs.length
        rw [e, e, List.length_set, List.length_set, hr]
      · show (r.wr i.rd r.on).regs.getD i.rd 0 = _
        rw [e, List.getD_eq_getElem?_getD, List.getElem?_set_self (by omega)]; exact h1
      · show (r'.wr i.rd r'.on).regs.getD i.rd 0 = _
        rw [e, List.getD_eq_getElem?_getD, List.getElem?_set_self (by rw [← hr]; omega)]; exact h2
      · show (r.wr i.rd r.on).regs = (r'.wr i.rd r'.on).regs.set i.rd _
        rw [e, e, List.set_set, hr, h1]
  · exact absurd rfl hf
  · rw [← hr]; exact hon _
  · rw [← hr]; exact hon _
  · rw [← hr]; exact hon _
  · rw [← hr]; exact hon _
  · exact hon _
  · by_cases h65 : i.op = 65
    · rw [if_pos h65, if_pos h65, ← ht]
      by_cases hlen : r.told.length < 1000
      · rw [if_pos hlen, if_pos hlen]
        exact like_wr (r := { r with told := r.told ++ [r.regs.getD 10 0], done := r.regs.getD 17 0 == 93 }) (r' := { r' with told := r.told ++ [r'.regs.getD 10 0], done := r'.regs.getD 17 0 == 93 }) (.inr ⟨h1, h2⟩) hb (by show r.told ++ _ = r.told ++ _; rw [hr]) (by show (r.regs.getD 17 0 == 93) = (r'.regs.getD 17 0 == 93); rw [hr]) hr
      · rw [if_neg hlen, if_neg hlen]; trivial
    · rw [if_neg h65, if_neg h65]; trivial
  · trivial
  · trivial
  · trivial
  · trivial
theorem like_step {rd op : Nat} {pc : Int} {A B : Option (Int × Rn)} (h : match A, B with
    | none, none => True
    | some (a, x), some (b, y) => Like rd pc op { x with pc := a } { y with pc := b }
    | _, _ => False) :
    match (match A with | none => none | some (to, r') => some { r' with pc := to }), (match B with | none => none | some (to, r') => some { r' with pc := to }) with
    | none, none => True
    | some x, some y => Like rd pc op x y
    | _, _ => False := by
  cases A <;> cases B <;> exact h
/-- What the two steps come to. -/
theorem short_law (op d s t : Nat) (m : Int) (H : Nat) (hmay : mayI (op : Int) (d : Int) (s : Int) (t : Int) m = true) (hH : H < 65536) (h3 : H % 4 ≠ 3) (hc : cdecR H = (⟨op, d, s, t, m⟩, 0)) (pc : Int) (regs : List Int) (h32 : regs.length = 32)
    (hf : formB op ≠ 83) (hl : formB op = 76 → op = 4) (hj : formB op = 74 → d = 0) :
    match stepF (rS pc regs (memH H)), stepF (rS pc regs (memW (wordN op d s t (vN (formB op) m)))) with
    | none, none => True
    | some x, some y => Like d pc op x y
    | _, _ => False := by
  obtain ⟨hR, hD⟩ := word_back op d s t m hmay
  unfold mayI knownI at hmay
  simp only [Bool.and_eq_true, decide_eq_true_eq] at hmay
  have h1 : 1 ≤ op := by omega
  have h2 : op ≤ 94 := by omega
  have hW := word_lt (v := vN (formB op) m) h1 h2 hR
  have hW3 := word3 op d s t (vN (formB op) m) h1 h2 hR
  generalize wordN op d s t (vN (formB op) m) = W at *
  have e1 : stepF (rS pc regs (memH H)) = match fetch (rS pc regs (memH H)) with
    | none => none
    | some (i, on) => match doF i { rS pc regs (memH H) with on := on, stop := false } with
      | none => none
      | some (to, r') => some { r' with pc := to } := rfl
  have e2 : stepF (rS pc regs (memW W)) = match fetch (rS pc regs (memW W)) with
    | none => none
    | some (i, on) => match doF i { rS pc regs (memW W) with on := on, stop := false } with
      | none => none
      | some (to, r') => some { r' with pc := to } := rfl
  rw [e1, e2]
  by_cases hodd : pc % 2 = 0
  · rw [fetch_H H hH h3 rfl rfl hodd (by rw [hc]), fetch_W W hW hW3 rfl rfl hodd (by rw [hD]), hc, hD]
    simp only
    have := like_do ⟨op, d, s, t, m⟩ { rS pc regs (memH H) with on := IntKind.u64.wrap (pc + 2), stop := false } { rS pc regs (memW W) with on := IntKind.u64.wrap (pc + 4), stop := false } h1 h2 rfl rfl rfl rfl rfl (by show (regs.set 0 0).length = 32; rw [List.length_set]; exact h32) hR.d1 rfl rfl hf hl hj
    exact like_step this
  · rw [fetch_odd rfl rfl hodd, fetch_odd rfl rfl hodd]
    trivial
end Go.Proofs.YtoehlmiadiiimaaGreatDoor

/-
  The machine: Step.
-/
namespace Go.Proofs.YtoehlmiadiiimaaGreatDoor
open Go.ChangeShapes Go.WideShapes Go.RowKit Go.Proofs.YtoehlmiadiiimaaGreatDoor.Ex

/-- What Step answers. -/
def stepR (r : Rn) : Rn × Int := if checkE r = 0 then (match stepF r with | none => (rn0, 300) | some r' => (r', 0)) else (rn0, 8)
/-- What Step leaves behind. -/
def StepAll (w : World) (x : Rn × Int) (e : Ending) (w' : World) : Prop :=
  Below w.heap.size w w' ∧ ∃ v, e = .returned (.tuple #[v, .int .i64 x.2]) ∧ MachO w.heap.size w' v x.1
set_option maxRecDepth 100000 in
set_option maxHeartbeats 2000000 in
theorem step1_err (v : Value) (r : Rn) (w : World) (h : MachR w v r) (hc : checkE r = 8) : Calls Tryz.prog 13 #[v] w (StepAll w (rn0, 8)) := by
  have H17 : Hid (∀ W, Below w.heap.size w W → Calls Tryz.prog 17 #[v] W (CheckPost W 8)) := Lib.hid fun W hb => by have := check_c v r W (h.keep hb); rw [hc] at this; exact this
  obtain ⟨mv, tv, rfl, hmv, htv⟩ := h.form
  have hlen := h.len
  have hsz : (Tryz.prog.info? 27).map (·.size) = some (mcells r mv tv).toArray.size := by rw [mc_size hlen]; exact info27
  have hz : (Tryz.prog.info? 27).map (·.size) = some z27.size := by rw [z27_size]; exact info27
  clear h hc hmv htv hlen
  generalize (mcells r mv tv).toArray = cs at *
  go_enter Tryz.func13, Tryz.ntmps13
  go_wp2_with (refine wpList_load_row rfl 27 (.tmp 1) rfl w.heap.size rfl 27 cs (0, 0) _ (heap_alloc2_old w _ _) Tryz.underlying27 rfl hsz ?_)
  refine (H17.out _ (((Below.refl _ _).alloc (Nat.le_refl _) _).alloc (by simp) _)).mono ?_
  intro e w1 hp1
  obtain ⟨rfl, hb1⟩ := hp1
  have E1 := (hb1.block (w.heap.size + 1) (by simp)).trans (heap_alloc2_new w _ _)
  have hw1 : Below w.heap.size w w1 := (((Below.refl _ _).alloc (Nat.le_refl _) _).alloc (by simp) _).trans (hb1.mono (by simp; omega))
  have HW1 := Lib.hid hw1
  clear hw1 hb1
  go_wp2_with (first
    | (refine wpList_build0 rfl 27 rfl z27 built27 ?_)
    | (refine wpList_store_row rfl 27 (.tmp 2) (.tmp 11) rfl (w.heap.size + 1) z27 rfl rfl 27 _ E1 hz (by rw [z27_size]; rfl) z27_one ?_))
  refine bodyPost_ret (results_cell_tmp rfl _ _ (w.heap.size + 1) 27 z27 (0, 0) _ rfl (setRow_heap _ _ _ _ _ _ E1) Tryz.underlying27 rfl hz) rfl ?_
  exact ⟨below_setRow HW1.out (Nat.le_succ _) _, _, rfl, rn0_own _ _⟩
set_option maxRecDepth 100000 in
set_option maxHeartbeats 2000000 in
theorem step1_none (v : Value) (r : Rn) (w : World) (h : MachR w v r) (hwf : WFm r) (hL : LG w) (h13 : 13 ≤ w.heap.size) (hc : checkE r = 0) (hs : stepF r = none) : Calls Tryz.prog 13 #[v] w (StepAll w (rn0, 300)) := by
  have H17 : Hid (∀ W, Below w.heap.size w W → Calls Tryz.prog 17 #[v] W (CheckPost W 0)) := Lib.hid fun W hb => by have := check_c v r W (h.keep hb); rw [hc] at this; exact this
  have H33 : Hid (∀ W, Below w.heap.size w W → Calls Tryz.prog 33 #[v] W (StepPost W v none)) := Lib.hid fun W hb => by have := step_c v r W (h.keep hb) hwf (laidG_below hL (hb.mono h13)) (Nat.le_trans h13 hb.size); rw [hs] at this; exact this
  obtain ⟨mv, tv, rfl, hmv, htv⟩ := h.form
  have hlen := h.len
  have hsz : (Tryz.prog.info? 27).map (·.size) = some (mcells r mv tv).toArray.size := by rw [mc_size hlen]; exact info27
  have h37 := Lib.hid (mc_size (r := r) (mv := mv) (tv := tv) hlen)
  have hall := mc_one (r := r) (rds_one hmv) (rds_one htv)
  have hz : (Tryz.prog.info? 27).map (·.size) = some z27.size := by rw [z27_size]; exact info27
  clear h hc hs hwf hL h13 hmv htv hlen
  generalize (mcells r mv tv).toArray = cs at *
  go_enter Tryz.func13, Tryz.ntmps13
  go_wp2_with (refine wpList_load_row rfl 27 (.tmp 1) rfl w.heap.size rfl 27 cs (0, 0) _ (heap_alloc2_old w _ _) Tryz.underlying27 rfl hsz ?_)
  refine (H17.out _ (((Below.refl _ _).alloc (Nat.le_refl _) _).alloc (by simp) _)).mono ?_
  intro e w1 hp1
  obtain ⟨rfl, hb1⟩ := hp1
  have D1 := (hb1.block w.heap.size (by simp; omega)).trans (heap_alloc2_old w _ _)
  have E1 := (hb1.block (w.heap.size + 1) (by simp)).trans (heap_alloc2_new w _ _)
  have hz1 : w.heap.size + 2 ≤ w1.heap.size := by have := hb1.size; simpa using this
  have HW1 := Lib.hid ((((Below.refl _ _).alloc (Nat.le_refl _) _).alloc (by simp) _).trans (hb1.mono (by simp; omega)) : Below w.heap.size w w1)
  clear hb1
  go_wp2_with (refine wpList_load_row rfl 27 (.tmp 1) rfl w.heap.size rfl 27 cs (0, 0) _ D1 Tryz.underlying27 rfl hsz ?_)
  refine (H33.out _ HW1.out).mono ?_
  intro e w2 hp2
  obtain ⟨hb2, rfl⟩ := hp2
  have E2 := (hb2.block (w.heap.size + 1) (by omega)).trans E1
  have HW2 := Lib.hid (HW1.out.trans (hb2.mono (by omega)))
  have hz2 := Nat.le_trans hz1 hb2.size
  clear hb2 D1 E1
  have hE3 : ∀ o, ((w2.alloc o).setRow w2.heap.size cs).heap[w.heap.size + 1]? = w2.heap[w.heap.size + 1]? := fun o => (setRow_other _ _ _ _ (by omega)).trans (Below.heap_alloc w2 o _ (by omega))
  go_upto_region 5 with (refine wpList_store_row rfl 27 (.tmp 5) (.tmp 16) rfl w2.heap.size cs rfl rfl 27 _ (by exact heap_alloc_new w2 _) hsz (by rw [h37.out]; rfl) hall ?_)
  have hk3 : ∀ o, Below w2.heap.size w2 ((w2.alloc o).setRow w2.heap.size cs) := fun o => below_setRow ((Below.refl w2.heap.size w2).alloc (Nat.le_refl _) _) (Nat.le_refl _) cs
  go_wp2_with (first
    | (refine wpList_build0 rfl 27 rfl z27 built27 ?_)
    | (refine wpList_store_row rfl 27 (.tmp 2) (.tmp 20) rfl (w.heap.size + 1) z27 rfl rfl 27 _ ((hE3 _).trans E2) hz (by rw [z27_size]; rfl) z27_one ?_))
  refine bodyPost_ret (results_cell_tmp rfl _ _ (w.heap.size + 1) 27 z27 (0, 0) _ rfl (setRow_heap _ _ _ _ _ _ ((hE3 _).trans E2)) Tryz.underlying27 rfl hz) rfl ?_
  exact ⟨below_setRow (HW2.out.trans ((hk3 _).mono (by omega))) (Nat.le_succ _) _, _, rfl, rn0_own _ _⟩
set_option maxRecDepth 100000 in
set_option maxHeartbeats 2000000 in
theorem step1_some (v : Value) (r r' : Rn) (w : World) (h : MachR w v r) (hwf : WFm r) (hL : LG w) (h13 : 13 ≤ w.heap.size) (hc : checkE r = 0) (hs : stepF r = some r') : Calls Tryz.prog 13 #[v] w (StepAll w (r', 0)) := by
  have H17 : Hid (∀ W, Below w.heap.size w W → Calls Tryz.prog 17 #[v] W (CheckPost W 0)) := Lib.hid fun W hb => by have := check_c v r W (h.keep hb); rw [hc] at this; exact this
  have H33 : Hid (∀ W, Below w.heap.size w W → Calls Tryz.prog 33 #[v] W (StepPost W v (some r'))) := Lib.hid fun W hb => by have := step_c v r W (h.keep hb) hwf (laidG_below hL (hb.mono h13)) (Nat.le_trans h13 hb.size); rw [hs] at this; exact this
  obtain ⟨mv, tv, rfl, hmv, htv⟩ := h.form
  have hlen := h.len
  have hsz : (Tryz.prog.info? 27).map (·.size) = some (mcells r mv tv).toArray.size := by rw [mc_size hlen]; exact info27
  clear h hc hs hwf hL h13 hmv htv hlen
  generalize (mcells r mv tv).toArray = cs at *
  go_enter Tryz.func13, Tryz.ntmps13
  go_wp2_with (refine wpList_load_row rfl 27 (.tmp 1) rfl w.heap.size rfl 27 cs (0, 0) _ (heap_alloc2_old w _ _) Tryz.underlying27 rfl hsz ?_)
  refine (H17.out _ (((Below.refl _ _).alloc (Nat.le_refl _) _).alloc (by simp) _)).mono ?_
  intro e w1 hp1
  obtain ⟨rfl, hb1⟩ := hp1
  have D1 := (hb1.block w.heap.size (by simp; omega)).trans (heap_alloc2_old w _ _)
  have E1 := (hb1.block (w.heap.size + 1) (by simp)).trans (heap_alloc2_new w _ _)
  have hz1 : w.heap.size + 2 ≤ w1.heap.size := by have := hb1.size; simpa using this
  have HW1 := Lib.hid ((((Below.refl _ _).alloc (Nat.le_refl _) _).alloc (by simp) _).trans (hb1.mono (by simp; omega)) : Below w.heap.size w w1)
  clear hb1
  go_wp2_with (refine wpList_load_row rfl 27 (.tmp 1) rfl w.heap.size rfl 27 cs (0, 0) _ D1 Tryz.underlying27 rfl hsz ?_)
  refine (H33.out _ HW1.out).mono ?_
  intro e w2 hp2
  obtain ⟨hb2, v2, rfl, ho2⟩ := hp2
  obtain ⟨c2, rfl, hs2, hall2⟩ := mach_cells ho2
  have hsz2 : (Tryz.prog.info? 27).map (·.size) = some c2.size := by rw [hs2.out]; exact info27
  have E2 := (hb2.block (w.heap.size + 1) (by omega)).trans E1
  have HW2 := Lib.hid (HW1.out.trans (hb2.mono (by omega)))
  have hz2 := Nat.le_trans hz1 hb2.size
  have HO2 := Lib.hid ho2
  clear hb2 D1 E1 ho2
  have hE3 : ∀ o, ((w2.alloc o).setRow w2.heap.size c2).heap[w.heap.size + 1]? = w2.heap[w.heap.size + 1]? := fun o => (setRow_other _ _ _ _ (by omega)).trans (Below.heap_alloc w2 o _ (by omega))
  have hF3 : ∀ Z : Array Value, ((w2.alloc (.cells Z 27)).setRow w2.heap.size c2).heap[w2.heap.size]? = some (.cells c2 27 (0, 0)) := fun Z => setRow_heap _ _ Z _ 27 (0, 0) (heap_alloc_new w2 _)
  have hk3 : ∀ o, Below w2.heap.size w2 ((w2.alloc o).setRow w2.heap.size c2) := fun o => below_setRow ((Below.refl w2.heap.size w2).alloc (Nat.le_refl _) _) (Nat.le_refl _) c2
  go_upto_region 5 with (refine wpList_store_row rfl 27 (.tmp 5) (.tmp 16) rfl w2.heap.size c2 rfl rfl 27 _ (by exact heap_alloc_new w2 _) hsz2 (by rw [hs2.out]; rfl) hall2 ?_)
  go_wp2_with (first
    | (refine wpList_load_row rfl 27 (.tmp 5) rfl w2.heap.size rfl 27 c2 (0, 0) _ (hF3 _) Tryz.underlying27 rfl hsz2 ?_)
    | (refine wpList_store_row rfl 27 (.tmp 2) (.tmp 21) rfl (w.heap.size + 1) c2 rfl rfl 27 _ ((hE3 _).trans E2) hsz2 (by rw [hs2.out]; rfl) hall2 ?_))
  refine bodyPost_ret (results_cell_tmp rfl _ _ (w.heap.size + 1) 27 c2 (0, 0) _ rfl (setRow_heap _ _ _ _ _ _ ((hE3 _).trans E2)) Tryz.underlying27 rfl hsz2) rfl ?_
  exact ⟨below_setRow (HW2.out.trans ((hk3 _).mono (by omega))) (Nat.le_succ _) _, _, rfl, ((HO2.out.keep (hk3 _)).far (by omega) _).mono (by omega)⟩
theorem step1_all (v : Value) (r : Rn) (w : World) (h : MachR w v r) (hp : 0 ≤ r.pc) (hr : Regs64 r.regs) (hL : LG w) (h13 : 13 ≤ w.heap.size) : Calls Tryz.prog 13 #[v] w (StepAll w (stepR r)) := by
  unfold stepR
  rcases checkE_or r with hc | hc
  · rw [if_pos hc]
    obtain ⟨h1, h2, h3, h4⟩ := checkE_zero hc
    have hwf : WFm r := ⟨hp, hr, h2, by omega⟩
    cases hs : stepF r with
    | none => exact step1_none v r w h hwf hL h13 hc hs
    | some r' => exact step1_some v r r' w h hwf hL h13 hc hs
  · rw [if_neg (by rw [hc]; decide)]
    exact step1_err v r w h hc
end Go.Proofs.YtoehlmiadiiimaaGreatDoor

