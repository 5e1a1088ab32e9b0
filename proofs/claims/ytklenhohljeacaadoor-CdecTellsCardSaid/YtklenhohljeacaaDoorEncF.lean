/-
  Short forms of instructions: the document's Find.
-/
import Derived.Test.YtklenhohljeacaaDoorEncQ
namespace Go.Proofs.YtklenhohljeacaaDoor.Ex
open Go

def findTr (op : Int) : Tr := selTr (fun k _ => .int .i64 (k : Nat)) (.int .i64 (-1)) op rowsL 0
def eO (op : Int) : SE := .pair (.lit op) (.pair (.var 0) (.pair (.var 1) (.pair (.var 2) (.var 3))))
/-- an instruction that may be -/
def FM (op : Int) : Fa := ⟨[(.fn 12 (eO op), .lit 1, true)], [], []⟩
section defs
variable [Dec]
def orcRight (args : List AV) (H : AHeap) : Option (AV × AHeap) :=
  match args with
  | [.str [f], .agg [.int .u8 o, d, s, t, m]] => (i64? d).bind fun d => (i64? s).bind fun s => (i64? t).bind fun t => (i64? m).bind fun m =>
      if (isT (Dec.eqs (.fn 12 (.pair (.lit o) (.pair d (.pair s (.pair t m))))) (.lit 1)) && rowsL.any fun r => decide ((r.op : Int) = o) && Nat.beq r.form f) = true then
        onE (.fn 123 (.pair (.lit (f : Nat)) (.pair d (.pair s t)))) 1 .bool H
      else none
  | _ => none
def rowIs (nm : List Nat) (b : Int) (fm : List Nat) (kd : List Nat) (u : Int) (n : Nat) (r : RowL) : Bool :=
  r.name == nm && (decide ((r.base : Int) = b) && (fm == [r.form] && (kd == [r.kind] && (decide ((r.unit : Int) = u) && Nat.beq r.places.length n))))
def orcFits (args : List AV) (H : AHeap) : Option (AV × AHeap) :=
  match args with
  | [.agg [.str nm, .int .i64 b, .str fm, .str kd, .int .i64 u, .sl _ 0 n c], .sint .i64 (.var 3)] =>
    match rowsL.find? (rowIs nm b fm kd u n) with
    | some r => if (isT (Dec.eqs (.fn 12 (eO r.op)) (.lit 1)) && Nat.beq n c) = true then onE (t124 r) 1 .bool H else none
    | none => none
  | _ => none
end defs
def orcS (right fits : FuncId) (F : Fa) : ACall := orElse (only right (@orcRight F.dec)) (only fits (@orcFits F.dec))
theorem isT_some {x : Option Bool} (h : isT x = true) : x = some true := by
  cases x with
  | none => cases h
  | some b => cases b with
    | false => cases h
    | true => rfl
theorem form_mem {r : RowL} (hr : r ∈ rowsL) : r.form ∈ RegsC.regForms := by
  have tab : (rowsL.all fun r => RegsC.regForms.contains r.form) = true := by decide
  simpa using List.all_eq_true.1 tab r hr
theorem right_eq {r : RowL} (hr : r ∈ rowsL) {d s t m : Int} (hm : mayI r.op d s t m = true) : rightV r.form d s t = regsOk r.form d s t := by
  obtain ⟨hz, -⟩ := may_facts hr hm
  have h1 := rightV_P r.form (form_mem hr) d s t
  have h2 := regsOk_P r.form (form_mem hr) d s t
  cases e1 : rightV r.form d s t <;> cases e2 : regsOk r.form d s t <;> simp_all
theorem fits_eq {r : RowL} (hr : r ∈ rowsL) {d s t m : Int} (hm : mayI r.op d s t m = true) : fitsV r.kind r.unit r.places.length m = numOk r.kind r.unit r.places.length m := by
  obtain ⟨-, -, -, -, hb⟩ := may_facts hr hm
  obtain ⟨h1, h2⟩ := numOk_P _ _ _ (row_nums hr) m hb
  cases e1 : fitsV r.kind r.unit r.places.length m <;> cases e2 : numOk r.kind r.unit r.places.length m <;> simp_all
theorem str_eq {ρ : Rho} [Dec] [Env] {l : List Nat} {v : Value} (h : VR ρ (.str l) v) : v = .string ⟨(l.map UInt8.ofNat).toArray⟩ := by
  cases h with
  | str s _ e =>
    subst e
    obtain ⟨⟨l⟩⟩ := s
    have : (UInt8.ofNat ∘ UInt8.toNat) = id := by funext b; simp
    simp [this]
section
variable [Dec] [Env]
theorem orcRight_ok {P : Program} {gl : Nat} {f : FuncId} (hφ : Env.φ = φ0) (hc : RightC P f) : CallOK P gl (only f orcRight) := by
  refine callOK_only fun args H v H' h => ?_
  unfold orcRight at h
  split at h
  · rename_i c o d s t m
    simp only [Option.bind_eq_some_iff] at h
    obtain ⟨ed, hd, es, hs, et, ht, em, hm, h⟩ := h
    split at h
    · rename_i hcond
      rw [Bool.and_eq_true] at hcond
      obtain ⟨hmay, hrow⟩ := hcond
      obtain ⟨rw_, hr, hro⟩ := List.any_eq_true.1 hrow
      rw [Bool.and_eq_true, decide_eq_true_eq] at hro
      obtain ⟨rfl, hcf⟩ := hro
      have hcf := Nat.eq_of_beq_eq_true hcf
      subst hcf
      have hmay := look_eq (isT_some hmay)
      obtain ⟨r, hr', rfl, rfl⟩ := onE_some h
      refine ⟨rfl, fun ρ w args' hI hv => ?_⟩
      cases hv with
      | cons _ _ _ _ h1 hv =>
        have h1 := str_eq h1
        subst h1
        cases hv with
        | cons _ _ _ _ h2 hv =>
          cases hv
          cases h2 with
          | agg cs vs hv =>
            cases hv with
            | cons _ vo _ _ h1 hv => cases hv with
              | cons _ vd _ _ h2 hv => cases hv with
                | cons _ vs _ _ h3 hv => cases hv with
                  | cons _ vt _ _ h4 hv => cases hv with
                    | cons _ vm _ _ h5 hv =>
                      cases hv
                      cases h1
                      obtain ⟨rfl, q2⟩ := i64?_rel hd h2
                      obtain ⟨rfl, q3⟩ := i64?_rel hs h3
                      obtain ⟨rfl, q4⟩ := i64?_rel ht h4
                      obtain ⟨rfl, q5⟩ := i64?_rel hm h5
                      have q : (SE.pair (.lit (rw_.op : Int)) (.pair ed (.pair es (.pair et em)))).evs Env.η Env.φ = [(rw_.op : Int), sev ed, sev es, sev et, sev em] := by
                        rw [evs_pair, evs_pair, evs_pair, evs_pair, q2, q3, q4, q5]; rfl
                      rw [sev_fn, q, hφ] at hmay
                      have hmay : mayI rw_.op (sev ed) (sev es) (sev et) (sev em) = true := by rw [← hmay]; exact (b01_eq _).symm
                      have q : (SE.pair (.lit (rw_.form : Int)) (.pair ed (.pair es et))).evs Env.η Env.φ = [(rw_.form : Int), sev ed, sev es, sev et] := by
                        rw [evs_pair, evs_pair, evs_pair, q2, q3, q4]; rfl
                      rw [sev_fn, q, hφ] at hr'
                      have hr' : regsOk rw_.form (sev ed) (sev es) (sev et) = r := by
                        rw [← hr']
                        show _ = (b01 (regsOk ((rw_.form : Nat) : Int).toNat (sev ed) (sev es) (sev et)) == 1)
                        rw [Int.toNat_natCast, b01_eq]
                      subst hr'
                      rw [← right_eq hr hmay]
                      exact ⟨_, .bool _, hc rw_.form (form_mem hr) rw_.op (sev ed) (sev es) (sev et) (sev em) w⟩
    · cases h
  · cases h
theorem orcFits_ok {P : Program} {gl : Nat} {f : FuncId} (hφ : Env.φ = φ0) (hc : FitsC P f) : CallOK P gl (only f orcFits) := by
  refine callOK_only fun args H v H' h => ?_
  unfold orcFits at h
  split at h
  · rename_i nm b fm kd u sb n c
    split at h
    · rename_i r hfind
      split at h
      · rename_i hcond
        rw [Bool.and_eq_true] at hcond
        obtain ⟨hmay, hnc⟩ := hcond
        have hnc := Nat.eq_of_beq_eq_true hnc
        subst hnc
        have hmem := List.mem_of_find?_eq_some hfind
        have his := List.find?_some hfind
        unfold rowIs at his
        simp only [Bool.and_eq_true, beq_iff_eq, decide_eq_true_eq] at his
        obtain ⟨rfl, rfl, rfl, rfl, rfl, hn⟩ := his
        have hn := Nat.eq_of_beq_eq_true hn
        subst hn
        have hmay := look_eq (isT_some hmay)
        have q : (eO r.op).evs Env.η Env.φ = [(r.op : Int), Env.η 0, Env.η 1, Env.η 2, Env.η 3] := rfl
        rw [sev_fn, q, hφ] at hmay
        have hmay : mayI r.op (Env.η 0) (Env.η 1) (Env.η 2) (Env.η 3) = true := by rw [← hmay]; exact (b01_eq _).symm
        obtain ⟨r', hr', rfl, rfl⟩ := onE_some h
        refine ⟨rfl, fun ρ w args' hI hv => ?_⟩
        have e124 : sev (t124 r) = b01 (numOk r.kind r.unit r.places.length (Env.η 3)) := by
          unfold sev
          rw [hφ]
          show b01 (numOk ((r.kind : Nat) : Int).toNat ((r.unit : Nat) : Int).toNat ((r.places.length : Nat) : Int).toNat _) = _
          rw [Int.toNat_natCast, Int.toNat_natCast, Int.toNat_natCast]
        rw [e124, b01_eq] at hr'
        subst hr'
        cases hv with
        | cons _ _ _ _ h1 hv =>
          cases hv with
          | cons _ _ _ _ h2 hv =>
            cases hv
            cases h2
            cases h1 with
            | agg cs vs hv =>
              cases hv with
              | cons _ _ _ _ h1 hv => cases hv with
                | cons _ _ _ _ h2 hv => cases hv with
                  | cons _ _ _ _ h3 hv => cases hv with
                    | cons _ _ _ _ h4 hv => cases hv with
                      | cons _ _ _ _ h5 hv => cases hv with
                        | cons _ pl _ _ h6 hv =>
                          cases hv
                          have h1 := str_eq h1
                          have h3 := str_eq h3
                          have h4 := str_eq h4
                          subst h1; subst h3; subst h4
                          cases h2; cases h5
                          have hm3 : sev (.var 3) = Env.η 3 := rfl
                          rw [← fits_eq hmem hmay, hm3]
                          refine ⟨_, .bool _, hc r hmem _ pl w ?_⟩
                          generalize r.places.length = n at h6 ⊢
                          cases h6 with
                          | sl _ _ _ _ ccap r' h hl hc ht hs =>
                            refine ⟨fun c => if c = 0 then some r' else none, fun c hc => if_neg (by omega), fun c r'' hr => ?_, fun D E => ?_⟩
                            · simp only at hr
                              split at hr
                              · injection hr with hr; subst hr; exact hI.lt _ _ h
                              · cases hr
                            · exact @VR.sl D E _ 0 0 _ _ ccap r' rfl hl hc ht hs
                          | sl0 _ _ a => exact ⟨fun _ => none, fun _ _ => rfl, fun _ r (h : (none : Option RB) = some r) => (by cases h), fun D E => @VR.sl0 D E _ 0 0 a⟩
      · cases h
    · cases h
  · cases h
end
theorem orcS_OK {P : Program} {right fits : FuncId} (h1 : RightC P right) (h2 : FitsC P fits) : OrcOK P 0 φ0 (orcS right fits) :=
  fun F _ h => @callOK_or F.dec h.env P 0 _ _ (@orcRight_ok F.dec h.env P 0 right rfl h1) (@orcFits_ok F.dec h.env P 0 fits rfl h2)
def FindC (P : Program) (f : FuncId) : Prop := ∀ op d s t m, mayI op d s t m = true → Ret P f [insnV op d s t m] (.int .i64 (findV op d s t m))
theorem findC_of {P : Program} (hm : P.follows .mixedOrders = true) {f right fits : FuncId} (c1 : RightC P right) (c2 : FitsC P fits)
    (h1 : ∀ k, k < 94 → ((findTr ((k : Nat) + 1 : Int)).prune []).ok (runT P (orcS right fits) 10000 0 f [insnA ((k : Nat) + 1 : Int)]) (FM ((k : Nat) + 1 : Int)) = true) : FindC P f := by
  intro op d s t m hmay
  have hk : knownI op = true := by
    unfold mayI at hmay
    rw [Bool.and_eq_true] at hmay
    exact hmay.1
  simp only [knownI, Bool.and_eq_true, decide_eq_true_eq] at hk
  obtain ⟨k, rfl⟩ : ∃ k : Nat, op = (k : Int) + 1 := ⟨(op - 1).toNat, by omega⟩
  have hon : (FM ((k : Int) + 1)).On (ηl [d, s, t, m, (k : Int) + 1]) φ0 := by
    refine ⟨fun x hx => ?_, fun x hx => (by cases hx), fun x hx => (by cases hx)⟩
    simp only [FM, List.mem_cons, List.not_mem_nil, or_false] at hx
    subst hx
    show (b01 (mayI ((k : Int) + 1) d s t m) == 1) = true
    rw [hmay]; rfl
  refine ret_of (η := ηl [d, s, t, m, (k : Int) + 1]) hm (orcS_OK c1 c2) (h1 k (by omega)) hon ((prune_at _ _ (fun _ h => by cases h)).trans (selTr_at ..)) ?_ rfl rfl ?_
  · cases sel ((k : Int) + 1) d s t m rowsL 0 <;> rfl
  · unfold findV
    cases sel ((k : Int) + 1) d s t m rowsL 0 <;> rfl
end Go.Proofs.YtklenhohljeacaaDoor.Ex
