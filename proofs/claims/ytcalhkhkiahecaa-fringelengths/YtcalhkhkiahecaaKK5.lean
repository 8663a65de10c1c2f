/-
  FringeWhole.
-/
import Derived.Test.YtcalhkhkiahecaaKK4
namespace Go.Ab
open Go.Proofs
set_option linter.unusedSimpArgs false
set_option linter.unusedVariables false
set_option maxRecDepth 100000
set_option maxHeartbeats 2000000

variable {H : Heap}


theorem flat_len : ∀ (ps : List (Int × Int)), (∀ p ∈ ps, p.1 ≤ p.2) → ps.length ≤ (flatS ps).length
  | [], _ => by simp
  | p :: r, h => by
    have h1 := flat_len r fun q hq => h q (List.mem_cons_of_mem _ hq)
    have h2 := h p List.mem_cons_self
    have h3 : (flat1 p).length = (p.2 + 1 - p.1).toNat := by simp [flat1, upF]
    simp only [flatS, List.flatMap_cons, List.length_append, List.length_cons] at h1 ⊢
    omega

theorem spans_bd {f : Frg} (ho : f.Ok) (s : Nat) : (∀ p ∈ spans (f.lens s), 0 ≤ p.1 ∧ p.1 ≤ p.2 ∧ p.2 ≤ 2000 ∧ p.2 - p.1 ≤ 400 ∧ f.lo ≤ p.1 ∧ p.2 ≤ f.hi) ∧ (spans (f.lens s)).length ≤ 401 := by
  obtain ⟨h1, h2⟩ := flat_spans (f.lens s)
  have hb := lens_bd ho s
  have hl := ho.len
  refine ⟨fun p hp => ?_, ?_⟩
  · have h3 := h2 p hp
    have m1 : p.1 ∈ f.lens s := by rw [← h1]; exact mem_flatS.2 ⟨p, hp, by omega⟩
    have m2 : p.2 ∈ f.lens s := by rw [← h1]; exact mem_flatS.2 ⟨p, hp, by omega⟩
    have k1 := (mem_lens ho s p.1).1 m1
    have k2 := (mem_lens ho s p.2).1 m2
    omega
  · have := flat_len _ h2
    rw [h1] at this
    omega

end Go.Ab
/-
  FringeLengths: the plain part.
-/
namespace Go.Ab
open Go.Proofs
set_option linter.unusedSimpArgs false
set_option linter.unusedVariables false
set_option maxRecDepth 100000
set_option maxHeartbeats 2000000

variable {H : Heap}


/-- Spans that do not meet. -/
def Gap (p q : Int × Int) : Prop := p.2 + 1 < q.1

theorem gap_fold : ∀ (xs : List Int) (acc : List (Int × Int)), (∀ p ∈ acc, p.1 ≤ p.2) → (flatS acc ++ xs).Pairwise (· < ·) → acc.Pairwise Gap → (xs.foldl spStep acc).Pairwise Gap
  | [], acc, _, _, h => h
  | n :: r, acc, h1, h2, h3 => by
    obtain ⟨e1, e2⟩ := flat_step h1 n
    refine gap_fold r (spStep acc n) e2 (by rw [e1, List.append_assoc]; exact h2) ?_
    have hlt : ∀ p ∈ acc, p.2 < n := fun p hp => (List.pairwise_append.1 h2).2.2 p.2 (mem_flatS.2 ⟨p, hp, h1 p hp, Int.le_refl _⟩) n List.mem_cons_self
    simp only [spStep]
    cases hl : acc.getLast? with
    | none => rw [List.getLast?_eq_none_iff] at hl; subst hl; exact List.pairwise_singleton _ _
    | some p =>
      have hd := drop_last hl
      have hp : p ∈ acc := List.mem_of_getLast? hl
      rw [← hd, List.pairwise_append] at h3
      simp only
      split
      · rename_i hc
        rw [List.pairwise_append]
        refine ⟨h3.1, List.pairwise_singleton _ _, fun a ha b hb => ?_⟩
        rw [List.mem_singleton] at hb; subst hb
        exact h3.2.2 a ha p (by simp)
      · rename_i hc
        rw [List.pairwise_append]
        refine ⟨by rw [← hd, List.pairwise_append]; exact h3, List.pairwise_singleton _ _, fun a ha b hb => ?_⟩
        rw [List.mem_singleton] at hb; subst hb
        have hpn := hlt p hp
        have hp1 := h1 p hp
        rw [← hd] at ha
        simp only [Gap]
        rcases List.mem_append.1 ha with ha | ha
        · have := h3.2.2 a ha p (by simp)
          simp only [Gap] at this
          omega
        · rw [List.mem_singleton] at ha; subst ha; omega

theorem spans_gap {xs : List Int} (h : xs.Pairwise (· < ·)) {j : Nat} (hj : j + 1 < (spans xs).length) : ((spans xs).getD j (0, 0)).2 + 1 < ((spans xs).getD (j + 1) (0, 0)).1 := by
  have hg := gap_fold xs [] (by simp) (by simpa [flatS] using h) List.Pairwise.nil
  have := (List.pairwise_iff_getElem.1 hg) j (j + 1) (by simp only [spans] at hj; omega) hj (by omega)
  simp only [Gap] at this
  have e1 : (spans xs).getD j (0, 0) = (spans xs)[j] := by simp [show j < (spans xs).length by omega]
  have e2 : (spans xs).getD (j + 1) (0, 0) = (spans xs)[j + 1] := by simp [hj]
  rw [e1, e2]
  exact this

def inP (x : Int) (p : Int × Int) : Bool := decide (p.1 ≤ x) && decide (x ≤ p.2)

theorem any_spans (xs : List Int) (x : Int) : (spans xs).any (inP x) = decide (x ∈ xs) := by
  rw [Bool.eq_iff_iff]
  simp only [List.any_eq_true, inP, Bool.and_eq_true, decide_eq_true_eq]
  conv => rhs; rw [← (flat_spans xs).1]
  rw [mem_flatS]

theorem all_bit {n i : Nat} (h : i < n) : (2 ^ n - 1).testBit i = true := by
  rw [Nat.testBit_two_pow_sub_one]; simpa using h

end Go.Ab
/-
  FringeLengths: the readings are right, the spans, the law.
-/
namespace Go.Ab
open Go.Proofs
set_option linter.unusedSimpArgs false
set_option linter.unusedVariables false
set_option maxRecDepth 100000
set_option maxHeartbeats 2000000

variable {H : Heap}


theorem near_fold (w : Int) : ∀ (xs : List Int) (m : Int), (∀ x ∈ xs, m < x) → xs.Pairwise (· < ·) → (xs.foldl (nearS w) m = m ∨ xs.foldl (nearS w) m ∈ xs) ∧ ∀ x, x = m ∨ x ∈ xs → apw w (xs.foldl (nearS w) m) < apw w x ∨ (apw w (xs.foldl (nearS w) m) = apw w x ∧ xs.foldl (nearS w) m ≤ x)
  | [], m, _, _ => ⟨Or.inl rfl, fun x hx => hx.elim (fun e => Or.inr (by subst e; exact ⟨rfl, Int.le_refl _⟩)) (fun h => by cases h)⟩
  | y :: r, m, h1, h2 => by
    obtain ⟨h3, h4⟩ := List.pairwise_cons.1 h2
    have hmy := h1 y List.mem_cons_self
    simp only [List.foldl_cons]
    by_cases hc : apw w y - apw w m < 0
    · have e : nearS w m y = y := by simp only [nearS, if_pos hc]
      rw [e]
      obtain ⟨i1, i2⟩ := near_fold w r y h3 h4
      refine ⟨Or.inr (i1.elim (fun i1 => by rw [i1]; exact List.mem_cons_self) (fun i1 => List.mem_cons_of_mem _ i1)), fun x hx => ?_⟩
      rcases hx with rfl | hx
      · have := i2 y (Or.inl rfl); omega
      · rcases List.mem_cons.1 hx with rfl | hx
        · exact i2 x (Or.inl rfl)
        · exact i2 x (Or.inr hx)
    · have e : nearS w m y = m := by simp only [nearS, if_neg hc]
      rw [e]
      obtain ⟨i1, i2⟩ := near_fold w r m (fun x hx => h1 x (List.mem_cons_of_mem _ hx)) h4
      refine ⟨i1.elim Or.inl (fun i1 => Or.inr (List.mem_cons_of_mem _ i1)), fun x hx => ?_⟩
      rcases hx with rfl | hx
      · exact i2 x (Or.inl rfl)
      · rcases List.mem_cons.1 hx with rfl | hx
        · have := i2 m (Or.inl rfl); omega
        · exact i2 x (Or.inr hx)

theorem near_best {w : Int} {xs : List Int} (h : xs.Pairwise (· < ·)) (h0 : 0 < xs.length) : nearL w xs ∈ xs ∧ ∀ x ∈ xs, apw w (nearL w xs) < apw w x ∨ (apw w (nearL w xs) = apw w x ∧ nearL w xs ≤ x) := by
  cases xs with
  | nil => simp at h0
  | cons m r =>
    obtain ⟨h3, h4⟩ := List.pairwise_cons.1 h
    obtain ⟨i1, i2⟩ := near_fold w r m h3 h4
    have e : nearL w (m :: r) = r.foldl (nearS w) m := rfl
    rw [e]
    refine ⟨i1.elim (fun i1 => by rw [i1]; exact List.mem_cons_self) (fun i1 => List.mem_cons_of_mem _ i1), fun x hx => i2 x (List.mem_cons.1 hx)⟩

theorem fl_reads {f : Frg} {vw vr : AV} (ho : f.Ok) (hf : FrAt H f vw vr) (L : Int) (hL : 0 ≤ L ∧ L ≤ 2000) (ps : List (Int × Int)) (fl : Bool) (e n9 w11 n12 : Int) (r : Bool) (K : List Item) (R : Option Done) (hK : ∀ E : Env, E.get 3 = .ptr H.length 0 → E.get 7 = .sl fl (ps.map spA) → E.get 8 = I e → E.get 9 = I n9 → E.get 11 = I w11 → E.get 12 = I n12 → E.get 14 = I L → E.get 15 = .bool r → Option.map (finishC H.length) (execL cfg0 prog0 ⟨6, none, false, H.length⟩ K ⟨E, [], H ++ [.box (.agg [vw, I f.lo, I f.hi, vr])], none⟩) = R)  :
    ∀ (q j : Nat), j + q = f.rs.length → ∀ (b : Bool), ∀ (G : Heap), (b && f.rt f.all L j q) = r → ∀ E : Env, E.get 3 = .ptr H.length 0 → E.get 7 = .sl fl (ps.map spA) → E.get 8 = I e → E.get 9 = I n9 → E.get 11 = I w11 → E.get 12 = I n12 → E.get 14 = I L → E.get 15 = .bool b → E.get 104 = vr → E.get 105 = I f.rs.length → E.get 106 = I j →
    Option.map (finishC H.length) (execL cfg0 prog0 ⟨6, none, false, H.length⟩ (loopIt Try.f6 12 :: .inBlock 0 :: K) ⟨E, [], H ++ (.box (.agg [vw, I f.lo, I f.hi, vr]) :: G), none⟩) = R := by
  intro q
  obtain ⟨a1, a2, a3, a4, a5⟩ := hf.rs.fF (d := rd0)
  have s1 := hf.ws.scal
  have s2 := hf.rs.scal
  have t1 := hf.ws.ltn 1
  have t2 := hf.rs.ltn 1
  have hlp := fun N => spLt ps N
  have hv : f.valid = true := f.valid_iff.2 ho
  have hl : f.ws.length ≤ 1000 ∧ f.rs.length ≤ 1000 := by have := ho.many; have := ho.reads; omega
  induction q with
  | zero =>
    intro j hj b G hr E g3 g7 g8 g9 g11 g12 g14 g15 g104 g105 g106
    have hk' : ¬ (j : Int) < ((f.rs.length : Nat) : Int) := by omega
    have hb : b = r := by rw [← hr]; simp [Frg.rt, anyF]
    subst hb
    simp only [loopIt, todoPast, todoAt, todoOf, firstReg, ↓reduceIte, Option.some.injEq, Nat.reduceEqDiff, reduceCtorEq, Try.f6]
    rw [execL_inLoop]
    simp (maxSteps := 1000000) (implicitDefEqProofs := false) (disch := first | rfl | omega | assumption) only [go_sem, g3, g7, g8, g9, g11, g12, g14, g15, g104, g105, g106, ltT, ltF, leT, leF, hk', s1, s2, t1, t2, hlp]
    exact hK _ (by rfl) (by rfl) (by rfl) (by rfl) (by rfl) (by rfl) (by rfl) (by rfl)
  | succ q ih =>
    intro j hj b G hr E g3 g7 g8 g9 g11 g12 g14 g15 g104 g105 g106
    have hk' : (j : Int) < ((f.rs.length : Nat) : Int) := by omega
    have hk2 : j < f.rs.length := by omega
    obtain ⟨x, hx⟩ : ∃ x, f.rs.getD j rd0 = x := ⟨_, rfl⟩
    have hrj := ho.rd j hk2
    have hfr : f.r j = x := hx
    rw [hfr] at hrj
    have hrd := fun x : Rd => (show readPart x.av.cells 0 ⟨.struct [(0, 3), (1, 29)], 3, 24, some (.agg #[.int .i64 0, .int .i64 0, .int .i64 0])⟩ = some (.agg [I x.c, I x.lo, I x.hi]) from rfl)
    have hu : f.rt f.all L j (q + 1) = (rgt (f.w x.c.toNat) x.lo x.hi L && f.rt f.all L (j + 1) q) := by
      have hb : f.all.testBit j = true := all_bit hk2
      simp only [Frg.rt, anyF, hb, Bool.true_and, hfr]
      cases rgt (f.w x.c.toNat) x.lo x.hi L <;> simp
    have hP := fun G : Heap => fr_Part (hf.app G) hl L x.c
    have hw1 : wi L 0 2000 = true := by simp [wi]; omega
    have hw2 : wi x.c 0 ((f.ws.length : Int) - 1) = true := by simp [wi]; omega
    simp only [hv, if_true, hw1, hw2, Bool.and_true] at hP
    have hcn : x.c.toNat < f.ws.length := by omega
    have hwc := ho.wave x.c.toNat hcn
    have hpz := ptZ_bd (w := f.w x.c.toNat) (n := L) (by omega)
    have hrg : rgt (f.w x.c.toNat) x.lo x.hi L = ((decide (x.lo ≤ ptZ (f.w x.c.toNat) L) && decide (ptZ (f.w x.c.toNat) L ≤ x.hi)) || (decide (x.lo ≤ ptZ (f.w x.c.toNat) L + 20) && decide (ptZ (f.w x.c.toNat) L + 20 ≤ x.hi))) := rfl
    rw [hu, hrg] at hr
    generalize ptZ (f.w x.c.toNat) L = p at *
    generalize L / f.w x.c.toNat = wh at *
    cases b
    · skip
      simp only [loopIt, todoPast, todoAt, todoOf, firstReg, ↓reduceIte, Option.some.injEq, Nat.reduceEqDiff, reduceCtorEq, Try.f6]
      rw [execL_inLoop]
      simp (maxSteps := 1000000) (implicitDefEqProofs := false) (disch := first | rfl | omega | assumption) only [go_sem, g3, g7, g8, g9, g11, g12, g14, g15, g104, g105, g106, ltT, ltF, leT, leF, hk', s1, s2, t1, t2, hlp, a1, a2, a3, a4, hx, hrd, hP]
      exact ih (j + 1) (by omega) false _ (by simpa using hr) _ (by rfl) (by rfl) (by rfl) (by rfl) (by rfl) (by rfl) (by rfl) (by rfl) (by rfl) (by rfl) (by rfl)
    · by_cases c1 : x.lo ≤ p
      · by_cases c2 : p ≤ x.hi
        · skip
          simp only [loopIt, todoPast, todoAt, todoOf, firstReg, ↓reduceIte, Option.some.injEq, Nat.reduceEqDiff, reduceCtorEq, Try.f6]
          rw [execL_inLoop]
          simp (maxSteps := 1000000) (implicitDefEqProofs := false) (disch := first | rfl | omega | assumption) only [go_sem, g3, g7, g8, g9, g11, g12, g14, g15, g104, g105, g106, ltT, ltF, leT, leF, hk', s1, s2, t1, t2, hlp, a1, a2, a3, a4, hx, hrd, hP, c1, c2]
          exact ih (j + 1) (by omega) true _ (by simpa [c1, c2] using hr) _ (by rfl) (by rfl) (by rfl) (by rfl) (by rfl) (by rfl) (by rfl) (by rfl) (by rfl) (by rfl) (by rfl)
        · have c3 : x.lo ≤ p + 20 := by omega
          have c4 : ¬ p + 20 ≤ x.hi := by omega
          simp only [loopIt, todoPast, todoAt, todoOf, firstReg, ↓reduceIte, Option.some.injEq, Nat.reduceEqDiff, reduceCtorEq, Try.f6]
          rw [execL_inLoop]
          simp (maxSteps := 1000000) (implicitDefEqProofs := false) (disch := first | rfl | omega | assumption) only [go_sem, g3, g7, g8, g9, g11, g12, g14, g15, g104, g105, g106, ltT, ltF, leT, leF, hk', s1, s2, t1, t2, hlp, a1, a2, a3, a4, hx, hrd, hP, c1, c2, c3, c4]
          exact ih (j + 1) (by omega) false _ (by simpa [c1, c2, c3, c4] using hr) _ (by rfl) (by rfl) (by rfl) (by rfl) (by rfl) (by rfl) (by rfl) (by rfl) (by rfl) (by rfl) (by rfl)
      · by_cases c3 : x.lo ≤ p + 20
        · by_cases c4 : p + 20 ≤ x.hi
          · skip
            simp only [loopIt, todoPast, todoAt, todoOf, firstReg, ↓reduceIte, Option.some.injEq, Nat.reduceEqDiff, reduceCtorEq, Try.f6]
            rw [execL_inLoop]
            simp (maxSteps := 1000000) (implicitDefEqProofs := false) (disch := first | rfl | omega | assumption) only [go_sem, g3, g7, g8, g9, g11, g12, g14, g15, g104, g105, g106, ltT, ltF, leT, leF, hk', s1, s2, t1, t2, hlp, a1, a2, a3, a4, hx, hrd, hP, c1, c3, c4]
            exact ih (j + 1) (by omega) true _ (by simpa [c1, c3, c4] using hr) _ (by rfl) (by rfl) (by rfl) (by rfl) (by rfl) (by rfl) (by rfl) (by rfl) (by rfl) (by rfl) (by rfl)
          · skip
            simp only [loopIt, todoPast, todoAt, todoOf, firstReg, ↓reduceIte, Option.some.injEq, Nat.reduceEqDiff, reduceCtorEq, Try.f6]
            rw [execL_inLoop]
            simp (maxSteps := 1000000) (implicitDefEqProofs := false) (disch := first | rfl | omega | assumption) only [go_sem, g3, g7, g8, g9, g11, g12, g14, g15, g104, g105, g106, ltT, ltF, leT, leF, hk', s1, s2, t1, t2, hlp, a1, a2, a3, a4, hx, hrd, hP, c1, c3, c4]
            exact ih (j + 1) (by omega) false _ (by simpa [c1, c3, c4] using hr) _ (by rfl) (by rfl) (by rfl) (by rfl) (by rfl) (by rfl) (by rfl) (by rfl) (by rfl) (by rfl) (by rfl)
        · skip
          simp only [loopIt, todoPast, todoAt, todoOf, firstReg, ↓reduceIte, Option.some.injEq, Nat.reduceEqDiff, reduceCtorEq, Try.f6]
          rw [execL_inLoop]
          simp (maxSteps := 1000000) (implicitDefEqProofs := false) (disch := first | rfl | omega | assumption) only [go_sem, g3, g7, g8, g9, g11, g12, g14, g15, g104, g105, g106, ltT, ltF, leT, leF, hk', s1, s2, t1, t2, hlp, a1, a2, a3, a4, hx, hrd, hP, c1, c3]
          exact ih (j + 1) (by omega) false _ (by simpa [c1, c3] using hr) _ (by rfl) (by rfl) (by rfl) (by rfl) (by rfl) (by rfl) (by rfl) (by rfl) (by rfl) (by rfl) (by rfl)

end Go.Ab
/-
  FringeLengths: the spans.
-/
namespace Go.Ab
open Go.Proofs
set_option linter.unusedSimpArgs false
set_option linter.unusedVariables false
set_option maxRecDepth 100000
set_option maxHeartbeats 20000000

variable {H : Heap}


theorem fl_in {f : Frg} {vw vr : AV} (hf : FrAt H f vw vr) (L near wish far n9 e many j0 : Int) (tF told nrs : Bool) (ps : List (Int × Int)) (fl : Bool) (a b : Int) (zs : List Int) (hw : 0 ≤ wish ∧ wish ≤ 2000) (hz : zs.length ≤ 3 ∧ ∀ i, i < zs.length → 0 ≤ zs.getD i 0 ∧ zs.getD i 0 ≤ 2000 ∧ (far < apw wish (zs.getD i 0) ∨ (far = apw wish (zs.getD i 0) ∧ near ≤ zs.getD i 0))) (K : List Item) (R : Option Done) (hK : ∀ E : Env, E.get 3 = .ptr H.length 0 → E.get 7 = .sl fl (ps.map spA) → E.get 8 = I e → E.get 9 = I n9 → E.get 11 = I wish → E.get 12 = I near → E.get 14 = I L → E.get 15 = .bool tF → E.get 21 = I many → E.get 22 = .bool told → E.get 23 = .bool nrs → E.get 24 = I far → E.get 160 = .sl fl (ps.map spA) → E.get 161 = I ps.length → E.get 162 = I j0 → Option.map (finishC H.length) (execL cfg0 prog0 ⟨6, none, false, H.length⟩ K ⟨E, [], H ++ [.box (.agg [vw, I f.lo, I f.hi, vr]), .box (.agg [I a, I b])], none⟩) = R)  :
    ∀ (q j : Nat), j + q = zs.length → True → ∀ E : Env, E.get 3 = .ptr H.length 0 → E.get 7 = .sl fl (ps.map spA) → E.get 8 = I e → E.get 9 = I n9 → E.get 11 = I wish → E.get 12 = I near → E.get 14 = I L → E.get 15 = .bool tF → E.get 21 = I many → E.get 22 = .bool told → E.get 23 = .bool nrs → E.get 24 = I far → E.get 160 = .sl fl (ps.map spA) → E.get 161 = I ps.length → E.get 162 = I j0 → E.get 249 = .sl true (zs.map I) → E.get 250 = I zs.length → E.get 251 = I j →
    Option.map (finishC H.length) (execL cfg0 prog0 ⟨6, none, false, H.length⟩ (loopIt Try.f6 29 :: .inBlock 4 :: K) ⟨E, [], H ++ [.box (.agg [vw, I f.lo, I f.hi, vr]), .box (.agg [I a, I b])], none⟩) = R := by
  intro q
  obtain ⟨a1, a2, a3, a4, a5⟩ := (slI (H := H) true zs).fF (d := 0)
  have hap : ∀ x : Int, (if x - wish < wish - x then wish - x else x - wish) = apw wish x := fun _ => rfl
  induction q with
  | zero =>
    intro j hj hu E g3 g7 g8 g9 g11 g12 g14 g15 g21 g22 g23 g24 g160 g161 g162 g249 g250 g251
    have hk' : ¬ (j : Int) < ((zs.length : Nat) : Int) := by omega
    simp only [loopIt, todoPast, todoAt, todoOf, firstReg, ↓reduceIte, Option.some.injEq, Nat.reduceEqDiff, reduceCtorEq, Try.f6]
    rw [execL_inLoop]
    simp (maxSteps := 1000000) (implicitDefEqProofs := false) (disch := first | rfl | omega | assumption) only [go_sem, g3, g7, g8, g9, g11, g12, g14, g15, g21, g22, g23, g24, g160, g161, g162, g249, g250, g251, ltT, ltF, leT, leF, hk']
    exact hK _ (by exact g3) (by exact g7) (by exact g8) (by exact g9) (by exact g11) (by exact g12) (by exact g14) (by exact g15) (by exact g21) (by exact g22) (by exact g23) (by exact g24) (by exact g160) (by exact g161) (by exact g162)
  | succ q ih =>
    intro j hj hu E g3 g7 g8 g9 g11 g12 g14 g15 g21 g22 g23 g24 g160 g161 g162 g249 g250 g251
    have hk' : (j : Int) < ((zs.length : Nat) : Int) := by omega
    have hk2 : j < zs.length := by omega
    have hzj := hz.2 j hk2
    have hz3 := hz.1
    obtain ⟨z, en⟩ : ∃ z, zs.getD j 0 = z := ⟨_, rfl⟩
    rw [en] at hzj
    have hlt : ¬ apw wish z < far := by omega
    by_cases hc : apw wish z = far
    · have hbe : (apw wish z == far) = true := by simp [hc]
      have hnz : ¬ z < near := by omega
      simp only [loopIt, todoPast, todoAt, todoOf, firstReg, ↓reduceIte, Option.some.injEq, Nat.reduceEqDiff, reduceCtorEq, Try.f6]
      rw [execL_inLoop]
      simp (maxSteps := 1000000) (implicitDefEqProofs := false) (disch := first | rfl | omega | assumption) only [go_sem, g3, g7, g8, g9, g11, g12, g14, g15, g21, g22, g23, g24, g160, g161, g162, g249, g250, g251, ltT, ltF, leT, leF, hk', a1, a2, a3, a4, en, hap, hlt, hbe, hnz]
      exact ih (j + 1) (by omega) trivial _ (by exact g3) (by exact g7) (by exact g8) (by exact g9) (by exact g11) (by exact g12) (by exact g14) (by exact g15) (by exact g21) (by exact g22) (by exact g23) (by exact g24) (by exact g160) (by exact g161) (by exact g162) (by exact g249) (by exact g250) (by rfl)
    · have hbe : (apw wish z == far) = false := by simp [hc]
      simp only [loopIt, todoPast, todoAt, todoOf, firstReg, ↓reduceIte, Option.some.injEq, Nat.reduceEqDiff, reduceCtorEq, Try.f6]
      rw [execL_inLoop]
      simp (maxSteps := 1000000) (implicitDefEqProofs := false) (disch := first | rfl | omega | assumption) only [go_sem, g3, g7, g8, g9, g11, g12, g14, g15, g21, g22, g23, g24, g160, g161, g162, g249, g250, g251, ltT, ltF, leT, leF, hk', a1, a2, a3, a4, en, hap, hlt, hbe]
      exact ih (j + 1) (by omega) trivial _ (by exact g3) (by exact g7) (by exact g8) (by exact g9) (by exact g11) (by exact g12) (by exact g14) (by exact g15) (by exact g21) (by exact g22) (by exact g23) (by exact g24) (by exact g160) (by exact g161) (by exact g162) (by exact g249) (by exact g250) (by rfl)

theorem inP_cons (x : Int) (p : Int × Int) (r : List (Int × Int)) : (p :: r).any (inP x) = (inP x p || r.any (inP x)) := List.any_cons

theorem fl_spans {f : Frg} {vw vr : AV} (ho : f.Ok) (hf : FrAt H f vw vr) (L near wish far n9 e : Int) (tF nF : Bool) (ps : List (Int × Int)) (fl : Bool) (hps : ∀ p ∈ ps, 0 ≤ p.1 ∧ p.1 ≤ p.2 ∧ p.2 ≤ 2000 ∧ f.lo ≤ p.1 ∧ p.2 ≤ f.hi) (hgap : ∀ j, j + 1 < ps.length → (ps.getD j (0, 0)).2 + 1 < (ps.getD (j + 1) (0, 0)).1) (hw : 0 ≤ wish ∧ wish ≤ 2000) (hbest : ∀ p ∈ ps, ∀ x, p.1 ≤ x → x ≤ p.2 → far < apw wish x ∨ (far = apw wish x ∧ near ≤ x)) (hpl : ps.length ≤ 1000) (hn9 : n9 ≤ 2000) (hnF : nF = (e == 0)) :
    ∀ (q j : Nat), j + q = ps.length → ∀ (many : Int), ∀ (told : Bool), ∀ (nrs : Bool), ∀ (G : Heap), many + ((flatS (ps.drop j)).length : Nat) = n9 → 0 ≤ many → (told || (ps.drop j).any (inP L)) = tF → (nrs || (ps.drop j).any (inP near)) = nF → ∀ E : Env, E.get 3 = .ptr H.length 0 → E.get 7 = .sl fl (ps.map spA) → E.get 8 = I e → E.get 9 = I n9 → E.get 11 = I wish → E.get 12 = I near → E.get 14 = I L → E.get 15 = .bool tF → E.get 21 = I many → E.get 22 = .bool told → E.get 23 = .bool nrs → E.get 24 = I far → E.get 160 = .sl fl (ps.map spA) → E.get 161 = I ps.length → E.get 162 = I j →
    Option.map (finishC H.length) (execL cfg0 prog0 ⟨6, none, false, H.length⟩ (todoAt Try.f6 22) ⟨E, [], H ++ (.box (.agg [vw, I f.lo, I f.hi, vr]) :: G), none⟩) = some ⟨.ret (.bool true), H, none⟩ := by
  intro q
  have s1 := hf.ws.scal
  have s2 := hf.rs.scal
  have t1 := hf.ws.ltn 1
  have t2 := hf.rs.ltn 1
  have hlp := fun N => spLt ps N
  have hA := fun G : Heap => law_alive (H ++ G)
  have hbb : ∀ b : Bool, (b == b) = true := fun b => by cases b <;> rfl
  have hii : ∀ b : Int, (b == b) = true := fun b => by simp
  obtain ⟨a1, a2, a3, a4, a5⟩ := (slS (H := H) fl ps).fF (d := (0, 0))
  induction q with
  | zero =>
    intro j hj many told nrs G hm h0 ht hq E g3 g7 g8 g9 g11 g12 g14 g15 g21 g22 g23 g24 g160 g161 g162
    have hk' : ¬ (j : Int) < ((ps.length : Nat) : Int) := by omega
    rw [List.drop_of_length_le (by omega)] at hm ht hq
    simp only [flatS, List.flatMap_nil, List.length_nil, List.any_nil, Bool.or_false, Int.natCast_zero, Int.add_zero] at hm ht hq
    subst hm
    subst ht
    subst hq
    simp only [loopIt, todoPast, todoAt, todoOf, firstReg, ↓reduceIte, Option.some.injEq, Nat.reduceEqDiff, reduceCtorEq, Try.f6]
    rw [execL_inLoop]
    simp (maxSteps := 1000000) (implicitDefEqProofs := false) (disch := first | rfl | omega | assumption) only [go_sem, g3, g7, g8, g9, g11, g12, g14, g15, g21, g22, g23, g24, g160, g161, g162, ltT, ltF, leT, leF, hk', s1, s2, t1, t2, hlp, hnF, hbb, hii, hA]
    done
  | succ q ih =>
    intro j hj many told nrs G hm h0 ht hq E g3 g7 g8 g9 g11 g12 g14 g15 g21 g22 g23 g24 g160 g161 g162
    have hk' : (j : Int) < ((ps.length : Nat) : Int) := by omega
    have hk2 : j < ps.length := by omega
    have hd : ps.drop j = ps.getD j (0, 0) :: ps.drop (j + 1) := by rw [List.drop_eq_getElem_cons hk2]; simp [hk2]
    have hmem : ps.getD j (0, 0) ∈ ps := by simp only [List.getD_eq_getElem?_getD, List.getElem?_eq_getElem hk2, Option.getD_some]; exact List.getElem_mem hk2
    have hbx := hbest _ hmem
    have hpb := hps _ hmem
    have hg0 := fun (h : 0 < j) => hgap (j - 1) (by omega)
    obtain ⟨⟨a, b⟩, en⟩ : ∃ p, ps.getD j (0, 0) = p := ⟨_, rfl⟩
    rw [en] at hd hpb hbx
    simp only at hpb hbx
    have hfl : flatS ((a, b) :: ps.drop (j + 1)) = upF a (b + 1 - a).toNat ++ flatS (ps.drop (j + 1)) := by simp [flatS, flat1]
    have hul : (upF a (b + 1 - a).toNat).length = (b + 1 - a).toNat := by simp [upF]
    rw [hd, hfl, List.length_append, hul] at hm
    rw [hd, inP_cons] at ht hq
    have hiL : inP L (a, b) = (decide (a ≤ L) && decide (L ≤ b)) := rfl
    have hiN : inP near (a, b) = (decide (a ≤ near) && decide (near ≤ b)) := rfl
    rw [hiL] at ht
    rw [hiN] at hq
    have hm2 : (many + (b - a + 1)) + ((flatS (ps.drop (j + 1))).length : Nat) = n9 := by omega
    have hrd := fun x : Int × Int => (show readPart (spA x).cells 0 ⟨.struct [(0, 3), (1, 3)], 2, 16, some (.agg #[.int .i64 0, .int .i64 0])⟩ = some (.agg [I x.1, I x.2]) from rfl)
    have d1 : ¬ b < a := by omega
    have d2 : ¬ a < f.lo := by omega
    have d3 : ¬ f.hi < b := by omega
    have hzs : ∀ x, a ≤ x → x ≤ b → ([a, b, x].length ≤ 3 ∧ ∀ i, i < [a, b, x].length → 0 ≤ [a, b, x].getD i 0 ∧ [a, b, x].getD i 0 ≤ 2000 ∧ (far < apw wish ([a, b, x].getD i 0) ∨ (far = apw wish ([a, b, x].getD i 0) ∧ near ≤ [a, b, x].getD i 0))) := by
      intro x hx1 hx2
      refine ⟨by simp, fun i hi => ?_⟩
      match i, hi with
      | 0, _ => exact ⟨by simp; omega, by simp; omega, hbx a (by omega) (by omega)⟩
      | 1, _ => exact ⟨by simp; omega, by simp; omega, hbx b (by omega) (by omega)⟩
      | 2, _ => exact ⟨by simp; omega, by simp; omega, hbx x hx1 hx2⟩
    have hz1 : a ≤ (if a < if wish < b then wish else b then if wish < b then wish else b else a) := by split <;> split <;> omega
    have hz2 : (if a < if wish < b then wish else b then if wish < b then wish else b else a) ≤ b := by split <;> split <;> omega
    have hz := hzs _ hz1 hz2
    have hmb : many ≤ 2000 := by omega
    by_cases hj0 : j = 0
    · subst hj0
      cases told
      · by_cases c1 : a ≤ L
        · skip
          cases nrs
          · by_cases n1 : a ≤ near
            · skip
              simp only [loopIt, todoPast, todoAt, todoOf, firstReg, ↓reduceIte, Option.some.injEq, Nat.reduceEqDiff, reduceCtorEq, Try.f6]
              rw [execL_inLoop]
              simp (maxSteps := 1000000) (implicitDefEqProofs := false) (disch := first | rfl | omega | assumption) only [go_sem, g3, g7, g8, g9, g11, g12, g14, g15, g21, g22, g23, g24, g160, g161, g162, ltT, ltF, leT, leF, hk', s1, s2, t1, t2, hlp, a1, a2, a3, a4, en, hrd]
              rw [chkK_of]; rotate_left; kernel_rfl
              simp (maxSteps := 1000000) (implicitDefEqProofs := false) (disch := first | rfl | omega | assumption) only [go_sem, g3, g7, g8, g9, g11, g12, g14, g15, g21, g22, g23, g24, g160, g161, g162, ltT, ltF, leT, leF, hk', s1, s2, a1, a2, a3, a4, en, hrd, d1, d2, d3, c1, n1]
              rw [chkK_of]; rotate_left; kernel_rfl
              simp (maxSteps := 1000000) (implicitDefEqProofs := false) (disch := first | rfl | omega | assumption) only [go_sem, g3, g7, g8, g9, g11, g12, g14, g15, g21, g22, g23, g24, g160, g161, g162, ltT, ltF, leT, leF, hk', s1, s2, a1, a2, a3, a4, en, hrd, d1, d2, d3, c1, n1]
              refine fl_in hf L near wish far n9 e (many + (b - a + 1)) (0 : Nat) tF (decide (L ≤ b)) (decide (near ≤ b)) ps fl a b [a, b, (if a < if wish < b then wish else b then if wish < b then wish else b else a)] hw hz _ _ (fun E k3 k7 k8 k9 k11 k12 k14 k15 k21 k22 k23 k24 k160 k161 k162 => ?_) 3 0 rfl trivial _ (by rfl) (by rfl) (by rfl) (by rfl) (by rfl) (by rfl) (by rfl) (by rfl) (by rfl) (by rfl) (by rfl) (by rfl) (by rfl) (by rfl) (by rfl) (by rfl) (by rfl) (by rfl)
              simp (maxSteps := 1000000) (implicitDefEqProofs := false) (disch := first | rfl | omega | assumption) only [go_sem, g3, g7, g8, g9, g11, g12, g14, g15, g21, g22, g23, g24, g160, g161, g162, ltT, ltF, leT, leF, hk', k162]
              exact ih (0 + 1) (by omega) (many + (b - a + 1)) (decide (L ≤ b)) (decide (near ≤ b)) [.box (.agg [I a, I b])] hm2 (by omega) (by simpa [c1] using ht) (by simpa [n1] using hq) _ (by exact k3) (by exact k7) (by exact k8) (by exact k9) (by exact k11) (by exact k12) (by exact k14) (by exact k15) (by exact k21) (by exact k22) (by exact k23) (by exact k24) (by exact k160) (by exact k161) (by rfl)
            · skip
              simp only [loopIt, todoPast, todoAt, todoOf, firstReg, ↓reduceIte, Option.some.injEq, Nat.reduceEqDiff, reduceCtorEq, Try.f6]
              rw [execL_inLoop]
              simp (maxSteps := 1000000) (implicitDefEqProofs := false) (disch := first | rfl | omega | assumption) only [go_sem, g3, g7, g8, g9, g11, g12, g14, g15, g21, g22, g23, g24, g160, g161, g162, ltT, ltF, leT, leF, hk', s1, s2, t1, t2, hlp, a1, a2, a3, a4, en, hrd]
              rw [chkK_of]; rotate_left; kernel_rfl
              simp (maxSteps := 1000000) (implicitDefEqProofs := false) (disch := first | rfl | omega | assumption) only [go_sem, g3, g7, g8, g9, g11, g12, g14, g15, g21, g22, g23, g24, g160, g161, g162, ltT, ltF, leT, leF, hk', s1, s2, a1, a2, a3, a4, en, hrd, d1, d2, d3, c1, n1]
              rw [chkK_of]; rotate_left; kernel_rfl
              simp (maxSteps := 1000000) (implicitDefEqProofs := false) (disch := first | rfl | omega | assumption) only [go_sem, g3, g7, g8, g9, g11, g12, g14, g15, g21, g22, g23, g24, g160, g161, g162, ltT, ltF, leT, leF, hk', s1, s2, a1, a2, a3, a4, en, hrd, d1, d2, d3, c1, n1]
              refine fl_in hf L near wish far n9 e (many + (b - a + 1)) (0 : Nat) tF (decide (L ≤ b)) false ps fl a b [a, b, (if a < if wish < b then wish else b then if wish < b then wish else b else a)] hw hz _ _ (fun E k3 k7 k8 k9 k11 k12 k14 k15 k21 k22 k23 k24 k160 k161 k162 => ?_) 3 0 rfl trivial _ (by rfl) (by rfl) (by rfl) (by rfl) (by rfl) (by rfl) (by rfl) (by rfl) (by rfl) (by rfl) (by rfl) (by rfl) (by rfl) (by rfl) (by rfl) (by rfl) (by rfl) (by rfl)
              simp (maxSteps := 1000000) (implicitDefEqProofs := false) (disch := first | rfl | omega | assumption) only [go_sem, g3, g7, g8, g9, g11, g12, g14, g15, g21, g22, g23, g24, g160, g161, g162, ltT, ltF, leT, leF, hk', k162]
              exact ih (0 + 1) (by omega) (many + (b - a + 1)) (decide (L ≤ b)) false [.box (.agg [I a, I b])] hm2 (by omega) (by simpa [c1] using ht) (by simpa [n1] using hq) _ (by exact k3) (by exact k7) (by exact k8) (by exact k9) (by exact k11) (by exact k12) (by exact k14) (by exact k15) (by exact k21) (by exact k22) (by exact k23) (by exact k24) (by exact k160) (by exact k161) (by rfl)
          · skip
            simp only [loopIt, todoPast, todoAt, todoOf, firstReg, ↓reduceIte, Option.some.injEq, Nat.reduceEqDiff, reduceCtorEq, Try.f6]
            rw [execL_inLoop]
            simp (maxSteps := 1000000) (implicitDefEqProofs := false) (disch := first | rfl | omega | assumption) only [go_sem, g3, g7, g8, g9, g11, g12, g14, g15, g21, g22, g23, g24, g160, g161, g162, ltT, ltF, leT, leF, hk', s1, s2, t1, t2, hlp, a1, a2, a3, a4, en, hrd]
            rw [chkK_of]; rotate_left; kernel_rfl
            simp (maxSteps := 1000000) (implicitDefEqProofs := false) (disch := first | rfl | omega | assumption) only [go_sem, g3, g7, g8, g9, g11, g12, g14, g15, g21, g22, g23, g24, g160, g161, g162, ltT, ltF, leT, leF, hk', s1, s2, a1, a2, a3, a4, en, hrd, d1, d2, d3, c1]
            rw [chkK_of]; rotate_left; kernel_rfl
            simp (maxSteps := 1000000) (implicitDefEqProofs := false) (disch := first | rfl | omega | assumption) only [go_sem, g3, g7, g8, g9, g11, g12, g14, g15, g21, g22, g23, g24, g160, g161, g162, ltT, ltF, leT, leF, hk', s1, s2, a1, a2, a3, a4, en, hrd, d1, d2, d3, c1]
            refine fl_in hf L near wish far n9 e (many + (b - a + 1)) (0 : Nat) tF (decide (L ≤ b)) true ps fl a b [a, b, (if a < if wish < b then wish else b then if wish < b then wish else b else a)] hw hz _ _ (fun E k3 k7 k8 k9 k11 k12 k14 k15 k21 k22 k23 k24 k160 k161 k162 => ?_) 3 0 rfl trivial _ (by rfl) (by rfl) (by rfl) (by rfl) (by rfl) (by rfl) (by rfl) (by rfl) (by rfl) (by rfl) (by rfl) (by rfl) (by rfl) (by rfl) (by rfl) (by rfl) (by rfl) (by rfl)
            simp (maxSteps := 1000000) (implicitDefEqProofs := false) (disch := first | rfl | omega | assumption) only [go_sem, g3, g7, g8, g9, g11, g12, g14, g15, g21, g22, g23, g24, g160, g161, g162, ltT, ltF, leT, leF, hk', k162]
            exact ih (0 + 1) (by omega) (many + (b - a + 1)) (decide (L ≤ b)) true [.box (.agg [I a, I b])] hm2 (by omega) (by simpa [c1] using ht) (by simpa using hq) _ (by exact k3) (by exact k7) (by exact k8) (by exact k9) (by exact k11) (by exact k12) (by exact k14) (by exact k15) (by exact k21) (by exact k22) (by exact k23) (by exact k24) (by exact k160) (by exact k161) (by rfl)
        · skip
          cases nrs
          · by_cases n1 : a ≤ near
            · skip
              simp only [loopIt, todoPast, todoAt, todoOf, firstReg, ↓reduceIte, Option.some.injEq, Nat.reduceEqDiff, reduceCtorEq, Try.f6]
              rw [execL_inLoop]
              simp (maxSteps := 1000000) (implicitDefEqProofs := false) (disch := first | rfl | omega | assumption) only [go_sem, g3, g7, g8, g9, g11, g12, g14, g15, g21, g22, g23, g24, g160, g161, g162, ltT, ltF, leT, leF, hk', s1, s2, t1, t2, hlp, a1, a2, a3, a4, en, hrd]
              rw [chkK_of]; rotate_left; kernel_rfl
              simp (maxSteps := 1000000) (implicitDefEqProofs := false) (disch := first | rfl | omega | assumption) only [go_sem, g3, g7, g8, g9, g11, g12, g14, g15, g21, g22, g23, g24, g160, g161, g162, ltT, ltF, leT, leF, hk', s1, s2, a1, a2, a3, a4, en, hrd, d1, d2, d3, c1, n1]
              rw [chkK_of]; rotate_left; kernel_rfl
              simp (maxSteps := 1000000) (implicitDefEqProofs := false) (disch := first | rfl | omega | assumption) only [go_sem, g3, g7, g8, g9, g11, g12, g14, g15, g21, g22, g23, g24, g160, g161, g162, ltT, ltF, leT, leF, hk', s1, s2, a1, a2, a3, a4, en, hrd, d1, d2, d3, c1, n1]
              refine fl_in hf L near wish far n9 e (many + (b - a + 1)) (0 : Nat) tF false (decide (near ≤ b)) ps fl a b [a, b, (if a < if wish < b then wish else b then if wish < b then wish else b else a)] hw hz _ _ (fun E k3 k7 k8 k9 k11 k12 k14 k15 k21 k22 k23 k24 k160 k161 k162 => ?_) 3 0 rfl trivial _ (by rfl) (by rfl) (by rfl) (by rfl) (by rfl) (by rfl) (by rfl) (by rfl) (by rfl) (by rfl) (by rfl) (by rfl) (by rfl) (by rfl) (by rfl) (by rfl) (by rfl) (by rfl)
              simp (maxSteps := 1000000) (implicitDefEqProofs := false) (disch := first | rfl | omega | assumption) only [go_sem, g3, g7, g8, g9, g11, g12, g14, g15, g21, g22, g23, g24, g160, g161, g162, ltT, ltF, leT, leF, hk', k162]
              exact ih (0 + 1) (by omega) (many + (b - a + 1)) false (decide (near ≤ b)) [.box (.agg [I a, I b])] hm2 (by omega) (by simpa [c1] using ht) (by simpa [n1] using hq) _ (by exact k3) (by exact k7) (by exact k8) (by exact k9) (by exact k11) (by exact k12) (by exact k14) (by exact k15) (by exact k21) (by exact k22) (by exact k23) (by exact k24) (by exact k160) (by exact k161) (by rfl)
            · skip
              simp only [loopIt, todoPast, todoAt, todoOf, firstReg, ↓reduceIte, Option.some.injEq, Nat.reduceEqDiff, reduceCtorEq, Try.f6]
              rw [execL_inLoop]
              simp (maxSteps := 1000000) (implicitDefEqProofs := false) (disch := first | rfl | omega | assumption) only [go_sem, g3, g7, g8, g9, g11, g12, g14, g15, g21, g22, g23, g24, g160, g161, g162, ltT, ltF, leT, leF, hk', s1, s2, t1, t2, hlp, a1, a2, a3, a4, en, hrd]
              rw [chkK_of]; rotate_left; kernel_rfl
              simp (maxSteps := 1000000) (implicitDefEqProofs := false) (disch := first | rfl | omega | assumption) only [go_sem, g3, g7, g8, g9, g11, g12, g14, g15, g21, g22, g23, g24, g160, g161, g162, ltT, ltF, leT, leF, hk', s1, s2, a1, a2, a3, a4, en, hrd, d1, d2, d3, c1, n1]
              rw [chkK_of]; rotate_left; kernel_rfl
              simp (maxSteps := 1000000) (implicitDefEqProofs := false) (disch := first | rfl | omega | assumption) only [go_sem, g3, g7, g8, g9, g11, g12, g14, g15, g21, g22, g23, g24, g160, g161, g162, ltT, ltF, leT, leF, hk', s1, s2, a1, a2, a3, a4, en, hrd, d1, d2, d3, c1, n1]
              refine fl_in hf L near wish far n9 e (many + (b - a + 1)) (0 : Nat) tF false false ps fl a b [a, b, (if a < if wish < b then wish else b then if wish < b then wish else b else a)] hw hz _ _ (fun E k3 k7 k8 k9 k11 k12 k14 k15 k21 k22 k23 k24 k160 k161 k162 => ?_) 3 0 rfl trivial _ (by rfl) (by rfl) (by rfl) (by rfl) (by rfl) (by rfl) (by rfl) (by rfl) (by rfl) (by rfl) (by rfl) (by rfl) (by rfl) (by rfl) (by rfl) (by rfl) (by rfl) (by rfl)
              simp (maxSteps := 1000000) (implicitDefEqProofs := false) (disch := first | rfl | omega | assumption) only [go_sem, g3, g7, g8, g9, g11, g12, g14, g15, g21, g22, g23, g24, g160, g161, g162, ltT, ltF, leT, leF, hk', k162]
              exact ih (0 + 1) (by omega) (many + (b - a + 1)) false false [.box (.agg [I a, I b])] hm2 (by omega) (by simpa [c1] using ht) (by simpa [n1] using hq) _ (by exact k3) (by exact k7) (by exact k8) (by exact k9) (by exact k11) (by exact k12) (by exact k14) (by exact k15) (by exact k21) (by exact k22) (by exact k23) (by exact k24) (by exact k160) (by exact k161) (by rfl)
          · skip
            simp only [loopIt, todoPast, todoAt, todoOf, firstReg, ↓reduceIte, Option.some.injEq, Nat.reduceEqDiff, reduceCtorEq, Try.f6]
            rw [execL_inLoop]
            simp (maxSteps := 1000000) (implicitDefEqProofs := false) (disch := first | rfl | omega | assumption) only [go_sem, g3, g7, g8, g9, g11, g12, g14, g15, g21, g22, g23, g24, g160, g161, g162, ltT, ltF, leT, leF, hk', s1, s2, t1, t2, hlp, a1, a2, a3, a4, en, hrd]
            rw [chkK_of]; rotate_left; kernel_rfl
            simp (maxSteps := 1000000) (implicitDefEqProofs := false) (disch := first | rfl | omega | assumption) only [go_sem, g3, g7, g8, g9, g11, g12, g14, g15, g21, g22, g23, g24, g160, g161, g162, ltT, ltF, leT, leF, hk', s1, s2, a1, a2, a3, a4, en, hrd, d1, d2, d3, c1]
            rw [chkK_of]; rotate_left; kernel_rfl
            simp (maxSteps := 1000000) (implicitDefEqProofs := false) (disch := first | rfl | omega | assumption) only [go_sem, g3, g7, g8, g9, g11, g12, g14, g15, g21, g22, g23, g24, g160, g161, g162, ltT, ltF, leT, leF, hk', s1, s2, a1, a2, a3, a4, en, hrd, d1, d2, d3, c1]
            refine fl_in hf L near wish far n9 e (many + (b - a + 1)) (0 : Nat) tF false true ps fl a b [a, b, (if a < if wish < b then wish else b then if wish < b then wish else b else a)] hw hz _ _ (fun E k3 k7 k8 k9 k11 k12 k14 k15 k21 k22 k23 k24 k160 k161 k162 => ?_) 3 0 rfl trivial _ (by rfl) (by rfl) (by rfl) (by rfl) (by rfl) (by rfl) (by rfl) (by rfl) (by rfl) (by rfl) (by rfl) (by rfl) (by rfl) (by rfl) (by rfl) (by rfl) (by rfl) (by rfl)
            simp (maxSteps := 1000000) (implicitDefEqProofs := false) (disch := first | rfl | omega | assumption) only [go_sem, g3, g7, g8, g9, g11, g12, g14, g15, g21, g22, g23, g24, g160, g161, g162, ltT, ltF, leT, leF, hk', k162]
            exact ih (0 + 1) (by omega) (many + (b - a + 1)) false true [.box (.agg [I a, I b])] hm2 (by omega) (by simpa [c1] using ht) (by simpa using hq) _ (by exact k3) (by exact k7) (by exact k8) (by exact k9) (by exact k11) (by exact k12) (by exact k14) (by exact k15) (by exact k21) (by exact k22) (by exact k23) (by exact k24) (by exact k160) (by exact k161) (by rfl)
      · skip
        cases nrs
        · by_cases n1 : a ≤ near
          · skip
            simp only [loopIt, todoPast, todoAt, todoOf, firstReg, ↓reduceIte, Option.some.injEq, Nat.reduceEqDiff, reduceCtorEq, Try.f6]
            rw [execL_inLoop]
            simp (maxSteps := 1000000) (implicitDefEqProofs := false) (disch := first | rfl | omega | assumption) only [go_sem, g3, g7, g8, g9, g11, g12, g14, g15, g21, g22, g23, g24, g160, g161, g162, ltT, ltF, leT, leF, hk', s1, s2, t1, t2, hlp, a1, a2, a3, a4, en, hrd]
            rw [chkK_of]; rotate_left; kernel_rfl
            simp (maxSteps := 1000000) (implicitDefEqProofs := false) (disch := first | rfl | omega | assumption) only [go_sem, g3, g7, g8, g9, g11, g12, g14, g15, g21, g22, g23, g24, g160, g161, g162, ltT, ltF, leT, leF, hk', s1, s2, a1, a2, a3, a4, en, hrd, d1, d2, d3, n1]
            rw [chkK_of]; rotate_left; kernel_rfl
            simp (maxSteps := 1000000) (implicitDefEqProofs := false) (disch := first | rfl | omega | assumption) only [go_sem, g3, g7, g8, g9, g11, g12, g14, g15, g21, g22, g23, g24, g160, g161, g162, ltT, ltF, leT, leF, hk', s1, s2, a1, a2, a3, a4, en, hrd, d1, d2, d3, n1]
            refine fl_in hf L near wish far n9 e (many + (b - a + 1)) (0 : Nat) tF true (decide (near ≤ b)) ps fl a b [a, b, (if a < if wish < b then wish else b then if wish < b then wish else b else a)] hw hz _ _ (fun E k3 k7 k8 k9 k11 k12 k14 k15 k21 k22 k23 k24 k160 k161 k162 => ?_) 3 0 rfl trivial _ (by rfl) (by rfl) (by rfl) (by rfl) (by rfl) (by rfl) (by rfl) (by rfl) (by rfl) (by rfl) (by rfl) (by rfl) (by rfl) (by rfl) (by rfl) (by rfl) (by rfl) (by rfl)
            simp (maxSteps := 1000000) (implicitDefEqProofs := false) (disch := first | rfl | omega | assumption) only [go_sem, g3, g7, g8, g9, g11, g12, g14, g15, g21, g22, g23, g24, g160, g161, g162, ltT, ltF, leT, leF, hk', k162]
            exact ih (0 + 1) (by omega) (many + (b - a + 1)) true (decide (near ≤ b)) [.box (.agg [I a, I b])] hm2 (by omega) (by simpa using ht) (by simpa [n1] using hq) _ (by exact k3) (by exact k7) (by exact k8) (by exact k9) (by exact k11) (by exact k12) (by exact k14) (by exact k15) (by exact k21) (by exact k22) (by exact k23) (by exact k24) (by exact k160) (by exact k161) (by rfl)
          · skip
            simp only [loopIt, todoPast, todoAt, todoOf, firstReg, ↓reduceIte, Option.some.injEq, Nat.reduceEqDiff, reduceCtorEq, Try.f6]
            rw [execL_inLoop]
            simp (maxSteps := 1000000) (implicitDefEqProofs := false) (disch := first | rfl | omega | assumption) only [go_sem, g3, g7, g8, g9, g11, g12, g14, g15, g21, g22, g23, g24, g160, g161, g162, ltT, ltF, leT, leF, hk', s1, s2, t1, t2, hlp, a1, a2, a3, a4, en, hrd]
            rw [chkK_of]; rotate_left; kernel_rfl
            simp (maxSteps := 1000000) (implicitDefEqProofs := false) (disch := first | rfl | omega | assumption) only [go_sem, g3, g7, g8, g9, g11, g12, g14, g15, g21, g22, g23, g24, g160, g161, g162, ltT, ltF, leT, leF, hk', s1, s2, a1, a2, a3, a4, en, hrd, d1, d2, d3, n1]
            rw [chkK_of]; rotate_left; kernel_rfl
            simp (maxSteps := 1000000) (implicitDefEqProofs := false) (disch := first | rfl | omega | assumption) only [go_sem, g3, g7, g8, g9, g11, g12, g14, g15, g21, g22, g23, g24, g160, g161, g162, ltT, ltF, leT, leF, hk', s1, s2, a1, a2, a3, a4, en, hrd, d1, d2, d3, n1]
            refine fl_in hf L near wish far n9 e (many + (b - a + 1)) (0 : Nat) tF true false ps fl a b [a, b, (if a < if wish < b then wish else b then if wish < b then wish else b else a)] hw hz _ _ (fun E k3 k7 k8 k9 k11 k12 k14 k15 k21 k22 k23 k24 k160 k161 k162 => ?_) 3 0 rfl trivial _ (by rfl) (by rfl) (by rfl) (by rfl) (by rfl) (by rfl) (by rfl) (by rfl) (by rfl) (by rfl) (by rfl) (by rfl) (by rfl) (by rfl) (by rfl) (by rfl) (by rfl) (by rfl)
            simp (maxSteps := 1000000) (implicitDefEqProofs := false) (disch := first | rfl | omega | assumption) only [go_sem, g3, g7, g8, g9, g11, g12, g14, g15, g21, g22, g23, g24, g160, g161, g162, ltT, ltF, leT, leF, hk', k162]
            exact ih (0 + 1) (by omega) (many + (b - a + 1)) true false [.box (.agg [I a, I b])] hm2 (by omega) (by simpa using ht) (by simpa [n1] using hq) _ (by exact k3) (by exact k7) (by exact k8) (by exact k9) (by exact k11) (by exact k12) (by exact k14) (by exact k15) (by exact k21) (by exact k22) (by exact k23) (by exact k24) (by exact k160) (by exact k161) (by rfl)
        · skip
          simp only [loopIt, todoPast, todoAt, todoOf, firstReg, ↓reduceIte, Option.some.injEq, Nat.reduceEqDiff, reduceCtorEq, Try.f6]
          rw [execL_inLoop]
          simp (maxSteps := 1000000) (implicitDefEqProofs := false) (disch := first | rfl | omega | assumption) only [go_sem, g3, g7, g8, g9, g11, g12, g14, g15, g21, g22, g23, g24, g160, g161, g162, ltT, ltF, leT, leF, hk', s1, s2, t1, t2, hlp, a1, a2, a3, a4, en, hrd]
          rw [chkK_of]; rotate_left; kernel_rfl
          simp (maxSteps := 1000000) (implicitDefEqProofs := false) (disch := first | rfl | omega | assumption) only [go_sem, g3, g7, g8, g9, g11, g12, g14, g15, g21, g22, g23, g24, g160, g161, g162, ltT, ltF, leT, leF, hk', s1, s2, a1, a2, a3, a4, en, hrd, d1, d2, d3]
          rw [chkK_of]; rotate_left; kernel_rfl
          simp (maxSteps := 1000000) (implicitDefEqProofs := false) (disch := first | rfl | omega | assumption) only [go_sem, g3, g7, g8, g9, g11, g12, g14, g15, g21, g22, g23, g24, g160, g161, g162, ltT, ltF, leT, leF, hk', s1, s2, a1, a2, a3, a4, en, hrd, d1, d2, d3]
          refine fl_in hf L near wish far n9 e (many + (b - a + 1)) (0 : Nat) tF true true ps fl a b [a, b, (if a < if wish < b then wish else b then if wish < b then wish else b else a)] hw hz _ _ (fun E k3 k7 k8 k9 k11 k12 k14 k15 k21 k22 k23 k24 k160 k161 k162 => ?_) 3 0 rfl trivial _ (by rfl) (by rfl) (by rfl) (by rfl) (by rfl) (by rfl) (by rfl) (by rfl) (by rfl) (by rfl) (by rfl) (by rfl) (by rfl) (by rfl) (by rfl) (by rfl) (by rfl) (by rfl)
          simp (maxSteps := 1000000) (implicitDefEqProofs := false) (disch := first | rfl | omega | assumption) only [go_sem, g3, g7, g8, g9, g11, g12, g14, g15, g21, g22, g23, g24, g160, g161, g162, ltT, ltF, leT, leF, hk', k162]
          exact ih (0 + 1) (by omega) (many + (b - a + 1)) true true [.box (.agg [I a, I b])] hm2 (by omega) (by simpa using ht) (by simpa using hq) _ (by exact k3) (by exact k7) (by exact k8) (by exact k9) (by exact k11) (by exact k12) (by exact k14) (by exact k15) (by exact k21) (by exact k22) (by exact k23) (by exact k24) (by exact k160) (by exact k161) (by rfl)
    · have jpos : (0 : Int) < (j : Int) := by omega
      have hj1 : ((j : Int) - 1).toNat = j - 1 := by omega
      have hg := hg0 (by omega)
      rw [show j - 1 + 1 = j by omega, en] at hg
      have hmem2 : ps.getD (j - 1) (0, 0) ∈ ps := by
        have hlt2 : j - 1 < ps.length := by omega
        simp only [List.getD_eq_getElem?_getD, List.getElem?_eq_getElem hlt2, Option.getD_some]; exact List.getElem_mem hlt2
      have hpb2 := hps _ hmem2
      obtain ⟨⟨a', b'⟩, en2⟩ : ∃ p, ps.getD (j - 1) (0, 0) = p := ⟨_, rfl⟩
      rw [en2] at hg hpb2
      simp only at hg hpb2
      have dg : ¬ a ≤ b' + 1 := by omega
      have hcl : (spA (a', b')).cells[1]? = some (I b') := rfl
      cases told
      · by_cases c1 : a ≤ L
        · skip
          cases nrs
          · by_cases n1 : a ≤ near
            · skip
              simp only [loopIt, todoPast, todoAt, todoOf, firstReg, ↓reduceIte, Option.some.injEq, Nat.reduceEqDiff, reduceCtorEq, Try.f6]
              rw [execL_inLoop]
              simp (maxSteps := 1000000) (implicitDefEqProofs := false) (disch := first | rfl | omega | assumption) only [go_sem, g3, g7, g8, g9, g11, g12, g14, g15, g21, g22, g23, g24, g160, g161, g162, ltT, ltF, leT, leF, hk', s1, s2, t1, t2, hlp, a1, a2, a3, a4, en, hrd]
              rw [chkK_of]; rotate_left; kernel_rfl
              simp (maxSteps := 1000000) (implicitDefEqProofs := false) (disch := first | rfl | omega | assumption) only [go_sem, g3, g7, g8, g9, g11, g12, g14, g15, g21, g22, g23, g24, g160, g161, g162, ltT, ltF, leT, leF, hk', s1, s2, a1, a2, a3, a4, en, hrd, d1, d2, d3, jpos, hj1, en2, dg, hcl, a5, c1, n1]
              rw [chkK_of]; rotate_left; kernel_rfl
              simp (maxSteps := 1000000) (implicitDefEqProofs := false) (disch := first | rfl | omega | assumption) only [go_sem, g3, g7, g8, g9, g11, g12, g14, g15, g21, g22, g23, g24, g160, g161, g162, ltT, ltF, leT, leF, hk', s1, s2, a1, a2, a3, a4, en, hrd, d1, d2, d3, jpos, hj1, en2, dg, hcl, a5, c1, n1]
              refine fl_in hf L near wish far n9 e (many + (b - a + 1)) (j : Nat) tF (decide (L ≤ b)) (decide (near ≤ b)) ps fl a b [a, b, (if a < if wish < b then wish else b then if wish < b then wish else b else a)] hw hz _ _ (fun E k3 k7 k8 k9 k11 k12 k14 k15 k21 k22 k23 k24 k160 k161 k162 => ?_) 3 0 rfl trivial _ (by rfl) (by rfl) (by rfl) (by rfl) (by rfl) (by rfl) (by rfl) (by rfl) (by rfl) (by rfl) (by rfl) (by rfl) (by rfl) (by rfl) (by rfl) (by rfl) (by rfl) (by rfl)
              simp (maxSteps := 1000000) (implicitDefEqProofs := false) (disch := first | rfl | omega | assumption) only [go_sem, g3, g7, g8, g9, g11, g12, g14, g15, g21, g22, g23, g24, g160, g161, g162, ltT, ltF, leT, leF, hk', k162]
              exact ih (j + 1) (by omega) (many + (b - a + 1)) (decide (L ≤ b)) (decide (near ≤ b)) [.box (.agg [I a, I b])] hm2 (by omega) (by simpa [c1] using ht) (by simpa [n1] using hq) _ (by exact k3) (by exact k7) (by exact k8) (by exact k9) (by exact k11) (by exact k12) (by exact k14) (by exact k15) (by exact k21) (by exact k22) (by exact k23) (by exact k24) (by exact k160) (by exact k161) (by rfl)
            · skip
              simp only [loopIt, todoPast, todoAt, todoOf, firstReg, ↓reduceIte, Option.some.injEq, Nat.reduceEqDiff, reduceCtorEq, Try.f6]
              rw [execL_inLoop]
              simp (maxSteps := 1000000) (implicitDefEqProofs := false) (disch := first | rfl | omega | assumption) only [go_sem, g3, g7, g8, g9, g11, g12, g14, g15, g21, g22, g23, g24, g160, g161, g162, ltT, ltF, leT, leF, hk', s1, s2, t1, t2, hlp, a1, a2, a3, a4, en, hrd]
              rw [chkK_of]; rotate_left; kernel_rfl
              simp (maxSteps := 1000000) (implicitDefEqProofs := false) (disch := first | rfl | omega | assumption) only [go_sem, g3, g7, g8, g9, g11, g12, g14, g15, g21, g22, g23, g24, g160, g161, g162, ltT, ltF, leT, leF, hk', s1, s2, a1, a2, a3, a4, en, hrd, d1, d2, d3, jpos, hj1, en2, dg, hcl, a5, c1, n1]
              rw [chkK_of]; rotate_left; kernel_rfl
              simp (maxSteps := 1000000) (implicitDefEqProofs := false) (disch := first | rfl | omega | assumption) only [go_sem, g3, g7, g8, g9, g11, g12, g14, g15, g21, g22, g23, g24, g160, g161, g162, ltT, ltF, leT, leF, hk', s1, s2, a1, a2, a3, a4, en, hrd, d1, d2, d3, jpos, hj1, en2, dg, hcl, a5, c1, n1]
              refine fl_in hf L near wish far n9 e (many + (b - a + 1)) (j : Nat) tF (decide (L ≤ b)) false ps fl a b [a, b, (if a < if wish < b then wish else b then if wish < b then wish else b else a)] hw hz _ _ (fun E k3 k7 k8 k9 k11 k12 k14 k15 k21 k22 k23 k24 k160 k161 k162 => ?_) 3 0 rfl trivial _ (by rfl) (by rfl) (by rfl) (by rfl) (by rfl) (by rfl) (by rfl) (by rfl) (by rfl) (by rfl) (by rfl) (by rfl) (by rfl) (by rfl) (by rfl) (by rfl) (by rfl) (by rfl)
              simp (maxSteps := 1000000) (implicitDefEqProofs := false) (disch := first | rfl | omega | assumption) only [go_sem, g3, g7, g8, g9, g11, g12, g14, g15, g21, g22, g23, g24, g160, g161, g162, ltT, ltF, leT, leF, hk', k162]
              exact ih (j + 1) (by omega) (many + (b - a + 1)) (decide (L ≤ b)) false [.box (.agg [I a, I b])] hm2 (by omega) (by simpa [c1] using ht) (by simpa [n1] using hq) _ (by exact k3) (by exact k7) (by exact k8) (by exact k9) (by exact k11) (by exact k12) (by exact k14) (by exact k15) (by exact k21) (by exact k22) (by exact k23) (by exact k24) (by exact k160) (by exact k161) (by rfl)
          · skip
            simp only [loopIt, todoPast, todoAt, todoOf, firstReg, ↓reduceIte, Option.some.injEq, Nat.reduceEqDiff, reduceCtorEq, Try.f6]
            rw [execL_inLoop]
            simp (maxSteps := 1000000) (implicitDefEqProofs := false) (disch := first | rfl | omega | assumption) only [go_sem, g3, g7, g8, g9, g11, g12, g14, g15, g21, g22, g23, g24, g160, g161, g162, ltT, ltF, leT, leF, hk', s1, s2, t1, t2, hlp, a1, a2, a3, a4, en, hrd]
            rw [chkK_of]; rotate_left; kernel_rfl
            simp (maxSteps := 1000000) (implicitDefEqProofs := false) (disch := first | rfl | omega | assumption) only [go_sem, g3, g7, g8, g9, g11, g12, g14, g15, g21, g22, g23, g24, g160, g161, g162, ltT, ltF, leT, leF, hk', s1, s2, a1, a2, a3, a4, en, hrd, d1, d2, d3, jpos, hj1, en2, dg, hcl, a5, c1]
            rw [chkK_of]; rotate_left; kernel_rfl
            simp (maxSteps := 1000000) (implicitDefEqProofs := false) (disch := first | rfl | omega | assumption) only [go_sem, g3, g7, g8, g9, g11, g12, g14, g15, g21, g22, g23, g24, g160, g161, g162, ltT, ltF, leT, leF, hk', s1, s2, a1, a2, a3, a4, en, hrd, d1, d2, d3, jpos, hj1, en2, dg, hcl, a5, c1]
            refine fl_in hf L near wish far n9 e (many + (b - a + 1)) (j : Nat) tF (decide (L ≤ b)) true ps fl a b [a, b, (if a < if wish < b then wish else b then if wish < b then wish else b else a)] hw hz _ _ (fun E k3 k7 k8 k9 k11 k12 k14 k15 k21 k22 k23 k24 k160 k161 k162 => ?_) 3 0 rfl trivial _ (by rfl) (by rfl) (by rfl) (by rfl) (by rfl) (by rfl) (by rfl) (by rfl) (by rfl) (by rfl) (by rfl) (by rfl) (by rfl) (by rfl) (by rfl) (by rfl) (by rfl) (by rfl)
            simp (maxSteps := 1000000) (implicitDefEqProofs := false) (disch := first | rfl | omega | assumption) only [go_sem, g3, g7, g8, g9, g11, g12, g14, g15, g21, g22, g23, g24, g160, g161, g162, ltT, ltF, leT, leF, hk', k162]
            exact ih (j + 1) (by omega) (many + (b - a + 1)) (decide (L ≤ b)) true [.box (.agg [I a, I b])] hm2 (by omega) (by simpa [c1] using ht) (by simpa using hq) _ (by exact k3) (by exact k7) (by exact k8) (by exact k9) (by exact k11) (by exact k12) (by exact k14) (by exact k15) (by exact k21) (by exact k22) (by exact k23) (by exact k24) (by exact k160) (by exact k161) (by rfl)
        · skip
          cases nrs
          · by_cases n1 : a ≤ near
            · skip
              simp only [loopIt, todoPast, todoAt, todoOf, firstReg, ↓reduceIte, Option.some.injEq, Nat.reduceEqDiff, reduceCtorEq, Try.f6]
              rw [execL_inLoop]
              simp (maxSteps := 1000000) (implicitDefEqProofs := false) (disch := first | rfl | omega | assumption) only [go_sem, g3, g7, g8, g9, g11, g12, g14, g15, g21, g22, g23, g24, g160, g161, g162, ltT, ltF, leT, leF, hk', s1, s2, t1, t2, hlp, a1, a2, a3, a4, en, hrd]
              rw [chkK_of]; rotate_left; kernel_rfl
              simp (maxSteps := 1000000) (implicitDefEqProofs := false) (disch := first | rfl | omega | assumption) only [go_sem, g3, g7, g8, g9, g11, g12, g14, g15, g21, g22, g23, g24, g160, g161, g162, ltT, ltF, leT, leF, hk', s1, s2, a1, a2, a3, a4, en, hrd, d1, d2, d3, jpos, hj1, en2, dg, hcl, a5, c1, n1]
              rw [chkK_of]; rotate_left; kernel_rfl
              simp (maxSteps := 1000000) (implicitDefEqProofs := false) (disch := first | rfl | omega | assumption) only [go_sem, g3, g7, g8, g9, g11, g12, g14, g15, g21, g22, g23, g24, g160, g161, g162, ltT, ltF, leT, leF, hk', s1, s2, a1, a2, a3, a4, en, hrd, d1, d2, d3, jpos, hj1, en2, dg, hcl, a5, c1, n1]
              refine fl_in hf L near wish far n9 e (many + (b - a + 1)) (j : Nat) tF false (decide (near ≤ b)) ps fl a b [a, b, (if a < if wish < b then wish else b then if wish < b then wish else b else a)] hw hz _ _ (fun E k3 k7 k8 k9 k11 k12 k14 k15 k21 k22 k23 k24 k160 k161 k162 => ?_) 3 0 rfl trivial _ (by rfl) (by rfl) (by rfl) (by rfl) (by rfl) (by rfl) (by rfl) (by rfl) (by rfl) (by rfl) (by rfl) (by rfl) (by rfl) (by rfl) (by rfl) (by rfl) (by rfl) (by rfl)
              simp (maxSteps := 1000000) (implicitDefEqProofs := false) (disch := first | rfl | omega | assumption) only [go_sem, g3, g7, g8, g9, g11, g12, g14, g15, g21, g22, g23, g24, g160, g161, g162, ltT, ltF, leT, leF, hk', k162]
              exact ih (j + 1) (by omega) (many + (b - a + 1)) false (decide (near ≤ b)) [.box (.agg [I a, I b])] hm2 (by omega) (by simpa [c1] using ht) (by simpa [n1] using hq) _ (by exact k3) (by exact k7) (by exact k8) (by exact k9) (by exact k11) (by exact k12) (by exact k14) (by exact k15) (by exact k21) (by exact k22) (by exact k23) (by exact k24) (by exact k160) (by exact k161) (by rfl)
            · skip
              simp only [loopIt, todoPast, todoAt, todoOf, firstReg, ↓reduceIte, Option.some.injEq, Nat.reduceEqDiff, reduceCtorEq, Try.f6]
              rw [execL_inLoop]
              simp (maxSteps := 1000000) (implicitDefEqProofs := false) (disch := first | rfl | omega | assumption) only [go_sem, g3, g7, g8, g9, g11, g12, g14, g15, g21, g22, g23, g24, g160, g161, g162, ltT, ltF, leT, leF, hk', s1, s2, t1, t2, hlp, a1, a2, a3, a4, en, hrd]
              rw [chkK_of]; rotate_left; kernel_rfl
              simp (maxSteps := 1000000) (implicitDefEqProofs := false) (disch := first | rfl | omega | assumption) only [go_sem, g3, g7, g8, g9, g11, g12, g14, g15, g21, g22, g23, g24, g160, g161, g162, ltT, ltF, leT, leF, hk', s1, s2, a1, a2, a3, a4, en, hrd, d1, d2, d3, jpos, hj1, en2, dg, hcl, a5, c1, n1]
              rw [chkK_of]; rotate_left; kernel_rfl
              simp (maxSteps := 1000000) (implicitDefEqProofs := false) (disch := first | rfl | omega | assumption) only [go_sem, g3, g7, g8, g9, g11, g12, g14, g15, g21, g22, g23, g24, g160, g161, g162, ltT, ltF, leT, leF, hk', s1, s2, a1, a2, a3, a4, en, hrd, d1, d2, d3, jpos, hj1, en2, dg, hcl, a5, c1, n1]
              refine fl_in hf L near wish far n9 e (many + (b - a + 1)) (j : Nat) tF false false ps fl a b [a, b, (if a < if wish < b then wish else b then if wish < b then wish else b else a)] hw hz _ _ (fun E k3 k7 k8 k9 k11 k12 k14 k15 k21 k22 k23 k24 k160 k161 k162 => ?_) 3 0 rfl trivial _ (by rfl) (by rfl) (by rfl) (by rfl) (by rfl) (by rfl) (by rfl) (by rfl) (by rfl) (by rfl) (by rfl) (by rfl) (by rfl) (by rfl) (by rfl) (by rfl) (by rfl) (by rfl)
              simp (maxSteps := 1000000) (implicitDefEqProofs := false) (disch := first | rfl | omega | assumption) only [go_sem, g3, g7, g8, g9, g11, g12, g14, g15, g21, g22, g23, g24, g160, g161, g162, ltT, ltF, leT, leF, hk', k162]
              exact ih (j + 1) (by omega) (many + (b - a + 1)) false false [.box (.agg [I a, I b])] hm2 (by omega) (by simpa [c1] using ht) (by simpa [n1] using hq) _ (by exact k3) (by exact k7) (by exact k8) (by exact k9) (by exact k11) (by exact k12) (by exact k14) (by exact k15) (by exact k21) (by exact k22) (by exact k23) (by exact k24) (by exact k160) (by exact k161) (by rfl)
          · skip
            simp only [loopIt, todoPast, todoAt, todoOf, firstReg, ↓reduceIte, Option.some.injEq, Nat.reduceEqDiff, reduceCtorEq, Try.f6]
            rw [execL_inLoop]
            simp (maxSteps := 1000000) (implicitDefEqProofs := false) (disch := first | rfl | omega | assumption) only [go_sem, g3, g7, g8, g9, g11, g12, g14, g15, g21, g22, g23, g24, g160, g161, g162, ltT, ltF, leT, leF, hk', s1, s2, t1, t2, hlp, a1, a2, a3, a4, en, hrd]
            rw [chkK_of]; rotate_left; kernel_rfl
            simp (maxSteps := 1000000) (implicitDefEqProofs := false) (disch := first | rfl | omega | assumption) only [go_sem, g3, g7, g8, g9, g11, g12, g14, g15, g21, g22, g23, g24, g160, g161, g162, ltT, ltF, leT, leF, hk', s1, s2, a1, a2, a3, a4, en, hrd, d1, d2, d3, jpos, hj1, en2, dg, hcl, a5, c1]
            rw [chkK_of]; rotate_left; kernel_rfl
            simp (maxSteps := 1000000) (implicitDefEqProofs := false) (disch := first | rfl | omega | assumption) only [go_sem, g3, g7, g8, g9, g11, g12, g14, g15, g21, g22, g23, g24, g160, g161, g162, ltT, ltF, leT, leF, hk', s1, s2, a1, a2, a3, a4, en, hrd, d1, d2, d3, jpos, hj1, en2, dg, hcl, a5, c1]
            refine fl_in hf L near wish far n9 e (many + (b - a + 1)) (j : Nat) tF false true ps fl a b [a, b, (if a < if wish < b then wish else b then if wish < b then wish else b else a)] hw hz _ _ (fun E k3 k7 k8 k9 k11 k12 k14 k15 k21 k22 k23 k24 k160 k161 k162 => ?_) 3 0 rfl trivial _ (by rfl) (by rfl) (by rfl) (by rfl) (by rfl) (by rfl) (by rfl) (by rfl) (by rfl) (by rfl) (by rfl) (by rfl) (by rfl) (by rfl) (by rfl) (by rfl) (by rfl) (by rfl)
            simp (maxSteps := 1000000) (implicitDefEqProofs := false) (disch := first | rfl | omega | assumption) only [go_sem, g3, g7, g8, g9, g11, g12, g14, g15, g21, g22, g23, g24, g160, g161, g162, ltT, ltF, leT, leF, hk', k162]
            exact ih (j + 1) (by omega) (many + (b - a + 1)) false true [.box (.agg [I a, I b])] hm2 (by omega) (by simpa [c1] using ht) (by simpa using hq) _ (by exact k3) (by exact k7) (by exact k8) (by exact k9) (by exact k11) (by exact k12) (by exact k14) (by exact k15) (by exact k21) (by exact k22) (by exact k23) (by exact k24) (by exact k160) (by exact k161) (by rfl)
      · skip
        cases nrs
        · by_cases n1 : a ≤ near
          · skip
            simp only [loopIt, todoPast, todoAt, todoOf, firstReg, ↓reduceIte, Option.some.injEq, Nat.reduceEqDiff, reduceCtorEq, Try.f6]
            rw [execL_inLoop]
            simp (maxSteps := 1000000) (implicitDefEqProofs := false) (disch := first | rfl | omega | assumption) only [go_sem, g3, g7, g8, g9, g11, g12, g14, g15, g21, g22, g23, g24, g160, g161, g162, ltT, ltF, leT, leF, hk', s1, s2, t1, t2, hlp, a1, a2, a3, a4, en, hrd]
            rw [chkK_of]; rotate_left; kernel_rfl
            simp (maxSteps := 1000000) (implicitDefEqProofs := false) (disch := first | rfl | omega | assumption) only [go_sem, g3, g7, g8, g9, g11, g12, g14, g15, g21, g22, g23, g24, g160, g161, g162, ltT, ltF, leT, leF, hk', s1, s2, a1, a2, a3, a4, en, hrd, d1, d2, d3, jpos, hj1, en2, dg, hcl, a5, n1]
            rw [chkK_of]; rotate_left; kernel_rfl
            simp (maxSteps := 1000000) (implicitDefEqProofs := false) (disch := first | rfl | omega | assumption) only [go_sem, g3, g7, g8, g9, g11, g12, g14, g15, g21, g22, g23, g24, g160, g161, g162, ltT, ltF, leT, leF, hk', s1, s2, a1, a2, a3, a4, en, hrd, d1, d2, d3, jpos, hj1, en2, dg, hcl, a5, n1]
            refine fl_in hf L near wish far n9 e (many + (b - a + 1)) (j : Nat) tF true (decide (near ≤ b)) ps fl a b [a, b, (if a < if wish < b then wish else b then if wish < b then wish else b else a)] hw hz _ _ (fun E k3 k7 k8 k9 k11 k12 k14 k15 k21 k22 k23 k24 k160 k161 k162 => ?_) 3 0 rfl trivial _ (by rfl) (by rfl) (by rfl) (by rfl) (by rfl) (by rfl) (by rfl) (by rfl) (by rfl) (by rfl) (by rfl) (by rfl) (by rfl) (by rfl) (by rfl) (by rfl) (by rfl) (by rfl)
            simp (maxSteps := 1000000) (implicitDefEqProofs := false) (disch := first | rfl | omega | assumption) only [go_sem, g3, g7, g8, g9, g11, g12, g14, g15, g21, g22, g23, g24, g160, g161, g162, ltT, ltF, leT, leF, hk', k162]
            exact ih (j + 1) (by omega) (many + (b - a + 1)) true (decide (near ≤ b)) [.box (.agg [I a, I b])] hm2 (by omega) (by simpa using ht) (by simpa [n1] using hq) _ (by exact k3) (by exact k7) (by exact k8) (by exact k9) (by exact k11) (by exact k12) (by exact k14) (by exact k15) (by exact k21) (by exact k22) (by exact k23) (by exact k24) (by exact k160) (by exact k161) (by rfl)
          · skip
            simp only [loopIt, todoPast, todoAt, todoOf, firstReg, ↓reduceIte, Option.some.injEq, Nat.reduceEqDiff, reduceCtorEq, Try.f6]
            rw [execL_inLoop]
            simp (maxSteps := 1000000) (implicitDefEqProofs := false) (disch := first | rfl | omega | assumption) only [go_sem, g3, g7, g8, g9, g11, g12, g14, g15, g21, g22, g23, g24, g160, g161, g162, ltT, ltF, leT, leF, hk', s1, s2, t1, t2, hlp, a1, a2, a3, a4, en, hrd]
            rw [chkK_of]; rotate_left; kernel_rfl
            simp (maxSteps := 1000000) (implicitDefEqProofs := false) (disch := first | rfl | omega | assumption) only [go_sem, g3, g7, g8, g9, g11, g12, g14, g15, g21, g22, g23, g24, g160, g161, g162, ltT, ltF, leT, leF, hk', s1, s2, a1, a2, a3, a4, en, hrd, d1, d2, d3, jpos, hj1, en2, dg, hcl, a5, n1]
            rw [chkK_of]; rotate_left; kernel_rfl
            simp (maxSteps := 1000000) (implicitDefEqProofs := false) (disch := first | rfl | omega | assumption) only [go_sem, g3, g7, g8, g9, g11, g12, g14, g15, g21, g22, g23, g24, g160, g161, g162, ltT, ltF, leT, leF, hk', s1, s2, a1, a2, a3, a4, en, hrd, d1, d2, d3, jpos, hj1, en2, dg, hcl, a5, n1]
            refine fl_in hf L near wish far n9 e (many + (b - a + 1)) (j : Nat) tF true false ps fl a b [a, b, (if a < if wish < b then wish else b then if wish < b then wish else b else a)] hw hz _ _ (fun E k3 k7 k8 k9 k11 k12 k14 k15 k21 k22 k23 k24 k160 k161 k162 => ?_) 3 0 rfl trivial _ (by rfl) (by rfl) (by rfl) (by rfl) (by rfl) (by rfl) (by rfl) (by rfl) (by rfl) (by rfl) (by rfl) (by rfl) (by rfl) (by rfl) (by rfl) (by rfl) (by rfl) (by rfl)
            simp (maxSteps := 1000000) (implicitDefEqProofs := false) (disch := first | rfl | omega | assumption) only [go_sem, g3, g7, g8, g9, g11, g12, g14, g15, g21, g22, g23, g24, g160, g161, g162, ltT, ltF, leT, leF, hk', k162]
            exact ih (j + 1) (by omega) (many + (b - a + 1)) true false [.box (.agg [I a, I b])] hm2 (by omega) (by simpa using ht) (by simpa [n1] using hq) _ (by exact k3) (by exact k7) (by exact k8) (by exact k9) (by exact k11) (by exact k12) (by exact k14) (by exact k15) (by exact k21) (by exact k22) (by exact k23) (by exact k24) (by exact k160) (by exact k161) (by rfl)
        · skip
          simp only [loopIt, todoPast, todoAt, todoOf, firstReg, ↓reduceIte, Option.some.injEq, Nat.reduceEqDiff, reduceCtorEq, Try.f6]
          rw [execL_inLoop]
          simp (maxSteps := 1000000) (implicitDefEqProofs := false) (disch := first | rfl | omega | assumption) only [go_sem, g3, g7, g8, g9, g11, g12, g14, g15, g21, g22, g23, g24, g160, g161, g162, ltT, ltF, leT, leF, hk', s1, s2, t1, t2, hlp, a1, a2, a3, a4, en, hrd]
          rw [chkK_of]; rotate_left; kernel_rfl
          simp (maxSteps := 1000000) (implicitDefEqProofs := false) (disch := first | rfl | omega | assumption) only [go_sem, g3, g7, g8, g9, g11, g12, g14, g15, g21, g22, g23, g24, g160, g161, g162, ltT, ltF, leT, leF, hk', s1, s2, a1, a2, a3, a4, en, hrd, d1, d2, d3, jpos, hj1, en2, dg, hcl, a5]
          rw [chkK_of]; rotate_left; kernel_rfl
          simp (maxSteps := 1000000) (implicitDefEqProofs := false) (disch := first | rfl | omega | assumption) only [go_sem, g3, g7, g8, g9, g11, g12, g14, g15, g21, g22, g23, g24, g160, g161, g162, ltT, ltF, leT, leF, hk', s1, s2, a1, a2, a3, a4, en, hrd, d1, d2, d3, jpos, hj1, en2, dg, hcl, a5]
          refine fl_in hf L near wish far n9 e (many + (b - a + 1)) (j : Nat) tF true true ps fl a b [a, b, (if a < if wish < b then wish else b then if wish < b then wish else b else a)] hw hz _ _ (fun E k3 k7 k8 k9 k11 k12 k14 k15 k21 k22 k23 k24 k160 k161 k162 => ?_) 3 0 rfl trivial _ (by rfl) (by rfl) (by rfl) (by rfl) (by rfl) (by rfl) (by rfl) (by rfl) (by rfl) (by rfl) (by rfl) (by rfl) (by rfl) (by rfl) (by rfl) (by rfl) (by rfl) (by rfl)
          simp (maxSteps := 1000000) (implicitDefEqProofs := false) (disch := first | rfl | omega | assumption) only [go_sem, g3, g7, g8, g9, g11, g12, g14, g15, g21, g22, g23, g24, g160, g161, g162, ltT, ltF, leT, leF, hk', k162]
          exact ih (j + 1) (by omega) (many + (b - a + 1)) true true [.box (.agg [I a, I b])] hm2 (by omega) (by simpa using ht) (by simpa using hq) _ (by exact k3) (by exact k7) (by exact k8) (by exact k9) (by exact k11) (by exact k12) (by exact k14) (by exact k15) (by exact k21) (by exact k22) (by exact k23) (by exact k24) (by exact k160) (by exact k161) (by rfl)

end Go.Ab
/-
  FringeLengths.
-/
namespace Go.Ab
open Go.Proofs
set_option linter.unusedSimpArgs false
set_option linter.unusedVariables false
set_option maxRecDepth 100000
set_option maxHeartbeats 2000000

variable {H : Heap}


theorem law_FringeLengths {f : Frg} {vw vr : AV} (hf : FrAt H f vw vr) (n1 : Int) (w1 : 0 ≤ n1 ∧ n1 ≤ 65535) (n2 : Int) (w2 : 0 ≤ n2 ∧ n2 ≤ 65535) :
    callFL cfg0 prog0 false 6 [.agg [vw, I f.lo, I f.hi, vr], .int .u16 n1, .int .u16 n2] H none = some ⟨.ret (.bool true), H, none⟩ := by
  have s1 := hf.ws.scal
  have s2 := hf.rs.scal
  have l2 := hf.rs.len
  rw [List.length_map] at l2
  have hL := law_long (hf.app [.box (.agg [vw, I f.lo, I f.hi, vr])])
  have hA := fun G : Heap => law_alive G
  by_cases hlg : 40 < f.ws.length ∨ 40 < f.rs.length
  · rw [decide_eq_true hlg] at hL
    refine (callFL_eq fn6 rfl (by simp [Try.f6])).trans ?_
    simp (maxSteps := 1000000) (implicitDefEqProofs := false) (disch := first | rfl | omega | assumption) only [go_sem, ltT, ltF, leT, leF, s1, s2, hL, hA]
    done
  rw [decide_eq_false hlg] at hL
  have hl : f.ws.length ≤ 1000 ∧ f.rs.length ≤ 1000 := by omega
  have hF := rf_Fringe (hf.app [.box (.agg [vw, I f.lo, I f.hi, vr])]) hl
  cases hv : f.valid
  · simp only [hv] at hF
    refine (callFL_eq fn6 rfl (by simp [Try.f6])).trans ?_
    simp (maxSteps := 1000000) (implicitDefEqProofs := false) (disch := first | rfl | omega | assumption) only [go_sem, ltT, ltF, leT, leF, s1, s2, hL, hA, hF]
    done
  have hk' : True := trivial
  have ho := f.valid_iff.1 hv
  have hlen := ho.len
  obtain ⟨wish, hwe⟩ : ∃ w, n2 % 2001 = w := ⟨_, rfl⟩
  have hwb : 0 ≤ wish ∧ wish ≤ 2000 := by omega
  have e2 : n2.tmod 2001 = wish := by rw [Int.tmod_eq_emod_of_nonneg w2.1]; exact hwe
  have q0 := Int.emod_nonneg n1 (show f.hi - f.lo + 1 ≠ 0 by omega)
  have q1 := Int.emod_lt_of_pos n1 (show 0 < f.hi - f.lo + 1 by omega)
  have e1 : n1.tmod (f.hi - f.lo + 1) = n1 % (f.hi - f.lo + 1) := Int.tmod_eq_emod_of_nonneg w1.1
  generalize n1 % (f.hi - f.lo + 1) = at1 at *
  have z1 : ¬ f.hi - f.lo + 1 = 0 := by omega
  have hC := fr_Count (hf.app [.box (.agg [vw, I f.lo, I f.hi, vr])]) hl
  have hN := fr_Lengths (hf.app [.box (.agg [vw, I f.lo, I f.hi, vr])]) hl
  have hR := fr_Near (hf.app [.box (.agg [vw, I f.lo, I f.hi, vr])]) hl wish
  have kw : wi wish 0 2000 = true := by simp [wi]; omega
  simp only [hv, if_true, Frg.count, Frg.near, kw] at hF hC hN hR
  have hLb : 0 ≤ f.lo + at1 ∧ f.lo + at1 ≤ 2000 := by omega
  have hap : ∀ x : Int, (if x - wish < wish - x then wish - x else x - wish) = apw wish x := fun _ => rfl
  have hmL := mem_lens ho f.all (f.lo + at1)
  have hbd := lens_bd ho f.all
  obtain ⟨b1, b2⟩ := spans_bd ho f.all
  have hfs := (flat_spans (f.lens f.all)).1
  have hgp := fun j hj => spans_gap (lens_up f f.all) (j := j) hj
  have hL2 := any_spans (f.lens f.all) (f.lo + at1)
  have hsl : ((spans (f.lens f.all)).map spA).length = (spans (f.lens f.all)).length := List.length_map _
  have hrt : f.rt f.all (f.lo + at1) 0 f.rs.length = decide (f.lo + at1 ∈ f.lens f.all) := by
    rw [Bool.eq_iff_iff, decide_eq_true_eq, hmL]
    exact ⟨fun h => ⟨by omega, h⟩, fun h => h.2⟩
  obtain ⟨tF, htF⟩ : ∃ b, decide (f.lo + at1 ∈ f.lens f.all) = b := ⟨_, rfl⟩
  rw [htF] at hL2 hrt
  cases hq : (f.lens f.all).isEmpty
  · simp only [hq, Bool.false_eq_true, if_false] at hN hR
    have hpos : 0 < (f.lens f.all).length := by cases hx : f.lens f.all with | nil => rw [hx] at hq; cases hq | cons => simp
    obtain ⟨m1, m2⟩ := near_best (w := wish) (lens_up f f.all) hpos
    have hN2 := any_spans (f.lens f.all) (nearL wish (f.lens f.all))
    rw [decide_eq_true m1] at hN2
    have hmn := (mem_lens ho f.all _).1 m1
    have hin : ∀ p ∈ spans (f.lens f.all), ∀ x, p.1 ≤ x → x ≤ p.2 → x ∈ f.lens f.all := fun p hp x h1 h2 => by rw [← hfs]; exact mem_flatS.2 ⟨p, hp, h1, h2⟩
    have h1 := fl_reads ho hf (f.lo + at1) hLb (spans (f.lens f.all)) false 0 (f.lens f.all).length wish (nearL wish (f.lens f.all)) tF
    have h2 := fl_spans ho hf (f.lo + at1) (nearL wish (f.lens f.all)) wish (apw wish (nearL wish (f.lens f.all))) (f.lens f.all).length 0 tF true (spans (f.lens f.all)) false (fun p hp => by have := b1 p hp; omega) hgp hwb (fun p hp x h1 h2 => by
      have := m2 x (hin p hp x h1 h2)
      omega) (by omega) (by omega) rfl (spans (f.lens f.all)).length 0 (by omega) 0 false false
    have hnp : (0 : Int) < ((f.lens f.all).length : Nat) := by omega
    have hfl : (flatS (spans (f.lens f.all))).length = (f.lens f.all).length := by rw [hfs]
    generalize nearL wish (f.lens f.all) = near at *
    generalize hsp : spans (f.lens f.all) = ps at *
    generalize (f.lens f.all).length = n at *
    refine (callFL_eq fn6 rfl (by simp [Try.f6])).trans ?_
    simp (maxSteps := 1000000) (implicitDefEqProofs := false) (disch := first | rfl | omega | assumption) only [go_sem, ltT, ltF, leT, leF, s1, s2, hL, hF, hN, hC, hR, e2, hnp, hsl]
    rw [chkK_of]; rotate_left; kernel_rfl
    simp (maxSteps := 1000000) (implicitDefEqProofs := false) (disch := first | rfl | omega | assumption) only [go_sem, ltT, ltF, leT, leF, s1, s2, e1, z1, l2]
    refine h1 _ _ (fun E g3 g7 g8 g9 g11 g12 g14 g15 => ?_) f.rs.length 0 (by omega) true [] (by rw [hrt]; rfl) _ (by rfl) (by rfl) (by rfl) (by rfl) (by rfl) (by rfl) (by rfl) (by rfl) (by rfl) (by rfl) (by rfl)
    simp (maxSteps := 1000000) (implicitDefEqProofs := false) (disch := first | rfl | omega | assumption) only [go_sem, g3, g7, g8, g9, g11, g12, g14, g15, ltT, ltF, leT, leF, hk', s1, s2, hap, hsl]
    exact h2 [] (by rw [List.drop_zero, hfl]; omega) (by omega) (by rw [List.drop_zero, hL2]; rfl) (by rw [List.drop_zero, hN2]; rfl) _ (by exact g3) (by exact g7) (by exact g8) (by exact g9) (by exact g11) (by exact g12) (by exact g14) (by exact g15) (by rfl) (by rfl) (by rfl) (by rfl) (by rfl) (by rfl) (by rfl)
  · have hnil : f.lens f.all = [] := List.isEmpty_iff.1 hq
    simp only [hq, if_true] at hN hR
    rw [hnil] at hC hL2 htF
    simp only [List.length_nil, Int.natCast_zero] at hC
    have htf : tF = false := by rw [← htF]; simp
    subst htf
    have h1 := fl_reads ho hf (f.lo + at1) hLb [] true 10 0 wish 0 false
    have h2 := fl_spans ho hf (f.lo + at1) 0 wish (apw wish 0) 0 10 false false [] true (fun p hp => by cases hp) (fun j hj => by simp at hj) hwb (fun p hp => by cases hp) (by simp) (by omega) rfl 0 0 rfl 0 false false
    simp only [List.map_nil, List.length_nil] at h1 h2
    refine (callFL_eq fn6 rfl (by simp [Try.f6])).trans ?_
    simp (maxSteps := 1000000) (implicitDefEqProofs := false) (disch := first | rfl | omega | assumption) only [go_sem, ltT, ltF, leT, leF, s1, s2, hL, hF, hN, hC, hR, e2]
    rw [chkK_of]; rotate_left; kernel_rfl
    simp (maxSteps := 1000000) (implicitDefEqProofs := false) (disch := first | rfl | omega | assumption) only [go_sem, ltT, ltF, leT, leF, s1, s2, e1, z1, l2]
    refine h1 _ _ (fun E g3 g7 g8 g9 g11 g12 g14 g15 => ?_) f.rs.length 0 (by omega) true [] (by rw [hrt]; rfl) _ (by rfl) (by rfl) (by rfl) (by rfl) (by rfl) (by rfl) (by rfl) (by rfl) (by rfl) (by rfl) (by rfl)
    simp (maxSteps := 1000000) (implicitDefEqProofs := false) (disch := first | rfl | omega | assumption) only [go_sem, g3, g7, g8, g9, g11, g12, g14, g15, ltT, ltF, leT, leF, hk', s1, s2, hap]
    exact h2 [] (by simp [flatS]) (by omega) (by simp) (by simp) _ (by exact g3) (by exact g7) (by exact g8) (by exact g9) (by exact g11) (by exact g12) (by exact g14) (by exact g15) (by rfl) (by rfl) (by rfl) (by rfl) (by rfl) (by rfl) (by rfl)

end Go.Ab
