/-
  WearEnds, walked.
-/
import Derived.Test.YtlnfcahmdnnabaaDoorKK5
namespace Go.Ab
open Go.Proofs
set_option linter.unusedSimpArgs false
set_option linter.unusedVariables false
set_option maxRecDepth 100000

variable {H : Heap}

/-- The block that has one length at first. -/
def Wea.one (w : Wea) (m : Int) : Wea := { w with llo := m, lhi := m }

theorem one_ok {w : Wea} (ho : w.Ok) {m : Int} (hm : inP w.L m) : (w.one m).Ok where
  len := by
    have := ho.len
    simp only [inP, Wea.L] at hm
    simp only [Wea.one]
    omega
  use := ho.use
  many := ho.many
  ev := ho.ev

theorem one_T {w : Wea} {m : Int} (hm : inP w.L m) (l : Nat → Int) : (w.one m).T l ↔ w.T l ∧ l 0 = m := by
  constructor
  · rintro ⟨h1, h2⟩
    have e : l 0 = m := by simp only [inP, Wea.one, Wea.L] at h1; omega
    exact ⟨⟨by rw [e]; exact hm, h2⟩, e⟩
  · rintro ⟨⟨h1, h2⟩, rfl⟩
    exact ⟨⟨Int.le_refl _, Int.le_refl _⟩, h2⟩

theorem one_last {w : Wea} (ho : w.Ok) {m : Int} (hm : inP w.L m) (hc : (w.one m).can = true) : isSp (fun y => ∃ l, w.T l ∧ l 0 = m ∧ l w.es.length = y) (w.one m).lastP := by
  have h := atT (one_ok ho hm) hc (Nat.le_refl (w.one m).es.length)
  refine ⟨h.1, fun x => ?_⟩
  rw [show (w.one m).lastP = (w.one m).at (w.one m).rd (w.one m).L (w.one m).es.length from rfl, ← h.2 x]
  constructor
  · rintro ⟨l, h1, h2, h3⟩
    exact ⟨l, (one_T hm l).2 ⟨h1, h2⟩, h3⟩
  · rintro ⟨l, h1, h2⟩
    obtain ⟨g1, g2⟩ := (one_T hm l).1 h1
    exact ⟨l, g1, g2, h2⟩

theorem one_lost {w : Wea} (ho : w.Ok) {m : Int} (hm : inP w.L m) (hc : (w.one m).can = true) : (w.one m).lostP = (m - (w.one m).lastP.2, m - (w.one m).lastP.1) := by
  have h := lostT ((w.one m).valid_iff.2 (one_ok ho hm)) hc
  have hs := one_last ho hm hc
  refine hull_uniq h ⟨?_, ?_, ?_⟩
  · obtain ⟨l, h1, h2, h3⟩ := (hs.2 _).2 ⟨hs.1, Int.le_refl _⟩
    exact ⟨l, (one_T hm l).2 ⟨h1, h2⟩, by show l 0 - l w.es.length = _; rw [h2, h3]⟩
  · obtain ⟨l, h1, h2, h3⟩ := (hs.2 _).2 ⟨Int.le_refl _, hs.1⟩
    exact ⟨l, (one_T hm l).2 ⟨h1, h2⟩, by show l 0 - l w.es.length = _; rw [h2, h3]⟩
  · rintro x ⟨l, h1, rfl⟩
    obtain ⟨g1, g2⟩ := (one_T hm l).1 h1
    have := (hs.2 (l w.es.length)).1 ⟨l, g1, g2, rfl⟩
    simp only [inP] at this ⊢
    show m - _ ≤ l 0 - l w.es.length ∧ l 0 - l w.es.length ≤ _
    omega

/-- What has been told so far. -/
def ownO (b : Bool) (p : Int × Int) : Int × Int := if b then p else (1073741824, -1073741824)

theorem one_loop {w : Wea} {ve : AV} (h : WeaAt H w ve) (hv : w.valid = true) (hcan : w.can = true) (o2 : AO) (xs : List AV) (hxs : ltL 0 xs = true) (ho2 : o2.lt (H.length + 6) = true) (qq : Int × Int) :
    ∀ (q j : Nat), j + q = (w.lhi - w.llo + 1).toNat → ∀ (p : Int × Int), ∀ (b : Bool), ∀ (G : Heap), w.lostTo (w.llo + j) b p → bd 5000000 p → ∀ E : Env, E.get 1 = .ptr H.length 0 → E.get 3 = I w.es.length → E.get 4 = .ptr (H.length + 1) 0 → E.get 31 = .ptr (H.length + 5) 0 → E.get 32 = I (w.llo + j) →
    Option.map (finishC H.length) (execL cfg0 prog0 ⟨6, none, false, H.length⟩ (todoAt Tryd.f6 37) ⟨E, [], H ++ (.box (.agg [I w.llo, I w.lhi, I w.ulo, I w.uhi, ve]) :: .box (KV w.lostP) :: o2 :: .grow 1 xs :: .box (KV qq) :: .box (KV (ownO b p)) :: G), none⟩) = some ⟨.ret (.bool true), H, none⟩ := by
  intro q
  have ho := w.valid_iff.1 hv
  have h8 := ho.many
  have hlen := ho.len
  have s1 := h.es.scal
  have t1 := h.es.ltn 6
  have hmx : ∀ a c : Int, (if a < c then c else a) = max a c := by intro a c; split <;> omega
  have hmn : ∀ a c : Int, (if c < a then c else a) = min a c := by intro a c; split <;> omega
  induction q with
  | zero =>
    intro j hj p b G hI hpb E g1 g3 g4 g31 g32
    have hk' : ¬ (j : Int) < (((w.lhi - w.llo + 1).toNat : Nat) : Int) := by omega
    have ej : w.llo + (j : Int) = w.lhi + 1 := by omega
    rw [ej] at hI g32
    have hpe := lost_end hv hcan (by omega) hI
    have hb : b = true := by
      cases b
      · exfalso
        obtain ⟨l, h1, -⟩ := (lostT hv hcan).1
        simp only [Wea.lostTo, Bool.false_eq_true, if_false] at hI
        exact hI.2 l h1 (by have := h1.1; simp only [inP, Wea.L] at this; omega)
      · rfl
    subst hb
    subst hpe
    have hown : ownO true w.lostP = w.lostP := rfl
    rw [hown]
    simp only [loopIt, todoPast, todoAt, todoOf, firstReg, ↓reduceIte, Option.some.injEq, Nat.reduceEqDiff, reduceCtorEq, Tryd.f6]
    rw [execL_inLoop]
    have c1 : ¬ w.lhi + 1 ≤ w.lhi := by omega
    have hsm := same2 w.lostP.1 w.lostP.2 w.lostP.1 w.lostP.2
    simp (maxSteps := 1000000) (implicitDefEqProofs := false) (disch := first | rfl | omega | assumption) only [go_sem, ↓reduceIte, Nat.reduceEqDiff, Nat.reduceAdd, Nat.reduceLeDiff, Nat.reduceBEq, Nat.reduceMul, Nat.reduceLT, Int.reduceLT, Int.reduceLE, Int.reduceToNat, Int.reduceNeg, Int.reduceEq, Int.reduceMul, reduceCtorEq, Int.reduceBEq, Int.reduceBNe, Int.reduceAdd, Int.reduceSub, g1, g3, g4, g31, g32, ltT, ltF, leT, leF, hk', s1, t1, hxs, ho2, c1, hsm, decide_true, law_awake]
    done
  | succ q ih =>
    intro j hj p b G hI hpb E g1 g3 g4 g31 g32
    have hk' : (j : Int) < (((w.lhi - w.llo + 1).toNat : Nat) : Int) := by omega
    have hk2 : j < (w.lhi - w.llo + 1).toNat := by omega
    simp only [loopIt, todoPast, todoAt, todoOf, firstReg, ↓reduceIte, Option.some.injEq, Nat.reduceEqDiff, reduceCtorEq, Tryd.f6]
    rw [execL_inLoop]
    obtain ⟨x, hx⟩ : ∃ x, w.llo + (j : Int) = x := ⟨_, rfl⟩
    have hx2 : w.llo + ((j + 1 : Nat) : Int) = x + 1 := by omega
    have hxs' : w.llo ≤ x ∧ x ≤ w.lhi := by omega
    rw [hx] at hI g32
    have hin : inP w.L x := hxs'
    have hvy : (w.one x).valid = true := (w.one x).valid_iff.2 (one_ok ho hin)
    have hY : ∀ G : Heap, WeaAt (H ++ G) (w.one x) ve := fun G => ⟨(h.es.app G)⟩
    have hL := fun G : Heap => we_Lost (hY G) (by show w.es.length ≤ 1000; omega)
    have hA := fun G : Heap => we_After (hY G) (by show w.es.length ≤ 1000; omega) ((w.es.length : Int) - 1)
    have hgt := fun hh => gate_can hvy hh
    have e1 : (w.one x).av ve = .agg [I x, I x, I w.ulo, I w.uhi, ve] := rfl
    have e2 : (w.one x).es.length = w.es.length := rfl
    have ih' := ih (j + 1) (by omega)
    rw [hx2] at ih'
    simp only [e1, e2] at hL hA
    cases hcy : (w.one x).can
    · have hg1 : (w.one x).gate 0 true = 10 := by simp only [Wea.gate, hvy, hcy, if_true, if_false, Bool.false_eq_true, (show (0 : Int) ≤ 10 by decide)]
      have hst := lost_skip hI (x := x) fun l h1 h2 => by
        have : (w.one x).can = true := (canT (one_ok ho hin)).2 ⟨l, (one_T hin l).2 ⟨h1, h2⟩⟩
        rw [hcy] at this
        cases this
      simp only [hg1, Wea.lostP, if_false, (show ¬ (10 : Int) = 0 by decide)] at hL
      by_cases hn0 : 0 < w.es.length
      · have c1 : (0 : Int) < w.es.length := by omega
        simp (maxSteps := 1000000) (implicitDefEqProofs := false) (disch := first | rfl | omega | assumption) only [go_sem, ↓reduceIte, Nat.reduceEqDiff, Nat.reduceAdd, Nat.reduceLeDiff, Nat.reduceBEq, Nat.reduceMul, Nat.reduceLT, Int.reduceLT, Int.reduceLE, Int.reduceToNat, Int.reduceNeg, Int.reduceEq, Int.reduceMul, reduceCtorEq, Int.reduceBEq, Int.reduceBNe, Int.reduceAdd, Int.reduceSub, g1, g3, g4, g31, g32, ltT, ltF, leT, leF, hk', s1, t1, hxs, ho2, hxs'.2, law_span, hL, c1]
        exact ih' p b _ hst hpb _ (by rfl) (by rfl) (by rfl) (by rfl) (by rfl)
      · have c1 : ¬ (0 : Int) < w.es.length := by omega
        simp (maxSteps := 1000000) (implicitDefEqProofs := false) (disch := first | rfl | omega | assumption) only [go_sem, ↓reduceIte, Nat.reduceEqDiff, Nat.reduceAdd, Nat.reduceLeDiff, Nat.reduceBEq, Nat.reduceMul, Nat.reduceLT, Int.reduceLT, Int.reduceLE, Int.reduceToNat, Int.reduceNeg, Int.reduceEq, Int.reduceMul, reduceCtorEq, Int.reduceBEq, Int.reduceBNe, Int.reduceAdd, Int.reduceSub, g1, g3, g4, g31, g32, ltT, ltF, leT, leF, hk', s1, t1, hxs, ho2, hxs'.2, law_span, hL, c1]
        exact ih' p b _ hst hpb _ (by rfl) (by rfl) (by rfl) (by rfl) (by rfl)
    · have hg1 := hgt hcy
      have hlost := one_lost ho hin hcy
      have hst := lost_step hI (one_last ho hin hcy)
      have hzb := at_bd' (one_ok ho hin) (q := (w.one x).L) (by simp only [bd, Wea.one, Wea.L]; omega) (Nat.le_refl (w.one x).es.length)
      rw [hg1, hlost] at hL
      have hA2 : 0 < w.es.length → (w.one x).afterP ((w.es.length : Int) - 1) = (w.one x).lastP ∧ (w.one x).gate 0 (wi ((w.es.length : Int) - 1) 0 ((w.es.length : Int) - 1)) = 0 := fun hn0 => by
        have h0 := after_ok hvy hcy (j := w.es.length - 1) (show w.es.length - 1 < w.es.length by omega)
        have e3 : ((w.es.length - 1 : Nat) : Int) = (w.es.length : Int) - 1 := by omega
        rw [e3, show w.es.length - 1 + 1 = w.es.length by omega] at h0
        exact h0
      change bd 2000000 (w.one x).lastP at hzb
      have hsm := fun a b : Int => same2 a b a b
      generalize (w.one x).lastP = z at *
      simp only [bd] at hzb hpb
      have c1 : (0 : Int) < w.es.length ↔ 0 < w.es.length := by omega
      cases b
      · have ei : ownO false p = (1073741824, -1073741824) := rfl
        have e4 : min 1073741824 (x - z.2) = x - z.2 := by omega
        have e5 : max (-1073741824) (x - z.1) = x - z.1 := by omega
        rw [ei]
        by_cases hn0 : 0 < w.es.length
        · obtain ⟨a1, a2⟩ := hA2 hn0
          have c2 := c1.2 hn0
          rw [a1, a2] at hA
          simp (maxSteps := 1000000) (implicitDefEqProofs := false) (disch := first | rfl | omega | assumption) only [go_sem, ↓reduceIte, Nat.reduceEqDiff, Nat.reduceAdd, Nat.reduceLeDiff, Nat.reduceBEq, Nat.reduceMul, Nat.reduceLT, Int.reduceLT, Int.reduceLE, Int.reduceToNat, Int.reduceNeg, Int.reduceEq, Int.reduceMul, reduceCtorEq, Int.reduceBEq, Int.reduceBNe, Int.reduceAdd, Int.reduceSub, g1, g3, g4, g31, g32, ltT, ltF, leT, leF, hk', s1, t1, hxs, ho2, hxs'.2, law_span, hL, hA, c2, hmx, hmn, e4, e5]
          rw [chkK_of]; rotate_left; kernel_rfl
          simp (maxSteps := 1000000) (implicitDefEqProofs := false) (disch := first | rfl | omega | assumption) only [go_sem, ↓reduceIte, Nat.reduceEqDiff, Nat.reduceAdd, Nat.reduceLeDiff, Nat.reduceBEq, Nat.reduceMul, Nat.reduceLT, Int.reduceLT, Int.reduceLE, Int.reduceToNat, Int.reduceNeg, Int.reduceEq, Int.reduceMul, reduceCtorEq, Int.reduceBEq, Int.reduceBNe, Int.reduceAdd, Int.reduceSub, g1, g3, g4, g31, g32, ltT, ltF, leT, leF, hk', s1, t1, hxs, ho2, hxs'.2, law_span, hL, hA, c2, hmx, hmn, e4, e5, hsm, decide_true]
          exact ih' (x - z.2, x - z.1) true _ hst (by simp only [bd]; omega) _ (by rfl) (by rfl) (by rfl) (by rfl) (by rfl)
        · have c2 : ¬ (0 : Int) < w.es.length := by omega
          simp (maxSteps := 1000000) (implicitDefEqProofs := false) (disch := first | rfl | omega | assumption) only [go_sem, ↓reduceIte, Nat.reduceEqDiff, Nat.reduceAdd, Nat.reduceLeDiff, Nat.reduceBEq, Nat.reduceMul, Nat.reduceLT, Int.reduceLT, Int.reduceLE, Int.reduceToNat, Int.reduceNeg, Int.reduceEq, Int.reduceMul, reduceCtorEq, Int.reduceBEq, Int.reduceBNe, Int.reduceAdd, Int.reduceSub, g1, g3, g4, g31, g32, ltT, ltF, leT, leF, hk', s1, t1, hxs, ho2, hxs'.2, law_span, hL, c2, hmx, hmn, e4, e5]
          exact ih' (x - z.2, x - z.1) true _ hst (by simp only [bd]; omega) _ (by rfl) (by rfl) (by rfl) (by rfl) (by rfl)
      · have ei : ownO true p = p := rfl
        rw [ei]
        by_cases hn0 : 0 < w.es.length
        · obtain ⟨a1, a2⟩ := hA2 hn0
          have c2 := c1.2 hn0
          rw [a1, a2] at hA
          simp (maxSteps := 1000000) (implicitDefEqProofs := false) (disch := first | rfl | omega | assumption) only [go_sem, ↓reduceIte, Nat.reduceEqDiff, Nat.reduceAdd, Nat.reduceLeDiff, Nat.reduceBEq, Nat.reduceMul, Nat.reduceLT, Int.reduceLT, Int.reduceLE, Int.reduceToNat, Int.reduceNeg, Int.reduceEq, Int.reduceMul, reduceCtorEq, Int.reduceBEq, Int.reduceBNe, Int.reduceAdd, Int.reduceSub, g1, g3, g4, g31, g32, ltT, ltF, leT, leF, hk', s1, t1, hxs, ho2, hxs'.2, law_span, hL, hA, c2, hmx, hmn]
          rw [chkK_of]; rotate_left; kernel_rfl
          simp (maxSteps := 1000000) (implicitDefEqProofs := false) (disch := first | rfl | omega | assumption) only [go_sem, ↓reduceIte, Nat.reduceEqDiff, Nat.reduceAdd, Nat.reduceLeDiff, Nat.reduceBEq, Nat.reduceMul, Nat.reduceLT, Int.reduceLT, Int.reduceLE, Int.reduceToNat, Int.reduceNeg, Int.reduceEq, Int.reduceMul, reduceCtorEq, Int.reduceBEq, Int.reduceBNe, Int.reduceAdd, Int.reduceSub, g1, g3, g4, g31, g32, ltT, ltF, leT, leF, hk', s1, t1, hxs, ho2, hxs'.2, law_span, hL, hA, c2, hmx, hmn, hsm, decide_true]
          exact ih' (min p.1 (x - z.2), max p.2 (x - z.1)) true _ hst (by simp only [bd]; omega) _ (by rfl) (by rfl) (by rfl) (by rfl) (by rfl)
        · have c2 : ¬ (0 : Int) < w.es.length := by omega
          simp (maxSteps := 1000000) (implicitDefEqProofs := false) (disch := first | rfl | omega | assumption) only [go_sem, ↓reduceIte, Nat.reduceEqDiff, Nat.reduceAdd, Nat.reduceLeDiff, Nat.reduceBEq, Nat.reduceMul, Nat.reduceLT, Int.reduceLT, Int.reduceLE, Int.reduceToNat, Int.reduceNeg, Int.reduceEq, Int.reduceMul, reduceCtorEq, Int.reduceBEq, Int.reduceBNe, Int.reduceAdd, Int.reduceSub, g1, g3, g4, g31, g32, ltT, ltF, leT, leF, hk', s1, t1, hxs, ho2, hxs'.2, law_span, hL, c2, hmx, hmn]
          exact ih' (min p.1 (x - z.2), max p.2 (x - z.1)) true _ hst (by simp only [bd]; omega) _ (by rfl) (by rfl) (by rfl) (by rfl) (by rfl)

theorem law_WearEnds {w : Wea} {ve : AV} (h : WeaAt H w ve) :
    callFL cfg0 prog0 false 6 [w.av ve] H none = some ⟨.ret (.bool true), H, none⟩ := by
  have s1 := h.es.scal
  have s2 := h.es.len
  rw [List.length_map] at s2
  have hF := fun G : Heap => law_far (h.app G) (v := .sl true []) (l := []) ⟨rfl, by simp⟩
  have hV := fun G : Heap => ref_Wear (h.app G)
  have hav : w.av ve = .agg [I w.llo, I w.lhi, I w.ulo, I w.uhi, ve] := rfl
  simp only [hav, List.length_nil, Int.natCast_zero] at hF hV ⊢
  cases hf : w.farB 0
  rotate_left
  · rw [hf] at hF
    refine (callFL_eq fn6 rfl (by simp [Tryd.f6])).trans ?_
    simp (maxSteps := 1000000) (implicitDefEqProofs := false) (disch := first | rfl | omega | assumption) only [go_sem, ↓reduceIte, Nat.reduceEqDiff, Nat.reduceAdd, Nat.reduceLeDiff, Nat.reduceBEq, Nat.reduceMul, Nat.reduceLT, Int.reduceLT, Int.reduceLE, Int.reduceToNat, Int.reduceNeg, Int.reduceEq, Int.reduceMul, reduceCtorEq, Int.reduceBEq, Int.reduceBNe, Int.reduceAdd, Int.reduceSub, ltT, ltF, leT, leF, s1, hF, law_awake]
    done
  rw [hf] at hF
  have hl : w.es.length ≤ 1000 := by have := (Wea.farB_false hf).1; omega
  have hL := fun G : Heap => we_Lost (h.app G) hl
  have hC := fun G : Heap => we_ClashA (h.app G) hl
  simp only [hav] at hL hC
  cases hv : w.valid
  · have hg : w.gate 0 true = 1 := by simp only [Wea.gate, hv, Bool.false_eq_true, if_false]
    simp only [hv, hg, Wea.lostP, Wea.clA, Bool.false_eq_true, if_false, (show ¬ (1 : Int) = 0 by decide)] at hV hL hC
    have hsm := same2 0 0 0 0
    refine (callFL_eq fn6 rfl (by simp [Tryd.f6])).trans ?_
    simp (maxSteps := 1000000) (implicitDefEqProofs := false) (disch := first | rfl | omega | assumption) only [go_sem, ↓reduceIte, Nat.reduceEqDiff, Nat.reduceAdd, Nat.reduceLeDiff, Nat.reduceBEq, Nat.reduceMul, Nat.reduceLT, Int.reduceLT, Int.reduceLE, Int.reduceToNat, Int.reduceNeg, Int.reduceEq, Int.reduceMul, reduceCtorEq, Int.reduceBEq, Int.reduceBNe, Int.reduceAdd, Int.reduceSub, ltT, ltF, leT, leF, s1, s2, hF, hV, hL, hC, hsm, decide_true, law_awake]
    done
  · have ho := w.valid_iff.1 hv
    have h8 := ho.many
    have hA := fun G : Heap => we_After (h.app G) hl (w.es.length : Int)
    have hB := fun G : Heap => we_Below (h.app G) hl 1001
    have hT := fun G : Heap => we_Fits (h.app G) hl (1, 0)
    have hD1 := fun (a b c : AO) => we_Day (h.app [a, b, c, .grow 1 [I 0, I 0, I 0, I 0, I 0, I 0, I 0, I 0, I 0, I 0, I 0]]) hl (v := .gsl (H.length + 3) 11) (l := [0, 0, 0, 0, 0, 0, 0, 0, 0, 0, 0]) ⟨⟨by simp [get_at'], rfl⟩, by simp [AV.cells]⟩ (by decide) 0
    have hD2 := fun G : Heap => we_Day (h.app G) hl (v := .sl true [I (-1)]) (l := [-1]) ⟨rfl, by simp [AV.cells]⟩ (by simp) 0
    have w1 : wi (w.es.length : Int) 0 (w.es.length - 1) = false := by rw [← Bool.not_eq_true, wi_iff]; omega
    have w2 : wi 1001 (-1000) 1000 = false := rfl
    have w3 : spB (1, 0) (-1000) 1000 = false := rfl
    have w4 : dayOk 0 [-1] = false := rfl
    have g1 : w.gate 0 false = 2 := by simp only [Wea.gate, hv, if_true, if_false, Bool.false_eq_true, (show (0 : Int) ≤ 10 by decide)]
    have g3 : ∀ b, w.gate 11 b = 3 := fun b => by simp only [Wea.gate, hv, if_true, if_false, (show ¬ (11 : Int) ≤ 10 by decide)]
    have g4 : w.gate 1 false = 2 := by simp only [Wea.gate, hv, if_true, if_false, Bool.false_eq_true, (show (1 : Int) ≤ 10 by decide)]
    have hdp1 : w.dayP 0 [0, 0, 0, 0, 0, 0, 0, 0, 0, 0, 0] = (0, 3) := by
      have : (([0, 0, 0, 0, 0, 0, 0, 0, 0, 0, 0] : List Int).length : Int) = 11 := rfl
      simp only [Wea.dayP, this, g3, if_false, (show ¬ (3 : Int) = 0 by decide)]
    have hdp2 : w.dayP 0 [-1] = (0, 2) := by
      have : (([-1] : List Int).length : Int) = 1 := rfl
      simp only [Wea.dayP, this, w4, g4, if_false, (show ¬ (2 : Int) = 0 by decide)]
    simp only [hav, Wea.afterP, Wea.sureP, Wea.perP, Wea.fitsP, w1, w2, w3, g1, hdp1, hdp2, if_false, (show ¬ (2 : Int) = 0 by decide)] at hA hB hT hD1 hD2
    simp only [hv, Wea.clA, if_true] at hV hC
    cases hc : w.can
    · have hg : w.gate 0 true = 10 := by simp only [Wea.gate, hv, hc, if_true, if_false, Bool.false_eq_true, (show (0 : Int) ≤ 10 by decide)]
      simp only [hg, Wea.lostP, hc, Bool.false_eq_true, if_false, (show ¬ (10 : Int) = 0 by decide)] at hL hC
      have hsm := same2 0 0 0 0
      refine (callFL_eq fn6 rfl (by simp [Tryd.f6])).trans ?_
      simp (maxSteps := 1000000) (implicitDefEqProofs := false) (disch := first | rfl | omega | assumption) only [go_sem, ↓reduceIte, Nat.reduceEqDiff, Nat.reduceAdd, Nat.reduceLeDiff, Nat.reduceBEq, Nat.reduceMul, Nat.reduceLT, Int.reduceLT, Int.reduceLE, Int.reduceToNat, Int.reduceNeg, Int.reduceEq, Int.reduceMul, reduceCtorEq, Int.reduceBEq, Int.reduceBNe, Int.reduceAdd, Int.reduceSub, ltT, ltF, leT, leF, s1, s2, hF, hV, hL, hA, hB]
      rw [chkK_of]; rotate_left; kernel_rfl
      simp (maxSteps := 1000000) (implicitDefEqProofs := false) (disch := first | rfl | omega | assumption) only [go_sem, ↓reduceIte, Nat.reduceEqDiff, Nat.reduceAdd, Nat.reduceLeDiff, Nat.reduceBEq, Nat.reduceMul, Nat.reduceLT, Int.reduceLT, Int.reduceLE, Int.reduceToNat, Int.reduceNeg, Int.reduceEq, Int.reduceMul, reduceCtorEq, Int.reduceBEq, Int.reduceBNe, Int.reduceAdd, Int.reduceSub, ltT, ltF, leT, leF, s1, s2, hF, hV, hL, hA, hB, law_span, hT]
      rw [chkK_of]; rotate_left; kernel_rfl
      simp (maxSteps := 1000000) (implicitDefEqProofs := false) (disch := first | rfl | omega | assumption) only [go_sem, ↓reduceIte, Nat.reduceEqDiff, Nat.reduceAdd, Nat.reduceLeDiff, Nat.reduceBEq, Nat.reduceMul, Nat.reduceLT, Int.reduceLT, Int.reduceLE, Int.reduceToNat, Int.reduceNeg, Int.reduceEq, Int.reduceMul, reduceCtorEq, Int.reduceBEq, Int.reduceBNe, Int.reduceAdd, Int.reduceSub, ltT, ltF, leT, leF, s1, s2, hF, hV, hL, hA, hB, law_span, hT, hD1, hD2, hC, hsm, decide_true, law_awake]
      done
    · have hg := gate_can hv hc
      simp only [hg, hc, if_true] at hL hC
      refine (callFL_eq fn6 rfl (by simp [Tryd.f6])).trans ?_
      simp (maxSteps := 1000000) (implicitDefEqProofs := false) (disch := first | rfl | omega | assumption) only [go_sem, ↓reduceIte, Nat.reduceEqDiff, Nat.reduceAdd, Nat.reduceLeDiff, Nat.reduceBEq, Nat.reduceMul, Nat.reduceLT, Int.reduceLT, Int.reduceLE, Int.reduceToNat, Int.reduceNeg, Int.reduceEq, Int.reduceMul, reduceCtorEq, Int.reduceBEq, Int.reduceBNe, Int.reduceAdd, Int.reduceSub, ltT, ltF, leT, leF, s1, s2, hF, hV, hL, hA, hB]
      rw [chkK_of]; rotate_left; kernel_rfl
      simp (maxSteps := 1000000) (implicitDefEqProofs := false) (disch := first | rfl | omega | assumption) only [go_sem, ↓reduceIte, Nat.reduceEqDiff, Nat.reduceAdd, Nat.reduceLeDiff, Nat.reduceBEq, Nat.reduceMul, Nat.reduceLT, Int.reduceLT, Int.reduceLE, Int.reduceToNat, Int.reduceNeg, Int.reduceEq, Int.reduceMul, reduceCtorEq, Int.reduceBEq, Int.reduceBNe, Int.reduceAdd, Int.reduceSub, ltT, ltF, leT, leF, s1, s2, hF, hV, hL, hA, hB, law_span, hT]
      rw [chkK_of]; rotate_left; kernel_rfl
      simp (maxSteps := 1000000) (implicitDefEqProofs := false) (disch := first | rfl | omega | assumption) only [go_sem, ↓reduceIte, Nat.reduceEqDiff, Nat.reduceAdd, Nat.reduceLeDiff, Nat.reduceBEq, Nat.reduceMul, Nat.reduceLT, Int.reduceLT, Int.reduceLE, Int.reduceToNat, Int.reduceNeg, Int.reduceEq, Int.reduceMul, reduceCtorEq, Int.reduceBEq, Int.reduceBNe, Int.reduceAdd, Int.reduceSub, ltT, ltF, leT, leF, s1, s2, hF, hV, hL, hA, hB, law_span, hT, hD1, hD2, hC, law_awake]
      refine ends_loop h hv hc w.lostP (.box (.agg [I 0, I 0])) [I 0, I 0, I 0, I 0, I 0, I 0, I 0, I 0, I 0, I 0, I 0] rfl rfl _ _ (fun E f1 f3 f4 f21 => ?_) w.es.length 0 (by omega) [] _ (by rfl) (by rfl) (by rfl) (by rfl) (by rfl) (by rfl) (by rfl)
      rw [lst_last]
      have hab := at_bd ho (Nat.le_refl w.es.length)
      change bd 2000000 w.lastP at hab
      simp only [bd] at hab
      have hmx : ∀ a c : Int, (if a < c then c else a) = max a c := by intro a c; split <;> omega
      have hmn : (if w.lastP.2 + 3 < 1000 then w.lastP.2 + 3 else 1000) = min (w.lastP.2 + 3) 1000 := by split <;> omega
      have hm1 : (if w.lastP.1 - 3 < -1000 then -1000 else w.lastP.1 - 3) = max (-1000) (w.lastP.1 - 3) := by split <;> omega
      by_cases c1 : (0 : Int) < w.es.length
      · by_cases c2 : (w.es.length : Int) < 8
        · simp (maxSteps := 1000000) (implicitDefEqProofs := false) (disch := first | rfl | omega | assumption) only [go_sem, ↓reduceIte, Nat.reduceEqDiff, Nat.reduceAdd, Nat.reduceLeDiff, Nat.reduceBEq, Nat.reduceMul, Nat.reduceLT, Int.reduceLT, Int.reduceLE, Int.reduceToNat, Int.reduceNeg, Int.reduceEq, Int.reduceMul, reduceCtorEq, Int.reduceBEq, Int.reduceBNe, Int.reduceAdd, Int.reduceSub, ltT, ltF, leT, leF, f1, f3, f4, f21, c1, c2, hmx]
          refine reads_at_loop h hv hc (by omega) w.lostP (.box (.agg [I 0, I 0])) [I 0, I 0, I 0, I 0, I 0, I 0, I 0, I 0, I 0, I 0, I 0] rfl rfl w.lastP rfl (by simp only [bd]; omega) (max (-1000) (w.lastP.1 - 3)) (min (w.lastP.2 + 3) 1000) hm1 hmn (min (w.lastP.2 + 3) 1000 + 1 - max (-1000) (w.lastP.1 - 3)).toNat (by omega) _ _ (fun E d1 d3 d4 d21 => ?_) _ 0 (Nat.zero_add _) [] _ (by exact f1) (by exact f3) (by exact f4) (by exact f21) (by show I _ = I _; congr 1; omega)
          simp (maxSteps := 1000000) (implicitDefEqProofs := false) (disch := first | rfl | omega | assumption) only [go_sem, ↓reduceIte, Nat.reduceEqDiff, Nat.reduceAdd, Nat.reduceLeDiff, Nat.reduceBEq, Nat.reduceMul, Nat.reduceLT, Int.reduceLT, Int.reduceLE, Int.reduceToNat, Int.reduceNeg, Int.reduceEq, Int.reduceMul, reduceCtorEq, Int.reduceBEq, Int.reduceBNe, Int.reduceAdd, Int.reduceSub, ltT, ltF, leT, leF, d1, d3, d4, d21, law_span]
          have hI0 : w.lostTo (w.llo + ((0 : Nat) : Int)) false (0, 0) := by
            simp only [Wea.lostTo, Bool.false_eq_true, if_false]
            exact ⟨trivial, fun l hl => by have := hl.1; simp only [inP, Wea.L] at this; omega⟩
          exact one_loop h hv hc (.box (.agg [I 0, I 0])) [I 0, I 0, I 0, I 0, I 0, I 0, I 0, I 0, I 0, I 0, I 0] rfl rfl _ (w.lhi - w.llo + 1).toNat 0 (by omega) (0, 0) false [] hI0 (by simp only [bd]; omega) _ (by exact d1) (by exact d3) (by exact d4) (by rfl) (by show I _ = I _; congr 1; omega)
        · simp (maxSteps := 1000000) (implicitDefEqProofs := false) (disch := first | rfl | omega | assumption) only [go_sem, ↓reduceIte, Nat.reduceEqDiff, Nat.reduceAdd, Nat.reduceLeDiff, Nat.reduceBEq, Nat.reduceMul, Nat.reduceLT, Int.reduceLT, Int.reduceLE, Int.reduceToNat, Int.reduceNeg, Int.reduceEq, Int.reduceMul, reduceCtorEq, Int.reduceBEq, Int.reduceBNe, Int.reduceAdd, Int.reduceSub, ltT, ltF, leT, leF, f1, f3, f4, f21, c1, c2, law_span]
          have hI0 : w.lostTo (w.llo + ((0 : Nat) : Int)) false (0, 0) := by
            simp only [Wea.lostTo, Bool.false_eq_true, if_false]
            exact ⟨trivial, fun l hl => by have := hl.1; simp only [inP, Wea.L] at this; omega⟩
          exact one_loop h hv hc (.box (.agg [I 0, I 0])) [I 0, I 0, I 0, I 0, I 0, I 0, I 0, I 0, I 0, I 0, I 0] rfl rfl _ (w.lhi - w.llo + 1).toNat 0 (by omega) (0, 0) false [] hI0 (by simp only [bd]; omega) _ (by exact f1) (by exact f3) (by exact f4) (by rfl) (by show I _ = I _; congr 1; omega)
      · simp (maxSteps := 1000000) (implicitDefEqProofs := false) (disch := first | rfl | omega | assumption) only [go_sem, ↓reduceIte, Nat.reduceEqDiff, Nat.reduceAdd, Nat.reduceLeDiff, Nat.reduceBEq, Nat.reduceMul, Nat.reduceLT, Int.reduceLT, Int.reduceLE, Int.reduceToNat, Int.reduceNeg, Int.reduceEq, Int.reduceMul, reduceCtorEq, Int.reduceBEq, Int.reduceBNe, Int.reduceAdd, Int.reduceSub, ltT, ltF, leT, leF, f1, f3, f4, f21, c1, law_span]
        have hI0 : w.lostTo (w.llo + ((0 : Nat) : Int)) false (0, 0) := by
          simp only [Wea.lostTo, Bool.false_eq_true, if_false]
          exact ⟨trivial, fun l hl => by have := hl.1; simp only [inP, Wea.L] at this; omega⟩
        exact one_loop h hv hc (.box (.agg [I 0, I 0])) [I 0, I 0, I 0, I 0, I 0, I 0, I 0, I 0, I 0, I 0, I 0] rfl rfl _ (w.lhi - w.llo + 1).toNat 0 (by omega) (0, 0) false [] hI0 (by simp only [bd]; omega) _ (by exact f1) (by exact f3) (by exact f4) (by rfl) (by show I _ = I _; congr 1; omega)

end Go.Ab
