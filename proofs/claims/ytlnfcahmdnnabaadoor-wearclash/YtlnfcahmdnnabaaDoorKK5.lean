/-
  The reference, walked: Below, Lost.
-/
import Derived.Test.YtlnfcahmdnnabaaDoorKK4
import Derived.Test.YtlnfcahmdnnabaaDoorKK3
namespace Go.Ab
open Go.Proofs
set_option linter.unusedSimpArgs false
set_option linter.unusedVariables false
set_option maxRecDepth 100000

variable {H : Heap}

theorem maskN_add (f : Nat → Bool) (j : Nat) : maskN f (j + 1) = if f j then maskN f j + 2 ^ j else maskN f j := by
  rw [maskN_succ]
  split
  · have h := Nat.two_pow_add_eq_or_of_lt (maskN_lt f j) 1
    rw [Nat.mul_one] at h
    rw [Nat.or_comm, ← h, Nat.add_comm]
  · rfl

theorem rbelow_loop {w : Wea} {ve : AV} (h : WeaAt H w ve) (ho : w.Ok) (hcan : w.can = true) (lim : Int) :
    ∀ (q j : Nat), j + q = w.es.length → ∀ (G : Heap), ∀ E : Env, E.get 1 = I lim → E.get 2 = .ptr H.length 0 → E.get 8 = I (maskN (sureF (w.at w.rd w.L) lim) j) → E.get 9 = I (maskN (perF (w.at w.rd w.L) lim) j) → E.get 10 = I j →
    Option.map (finishC H.length) (execL cfg0 prog0 ⟨19, none, false, H.length⟩ (todoAt Tryd.f19 6) ⟨E, [], H ++ (.box (.agg [I w.llo, I w.lhi, I w.ulo, I w.uhi, ve]) :: G), none⟩) = some ⟨.ret (.tup [I (maskN (sureF (w.at w.rd w.L) lim) w.es.length), I (maskN (perF (w.at w.rd w.L) lim) w.es.length), I 0]), H, none⟩ := by
  intro q
  have h8 := ho.many
  have s1 := h.es.scal
  have s2 := h.es.len
  rw [List.length_map] at s2
  have t1 := h.es.ltn 1
  have t2 := h.es.lt0
  induction q with
  | zero =>
    intro j hj G E g1 g2 g8 g9 g10
    have hk' : ¬ (j : Int) < ((w.es.length : Nat) : Int) := by omega
    have ej : j = w.es.length := by omega
    subst ej
    simp only [loopIt, todoPast, todoAt, todoOf, firstReg, ↓reduceIte, Option.some.injEq, Nat.reduceEqDiff, reduceCtorEq, Tryd.f19]
    rw [execL_inLoop]
    simp (maxSteps := 1000000) (implicitDefEqProofs := false) (disch := first | rfl | omega | assumption) only [go_sem, ↓reduceIte, Nat.reduceEqDiff, Nat.reduceAdd, Nat.reduceLeDiff, Nat.reduceBEq, Nat.reduceMul, Nat.reduceLT, Int.reduceLT, Int.reduceLE, Int.reduceToNat, Int.reduceNeg, Int.reduceEq, Int.reduceMul, reduceCtorEq, Int.reduceBEq, Int.reduceBNe, Int.reduceAdd, Int.reduceSub, g1, g2, g8, g9, g10, ltT, ltF, leT, leF, hk', s1, s2, t1]
    done
  | succ q ih =>
    intro j hj G E g1 g2 g8 g9 g10
    have hk' : (j : Int) < ((w.es.length : Nat) : Int) := by omega
    have hk2 : j < w.es.length := by omega
    have hA := fun G : Heap => ref_after (h.app G) ho hcan (m := j + 1) (by omega)
    have hP := fun G : Heap => ref_power j (by omega) G
    have e0 : ((j + 1 : Nat) : Int) = (j : Int) + 1 := by omega
    have m1 := maskN_add (sureF (w.at w.rd w.L) lim) j
    have m2 := maskN_add (perF (w.at w.rd w.L) lim) j
    have b1 := maskN_lt (sureF (w.at w.rd w.L) lim) j
    have b2 := maskN_lt (perF (w.at w.rd w.L) lim) j
    have p1 := pow_le (show j ≤ 8 by omega)
    have c1 : sureF (w.at w.rd w.L) lim j = decide ((w.at w.rd w.L (j + 1)).2 < lim) := rfl
    have c2 : perF (w.at w.rd w.L) lim j = decide ((w.at w.rd w.L (j + 1)).1 < lim) := rfl
    have hi := ih (j + 1) (by omega)
    rw [c1] at m1
    rw [c2] at m2
    rw [m1, m2] at hi
    rw [e0] at hA
    simp only [Wea.av] at hA
    generalize w.at w.rd w.L (j + 1) = p at hA hi
    generalize maskN (sureF (w.at w.rd w.L) lim) j = x at *
    generalize maskN (perF (w.at w.rd w.L) lim) j = y at *
    have w1 : (x : Int) + pw j = ((x + 2 ^ j : Nat) : Int) := by simp only [pw]; omega
    have w2 : (y : Int) + pw j = ((y + 2 ^ j : Nat) : Int) := by simp only [pw]; omega
    have w3 := wN (m := x + 2 ^ j) (by omega)
    have w4 := wN (m := y + 2 ^ j) (by omega)
    by_cases d1 : p.2 < lim <;> by_cases d2 : p.1 < lim
    all_goals simp only [d1, d2, decide_true, decide_false, if_true, if_false, Bool.false_eq_true] at hi
    · skip
      simp only [loopIt, todoPast, todoAt, todoOf, firstReg, ↓reduceIte, Option.some.injEq, Nat.reduceEqDiff, reduceCtorEq, Tryd.f19]
      rw [execL_inLoop]
      simp (maxSteps := 1000000) (implicitDefEqProofs := false) (disch := first | rfl | omega | assumption) only [go_sem, ↓reduceIte, Nat.reduceEqDiff, Nat.reduceAdd, Nat.reduceLeDiff, Nat.reduceBEq, Nat.reduceMul, Nat.reduceLT, Int.reduceLT, Int.reduceLE, Int.reduceToNat, Int.reduceNeg, Int.reduceEq, Int.reduceMul, reduceCtorEq, Int.reduceBEq, Int.reduceBNe, Int.reduceAdd, Int.reduceSub, g1, g2, g8, g9, g10, ltT, ltF, leT, leF, hk', s1, s2, t1, hA, hP, d1, d2, w1, w2, w3, w4]
      exact hi [.box (KV p)] _ (by rfl) (by rfl) (by rfl) (by rfl) (by rfl)
    · skip
      simp only [loopIt, todoPast, todoAt, todoOf, firstReg, ↓reduceIte, Option.some.injEq, Nat.reduceEqDiff, reduceCtorEq, Tryd.f19]
      rw [execL_inLoop]
      simp (maxSteps := 1000000) (implicitDefEqProofs := false) (disch := first | rfl | omega | assumption) only [go_sem, ↓reduceIte, Nat.reduceEqDiff, Nat.reduceAdd, Nat.reduceLeDiff, Nat.reduceBEq, Nat.reduceMul, Nat.reduceLT, Int.reduceLT, Int.reduceLE, Int.reduceToNat, Int.reduceNeg, Int.reduceEq, Int.reduceMul, reduceCtorEq, Int.reduceBEq, Int.reduceBNe, Int.reduceAdd, Int.reduceSub, g1, g2, g8, g9, g10, ltT, ltF, leT, leF, hk', s1, s2, t1, hA, hP, d1, d2, w1, w2, w3, w4]
      exact hi [.box (KV p)] _ (by rfl) (by rfl) (by rfl) (by rfl) (by rfl)
    · skip
      simp only [loopIt, todoPast, todoAt, todoOf, firstReg, ↓reduceIte, Option.some.injEq, Nat.reduceEqDiff, reduceCtorEq, Tryd.f19]
      rw [execL_inLoop]
      simp (maxSteps := 1000000) (implicitDefEqProofs := false) (disch := first | rfl | omega | assumption) only [go_sem, ↓reduceIte, Nat.reduceEqDiff, Nat.reduceAdd, Nat.reduceLeDiff, Nat.reduceBEq, Nat.reduceMul, Nat.reduceLT, Int.reduceLT, Int.reduceLE, Int.reduceToNat, Int.reduceNeg, Int.reduceEq, Int.reduceMul, reduceCtorEq, Int.reduceBEq, Int.reduceBNe, Int.reduceAdd, Int.reduceSub, g1, g2, g8, g9, g10, ltT, ltF, leT, leF, hk', s1, s2, t1, hA, hP, d1, d2, w1, w2, w3, w4]
      exact hi [.box (KV p)] _ (by rfl) (by rfl) (by rfl) (by rfl) (by rfl)
    · skip
      simp only [loopIt, todoPast, todoAt, todoOf, firstReg, ↓reduceIte, Option.some.injEq, Nat.reduceEqDiff, reduceCtorEq, Tryd.f19]
      rw [execL_inLoop]
      simp (maxSteps := 1000000) (implicitDefEqProofs := false) (disch := first | rfl | omega | assumption) only [go_sem, ↓reduceIte, Nat.reduceEqDiff, Nat.reduceAdd, Nat.reduceLeDiff, Nat.reduceBEq, Nat.reduceMul, Nat.reduceLT, Int.reduceLT, Int.reduceLE, Int.reduceToNat, Int.reduceNeg, Int.reduceEq, Int.reduceMul, reduceCtorEq, Int.reduceBEq, Int.reduceBNe, Int.reduceAdd, Int.reduceSub, g1, g2, g8, g9, g10, ltT, ltF, leT, leF, hk', s1, s2, t1, hA, hP, d1, d2, w1, w2, w3, w4]
      exact hi [.box (KV p)] _ (by rfl) (by rfl) (by rfl) (by rfl) (by rfl)

theorem ref_Below {w : Wea} {ve : AV} (h : WeaAt H w ve) (hl : w.es.length ≤ 1000) (n : Int) :
    callFL cfg0 prog0 false 19 [w.av ve, I n] H none = some ⟨.ret (.tup [I (w.sureP n), I (w.perP n), I (w.gate 0 (wi n (-1000) 1000))]), H, none⟩ := by
  have s1 := h.es.scal
  have s2 := h.es.len
  rw [List.length_map] at s2
  have hE := fun G : Heap => ref_Limit n G
  have hC := fun (G : Heap) => ref_check (h.app G) 0 (wi n (-1000) 1000)
  simp only [Wea.av, Wea.sureP, Wea.perP] at hE hC ⊢
  by_cases hg : w.gate 0 (wi n (-1000) 1000) = 0
  · obtain ⟨hv, -, hi, hc⟩ := gate_ok hg
    have ho := w.valid_iff.1 hv
    simp only [hg, if_true] at hC ⊢
    refine (callFL_eq fn19 rfl (by simp [Tryd.f19])).trans ?_
    simp (maxSteps := 1000000) (implicitDefEqProofs := false) (disch := first | rfl | omega | assumption) only [go_sem, ↓reduceIte, Nat.reduceEqDiff, Nat.reduceAdd, Nat.reduceLeDiff, Nat.reduceBEq, Nat.reduceMul, Nat.reduceLT, Int.reduceLT, Int.reduceLE, Int.reduceToNat, Int.reduceNeg, Int.reduceEq, Int.reduceMul, reduceCtorEq, Int.reduceBEq, Int.reduceBNe, Int.reduceAdd, Int.reduceSub, ltT, ltF, leT, leF, s1]
    rw [chkK_of]; rotate_left; kernel_rfl
    simp (maxSteps := 1000000) (implicitDefEqProofs := false) (disch := first | rfl | omega | assumption) only [go_sem, ↓reduceIte, Nat.reduceEqDiff, Nat.reduceAdd, Nat.reduceLeDiff, Nat.reduceBEq, Nat.reduceMul, Nat.reduceLT, Int.reduceLT, Int.reduceLE, Int.reduceToNat, Int.reduceNeg, Int.reduceEq, Int.reduceMul, reduceCtorEq, Int.reduceBEq, Int.reduceBNe, Int.reduceAdd, Int.reduceSub, ltT, ltF, leT, leF, s1, hE, hC]
    exact rbelow_loop h ho hc n w.es.length 0 (by omega) [] _ (by rfl) (by rfl) (by rfl) (by rfl) (by rfl)
  · have hg' : ((w.gate 0 (wi n (-1000) 1000)) != 0) = true := bne_iff_ne.2 hg
    simp only [hg, if_false]
    refine (callFL_eq fn19 rfl (by simp [Tryd.f19])).trans ?_
    simp (maxSteps := 1000000) (implicitDefEqProofs := false) (disch := first | rfl | omega | assumption) only [go_sem, ↓reduceIte, Nat.reduceEqDiff, Nat.reduceAdd, Nat.reduceLeDiff, Nat.reduceBEq, Nat.reduceMul, Nat.reduceLT, Int.reduceLT, Int.reduceLE, Int.reduceToNat, Int.reduceNeg, Int.reduceEq, Int.reduceMul, reduceCtorEq, Int.reduceBEq, Int.reduceBNe, Int.reduceAdd, Int.reduceSub, ltT, ltF, leT, leF, s1]
    rw [chkK_of]; rotate_left; kernel_rfl
    simp (maxSteps := 1000000) (implicitDefEqProofs := false) (disch := first | rfl | omega | assumption) only [go_sem, ↓reduceIte, Nat.reduceEqDiff, Nat.reduceAdd, Nat.reduceLeDiff, Nat.reduceBEq, Nat.reduceMul, Nat.reduceLT, Int.reduceLT, Int.reduceLE, Int.reduceToNat, Int.reduceNeg, Int.reduceEq, Int.reduceMul, reduceCtorEq, Int.reduceBEq, Int.reduceBNe, Int.reduceAdd, Int.reduceSub, ltT, ltF, leT, leF, s1, hE, hC, hg']

end Go.Ab
/-
  The reference, walked: Lost.
-/
namespace Go.Ab
open Go.Proofs
set_option linter.unusedSimpArgs false
set_option linter.unusedVariables false
set_option maxRecDepth 100000

variable {H : Heap}

theorem rT0 {w : Wea} {x : Int} (hx : inP w.L x) (y : Int) : w.rT (inP (x, x)) 0 w.es.length y ↔ ∃ l, w.T l ∧ l 0 = x ∧ l w.es.length = y := by
  constructor
  · rintro ⟨k, h1, h2, h3⟩
    have e : k 0 = x := by simp only [inP] at h1; omega
    exact ⟨k, ⟨by rw [e]; exact hx, fun i hi => h2 i (by omega) (by omega)⟩, e, by rw [← h3, Nat.zero_add]⟩
  · rintro ⟨l, h, rfl, rfl⟩
    exact ⟨l, ⟨Int.le_refl _, Int.le_refl _⟩, fun j _ hj => h.2 j (by omega), by rw [Nat.zero_add]⟩

/-- What can be lost of those that are less at first than a number. -/
def Wea.lostTo (w : Wea) (x : Int) (b : Bool) (p : Int × Int) : Prop :=
  if b then hull (fun d => ∃ l, w.T l ∧ l 0 < x ∧ l 0 - l w.es.length = d) p else p = (0, 0) ∧ ∀ l, w.T l → ¬ l 0 < x

theorem lost_skip {w : Wea} {x : Int} {b : Bool} {p : Int × Int} (h : w.lostTo x b p) (hx : ∀ l, w.T l → l 0 ≠ x) : w.lostTo (x + 1) b p := by
  cases b
  · simp only [Wea.lostTo, Bool.false_eq_true, if_false] at h ⊢
    exact ⟨h.1, fun l hl => by have := h.2 l hl; have := hx l hl; omega⟩
  · simp only [Wea.lostTo, if_true] at h ⊢
    refine hull_cong (fun d => ?_) h
    exact ⟨fun ⟨l, h1, h2, h3⟩ => ⟨l, h1, by omega, h3⟩, fun ⟨l, h1, h2, h3⟩ => ⟨l, h1, by have := hx l h1; omega, h3⟩⟩

theorem lost_step {w : Wea} {x : Int} {b : Bool} {p X : Int × Int} (h : w.lostTo x b p) (hX : isSp (fun y => ∃ l, w.T l ∧ l 0 = x ∧ l w.es.length = y) X) :
    w.lostTo (x + 1) true (if b then (min p.1 (x - X.2), max p.2 (x - X.1)) else (x - X.2, x - X.1)) := by
  obtain ⟨la, a1, a2, a3⟩ := (hX.2 X.2).2 ⟨hX.1, Int.le_refl _⟩
  obtain ⟨lb, b1, b2, b3⟩ := (hX.2 X.1).2 ⟨Int.le_refl _, hX.1⟩
  have hin : ∀ l, w.T l → l 0 = x → X.1 ≤ l w.es.length ∧ l w.es.length ≤ X.2 := fun l h1 h2 => (hX.2 _).1 ⟨l, h1, h2, rfl⟩
  cases b
  · simp only [Wea.lostTo, Bool.false_eq_true, if_false, if_true] at h ⊢
    refine ⟨⟨la, a1, by omega, by simp only; omega⟩, ⟨lb, b1, by omega, by simp only; omega⟩, ?_⟩
    rintro d ⟨l, h1, h2, rfl⟩
    have := h.2 l h1
    have := hin l h1 (by omega)
    simp only [inP]
    omega
  · simp only [Wea.lostTo, if_true] at h ⊢
    obtain ⟨⟨lc, c1, c2, c3⟩, ⟨ld, d1, d2, d3⟩, h3⟩ := h
    refine ⟨?_, ?_, ?_⟩
    · by_cases hc : p.1 ≤ x - X.2
      · exact ⟨lc, c1, by omega, by simp only; omega⟩
      · exact ⟨la, a1, by omega, by simp only; omega⟩
    · by_cases hc : x - X.1 ≤ p.2
      · exact ⟨ld, d1, by omega, by simp only; omega⟩
      · exact ⟨lb, b1, by omega, by simp only; omega⟩
    · rintro d ⟨l, h1, h2, rfl⟩
      simp only [inP]
      by_cases hl : l 0 = x
      · have := hin l h1 hl
        omega
      · have := h3 _ ⟨l, h1, by omega, rfl⟩
        simp only [inP] at this
        omega

theorem lost_end {w : Wea} (hv : w.valid = true) (hc : w.can = true) {x : Int} (hx : w.lhi < x) {b : Bool} {p : Int × Int} (h : w.lostTo x b p) : p = w.lostP := by
  have hall : ∀ l, w.T l → l 0 < x := fun l hl => by have := hl.1; simp only [inP, Wea.L] at this; omega
  have hT := lostT hv hc
  cases b
  · simp only [Wea.lostTo, Bool.false_eq_true, if_false] at h
    obtain ⟨l, h1, -⟩ := hT.1
    exact absurd (hall l h1) (h.2 l h1)
  · simp only [Wea.lostTo, if_true] at h
    refine hull_uniq h (hull_cong (fun d => ?_) hT)
    exact ⟨fun ⟨l, h1, h2⟩ => ⟨l, h1, hall l h1, h2⟩, fun ⟨l, h1, _, h2⟩ => ⟨l, h1, h2⟩⟩

theorem rlost_loop {w : Wea} {ve : AV} (h : WeaAt H w ve) (hv : w.valid = true) (hcan : w.can = true) :
    ∀ (q j : Nat), j + q = (w.lhi - w.llo + 1).toNat → ∀ (out : Int × Int), ∀ (b : Bool), ∀ (G : Heap), w.lostTo (w.llo + j) b out → bd 100000 out → ∀ E : Env, E.get 1 = .ptr H.length 0 → E.get 2 = .ptr (H.length + 1) 0 → E.get 5 = .ptr (H.length + 2) 0 → E.get 6 = .bool b → E.get 7 = I (w.llo + j) →
    Option.map (finishC H.length) (execL cfg0 prog0 ⟨17, none, false, H.length⟩ (todoAt Tryd.f17 6) ⟨E, [], H ++ (.box (.agg [I w.llo, I w.lhi, I w.ulo, I w.uhi, ve]) :: .box (KV (0, 0)) :: .box (KV out) :: G), none⟩) = some ⟨.ret (.tup [KV w.lostP, I 0]), H, none⟩ := by
  intro q
  have ho := w.valid_iff.1 hv
  have h8 := ho.many
  have hlen := ho.len
  have s1 := h.es.scal
  have s2 := h.es.len
  rw [List.length_map] at s2
  have t1 := h.es.ltn 3
  have t2 := h.es.lt0
  have hmx : ∀ a c : Int, (if a < c then c else a) = max a c := by intro a c; split <;> omega
  have hmn : ∀ a c : Int, (if c < a then c else a) = min a c := by intro a c; split <;> omega
  induction q with
  | zero =>
    intro j hj out b G hI hob E g1 g2 g5 g6 g7
    have hk' : ¬ (j : Int) < (((w.lhi - w.llo + 1).toNat : Nat) : Int) := by omega
    have ej : w.llo + (j : Int) = w.lhi + 1 := by omega
    rw [ej] at hI g7
    simp only [loopIt, todoPast, todoAt, todoOf, firstReg, ↓reduceIte, Option.some.injEq, Nat.reduceEqDiff, reduceCtorEq, Tryd.f17]
    rw [execL_inLoop]
    have hk2 : ¬ w.lhi + 1 ≤ w.lhi := by omega
    have he := lost_end hv hcan (by omega) hI
    subst he
    simp (maxSteps := 1000000) (implicitDefEqProofs := false) (disch := first | rfl | omega | assumption) only [go_sem, ↓reduceIte, Nat.reduceEqDiff, Nat.reduceAdd, Nat.reduceLeDiff, Nat.reduceBEq, Nat.reduceMul, Nat.reduceLT, Int.reduceLT, Int.reduceLE, Int.reduceToNat, Int.reduceNeg, Int.reduceEq, Int.reduceMul, reduceCtorEq, Int.reduceBEq, Int.reduceBNe, Int.reduceAdd, Int.reduceSub, g1, g2, g5, g6, g7, ltT, ltF, leT, leF, hk', s1, s2, t1, hk2]
    done
  | succ q ih =>
    intro j hj out b G hI hob E g1 g2 g5 g6 g7
    have hk' : (j : Int) < (((w.lhi - w.llo + 1).toNat : Nat) : Int) := by omega
    have hk2 : j < (w.lhi - w.llo + 1).toNat := by omega
    obtain ⟨x, hx⟩ : ∃ x, w.llo + (j : Int) = x := ⟨_, rfl⟩
    have hx2 : w.llo + ((j + 1 : Nat) : Int) = x + 1 := by omega
    have hxs : w.llo ≤ x ∧ x ≤ w.lhi := by omega
    rw [hx] at hI g7
    have hin : inP w.L x := hxs
    have hE := fun G : Heap => ref_every (h.app G) ho
    have hR := fun G : Heap => ref_run (h.app G) ho w.ev1 (ev1_lt ho) (l := (x, x)) (by simp only [bd]; omega) (Nat.zero_le w.es.length) (Nat.le_refl _)
    have hT := tells_cong (rT0 hin) (runT ho (l := (x, x)) (i := 0) (q := w.es.length) (Int.le_refl _) (by omega))
    have hXb := runP_bd ho w.ev1 w.es.length 0 (by omega) (Int.le_refl _) (show bd 1000 (x, x) by simp only [bd]; omega)
    have hoo := hob
    simp only [Wea.av, Nat.sub_zero, Int.natCast_zero] at hE hR
    generalize w.runP w.ev1 (x, x) 0 w.es.length = X at hR hT hXb
    simp only [bd] at hXb hoo
    by_cases hc : X.1 ≤ X.2
    · have hc' : ¬ X.2 < X.1 := by omega
      have hst := lost_step hI (tells_sp hT ((tells_some hT (by omega)).1 hc))
      cases b
      · skip
        simp only [loopIt, todoPast, todoAt, todoOf, firstReg, ↓reduceIte, Option.some.injEq, Nat.reduceEqDiff, reduceCtorEq, Tryd.f17]
        rw [execL_inLoop]
        simp (maxSteps := 1000000) (implicitDefEqProofs := false) (disch := first | rfl | omega | assumption) only [go_sem, ↓reduceIte, Nat.reduceEqDiff, Nat.reduceAdd, Nat.reduceLeDiff, Nat.reduceBEq, Nat.reduceMul, Nat.reduceLT, Int.reduceLT, Int.reduceLE, Int.reduceToNat, Int.reduceNeg, Int.reduceEq, Int.reduceMul, reduceCtorEq, Int.reduceBEq, Int.reduceBNe, Int.reduceAdd, Int.reduceSub, g1, g2, g5, g6, g7, ltT, ltF, leT, leF, hk', s1, s2, t1, hE, hR, hc, hc', hxs.2]
        rw [chkK_of]; rotate_left; kernel_rfl
        simp (maxSteps := 1000000) (implicitDefEqProofs := false) (disch := first | rfl | omega | assumption) only [go_sem, ↓reduceIte, Nat.reduceEqDiff, Nat.reduceAdd, Nat.reduceLeDiff, Nat.reduceBEq, Nat.reduceMul, Nat.reduceLT, Int.reduceLT, Int.reduceLE, Int.reduceToNat, Int.reduceNeg, Int.reduceEq, Int.reduceMul, reduceCtorEq, Int.reduceBEq, Int.reduceBNe, Int.reduceAdd, Int.reduceSub, g1, g2, g5, g6, g7, ltT, ltF, leT, leF, hk', s1, s2, t1, hE, hR, hc, hc', hxs.2]
        exact ih (j + 1) (by omega) (x - X.2, x - X.1) true [.box (KV X), .box (KV (x - X.2, x - X.1))] (by rw [hx2]; exact hst) (by simp only [bd]; omega) _ (by rfl) (by rfl) (by rfl) (by rfl) (by rw [hx2]; rfl)
      · skip
        simp only [loopIt, todoPast, todoAt, todoOf, firstReg, ↓reduceIte, Option.some.injEq, Nat.reduceEqDiff, reduceCtorEq, Tryd.f17]
        rw [execL_inLoop]
        simp (maxSteps := 1000000) (implicitDefEqProofs := false) (disch := first | rfl | omega | assumption) only [go_sem, ↓reduceIte, Nat.reduceEqDiff, Nat.reduceAdd, Nat.reduceLeDiff, Nat.reduceBEq, Nat.reduceMul, Nat.reduceLT, Int.reduceLT, Int.reduceLE, Int.reduceToNat, Int.reduceNeg, Int.reduceEq, Int.reduceMul, reduceCtorEq, Int.reduceBEq, Int.reduceBNe, Int.reduceAdd, Int.reduceSub, g1, g2, g5, g6, g7, ltT, ltF, leT, leF, hk', s1, s2, t1, hE, hR, hc, hc', hxs.2, hmx, hmn]
        rw [chkK_of]; rotate_left; kernel_rfl
        simp (maxSteps := 1000000) (implicitDefEqProofs := false) (disch := first | rfl | omega | assumption) only [go_sem, ↓reduceIte, Nat.reduceEqDiff, Nat.reduceAdd, Nat.reduceLeDiff, Nat.reduceBEq, Nat.reduceMul, Nat.reduceLT, Int.reduceLT, Int.reduceLE, Int.reduceToNat, Int.reduceNeg, Int.reduceEq, Int.reduceMul, reduceCtorEq, Int.reduceBEq, Int.reduceBNe, Int.reduceAdd, Int.reduceSub, g1, g2, g5, g6, g7, ltT, ltF, leT, leF, hk', s1, s2, t1, hE, hR, hc, hc', hxs.2, hmx, hmn]
        exact ih (j + 1) (by omega) (min out.1 (x - X.2), max out.2 (x - X.1)) true [.box (KV X), .box (KV (min out.1 (x - X.2), max out.2 (x - X.1)))] (by rw [hx2]; exact hst) (by simp only [bd]; omega) _ (by rfl) (by rfl) (by rfl) (by rfl) (by rw [hx2]; rfl)
    · have hc' : X.2 < X.1 := by omega
      have hst := lost_skip hI (fun l h1 h2 => hc ((tells_some hT (by omega)).2 ⟨_, l, h1, h2, rfl⟩))
      simp only [loopIt, todoPast, todoAt, todoOf, firstReg, ↓reduceIte, Option.some.injEq, Nat.reduceEqDiff, reduceCtorEq, Tryd.f17]
      rw [execL_inLoop]
      simp (maxSteps := 1000000) (implicitDefEqProofs := false) (disch := first | rfl | omega | assumption) only [go_sem, ↓reduceIte, Nat.reduceEqDiff, Nat.reduceAdd, Nat.reduceLeDiff, Nat.reduceBEq, Nat.reduceMul, Nat.reduceLT, Int.reduceLT, Int.reduceLE, Int.reduceToNat, Int.reduceNeg, Int.reduceEq, Int.reduceMul, reduceCtorEq, Int.reduceBEq, Int.reduceBNe, Int.reduceAdd, Int.reduceSub, g1, g2, g5, g6, g7, ltT, ltF, leT, leF, hk', s1, s2, t1, hE, hR, hc, hc', hxs.2]
      rw [chkK_of]; rotate_left; kernel_rfl
      simp (maxSteps := 1000000) (implicitDefEqProofs := false) (disch := first | rfl | omega | assumption) only [go_sem, ↓reduceIte, Nat.reduceEqDiff, Nat.reduceAdd, Nat.reduceLeDiff, Nat.reduceBEq, Nat.reduceMul, Nat.reduceLT, Int.reduceLT, Int.reduceLE, Int.reduceToNat, Int.reduceNeg, Int.reduceEq, Int.reduceMul, reduceCtorEq, Int.reduceBEq, Int.reduceBNe, Int.reduceAdd, Int.reduceSub, g1, g2, g5, g6, g7, ltT, ltF, leT, leF, hk', s1, s2, t1, hE, hR, hc, hc', hxs.2]
      exact ih (j + 1) (by omega) out b [.box (KV X)] (by rw [hx2]; exact hst) hob _ (by rfl) (by rfl) (by rfl) (by rfl) (by rw [hx2]; rfl)

theorem ref_Lost {w : Wea} {ve : AV} (h : WeaAt H w ve) :
    callFL cfg0 prog0 false 17 [w.av ve] H none = some ⟨.ret (.tup [KV w.lostP, I (w.gate 0 true)]), H, none⟩ := by
  have s1 := h.es.scal
  have hC := fun (G : Heap) => ref_check (h.app G) 0 true
  have hav : w.av ve = .agg [I w.llo, I w.lhi, I w.ulo, I w.uhi, ve] := rfl
  simp only [hav] at hC ⊢
  by_cases hg : w.gate 0 true = 0
  · obtain ⟨hv, -, hi, hc⟩ := gate_ok hg
    have hlp := rlost_loop h hv hc (w.lhi - w.llo + 1).toNat 0 (by omega) (0, 0) false [] (by
      simp only [Wea.lostTo, Bool.false_eq_true, if_false]
      refine ⟨trivial, fun l hl => ?_⟩
      have := hl.1
      simp only [inP, Wea.L] at this
      omega) (by simp [bd])
    have e0 : w.llo + ((0 : Nat) : Int) = w.llo := by omega
    rw [e0] at hlp
    simp only [hg] at hC ⊢
    refine (callFL_eq fn17 rfl (by simp [Tryd.f17])).trans ?_
    simp (maxSteps := 1000000) (implicitDefEqProofs := false) (disch := first | rfl | omega | assumption) only [go_sem, ↓reduceIte, Nat.reduceEqDiff, Nat.reduceAdd, Nat.reduceLeDiff, Nat.reduceBEq, Nat.reduceMul, Nat.reduceLT, Int.reduceLT, Int.reduceLE, Int.reduceToNat, Int.reduceNeg, Int.reduceEq, Int.reduceMul, reduceCtorEq, Int.reduceBEq, Int.reduceBNe, Int.reduceAdd, Int.reduceSub, ltT, ltF, leT, leF, s1, hC]
    exact hlp _ (by rfl) (by rfl) (by rfl) (by rfl) (by rfl)
  · have hg' : ((w.gate 0 true) != 0) = true := bne_iff_ne.2 hg
    have hz : w.lostP = (0, 0) := by simp only [Wea.lostP, hg, if_false]
    rw [hz]
    refine (callFL_eq fn17 rfl (by simp [Tryd.f17])).trans ?_
    simp (maxSteps := 1000000) (implicitDefEqProofs := false) (disch := first | rfl | omega | assumption) only [go_sem, ↓reduceIte, Nat.reduceEqDiff, Nat.reduceAdd, Nat.reduceLeDiff, Nat.reduceBEq, Nat.reduceMul, Nat.reduceLT, Int.reduceLT, Int.reduceLE, Int.reduceToNat, Int.reduceNeg, Int.reduceEq, Int.reduceMul, reduceCtorEq, Int.reduceBEq, Int.reduceBNe, Int.reduceAdd, Int.reduceSub, ltT, ltF, leT, leF, s1, hC, hg']

end Go.Ab
/-
  The reference, walked: how many are in a set, and which readings clash.
-/
namespace Go.Ab
open Go.Proofs
set_option linter.unusedSimpArgs false
set_option linter.unusedVariables false
set_option maxRecDepth 100000

variable {H : Heap}

theorem size_loop (N R0 : Nat) (hN : N ≤ 40) :
    ∀ (q j : Nat), j + q = N → ∀ (s c : Nat), s < 2 ^ q → c + q ≤ N → c + popF q s = R0 → ∀ E : Env, E.get 0 = I s → E.get 3 = I c →
    Option.map (finishC H.length) (execL cfg0 prog0 ⟨37, none, false, H.length⟩ (todoAt Tryd.f37 2) ⟨E, [], H, none⟩) = some ⟨.ret (I R0), H, none⟩ := by
  intro q
  skip
  induction q with
  | zero =>
    intro j hj s c hs hcb hr E g0 g3
    have hk' : ¬ (j : Int) < ((N : Nat) : Int) := by omega
    have es : s = 0 := by simpa using hs
    subst es
    simp only [popF, Nat.add_zero] at hr
    subst hr
    simp only [loopIt, todoPast, todoAt, todoOf, firstReg, ↓reduceIte, Option.some.injEq, Nat.reduceEqDiff, reduceCtorEq, Tryd.f37]
    rw [execL_inLoop]
    simp (maxSteps := 1000000) (implicitDefEqProofs := false) (disch := first | rfl | omega | assumption) only [go_sem, ↓reduceIte, Nat.reduceEqDiff, Nat.reduceAdd, Nat.reduceLeDiff, Nat.reduceBEq, Nat.reduceMul, Nat.reduceLT, Int.reduceLT, Int.reduceLE, Int.reduceToNat, Int.reduceNeg, Int.reduceEq, Int.reduceMul, reduceCtorEq, Int.reduceBEq, Int.reduceBNe, Int.reduceAdd, Int.reduceSub, g0, g3, ltT, ltF, leT, leF, hk']
  | succ q ih =>
    intro j hj s c hs hcb hr E g0 g3
    have hk' : (j : Int) < ((N : Nat) : Int) := by omega
    have hk2 : j < N := by omega
    by_cases c0 : s = 0
    · subst c0
      rw [popF_zero, Nat.add_zero] at hr
      subst hr
      simp only [loopIt, todoPast, todoAt, todoOf, firstReg, ↓reduceIte, Option.some.injEq, Nat.reduceEqDiff, reduceCtorEq, Tryd.f37]
      rw [execL_inLoop]
      simp (maxSteps := 1000000) (implicitDefEqProofs := false) (disch := first | rfl | omega | assumption) only [go_sem, ↓reduceIte, Nat.reduceEqDiff, Nat.reduceAdd, Nat.reduceLeDiff, Nat.reduceBEq, Nat.reduceMul, Nat.reduceLT, Int.reduceLT, Int.reduceLE, Int.reduceToNat, Int.reduceNeg, Int.reduceEq, Int.reduceMul, reduceCtorEq, Int.reduceBEq, Int.reduceBNe, Int.reduceAdd, Int.reduceSub, g0, g3, ltT, ltF, leT, leF, hk']
    · have c1 : (0 : Int) < s := by omega
      have e1 : (s : Int).tmod 2 = ((s % 2 : Nat) : Int) := rfl
      have e2 : (s : Int).tdiv 2 = ((s / 2 : Nat) : Int) := rfl
      have e3 : (c : Int) + ((s % 2 : Nat) : Int) = ((c + s % 2 : Nat) : Int) := rfl
      have e4 : s / 2 < 2 ^ q := by rw [Nat.pow_succ] at hs; omega
      have e5 : s % 2 < 2 := Nat.mod_lt _ (by omega)
      have e6 : c + s % 2 + popF q (s / 2) = R0 := by rw [← hr, popF]; omega
      have e7 : s < 2 ^ 40 := Nat.lt_of_lt_of_le hs (Nat.pow_le_pow_right (by omega) (by omega))
      have w1 := wN (m := c + s % 2) (by omega)
      have w2 := wN (m := s / 2) (by omega)
      simp only [loopIt, todoPast, todoAt, todoOf, firstReg, ↓reduceIte, Option.some.injEq, Nat.reduceEqDiff, reduceCtorEq, Tryd.f37]
      rw [execL_inLoop]
      simp (maxSteps := 1000000) (implicitDefEqProofs := false) (disch := first | rfl | omega | assumption) only [go_sem, ↓reduceIte, Nat.reduceEqDiff, Nat.reduceAdd, Nat.reduceLeDiff, Nat.reduceBEq, Nat.reduceMul, Nat.reduceLT, Int.reduceLT, Int.reduceLE, Int.reduceToNat, Int.reduceNeg, Int.reduceEq, Int.reduceMul, reduceCtorEq, Int.reduceBEq, Int.reduceBNe, Int.reduceAdd, Int.reduceSub, g0, g3, ltT, ltF, leT, leF, hk', c1, e1, e2, e3, w1, w2]
      exact ih (j + 1) (by omega) (s / 2) (c + s % 2) e4 (by omega) e6 _ (by rfl) (by rfl)

theorem ref_Size {s : Nat} (hs : s < 2 ^ 20) : callFL cfg0 prog0 false 37 [I s] H none = some ⟨.ret (I (pop s)), H, none⟩ := by
  have h := @size_loop H 20 (pop s) (by omega) 20 0 (by omega) s 0 hs (by omega) (by simp only [pop]; omega)
  refine (callFL_eq fn37 rfl (by simp [Tryd.f37])).trans ?_
  simp (maxSteps := 1000000) (implicitDefEqProofs := false) (disch := first | rfl | omega | assumption) only [go_sem, ↓reduceIte, Nat.reduceEqDiff, Nat.reduceAdd, Nat.reduceLeDiff, Nat.reduceBEq, Nat.reduceMul, Nat.reduceLT, Int.reduceLT, Int.reduceLE, Int.reduceToNat, Int.reduceNeg, Int.reduceEq, Int.reduceMul, reduceCtorEq, Int.reduceBEq, Int.reduceBNe, Int.reduceAdd, Int.reduceSub, ltT, ltF, leT, leF]
  exact h _ (by rfl) (by rfl)

/-- Whether a run ends: whether there is a truth. -/
theorem canR_s {w : Wea} (ho : w.Ok) (s : Nat) : decide ((w.runP s w.L 0 w.es.length).1 ≤ (w.runP s w.L 0 w.es.length).2) = w.canB s w.L := by
  have hr := run_tells ho s w.es.length 0 (inP w.L) w.L (by omega) (.inl ⟨L_ok ho, fun _ => Iff.rfl⟩)
  rw [Bool.eq_iff_iff, decide_eq_true_eq, tells_some hr (by omega), canB_iff ho s (L_ok ho)]
  constructor
  · rintro ⟨y, k, h1, h2, h3⟩
    exact ⟨k, h1, fun i hi => h2 i (by omega) (by omega)⟩
  · rintro ⟨l, h1, h2⟩
    exact ⟨_, l, h1, fun i _ hi => h2 i (by omega), rfl⟩

theorem subP_iff {w : Wea} {s : Nat} (hs : s < 2 ^ w.es.length) : subP w.rd s = true ↔ ∀ i, i < w.es.length → s.testBit i = true → (w.ev i).k = 1 := by
  have e : subP w.rd s = true ↔ diffN s w.rd = 0 := by simp [subP]
  rw [e]
  constructor
  · intro h i hi hb
    have := diffN_bit s w.rd i
    rw [h, Nat.zero_testBit, hb, rd_bit] at this
    by_cases hk : (w.ev i).k = 1
    · exact hk
    · simp only [hi, hk, decide_true, decide_false, Bool.true_and, Bool.not_false] at this
      cases this
  · intro h
    refine Nat.eq_of_testBit_eq fun i => ?_
    rw [diffN_bit, Nat.zero_testBit, rd_bit]
    cases hb : s.testBit i
    · rfl
    · by_cases hi : i < w.es.length
      · have hk := h i hi hb
        simp only [hi, hk, decide_true, Bool.and_self, Bool.not_true, Bool.and_false]
      · rw [Nat.testBit_lt_two_pow (Nat.lt_of_lt_of_le hs (Nat.pow_le_pow_right (by omega) (by omega)))] at hb
        cases hb

theorem clrd_loop {w : Wea} {ve : AV} (h : WeaAt H w ve) (h8 : w.es.length ≤ 8) (s : Nat) (hs : s < 2 ^ w.es.length) (x : Int) (K : List Item) (R : Option Done) (hK : ∀ E : Env, E.get 1 = .ptr H.length 0 → E.get 4 = I x → E.get 5 = I s → E.get 6 = .bool (subP w.rd s) → Option.map (finishC H.length) (execL cfg0 prog0 ⟨27, none, false, H.length⟩ K ⟨E, [], H ++ [.box (.agg [I w.llo, I w.lhi, I w.ulo, I w.uhi, ve])], none⟩) = R)  :
    ∀ (q j : Nat), j + q = w.es.length → ∀ (b : Bool), (b = true ↔ ∀ i, i < j → s.testBit i = true → (w.ev i).k = 1) → ∀ E : Env, E.get 1 = .ptr H.length 0 → E.get 4 = I x → E.get 5 = I s → E.get 6 = .bool b → E.get 7 = I j →
    Option.map (finishC H.length) (execL cfg0 prog0 ⟨27, none, false, H.length⟩ (loopIt Tryd.f27 11 :: .inBlock 2 :: K) ⟨E, [], H ++ [.box (.agg [I w.llo, I w.lhi, I w.ulo, I w.uhi, ve])], none⟩) = R := by
  intro q
  have s1 := h.es.scal
  have s2 := h.es.len
  rw [List.length_map] at s2
  obtain ⟨a1, a2, a3, a4, a5⟩ := h.es.fA (d := ev0)
  have p8 := pow_le h8
  induction q with
  | zero =>
    intro j hj b hb E g1 g4 g5 g6 g7
    have hk' : ¬ (j : Int) < ((w.es.length : Nat) : Int) := by omega
    have ej : j = w.es.length := by omega
    subst ej
    have eb : b = subP w.rd s := by rw [Bool.eq_iff_iff, hb, subP_iff hs]
    subst eb
    simp only [loopIt, todoPast, todoAt, todoOf, firstReg, ↓reduceIte, Option.some.injEq, Nat.reduceEqDiff, reduceCtorEq, Tryd.f27]
    rw [execL_inLoop]
    simp (maxSteps := 1000000) (implicitDefEqProofs := false) (disch := first | rfl | omega | assumption) only [go_sem, ↓reduceIte, Nat.reduceEqDiff, Nat.reduceAdd, Nat.reduceLeDiff, Nat.reduceBEq, Nat.reduceMul, Nat.reduceLT, Int.reduceLT, Int.reduceLE, Int.reduceToNat, Int.reduceNeg, Int.reduceEq, Int.reduceMul, reduceCtorEq, Int.reduceBEq, Int.reduceBNe, Int.reduceAdd, Int.reduceSub, g1, g4, g5, g6, g7, ltT, ltF, leT, leF, hk', s1, s2]
    exact hK _ (by exact g1) (by exact g4) (by exact g5) (by exact g6)
  | succ q ih =>
    intro j hj b hb E g1 g4 g5 g6 g7
    have hk' : (j : Int) < ((w.es.length : Nat) : Int) := by omega
    have hk2 : j < w.es.length := by omega
    have hH := fun G : Heap => ref_Has (s := s) (show s < 2 ^ 60 by omega) (show j ≤ 60 by omega) G
    have hr := fun e : Ev => (show readPart e.av.cells 0 ⟨.int .i64, 1, 8, some (.int .i64 0)⟩ = some (I e.k) from rfl)
    have key : ∀ b' : Bool, (b' = true ↔ b = true ∧ (s.testBit j = true → (w.ev j).k = 1)) → (b' = true ↔ ∀ i, i < j + 1 → s.testBit i = true → (w.ev i).k = 1) := by
      intro b' hb'
      rw [hb', hb]
      constructor
      · rintro ⟨h1, h2⟩ i hi
        by_cases hij : i = j
        · subst hij; exact h2
        · exact h1 i (by omega)
      · intro h1
        exact ⟨fun i hi => h1 i (by omega), h1 j (by omega)⟩
    cases b
    · skip
      simp only [loopIt, todoPast, todoAt, todoOf, firstReg, ↓reduceIte, Option.some.injEq, Nat.reduceEqDiff, reduceCtorEq, Tryd.f27]
      rw [execL_inLoop]
      simp (maxSteps := 1000000) (implicitDefEqProofs := false) (disch := first | rfl | omega | assumption) only [go_sem, ↓reduceIte, Nat.reduceEqDiff, Nat.reduceAdd, Nat.reduceLeDiff, Nat.reduceBEq, Nat.reduceMul, Nat.reduceLT, Int.reduceLT, Int.reduceLE, Int.reduceToNat, Int.reduceNeg, Int.reduceEq, Int.reduceMul, reduceCtorEq, Int.reduceBEq, Int.reduceBNe, Int.reduceAdd, Int.reduceSub, g1, g4, g5, g6, g7, ltT, ltF, leT, leF, hk', s1, s2]
      exact ih (j + 1) (by omega) false (key _ (by simp)) _ (by exact g1) (by exact g4) (by exact g5) (by rfl) (by rfl)
    · cases ht : s.testBit j
      · rw [ht] at hH key
        simp only [loopIt, todoPast, todoAt, todoOf, firstReg, ↓reduceIte, Option.some.injEq, Nat.reduceEqDiff, reduceCtorEq, Tryd.f27]
        rw [execL_inLoop]
        simp (maxSteps := 1000000) (implicitDefEqProofs := false) (disch := first | rfl | omega | assumption) only [go_sem, ↓reduceIte, Nat.reduceEqDiff, Nat.reduceAdd, Nat.reduceLeDiff, Nat.reduceBEq, Nat.reduceMul, Nat.reduceLT, Int.reduceLT, Int.reduceLE, Int.reduceToNat, Int.reduceNeg, Int.reduceEq, Int.reduceMul, reduceCtorEq, Int.reduceBEq, Int.reduceBNe, Int.reduceAdd, Int.reduceSub, g1, g4, g5, g6, g7, ltT, ltF, leT, leF, hk', s1, s2, hH]
        exact ih (j + 1) (by omega) true (key _ (by simp)) _ (by exact g1) (by exact g4) (by exact g5) (by rfl) (by rfl)
      · rw [ht] at hH key
        by_cases hk1 : (w.ev j).k = 1
        · have z : ((w.es.getD j ev0).k == 1) = true := by simpa using hk1
          simp only [loopIt, todoPast, todoAt, todoOf, firstReg, ↓reduceIte, Option.some.injEq, Nat.reduceEqDiff, reduceCtorEq, Tryd.f27]
          rw [execL_inLoop]
          simp (maxSteps := 1000000) (implicitDefEqProofs := false) (disch := first | rfl | omega | assumption) only [go_sem, ↓reduceIte, Nat.reduceEqDiff, Nat.reduceAdd, Nat.reduceLeDiff, Nat.reduceBEq, Nat.reduceMul, Nat.reduceLT, Int.reduceLT, Int.reduceLE, Int.reduceToNat, Int.reduceNeg, Int.reduceEq, Int.reduceMul, reduceCtorEq, Int.reduceBEq, Int.reduceBNe, Int.reduceAdd, Int.reduceSub, g1, g4, g5, g6, g7, ltT, ltF, leT, leF, hk', s1, s2, hH, a1, a2, a3, a4, a5, hr, z]
          exact ih (j + 1) (by omega) true (key true ⟨fun _ => ⟨rfl, fun _ => hk1⟩, fun _ => rfl⟩) _ (by exact g1) (by exact g4) (by exact g5) (by rfl) (by rfl)
        · have z : ((w.es.getD j ev0).k == 1) = false := by simpa using hk1
          simp only [loopIt, todoPast, todoAt, todoOf, firstReg, ↓reduceIte, Option.some.injEq, Nat.reduceEqDiff, reduceCtorEq, Tryd.f27]
          rw [execL_inLoop]
          simp (maxSteps := 1000000) (implicitDefEqProofs := false) (disch := first | rfl | omega | assumption) only [go_sem, ↓reduceIte, Nat.reduceEqDiff, Nat.reduceAdd, Nat.reduceLeDiff, Nat.reduceBEq, Nat.reduceMul, Nat.reduceLT, Int.reduceLT, Int.reduceLE, Int.reduceToNat, Int.reduceNeg, Int.reduceEq, Int.reduceMul, reduceCtorEq, Int.reduceBEq, Int.reduceBNe, Int.reduceAdd, Int.reduceSub, g1, g4, g5, g6, g7, ltT, ltF, leT, leF, hk', s1, s2, hH, a1, a2, a3, a4, a5, hr, z]
          exact ih (j + 1) (by omega) false (key false ⟨(fun h => by cases h), fun h => absurd (h.2 rfl) hk1⟩) _ (by exact g1) (by exact g4) (by exact g5) (by rfl) (by rfl)

/-- The best one so far. -/
def Wea.bestTo (w : Wea) (j : Nat) (x : Int) : Prop := (x = -1 ∧ ∀ t, t < j → ¬ w.Bad t) ∨ ∃ s : Nat, x = (s : Int) ∧ s < j ∧ w.Bad s ∧ ∀ t, t < j → w.Bad t → t = s ∨ lx popK s t

theorem best_skip {w : Wea} {j : Nat} {x : Int} (h : w.bestTo j x) (hj : ¬ w.Bad j) : w.bestTo (j + 1) x := by
  rcases h with ⟨h1, h2⟩ | ⟨s, h1, h2, h3, h4⟩
  · exact .inl ⟨h1, fun t ht hb => by
      by_cases e : t = j
      · subst e; exact hj hb
      · exact h2 t (by omega) hb⟩
  · exact .inr ⟨s, h1, by omega, h3, fun t ht hb => by
      by_cases e : t = j
      · subst e; exact absurd hb hj
      · exact h4 t (by omega) hb⟩

theorem best_more {w : Wea} {j s : Nat} (h : w.bestTo j (s : Int)) (hj : w.Bad j) : w.bestTo (j + 1) (if pop j < pop s then (j : Int) else s) := by
  rcases h with ⟨h1, h2⟩ | ⟨s', h1, h2, h3, h4⟩
  · omega
  · obtain rfl : s = s' := by omega
    by_cases c : pop j < pop s
    · rw [if_pos c]
      have hjs : lx popK j s := .inl (by simp only [popK]; omega)
      refine .inr ⟨j, rfl, by omega, hj, fun t ht hb => ?_⟩
      by_cases e : t = j
      · exact .inl e
      · rcases h4 t (by omega) hb with rfl | g
        · exact .inr hjs
        · exact .inr (lx_trans hjs g)
    · rw [if_neg c]
      refine .inr ⟨s, rfl, by omega, h3, fun t ht hb => ?_⟩
      by_cases e : t = j
      · subst e
        refine .inr ?_
        by_cases e2 : pop s = pop t
        · exact .inr ⟨by simp only [popK, e2], by omega⟩
        · exact .inl (by simp only [popK]; omega)
      · exact h4 t (by omega) hb

theorem best_first {w : Wea} {j : Nat} {x : Int} (h : w.bestTo j x) (hx : x < 0) (hj : w.Bad j) : w.bestTo (j + 1) (j : Int) := by
  rcases h with ⟨h1, h2⟩ | ⟨s', h1, h2, h3, h4⟩
  · refine .inr ⟨j, rfl, by omega, hj, fun t ht hb => ?_⟩
    by_cases e : t = j
    · exact .inl e
    · exact absurd hb (h2 t (by omega))
  · omega

theorem best_end {w : Wea} (hc : w.can = false) {x : Int} (h : w.bestTo (2 ^ w.es.length) x) : x = (w.cs : Int) := by
  have hb := cs_bad hc
  rcases h with ⟨h1, h2⟩ | ⟨s, h1, h2, h3, h4⟩
  · exact absurd hb (h2 _ hb.1)
  · rw [h1, cs_uniq hc h3 fun t ht => h4 t ht.1 ht]

theorem best_bd {w : Wea} (h8 : w.es.length ≤ 8) {j : Nat} (hj : j ≤ 2 ^ w.es.length) {x : Int} (h : w.bestTo j x) : x = -1 ∨ ∃ s : Nat, x = s ∧ s < 256 := by
  have p8 := pow_le h8
  rcases h with ⟨h1, h2⟩ | ⟨s, h1, h2, h3, h4⟩
  · exact .inl h1
  · exact .inr ⟨s, h1, by omega⟩

theorem rclash_loop {w : Wea} {ve : AV} (h : WeaAt H w ve) (ho : w.Ok) (hcan : w.can = false) :
    ∀ (q j : Nat), j + q = 2 ^ w.es.length → ∀ (x : Int), w.bestTo j x → ∀ E : Env, E.get 1 = .ptr H.length 0 → E.get 4 = I x → E.get 5 = I j →
    Option.map (finishC H.length) (execL cfg0 prog0 ⟨27, none, false, H.length⟩ (todoAt Tryd.f27 7) ⟨E, [], H ++ [.box (.agg [I w.llo, I w.lhi, I w.ulo, I w.uhi, ve])], none⟩) = some ⟨.ret (.tup [I w.cs, I 0]), H, none⟩ := by
  intro q
  have h8 := ho.many
  have s1 := h.es.scal
  have s2 := h.es.len
  rw [List.length_map] at s2
  have t1 := h.es.ltn 1
  have t2 := h.es.lt0
  have p8 := pow_le h8
  have pp := Nat.two_pow_pos w.es.length
  have hE := fun G : Heap => ref_every (h.app G) ho
  have hev : (w.ev1 : Int) = ((2 ^ w.es.length : Nat) : Int) - 1 := by simp only [Wea.ev1]; omega
  simp only [Wea.av] at hE
  induction q with
  | zero =>
    intro j hj x hI E g1 g4 g5
    have hk' : ¬ (j : Int) < ((2 ^ w.es.length : Nat) : Int) := by omega
    have ej : j = 2 ^ w.es.length := by omega
    subst ej
    have hx := best_end hcan hI
    subst hx
    simp only [loopIt, todoPast, todoAt, todoOf, firstReg, ↓reduceIte, Option.some.injEq, Nat.reduceEqDiff, reduceCtorEq, Tryd.f27]
    rw [execL_inLoop]
    have c1 : ¬ ((2 ^ w.es.length : Nat) : Int) ≤ w.ev1 := by omega
    simp (maxSteps := 1000000) (implicitDefEqProofs := false) (disch := first | rfl | omega | assumption) only [go_sem, ↓reduceIte, Nat.reduceEqDiff, Nat.reduceAdd, Nat.reduceLeDiff, Nat.reduceBEq, Nat.reduceMul, Nat.reduceLT, Int.reduceLT, Int.reduceLE, Int.reduceToNat, Int.reduceNeg, Int.reduceEq, Int.reduceMul, reduceCtorEq, Int.reduceBEq, Int.reduceBNe, Int.reduceAdd, Int.reduceSub, g1, g4, g5, ltT, ltF, leT, leF, hk', s1, s2, t1, hE, c1]
    done
  | succ q ih =>
    intro j hj x hI E g1 g4 g5
    have hk' : (j : Int) < ((2 ^ w.es.length : Nat) : Int) := by omega
    have hk2 : j < 2 ^ w.es.length := by omega
    have c1 : (j : Int) ≤ w.ev1 := by omega
    have hC := fun G : Heap => ref_can (h.app G) ho j (by omega) (L_bd5 ho)
    simp only [canR_s ho, Wea.av] at hC
    have hbd : w.Bad j ↔ subP w.rd j = true ∧ w.canB j w.L = false := ⟨fun h => h.2, fun h => ⟨hk2, h⟩⟩
    have hb := best_bd h8 (by omega) hI
    have hz1 := fun G : Heap => ref_Size (H := G) (show j < 2 ^ 20 by omega)
    simp only [loopIt, todoPast, todoAt, todoOf, firstReg, ↓reduceIte, Option.some.injEq, Nat.reduceEqDiff, reduceCtorEq, Tryd.f27]
    rw [execL_inLoop]
    simp (maxSteps := 1000000) (implicitDefEqProofs := false) (disch := first | rfl | omega | assumption) only [go_sem, ↓reduceIte, Nat.reduceEqDiff, Nat.reduceAdd, Nat.reduceLeDiff, Nat.reduceBEq, Nat.reduceMul, Nat.reduceLT, Int.reduceLT, Int.reduceLE, Int.reduceToNat, Int.reduceNeg, Int.reduceEq, Int.reduceMul, reduceCtorEq, Int.reduceBEq, Int.reduceBNe, Int.reduceAdd, Int.reduceSub, g1, g4, g5, ltT, ltF, leT, leF, hk', s1, s2, hE, c1]
    refine clrd_loop h h8 j hk2 x _ _ (fun E g1 g4 g5 g6 => ?_) w.es.length 0 (by omega) true (by simp) _ (by exact g1) (by exact g4) (by exact g5) (by rfl) (by rfl)
    cases d1 : subP w.rd j
    · rw [d1] at g6
      simp (maxSteps := 1000000) (implicitDefEqProofs := false) (disch := first | rfl | omega | assumption) only [go_sem, ↓reduceIte, Nat.reduceEqDiff, Nat.reduceAdd, Nat.reduceLeDiff, Nat.reduceBEq, Nat.reduceMul, Nat.reduceLT, Int.reduceLT, Int.reduceLE, Int.reduceToNat, Int.reduceNeg, Int.reduceEq, Int.reduceMul, reduceCtorEq, Int.reduceBEq, Int.reduceBNe, Int.reduceAdd, Int.reduceSub, g1, g4, g5, ltT, ltF, leT, leF, hk', s1, s2, g1, g4, g5, g6]
      exact ih (j + 1) (by omega) x (best_skip hI (by rw [hbd, d1]; simp)) _ (by exact g1) (by exact g4) (by rfl)
    · rw [d1] at g6
      cases d2 : w.canB j w.L
      rotate_left
      · rw [d2] at hC
        simp (maxSteps := 1000000) (implicitDefEqProofs := false) (disch := first | rfl | omega | assumption) only [go_sem, ↓reduceIte, Nat.reduceEqDiff, Nat.reduceAdd, Nat.reduceLeDiff, Nat.reduceBEq, Nat.reduceMul, Nat.reduceLT, Int.reduceLT, Int.reduceLE, Int.reduceToNat, Int.reduceNeg, Int.reduceEq, Int.reduceMul, reduceCtorEq, Int.reduceBEq, Int.reduceBNe, Int.reduceAdd, Int.reduceSub, g1, g4, g5, ltT, ltF, leT, leF, hk', s1, s2, g1, g4, g5, g6, hC]
        exact ih (j + 1) (by omega) x (best_skip hI (by rw [hbd, d2]; simp)) _ (by exact g1) (by exact g4) (by rfl)
      · rw [d2] at hC
        have hB := hbd.2 ⟨d1, d2⟩
        rcases hb with rfl | ⟨s, rfl, hs⟩
        · simp (maxSteps := 1000000) (implicitDefEqProofs := false) (disch := first | rfl | omega | assumption) only [go_sem, ↓reduceIte, Nat.reduceEqDiff, Nat.reduceAdd, Nat.reduceLeDiff, Nat.reduceBEq, Nat.reduceMul, Nat.reduceLT, Int.reduceLT, Int.reduceLE, Int.reduceToNat, Int.reduceNeg, Int.reduceEq, Int.reduceMul, reduceCtorEq, Int.reduceBEq, Int.reduceBNe, Int.reduceAdd, Int.reduceSub, g1, g4, g5, ltT, ltF, leT, leF, hk', s1, s2, g1, g4, g5, g6, hC]
          exact ih (j + 1) (by omega) _ (best_first hI (by omega) hB) _ (by exact g1) (by rfl) (by rfl)
        · have hz2 := fun G : Heap => ref_Size (H := G) (show s < 2 ^ 20 by omega)
          have hm := best_more hI hB
          by_cases c2 : pop j < pop s
          · rw [if_pos c2] at hm
            have c2' : (pop j : Int) < pop s := by omega
            simp (maxSteps := 1000000) (implicitDefEqProofs := false) (disch := first | rfl | omega | assumption) only [go_sem, ↓reduceIte, Nat.reduceEqDiff, Nat.reduceAdd, Nat.reduceLeDiff, Nat.reduceBEq, Nat.reduceMul, Nat.reduceLT, Int.reduceLT, Int.reduceLE, Int.reduceToNat, Int.reduceNeg, Int.reduceEq, Int.reduceMul, reduceCtorEq, Int.reduceBEq, Int.reduceBNe, Int.reduceAdd, Int.reduceSub, g1, g4, g5, ltT, ltF, leT, leF, hk', s1, s2, g1, g4, g5, g6, hC, hz1, hz2, c2']
            exact ih (j + 1) (by omega) _ hm _ (by exact g1) (by rfl) (by rfl)
          · rw [if_neg c2] at hm
            have c2' : ¬ (pop j : Int) < pop s := by omega
            simp (maxSteps := 1000000) (implicitDefEqProofs := false) (disch := first | rfl | omega | assumption) only [go_sem, ↓reduceIte, Nat.reduceEqDiff, Nat.reduceAdd, Nat.reduceLeDiff, Nat.reduceBEq, Nat.reduceMul, Nat.reduceLT, Int.reduceLT, Int.reduceLE, Int.reduceToNat, Int.reduceNeg, Int.reduceEq, Int.reduceMul, reduceCtorEq, Int.reduceBEq, Int.reduceBNe, Int.reduceAdd, Int.reduceSub, g1, g4, g5, ltT, ltF, leT, leF, hk', s1, s2, g1, g4, g5, g6, hC, hz1, hz2, c2']
            exact ih (j + 1) (by omega) _ hm _ (by exact g1) (by exact g4) (by rfl)

theorem ref_Clash {w : Wea} {ve : AV} (h : WeaAt H w ve) :
    callFL cfg0 prog0 false 27 [w.av ve] H none = some ⟨.ret (.tup [I w.clA.1, I w.clA.2]), H, none⟩ := by
  have s1 := h.es.scal
  have hV := fun G : Heap => ref_Wear (h.app G)
  have hav : w.av ve = .agg [I w.llo, I w.lhi, I w.ulo, I w.uhi, ve] := rfl
  simp only [Wea.clA, hav] at hV ⊢
  rcases Bool.eq_false_or_eq_true w.valid with hv | hv
  rotate_left
  · simp only [hv, Bool.false_eq_true, if_false] at hV ⊢
    refine (callFL_eq fn27 rfl (by simp [Tryd.f27])).trans ?_
    simp (maxSteps := 1000000) (implicitDefEqProofs := false) (disch := first | rfl | omega | assumption) only [go_sem, ↓reduceIte, Nat.reduceEqDiff, Nat.reduceAdd, Nat.reduceLeDiff, Nat.reduceBEq, Nat.reduceMul, Nat.reduceLT, Int.reduceLT, Int.reduceLE, Int.reduceToNat, Int.reduceNeg, Int.reduceEq, Int.reduceMul, reduceCtorEq, Int.reduceBEq, Int.reduceBNe, Int.reduceAdd, Int.reduceSub, ltT, ltF, leT, leF, s1, hV]
    done
  · have ho := w.valid_iff.1 hv
    have hE := fun G : Heap => ref_every (h.app G) ho
    have hC := fun G : Heap => ref_can (h.app G) ho w.ev1 (ev1_lt ho) (L_bd5 ho)
    simp only [canR ho, hav, Wea.L] at hE hC
    simp only [hv, if_true] at hV ⊢
    cases hc : w.can
    · rw [hc] at hC
      simp only [Bool.false_eq_true, if_false]
      refine (callFL_eq fn27 rfl (by simp [Tryd.f27])).trans ?_
      simp (maxSteps := 1000000) (implicitDefEqProofs := false) (disch := first | rfl | omega | assumption) only [go_sem, ↓reduceIte, Nat.reduceEqDiff, Nat.reduceAdd, Nat.reduceLeDiff, Nat.reduceBEq, Nat.reduceMul, Nat.reduceLT, Int.reduceLT, Int.reduceLE, Int.reduceToNat, Int.reduceNeg, Int.reduceEq, Int.reduceMul, reduceCtorEq, Int.reduceBEq, Int.reduceBNe, Int.reduceAdd, Int.reduceSub, ltT, ltF, leT, leF, s1, hV]
      rw [chkK_of]; rotate_left; kernel_rfl
      simp (maxSteps := 1000000) (implicitDefEqProofs := false) (disch := first | rfl | omega | assumption) only [go_sem, ↓reduceIte, Nat.reduceEqDiff, Nat.reduceAdd, Nat.reduceLeDiff, Nat.reduceBEq, Nat.reduceMul, Nat.reduceLT, Int.reduceLT, Int.reduceLE, Int.reduceToNat, Int.reduceNeg, Int.reduceEq, Int.reduceMul, reduceCtorEq, Int.reduceBEq, Int.reduceBNe, Int.reduceAdd, Int.reduceSub, ltT, ltF, leT, leF, s1, hV, hE, hC]
      exact rclash_loop h ho hc (2 ^ w.es.length) 0 (by omega) (-1) (.inl ⟨rfl, fun t ht => by omega⟩) _ (by rfl) (by rfl) (by rfl)
    · rw [hc] at hC
      simp only [if_true]
      refine (callFL_eq fn27 rfl (by simp [Tryd.f27])).trans ?_
      simp (maxSteps := 1000000) (implicitDefEqProofs := false) (disch := first | rfl | omega | assumption) only [go_sem, ↓reduceIte, Nat.reduceEqDiff, Nat.reduceAdd, Nat.reduceLeDiff, Nat.reduceBEq, Nat.reduceMul, Nat.reduceLT, Int.reduceLT, Int.reduceLE, Int.reduceToNat, Int.reduceNeg, Int.reduceEq, Int.reduceMul, reduceCtorEq, Int.reduceBEq, Int.reduceBNe, Int.reduceAdd, Int.reduceSub, ltT, ltF, leT, leF, s1, hV]
      rw [chkK_of]; rotate_left; kernel_rfl
      simp (maxSteps := 1000000) (implicitDefEqProofs := false) (disch := first | rfl | omega | assumption) only [go_sem, ↓reduceIte, Nat.reduceEqDiff, Nat.reduceAdd, Nat.reduceLeDiff, Nat.reduceBEq, Nat.reduceMul, Nat.reduceLT, Int.reduceLT, Int.reduceLE, Int.reduceToNat, Int.reduceNeg, Int.reduceEq, Int.reduceMul, reduceCtorEq, Int.reduceBEq, Int.reduceBNe, Int.reduceAdd, Int.reduceSub, ltT, ltF, leT, leF, s1, hV, hE, hC]
      done

end Go.Ab
/-
  Which readings clash: plain. The events of a set alone.
-/
namespace Go.Ab
open Go.Proofs
set_option linter.unusedSimpArgs false
set_option linter.unusedVariables false
set_option maxRecDepth 100000

/-- From one length to another one, through some events. -/
def chain : List EvZ → Int → Int → Prop
  | [], x, y => y = x
  | e :: r, x, y => ∃ z, e.go x z ∧ chain r z y

theorem chain_app : ∀ (a b : List EvZ) (x y : Int), chain (a ++ b) x y ↔ ∃ z, chain a x z ∧ chain b z y
  | [], b, x, y => by
    simp only [List.nil_append, chain]
    exact ⟨fun h => ⟨x, rfl, h⟩, fun ⟨z, h1, h2⟩ => h1 ▸ h2⟩
  | e :: r, b, x, y => by
    simp only [List.cons_append, chain, chain_app r b]
    exact ⟨fun ⟨z, h1, u, h2, h3⟩ => ⟨u, ⟨z, h1, h2⟩, h3⟩, fun ⟨u, ⟨z, h1, h2⟩, h3⟩ => ⟨z, h1, u, h2, h3⟩⟩

theorem chain_one (e : EvZ) (x y : Int) : chain [e] x y ↔ e.go x y := by
  simp only [chain]
  exact ⟨fun ⟨z, h1, h2⟩ => h2 ▸ h1, fun h => ⟨y, h, rfl⟩⟩

/-- The events, by the readings of a set. -/
def Wea.zs (w : Wea) (r : Nat) (n : Nat) : List EvZ := (List.range n).map (w.evz r)

theorem zs_succ (w : Wea) (r n : Nat) : w.zs r (n + 1) = w.zs r n ++ [w.evz r n] := by simp [Wea.zs, List.range_succ]

theorem zs_chain (w : Wea) (r : Nat) : ∀ (n : Nat) (x y : Int), chain (w.zs r n) x y ↔ ∃ l : Nat → Int, l 0 = x ∧ (∀ i, i < n → (w.evz r i).go (l i) (l (i + 1))) ∧ l n = y
  | 0, x, y => by
    simp only [Wea.zs, List.range_zero, List.map_nil, chain]
    exact ⟨fun h => ⟨fun _ => x, rfl, by omega, h.symm⟩, fun ⟨l, h1, _, h3⟩ => by rw [← h1, ← h3]⟩
  | n + 1, x, y => by
    rw [zs_succ, chain_app]
    constructor
    · rintro ⟨z, h1, h2⟩
      rw [chain_one] at h2
      obtain ⟨l, a, b, c⟩ := (zs_chain w r n x z).1 h1
      refine ⟨fun i => if i ≤ n then l i else y, by simpa using a, fun i hi => ?_, by simp [show ¬ n + 1 ≤ n by omega]⟩
      by_cases hin : i = n
      · subst hin
        simp only [Nat.le_refl, if_true, show ¬ i + 1 ≤ i by omega, if_false, c]
        exact h2
      · have := b i (by omega)
        simpa [show i ≤ n by omega, show i + 1 ≤ n by omega] using this
    · rintro ⟨l, a, b, c⟩
      refine ⟨l n, (zs_chain w r n x _).2 ⟨l, a, fun i hi => b i (by omega), rfl⟩, ?_⟩
      rw [chain_one, ← c]
      exact b n (by omega)

theorem can_chain {w : Wea} (ho : w.Ok) (r : Nat) : w.canB r w.L = true ↔ ∃ x y, inP w.L x ∧ chain (w.zs r w.es.length) x y := by
  rw [canB_iff ho r (L_ok ho)]
  constructor
  · rintro ⟨l, h1, h2⟩
    exact ⟨l 0, l w.es.length, h1, (zs_chain w r _ _ _).2 ⟨l, rfl, h2, rfl⟩⟩
  · rintro ⟨x, y, h1, h2⟩
    obtain ⟨l, a, b, -⟩ := (zs_chain w r _ _ _).1 h2
    exact ⟨l, by rw [a]; exact h1, b⟩

/-- Whether an event is kept. -/
def Wea.kp (w : Wea) (s i : Nat) : Bool := !decide ((w.ev i).k = 1) || s.testBit i

/-- The events of a set: all but the other readings. -/
def Wea.flt (w : Wea) (s n : Nat) : List Ev := ((List.range n).filter (w.kp s)).map w.ev

theorem flt_succ (w : Wea) (s n : Nat) : w.flt s (n + 1) = if w.kp s n then w.flt s n ++ [w.ev n] else w.flt s n := by
  simp only [Wea.flt, List.range_succ, List.filter_append]
  cases h : w.kp s n <;> simp [h]

theorem flt_len (w : Wea) (s n : Nat) : (w.flt s n).length ≤ n := by
  have := List.length_filter_le (w.kp s) (List.range n)
  simpa [Wea.flt] using this

theorem flt_mem {w : Wea} {s n : Nat} {e : Ev} (h : e ∈ w.flt s n) : ∃ i, i < n ∧ w.kp s i = true ∧ w.ev i = e := by
  simp only [Wea.flt, List.mem_map, List.mem_filter, List.mem_range] at h
  obtain ⟨i, ⟨h1, h2⟩, h3⟩ := h
  exact ⟨i, h1, h2, h3⟩

/-- The block with these events alone. -/
def Wea.sub (w : Wea) (s : Nat) : Wea := { w with es := w.flt s w.es.length }

theorem sub_ok {w : Wea} (ho : w.Ok) (s : Nat) : (w.sub s).Ok where
  len := ho.len
  use := ho.use
  many := Nat.le_trans (flt_len w s _) ho.many
  ev i hi := by
    have e : (w.sub s).ev i ∈ w.flt s w.es.length := by
      have hi' : i < (w.flt s w.es.length).length := hi
      show (w.flt s w.es.length).getD i ev0 ∈ _
      simp [hi']
    obtain ⟨j, h1, -, h3⟩ := flt_mem e
    rw [← h3]
    exact ho.ev j h1

/-- What an event is that is looked at. -/
def evZ (w : Wea) (e : Ev) : EvZ := if e.k = 0 then .takes (e.u * w.ulo) (e.u * w.uhi) else if e.k = 2 then .takes e.lo e.hi else .read e.lo e.hi

theorem evz_kept {w : Wea} (ho : w.Ok) {s i : Nat} (hi : i < w.es.length) (h : w.kp s i = true) (x y : Int) : (w.evz s i).go x y ↔ (evZ w (w.ev i)).go x y := by
  simp only [Wea.evz, evZ]
  rcases ho.ev i hi with ⟨k0, k1⟩ | ⟨k0, k1⟩ | ⟨k0, k1⟩
  · simp only [k0, if_true]
  · have hb : s.testBit i = true := by
      simp only [Wea.kp, k0, decide_true, Bool.not_true, Bool.false_or] at h
      exact h
    simp only [k0, hb, if_true, if_false, (show ¬ (1 : Int) = 0 by decide), (show ¬ (1 : Int) = 2 by decide)]
  · simp only [k0, if_true, if_false, (show ¬ (2 : Int) = 0 by decide)]

theorem evz_gone {w : Wea} (ho : w.Ok) {s i : Nat} (hi : i < w.es.length) (h : w.kp s i = false) (x y : Int) : (w.evz s i).go x y ↔ y = x := by
  simp only [Wea.kp, Bool.or_eq_false_iff, Bool.not_eq_false', decide_eq_true_eq] at h
  simp only [Wea.evz, h.1, h.2, if_false, (show ¬ (1 : Int) = 0 by decide), (show ¬ (1 : Int) = 2 by decide), Bool.false_eq_true, EvZ.go]

theorem chain_cong : ∀ (a b : List EvZ), a.length = b.length → (∀ i, i < a.length → ∀ x y, (a.getD i .nothing).go x y ↔ (b.getD i .nothing).go x y) → ∀ x y, chain a x y ↔ chain b x y
  | [], [], _, _, x, y => Iff.rfl
  | [], _ :: _, h, _, _, _ => by simp at h
  | _ :: _, [], h, _, _, _ => by simp at h
  | e :: r, f :: s, h, g, x, y => by
    have ih := chain_cong r s (by simpa using h) fun i hi => by
      have := g (i + 1) (by simpa using hi)
      simpa using this
    have h0 := g 0 (by simp)
    simp only [List.getD_cons_zero] at h0
    simp only [chain, h0, ih]

/-- Readings that are not looked at do not matter. -/
theorem flt_chain {w : Wea} (ho : w.Ok) (s : Nat) : ∀ n, n ≤ w.es.length → ∀ x y, chain (w.zs s n) x y ↔ chain ((w.flt s n).map (evZ w)) x y
  | 0, _, x, y => Iff.rfl
  | n + 1, h, x, y => by
    rw [zs_succ, chain_app, flt_succ]
    cases hk : w.kp s n
    · simp only [Bool.false_eq_true, if_false]
      rw [← flt_chain ho s n (by omega)]
      constructor
      · rintro ⟨z, h1, h2⟩
        rw [chain_one, evz_gone ho (by omega) hk] at h2
        rw [h2]; exact h1
      · intro h1
        exact ⟨y, h1, by rw [chain_one, evz_gone ho (by omega) hk]⟩
    · simp only [if_true, List.map_append, List.map_cons, List.map_nil]
      rw [chain_app]
      constructor
      · rintro ⟨z, h1, h2⟩
        exact ⟨z, (flt_chain ho s n (by omega) x z).1 h1, by rw [chain_one] at h2 ⊢; exact (evz_kept ho (by omega) hk _ _).1 h2⟩
      · rintro ⟨z, h1, h2⟩
        exact ⟨z, (flt_chain ho s n (by omega) x z).2 h1, by rw [chain_one] at h2 ⊢; exact (evz_kept ho (by omega) hk _ _).2 h2⟩

theorem all_zs {v : Wea} (ho : v.Ok) : ∀ x y, chain (v.zs v.rd v.es.length) x y ↔ chain (v.es.map (evZ v)) x y := by
  refine chain_cong _ _ (by simp [Wea.zs]) fun i hi x y => ?_
  have hi' : i < v.es.length := by simpa [Wea.zs] using hi
  have e1 : (v.zs v.rd v.es.length).getD i .nothing = v.evz v.rd i := by simp [Wea.zs, hi']
  have e2 : (v.es.map (evZ v)).getD i .nothing = evZ v (v.ev i) := by simp [hi']
  rw [e1, e2]
  refine evz_kept ho hi' ?_ x y
  simp only [Wea.kp, rd_bit, hi', decide_true, Bool.true_and]
  cases decide ((v.ev i).k = 1) <;> rfl

/-- The block with the events of a set alone has a truth just if the block has one by this set. -/
theorem sub_can {w : Wea} (ho : w.Ok) (s : Nat) : (w.sub s).can = w.canB s w.L := by
  rw [Bool.eq_iff_iff]
  have h1 := can_chain (sub_ok ho s) (w.sub s).rd
  rw [show (w.sub s).can = (w.sub s).canB (w.sub s).rd (w.sub s).L from rfl, h1, can_chain ho s]
  have h2 := all_zs (sub_ok ho s)
  have h3 := flt_chain ho s w.es.length (Nat.le_refl _)
  constructor
  · rintro ⟨x, y, a, b⟩
    exact ⟨x, y, a, (h3 x y).2 ((h2 x y).1 b)⟩
  · rintro ⟨x, y, a, b⟩
    exact ⟨x, y, a, (h2 x y).2 ((h3 x y).1 b)⟩

/-- Without readings there is a truth. -/
theorem can_none {w : Wea} (ho : w.Ok) : w.canB 0 w.L = true := by
  rw [can_chain ho]
  have key : ∀ n, n ≤ w.es.length → ∀ x, ∃ y, chain (w.zs 0 n) x y := by
    intro n
    induction n with
    | zero => intro _ x; exact ⟨x, rfl⟩
    | succ n ih =>
      intro hn x
      obtain ⟨z, hz⟩ := ih (by omega) x
      have hg : ∃ y, (w.evz 0 n).go z y := by
        rcases ho.ev n (by omega) with ⟨k0, k1⟩ | ⟨k0, k1⟩ | ⟨k0, k1⟩
        · have hu := ho.use
          have : (w.ev n).u * w.ulo ≤ (w.ev n).u * w.uhi := Int.mul_le_mul_of_nonneg_left (by omega) (by omega)
          refine ⟨z - (w.ev n).u * w.ulo, ?_⟩
          simp only [Wea.evz, k0, if_true, EvZ.go]
          omega
        · refine ⟨z, ?_⟩
          simp only [Wea.evz, k0, if_false, (show ¬ (1 : Int) = 0 by decide), (show ¬ (1 : Int) = 2 by decide), Nat.zero_testBit, Bool.false_eq_true, EvZ.go]
        · refine ⟨z - (w.ev n).lo, ?_⟩
          simp only [Wea.evz, k0, if_true, if_false, (show ¬ (2 : Int) = 0 by decide), EvZ.go]
          omega
      obtain ⟨y, hy⟩ := hg
      exact ⟨y, by rw [zs_succ, chain_app]; exact ⟨z, hz, (chain_one _ _ _).2 hy⟩⟩
  obtain ⟨y, hy⟩ := key w.es.length (Nat.le_refl _) w.llo
  have := ho.len
  exact ⟨w.llo, y, by simp only [inP, Wea.L]; omega, hy⟩

theorem pop_less : ∀ s < 256, ∀ i < 8, s.testBit i = true → pop (diffN s (2 ^ i)) < pop s := by decide +kernel

theorem cs_pos {w : Wea} (ho : w.Ok) (hc : w.can = false) : 0 < w.cs := by
  have := (cs_bad hc).2.2
  by_cases h : w.cs = 0
  · rw [h, can_none ho] at this
    cases this
  · omega

theorem subP_bits {r s : Nat} : subP r s = true ↔ ∀ i, s.testBit i = true → r.testBit i = true := by
  have e : subP r s = true ↔ diffN s r = 0 := by simp [subP]
  rw [e]
  constructor
  · intro h i hi
    have := diffN_bit s r i
    rw [h, Nat.zero_testBit, hi] at this
    simpa using this.symm
  · intro h
    refine Nat.eq_of_testBit_eq fun i => ?_
    rw [diffN_bit, Nat.zero_testBit]
    cases hb : s.testBit i
    · rfl
    · rw [h i hb]; rfl

/-- Without any one of them the others do not clash. -/
theorem cs_less {w : Wea} (ho : w.Ok) (hc : w.can = false) {i : Nat} (hi : i < w.es.length) (hb : w.cs.testBit i = true) : w.canB (diffN w.cs (2 ^ i)) w.L = true := by
  have hbad := cs_bad hc
  have h8 := ho.many
  have hp : (2 : Nat) ^ w.es.length ≤ 2 ^ 8 := Nat.pow_le_pow_right (by omega) h8
  have hlt := pop_less w.cs (by have := hbad.1; omega) i (by omega) hb
  cases h : w.canB (diffN w.cs (2 ^ i)) w.L
  · have hB : w.Bad (diffN w.cs (2 ^ i)) := ⟨diffN_lt hbad.1, subP_bits.2 fun k hk => subP_bits.1 hbad.2.1 k (by rw [diffN_bit] at hk; simp at hk; exact hk.1), h⟩
    rcases cs_least hc hB with g | g
    · rw [g] at hlt; omega
    · simp only [lx, popK] at g
      omega
  · rfl

theorem own_bad {w : Wea} {b : Nat} (h : w.canB (b &&& w.rd) w.L = false) : w.Bad (b &&& w.rd) :=
  ⟨Nat.lt_of_le_of_lt Nat.and_le_right (rd_lt2 w), subP_bits.2 fun k hk => by rw [Nat.testBit_and] at hk; simp at hk; exact hk.2, h⟩

end Go.Ab
/-
  WearShort, walked: its loops.
-/
namespace Go.Ab
open Go.Proofs
set_option linter.unusedSimpArgs false
set_option linter.unusedVariables false
set_option maxRecDepth 100000

variable {H : Heap}

def U8 (n : Int) : AV := .int .u8 n

/-- Days, by numbers. -/
def daysD (l : List Int) : List Int := (l.take 10).map (· % 21)

theorem daysD_len (l : List Int) : (daysD l).length ≤ 10 := by simp [daysD]; omega

theorem emod21 (n : Int) : 0 ≤ n % 21 ∧ n % 21 < 21 := ⟨Int.emod_nonneg n (by decide), Int.emod_lt_of_pos n (by decide)⟩

theorem daysD_bd (l : List Int) : ∀ i, i < (daysD l).length → 0 ≤ (daysD l).getD i 0 ∧ (daysD l).getD i 0 ≤ 20 := by
  intro i hi
  have : (daysD l).getD i 0 ∈ daysD l := by simp [hi]
  simp only [daysD, List.mem_map] at this
  obtain ⟨x, _, hx⟩ := this
  have := emod21 x
  simp only [daysD] at hx ⊢
  omega

theorem daysD_off (l : List Int) : offB (daysD l) = false := by
  rw [offB, anyF_false]
  intro i _ hi
  have := daysD_bd l i (by omega)
  rw [Bool.not_eq_false', wi_iff]
  exact this

theorem take_snoc (l : List Int) {j : Nat} (h : j < l.length) : l.take (j + 1) = l.take j ++ [l.getD j 0] := by
  rw [List.take_add_one, List.getD, List.getElem?_eq_getElem h]; rfl

theorem days_loop {l : List Int} {v : AV} (hv : SlOk H 1 v (l.map U8)) (hl : l.length ≤ 9223372036854775807) (hu : ∀ i, i < l.length → 0 ≤ l.getD i 0 ∧ l.getD i 0 ≤ 255) (o : AO) (a3 a9 a10 a11 a12 a13 a14 a15 a16 : AV) (K : List Item) (R : Option Done) (hK : ∀ E : Env, E.get 4 = .ptr H.length 0 → E.get 9 = a9 → E.get 10 = a10 → E.get 11 = a11 → E.get 12 = a12 → E.get 13 = a13 → E.get 14 = a14 → E.get 15 = a15 → E.get 16 = a16 → E.get 17 = .gsl (H.length + 1) (daysD l).length → Option.map (finishC H.length) (execL cfg0 prog0 ⟨7, none, false, H.length⟩ K ⟨E, [], H ++ [o, .grow 1 ((daysD l).map I)], none⟩) = R)  :
    ∀ (q j : Nat), j + q = l.length → ∀ (xs : List AV), ∀ (m : Nat), xs = (daysD (l.take j)).map I → m = xs.length → ∀ E : Env, E.get 3 = a3 → E.get 4 = .ptr H.length 0 → E.get 9 = a9 → E.get 10 = a10 → E.get 11 = a11 → E.get 12 = a12 → E.get 13 = a13 → E.get 14 = a14 → E.get 15 = a15 → E.get 16 = a16 → E.get 17 = .gsl (H.length + 1) m → E.get 60 = v → E.get 61 = I l.length → E.get 62 = I j →
    Option.map (finishC H.length) (execL cfg0 prog0 ⟨7, none, false, H.length⟩ (loopIt Tryd.f7 9 :: .inBlock 0 :: K) ⟨E, [], H ++ [o, .grow 1 xs], none⟩) = R := by
  intro q
  obtain ⟨b1, b2, b3, b4, b5⟩ := hv.fA (d := 0)
  induction q with
  | zero =>
    intro j hj xs m hx hm E g3 g4 g9 g10 g11 g12 g13 g14 g15 g16 g17 g60 g61 g62
    have hk' : ¬ (j : Int) < ((l.length : Nat) : Int) := by omega
    have ej : j = l.length := by omega
    have hx2 : xs = (daysD l).map I := by rw [hx, List.take_of_length_le (by omega)]
    have hm2 : m = (daysD l).length := by rw [hm, hx2, List.length_map]
    subst hm2
    subst hx2
    simp only [loopIt, todoPast, todoAt, todoOf, firstReg, ↓reduceIte, Option.some.injEq, Nat.reduceEqDiff, reduceCtorEq, Tryd.f7]
    rw [execL_inLoop]
    simp (maxSteps := 1000000) (implicitDefEqProofs := false) (disch := first | rfl | omega | assumption) only [go_sem, ↓reduceIte, Nat.reduceEqDiff, Nat.reduceAdd, Nat.reduceLeDiff, Nat.reduceBEq, Nat.reduceMul, Nat.reduceLT, Int.reduceLT, Int.reduceLE, Int.reduceToNat, Int.reduceNeg, Int.reduceEq, Int.reduceMul, reduceCtorEq, Int.reduceBEq, Int.reduceBNe, Int.reduceAdd, Int.reduceSub, g3, g4, g9, g10, g11, g12, g13, g14, g15, g16, g17, g60, g61, g62, ltT, ltF, leT, leF, hk']
    exact hK _ (by exact g4) (by exact g9) (by exact g10) (by exact g11) (by exact g12) (by exact g13) (by exact g14) (by exact g15) (by exact g16) (by exact g17)
  | succ q ih =>
    intro j hj xs m hx hm E g3 g4 g9 g10 g11 g12 g13 g14 g15 g16 g17 g60 g61 g62
    have hk' : (j : Int) < ((l.length : Nat) : Int) := by omega
    have hk2 : j < l.length := by omega
    have hu1 := hu j hk2
    have hn := emod21 (l.getD j 0)
    have e1 : (l.getD j 0).tmod 21 = l.getD j 0 % 21 := Int.tmod_eq_emod_of_nonneg hu1.1
    by_cases hj10 : j < 10
    · have hc : (j : Int) < 10 := by omega
      have ed : daysD (l.take (j + 1)) = daysD (l.take j) ++ [l.getD j 0 % 21] := by
        have h1 : (l.take (j + 1)).take 10 = l.take (j + 1) := List.take_of_length_le (by rw [List.length_take]; omega)
        have h2 : (l.take j).take 10 = l.take j := List.take_of_length_le (by rw [List.length_take]; omega)
        simp only [daysD]
        rw [h1, h2, take_snoc l hk2, List.map_append]
        rfl
      have hml : xs.length ≤ 10 := by rw [hx, List.length_map]; exact daysD_len _
      have hof : ∀ x : Int, addElem (H ++ [o, .grow 1 xs]) 1 false (.gsl (H.length + 1) m) [I x] = some (.gsl (H.length + 1) (m + 1), H ++ [o, .grow 1 (xs ++ [I x])]) := by
        intro x
        rw [add_gsl (by simp [get_at']) hm.symm rfl rfl (by simp; omega), set_at']
        rfl
      simp only [loopIt, todoPast, todoAt, todoOf, firstReg, ↓reduceIte, Option.some.injEq, Nat.reduceEqDiff, reduceCtorEq, Tryd.f7]
      rw [execL_inLoop]
      simp (maxSteps := 1000000) (implicitDefEqProofs := false) (disch := first | rfl | omega | assumption) only [go_sem, ↓reduceIte, Nat.reduceEqDiff, Nat.reduceAdd, Nat.reduceLeDiff, Nat.reduceBEq, Nat.reduceMul, Nat.reduceLT, Int.reduceLT, Int.reduceLE, Int.reduceToNat, Int.reduceNeg, Int.reduceEq, Int.reduceMul, reduceCtorEq, Int.reduceBEq, Int.reduceBNe, Int.reduceAdd, Int.reduceSub, g3, g4, g9, g10, g11, g12, g13, g14, g15, g16, g17, g60, g61, g62, ltT, ltF, leT, leF, hk', b1, b2, b3, b4, U8, hc, e1, hof]
      exact ih (j + 1) (by omega) _ (m + 1) (by rw [ed, hx, List.map_append]; rfl) (by rw [hm, List.length_append]; rfl) _ (by exact g3) (by exact g4) (by exact g9) (by exact g10) (by exact g11) (by exact g12) (by exact g13) (by exact g14) (by exact g15) (by exact g16) (by rfl) (by exact g60) (by exact g61) (by rfl)
    · have hc : ¬ (j : Int) < 10 := by omega
      have ed : daysD (l.take (j + 1)) = daysD (l.take j) := by
        have h1 : (l.take (j + 1)).take 10 = l.take 10 := by rw [List.take_take, Nat.min_eq_left (by omega)]
        have h2 : (l.take j).take 10 = l.take 10 := by rw [List.take_take, Nat.min_eq_left (by omega)]
        simp only [daysD, h1, h2]
      simp only [loopIt, todoPast, todoAt, todoOf, firstReg, ↓reduceIte, Option.some.injEq, Nat.reduceEqDiff, reduceCtorEq, Tryd.f7]
      rw [execL_inLoop]
      simp (maxSteps := 1000000) (implicitDefEqProofs := false) (disch := first | rfl | omega | assumption) only [go_sem, ↓reduceIte, Nat.reduceEqDiff, Nat.reduceAdd, Nat.reduceLeDiff, Nat.reduceBEq, Nat.reduceMul, Nat.reduceLT, Int.reduceLT, Int.reduceLE, Int.reduceToNat, Int.reduceNeg, Int.reduceEq, Int.reduceMul, reduceCtorEq, Int.reduceBEq, Int.reduceBNe, Int.reduceAdd, Int.reduceSub, g3, g4, g9, g10, g11, g12, g13, g14, g15, g16, g17, g60, g61, g62, ltT, ltF, leT, leF, hk', b1, b2, b3, b4, U8, hc]
      exact ih (j + 1) (by omega) xs m (by rw [ed]; exact hx) hm _ (by exact g3) (by exact g4) (by exact g9) (by exact g10) (by exact g11) (by exact g12) (by exact g13) (by exact g14) (by exact g15) (by exact g16) (by exact g17) (by exact g60) (by exact g61) (by rfl)

theorem at_zero_L {w : Wea} (h : w.es.length = 0) (r : Nat) (q : Int × Int) : w.at r q 0 = q := by
  simp only [Wea.at, Nat.zero_le, if_true, h, Nat.sub_zero, Wea.bk, Wea.fwd]

/-- The length after so many events; at first: what is known of it. -/
def Wea.lst (w : Wea) (j : Nat) : Int × Int := if j = 0 then w.L else w.at w.rd w.L j

theorem lst_last (w : Wea) : w.lst w.es.length = w.lastP := by
  simp only [Wea.lst, Wea.lastP]
  by_cases h : w.es.length = 0
  · rw [if_pos h, h, at_zero_L h]
  · rw [if_neg h]

theorem after_ok {w : Wea} (hv : w.valid = true) (hc : w.can = true) {j : Nat} (hj : j < w.es.length) : w.afterP j = w.at w.rd w.L (j + 1) ∧ w.gate 0 (wi j 0 (w.es.length - 1)) = 0 := by
  have hi : wi (j : Int) 0 (w.es.length - 1) = true := wi_iff.2 ⟨by omega, by omega⟩
  have hg : w.gate 0 (wi j 0 (w.es.length - 1)) = 0 := by
    simp only [Wea.gate, hv, hi, hc, if_true, (show (0 : Int) ≤ 10 by decide)]
  exact ⟨by simp only [Wea.afterP, hg, if_true, Int.toNat_natCast], hg⟩

theorem ltI (l : List Int) (n : Nat) : ltL n (l.map I) = true := by
  induction l with
  | nil => rfl
  | cons x l ih => simpa [ltL, AV.lt] using ih

theorem lst_succ (w : Wea) (j : Nat) : w.lst (j + 1) = w.at w.rd w.L (j + 1) := by simp only [Wea.lst]; rw [if_neg (by omega)]

theorem short_loop {w : Wea} {ve : AV} (h : WeaAt H w ve) (hv : w.valid = true) (hcan : w.can = true) (lim : Int) (D : List Int) (a13 a14 a15 a16 a20 a21 : Int) (K : List Item) (R : Option Done) (hK : ∀ E : Env, E.get 4 = .ptr H.length 0 → E.get 9 = I lim → E.get 13 = I a13 → E.get 14 = I a14 → E.get 15 = I a15 → E.get 16 = I a16 → E.get 17 = .gsl (H.length + 1) D.length → E.get 20 = I a20 → E.get 21 = I a21 → E.get 22 = .ptr (H.length + 2) 0 → Option.map (finishC H.length) (execL cfg0 prog0 ⟨7, none, false, H.length⟩ K ⟨E, [], H ++ [.box (.agg [I w.llo, I w.lhi, I w.ulo, I w.uhi, ve]), .grow 1 (D.map I), .box (KV (w.lst w.es.length))], none⟩) = R)  :
    ∀ (q j : Nat), j + q = w.es.length → ∀ (G : Heap), ∀ E : Env, E.get 4 = .ptr H.length 0 → E.get 9 = I lim → E.get 10 = I (maskN (sureF (w.at w.rd w.L) lim) w.es.length) → E.get 11 = I (maskN (perF (w.at w.rd w.L) lim) w.es.length) → E.get 13 = I a13 → E.get 14 = I a14 → E.get 15 = I a15 → E.get 16 = I a16 → E.get 17 = .gsl (H.length + 1) D.length → E.get 20 = I a20 → E.get 21 = I a21 → E.get 22 = .ptr (H.length + 2) 0 → E.get 125 = I w.es.length → E.get 126 = I j →
    Option.map (finishC H.length) (execL cfg0 prog0 ⟨7, none, false, H.length⟩ (loopIt Tryd.f7 19 :: .inBlock 2 :: K) ⟨E, [], H ++ (.box (.agg [I w.llo, I w.lhi, I w.ulo, I w.uhi, ve]) :: .grow 1 (D.map I) :: .box (KV (w.lst j)) :: G), none⟩) = R := by
  intro q
  have ho := w.valid_iff.1 hv
  have h8 := ho.many
  have s1 := h.es.scal
  have t1 := h.es.ltn 3
  have t2 := h.es.lt0
  have t3 := fun n => ltI D n
  induction q with
  | zero =>
    intro j hj G E g4 g9 g10 g11 g13 g14 g15 g16 g17 g20 g21 g22 g125 g126
    have hk' : ¬ (j : Int) < ((w.es.length : Nat) : Int) := by omega
    have ej : j = w.es.length := by omega
    subst ej
    simp only [loopIt, todoPast, todoAt, todoOf, firstReg, ↓reduceIte, Option.some.injEq, Nat.reduceEqDiff, reduceCtorEq, Tryd.f7]
    rw [execL_inLoop]
    simp (maxSteps := 1000000) (implicitDefEqProofs := false) (disch := first | rfl | omega | assumption) only [go_sem, ↓reduceIte, Nat.reduceEqDiff, Nat.reduceAdd, Nat.reduceLeDiff, Nat.reduceBEq, Nat.reduceMul, Nat.reduceLT, Int.reduceLT, Int.reduceLE, Int.reduceToNat, Int.reduceNeg, Int.reduceEq, Int.reduceMul, reduceCtorEq, Int.reduceBEq, Int.reduceBNe, Int.reduceAdd, Int.reduceSub, g4, g9, g10, g11, g13, g14, g15, g16, g17, g20, g21, g22, g125, g126, ltT, ltF, leT, leF, hk', s1, t1, t3]
    exact hK _ (by rfl) (by rfl) (by rfl) (by rfl) (by rfl) (by rfl) (by rfl) (by rfl) (by rfl) (by rfl)
  | succ q ih =>
    intro j hj G E g4 g9 g10 g11 g13 g14 g15 g16 g17 g20 g21 g22 g125 g126
    have hk' : (j : Int) < ((w.es.length : Nat) : Int) := by omega
    have hk2 : j < w.es.length := by omega
    simp only [loopIt, todoPast, todoAt, todoOf, firstReg, ↓reduceIte, Option.some.injEq, Nat.reduceEqDiff, reduceCtorEq, Tryd.f7]
    rw [execL_inLoop]
    have hA := fun (G : Heap) => we_After (h.app G) (by omega) j
    obtain ⟨hA1, hA2⟩ := after_ok hv hcan hk2
    simp only [hA1, hA2, Wea.av] at hA
    have m1 := maskN_lt (sureF (w.at w.rd w.L) lim) w.es.length
    have m2 := maskN_lt (perF (w.at w.rd w.L) lim) w.es.length
    have hp : (2 : Nat) ^ w.es.length ≤ 2 ^ 8 := Nat.pow_le_pow_right (by omega) (by omega)
    have hb1 := bitI (j := j) (show maskN (sureF (w.at w.rd w.L) lim) w.es.length < 2 ^ 60 by omega)
    have hb2 := bitI (j := j) (show maskN (perF (w.at w.rd w.L) lim) w.es.length < 2 ^ 60 by omega)
    have c1 := maskN_bit (sureF (w.at w.rd w.L) lim) j w.es.length
    have c2 := maskN_bit (perF (w.at w.rd w.L) lim) j w.es.length
    simp only [hk2, decide_true, Bool.true_and] at c1 c2
    have hsh := fun (s : Nat) => shrN (s := s) (j := j) (by omega)
    have hlst := lst_succ w j
    have hab := at_bd ho (show j + 1 ≤ w.es.length by omega)
    simp only [sureF, perF] at c1 c2
    generalize w.at w.rd w.L (j + 1) = p at hA hlst hab c1 c2
    simp (maxSteps := 1000000) (implicitDefEqProofs := false) (disch := first | rfl | omega | assumption) only [go_sem, ↓reduceIte, Nat.reduceEqDiff, Nat.reduceAdd, Nat.reduceLeDiff, Nat.reduceBEq, Nat.reduceMul, Nat.reduceLT, Int.reduceLT, Int.reduceLE, Int.reduceToNat, Int.reduceNeg, Int.reduceEq, Int.reduceMul, reduceCtorEq, Int.reduceBEq, Int.reduceBNe, Int.reduceAdd, Int.reduceSub, g4, g9, g10, g11, g13, g14, g15, g16, g17, g20, g21, g22, g125, g126, ltT, ltF, leT, leF, hk', s1, t1, t3, hA, hb1, hb2, hsh, and_one, c1, c2]
    rw [chkK_of]; rotate_left; kernel_rfl
    simp (maxSteps := 1000000) (implicitDefEqProofs := false) (disch := first | rfl | omega | assumption) only [go_sem, ↓reduceIte, Nat.reduceEqDiff, Nat.reduceAdd, Nat.reduceLeDiff, Nat.reduceBEq, Nat.reduceMul, Nat.reduceLT, Int.reduceLT, Int.reduceLE, Int.reduceToNat, Int.reduceNeg, Int.reduceEq, Int.reduceMul, reduceCtorEq, Int.reduceBEq, Int.reduceBNe, Int.reduceAdd, Int.reduceSub, g4, g9, g10, g11, g13, g14, g15, g16, g17, g20, g21, g22, g125, g126, ltT, ltF, leT, leF, hk', s1, t1, t3, hA, hb1, hb2, hsh, and_one, c1, c2, bne_self_eq_false]
    have ih' := ih (j + 1) (by omega)
    rw [hlst] at ih'
    exact ih' [.box (.agg [I p.1, I p.2])] _ (by rfl) (by rfl) (by rfl) (by rfl) (by rfl) (by rfl) (by rfl) (by rfl) (by rfl) (by rfl) (by rfl) (by rfl) (by rfl) (by rfl)

end Go.Ab
/-
  WearShort, walked: on which day.
-/
namespace Go.Ab
open Go.Proofs
set_option linter.unusedSimpArgs false
set_option linter.unusedVariables false
set_option maxRecDepth 100000

variable {H : Heap}

def dayC (u lim : Int) (D : List Int) (x : Int) (j : Nat) : Bool := decide (leftD u D x (j + 1) < lim)
def dayQ (u lim : Int) (D : List Int) (x : Int) : Int × Int := if firstN (dayC u lim D x) 0 D.length < D.length then ((firstN (dayC u lim D x) 0 D.length : Nat), 0) else (0, 4)
def dayG (u lim : Int) (D : List Int) (x : Int) (j : Nat) : Prop := firstN (dayC u lim D x) 0 D.length = firstN (dayC u lim D x) j (D.length - j)

theorem dayQ_end {u lim : Int} {D : List Int} {x : Int} (h : dayG u lim D x D.length) : dayQ u lim D x = (0, 4) := by
  simp only [dayG, Nat.sub_self, firstN] at h
  simp only [dayQ, h, Nat.lt_irrefl, if_false]

theorem dayQ_hit {u lim : Int} {D : List Int} {x : Int} {j : Nat} (h : dayG u lim D x j) (hj : j < D.length) (hc : leftD u D x (j + 1) < lim) : dayQ u lim D x = ((j : Int), 0) := by
  have e : D.length - j = (D.length - j - 1) + 1 := by omega
  have hb : dayC u lim D x j = true := by simp only [dayC, decide_eq_true_eq]; exact hc
  rw [dayG, e, firstN, hb, if_pos rfl] at h
  simp only [dayQ, h, hj, if_true]

theorem dayG_step {u lim : Int} {D : List Int} {x : Int} {j : Nat} (h : dayG u lim D x j) (hj : j < D.length) (hc : ¬ leftD u D x (j + 1) < lim) : dayG u lim D x (j + 1) := by
  have e : D.length - j = (D.length - (j + 1)) + 1 := by omega
  have hb : dayC u lim D x j = false := by simp only [dayC, decide_eq_false_iff_not]; exact hc
  rw [dayG, e, firstN, hb] at h
  exact h

theorem day_loop {w : Wea} {ve : AV} (hu : 0 ≤ w.uhi ∧ w.uhi ≤ 3) (lim : Int) (hlim : -100 ≤ lim ∧ lim ≤ 400) (D : List Int) (hDl : D.length ≤ 10) (hD : ∀ i, i < D.length → 0 ≤ D.getD i 0 ∧ D.getD i 0 ≤ 20) (x : Int) (hx : -4000000 ≤ x ∧ x ≤ 4000000) (s : Int × Int) :
    ∀ (q j : Nat), j + q = D.length → dayG w.uhi lim D x j → ∀ E : Env, E.get 4 = .ptr H.length 0 → E.get 9 = I lim → E.get 20 = I (dayQ w.uhi lim D x).1 → E.get 21 = I (dayQ w.uhi lim D x).2 → E.get 26 = I (leftD w.uhi D x j) → E.get 236 = .gsl (H.length + 1) D.length → E.get 237 = I D.length → E.get 238 = I j →
    Option.map (finishC H.length) (execL cfg0 prog0 ⟨7, none, false, H.length⟩ (todoAt Tryd.f7 32) ⟨E, [], H ++ [.box (.agg [I w.llo, I w.lhi, I w.ulo, I w.uhi, ve]), .grow 1 (D.map I), .box (KV s)], none⟩) = some ⟨.ret (.bool true), H, none⟩ := by
  intro q
  have hS : SlOk (H ++ [.box (.agg [I w.llo, I w.lhi, I w.ulo, I w.uhi, ve]), .grow 1 (D.map I), .box (KV s)]) 1 (.gsl (H.length + 1) D.length) (D.map I) := ⟨⟨by simp [get_at'], by simp⟩, by simp [AV.cells]⟩
  obtain ⟨b1, b2, b3, b4, b5⟩ := hS.fA (d := 0)
  have hle := leftD_bd hu hD x
  induction q with
  | zero =>
    intro j hj hg E g4 g9 g20 g21 g26 g236 g237 g238
    have hk' : ¬ (j : Int) < ((D.length : Nat) : Int) := by omega
    have ej : j = D.length := by omega
    subst ej
    have hq := dayQ_end hg
    simp only [loopIt, todoPast, todoAt, todoOf, firstReg, ↓reduceIte, Option.some.injEq, Nat.reduceEqDiff, reduceCtorEq, Tryd.f7]
    rw [execL_inLoop]
    simp (maxSteps := 1000000) (implicitDefEqProofs := false) (disch := first | rfl | omega | assumption) only [go_sem, ↓reduceIte, Nat.reduceEqDiff, Nat.reduceAdd, Nat.reduceLeDiff, Nat.reduceBEq, Nat.reduceMul, Nat.reduceLT, Int.reduceLT, Int.reduceLE, Int.reduceToNat, Int.reduceNeg, Int.reduceEq, Int.reduceMul, reduceCtorEq, Int.reduceBEq, Int.reduceBNe, Int.reduceAdd, Int.reduceSub, g4, g9, g20, g21, g26, g236, g237, g238, ltT, ltF, leT, leF, hk', hq, law_awake]
  | succ q ih =>
    intro j hj hg E g4 g9 g20 g21 g26 g236 g237 g238
    have hk' : (j : Int) < ((D.length : Nat) : Int) := by omega
    have hk2 : j < D.length := by omega
    have hle1 := hle (j + 1) (by omega)
    have hle0 := hle j (by omega)
    have hm := mul_bd (hD j hk2) hu
    have e1 : leftD w.uhi D x j - D.getD j 0 * w.uhi = leftD w.uhi D x (j + 1) := rfl
    by_cases hc : leftD w.uhi D x (j + 1) < lim
    · have hq := dayQ_hit hg hk2 hc
      simp only [loopIt, todoPast, todoAt, todoOf, firstReg, ↓reduceIte, Option.some.injEq, Nat.reduceEqDiff, reduceCtorEq, Tryd.f7]
      rw [execL_inLoop]
      simp (maxSteps := 1000000) (implicitDefEqProofs := false) (disch := first | rfl | omega | assumption) only [go_sem, ↓reduceIte, Nat.reduceEqDiff, Nat.reduceAdd, Nat.reduceLeDiff, Nat.reduceBEq, Nat.reduceMul, Nat.reduceLT, Int.reduceLT, Int.reduceLE, Int.reduceToNat, Int.reduceNeg, Int.reduceEq, Int.reduceMul, reduceCtorEq, Int.reduceBEq, Int.reduceBNe, Int.reduceAdd, Int.reduceSub, g4, g9, g20, g21, g26, g236, g237, g238, ltT, ltF, leT, leF, hk', b1, b2, b3, b4, b5, e1, hc, hq, law_awake]
    · have hg' := dayG_step hg hk2 hc
      simp only [loopIt, todoPast, todoAt, todoOf, firstReg, ↓reduceIte, Option.some.injEq, Nat.reduceEqDiff, reduceCtorEq, Tryd.f7]
      rw [execL_inLoop]
      simp (maxSteps := 1000000) (implicitDefEqProofs := false) (disch := first | rfl | omega | assumption) only [go_sem, ↓reduceIte, Nat.reduceEqDiff, Nat.reduceAdd, Nat.reduceLeDiff, Nat.reduceBEq, Nat.reduceMul, Nat.reduceLT, Int.reduceLT, Int.reduceLE, Int.reduceToNat, Int.reduceNeg, Int.reduceEq, Int.reduceMul, reduceCtorEq, Int.reduceBEq, Int.reduceBNe, Int.reduceAdd, Int.reduceSub, g4, g9, g20, g21, g26, g236, g237, g238, ltT, ltF, leT, leF, hk', b1, b2, b3, b4, b5, e1, hc, law_awake]
      exact ih (j + 1) (by omega) hg' _ (by exact g4) (by exact g9) (by exact g20) (by exact g21) (by rfl) (by exact g236) (by exact g237) (by rfl)


def untN (u d : Int) : Int := if u = 0 then 100 else mn 100 (d.tdiv u)

theorem untN_facts {u d : Int} (hu : 0 ≤ u ∧ u ≤ 3) (hd : 0 ≤ d) : 0 ≤ untN u d ∧ untN u d ≤ 100 ∧ 0 ≤ d - untN u d * u ∧ (untN u d < 100 → d - (untN u d + 1) * u < 0) := by
  have hc : u = 0 ∨ u = 1 ∨ u = 2 ∨ u = 3 := by omega
  rcases hc with rfl | rfl | rfl | rfl
  · simp [untN]; omega
  · simp only [untN, mn, Int.tdiv_eq_ediv_of_nonneg hd]
    simp
    omega
  · simp only [untN, mn, Int.tdiv_eq_ediv_of_nonneg hd]
    simp
    omega
  · simp only [untN, mn, Int.tdiv_eq_ediv_of_nonneg hd]
    simp
    omega

theorem untN_mono {u d e : Int} (hu : 0 ≤ u ∧ u ≤ 3) (hd : 0 ≤ d) (he : d ≤ e) : untN u d ≤ untN u e := by
  have hc : u = 0 ∨ u = 1 ∨ u = 2 ∨ u = 3 := by omega
  have he0 : 0 ≤ e := by omega
  rcases hc with rfl | rfl | rfl | rfl
  · simp [untN]
  · simp only [untN, mn, Int.tdiv_eq_ediv_of_nonneg hd, Int.tdiv_eq_ediv_of_nonneg he0]
    simp
    omega
  · simp only [untN, mn, Int.tdiv_eq_ediv_of_nonneg hd, Int.tdiv_eq_ediv_of_nonneg he0]
    simp
    omega
  · simp only [untN, mn, Int.tdiv_eq_ediv_of_nonneg hd, Int.tdiv_eq_ediv_of_nonneg he0]
    simp
    omega

end Go.Ab
/-
  WearShort, walked.
-/
namespace Go.Ab
open Go.Proofs
set_option linter.unusedSimpArgs false
set_option linter.unusedVariables false
set_option maxRecDepth 100000

variable {H : Heap}

theorem rem420 {n : Int} (h : 0 ≤ n) : n.tmod 420 = n % 420 ∧ 0 ≤ n % 420 ∧ n % 420 < 420 := ⟨Int.tmod_eq_emod_of_nonneg h, Int.emod_nonneg _ (by decide), Int.emod_lt_of_pos _ (by decide)⟩
theorem rem50 {n : Int} (h : 0 ≤ n) : n.tmod 50 = n % 50 ∧ 0 ≤ n % 50 ∧ n % 50 < 50 := ⟨Int.tmod_eq_emod_of_nonneg h, Int.emod_nonneg _ (by decide), Int.emod_lt_of_pos _ (by decide)⟩

theorem mul_bd3 {m u : Int} (hm : 0 ≤ m ∧ m ≤ 100) (hu : 0 ≤ u ∧ u ≤ 3) : 0 ≤ m * u ∧ m * u ≤ 300 := by
  have hc : u = 0 ∨ u = 1 ∨ u = 2 ∨ u = 3 := by omega
  rcases hc with rfl | rfl | rfl | rfl <;> omega
theorem mul_bd4 {m u : Int} (hm : 0 ≤ m ∧ m ≤ 100) (hu : 0 ≤ u ∧ u ≤ 3) : 0 ≤ (m + 1) * u ∧ (m + 1) * u ≤ 303 := by
  have hc : u = 0 ∨ u = 1 ∨ u = 2 ∨ u = 3 := by omega
  rcases hc with rfl | rfl | rfl | rfl <;> omega

theorem gate0 {w : Wea} (hv : w.valid = true) (hc : w.can = true) {d : Int} (hd : d ≤ 10) {b : Bool} (hb : b = true) : w.gate d b = 0 := by
  simp only [Wea.gate, hv, hc, hd, hb, if_true]

theorem dayP_can {w : Wea} {lim : Int} {D : List Int} (hg : w.gate D.length (dayOk lim D) = 0) : w.dayP lim D = dayQ w.uhi lim D w.lastP.1 := by
  simp only [Wea.dayP, hg, if_true]
  rfl

theorem untilP_can {w : Wea} {lim : Int} (hg : w.gate 0 (wi lim (-1000) 1000) = 0) : w.untilP lim = if lim ≤ w.lastP.1 then (untN w.uhi (w.lastP.1 - lim), 0) else (0, 4) := by
  simp only [Wea.untilP, hg, if_true]
  rfl

theorem law_WearShort {w : Wea} {ve v : AV} (h : WeaAt H w ve) {l : List Int} (hv' : SlOk H 1 v (l.map U8)) (hll : l.length ≤ 9223372036854775807) (hb : ∀ i, i < l.length → 0 ≤ l.getD i 0 ∧ l.getD i 0 ≤ 255) (n k : Int) (hn : 0 ≤ n ∧ n ≤ 65535) (hk : 0 ≤ k ∧ k ≤ 255) :
    callFL cfg0 prog0 false 7 [w.av ve, .int .u16 n, v, .int .u8 k] H none = some ⟨.ret (.bool true), H, none⟩ := by
  have s1 := h.es.scal
  have s2 := hv'.scal
  have s3 := hv'.len
  rw [List.length_map] at s3
  have hF := fun G : Heap => law_fine (h.app G)
  obtain ⟨r1, r2, r3⟩ := rem420 hn.1
  obtain ⟨q1, q2, q3⟩ := rem50 hk.1
  have hav : w.av ve = .agg [I w.llo, I w.lhi, I w.ulo, I w.uhi, ve] := rfl
  rw [hav]
  cases hf : (!w.farB 0 && w.valid)
  · simp only [hf, Wea.av] at hF
    refine (callFL_eq fn7 rfl (by simp [Tryd.f7])).trans ?_
    simp (maxSteps := 1000000) (implicitDefEqProofs := false) (disch := first | rfl | omega | assumption) only [go_sem, ↓reduceIte, Nat.reduceEqDiff, Nat.reduceAdd, Nat.reduceLeDiff, Nat.reduceBEq, Nat.reduceMul, Nat.reduceLT, Int.reduceLT, Int.reduceLE, Int.reduceToNat, Int.reduceNeg, Int.reduceEq, Int.reduceMul, reduceCtorEq, Int.reduceBEq, Int.reduceBNe, Int.reduceAdd, Int.reduceSub, ltT, ltF, leT, leF, s1, s2, s3, hF, law_awake]
    done
  · simp only [Bool.and_eq_true, Bool.not_eq_true'] at hf
    obtain ⟨hfar, hv⟩ := hf
    have ho := w.valid_iff.1 hv
    have h8 := ho.many
    have hl : w.es.length ≤ 1000 := by omega
    obtain ⟨lim, hlim⟩ : ∃ lim, n % 420 - 60 = lim := ⟨_, rfl⟩
    obtain ⟨lim2, hlim2⟩ : ∃ lim2, lim - k % 50 = lim2 := ⟨_, rfl⟩
    have hB := fun G : Heap => we_Below (h.app G) hl lim
    have hU := fun G : Heap => we_Until (h.app G) hl lim
    have hU2 := fun G : Heap => we_Until (h.app G) hl lim2
    have hDl := daysD_len l
    have hS : ∀ (o : AO), SlOk (H ++ [o, .grow 1 ((daysD l).map I)]) 1 (.gsl (H.length + 1) (daysD l).length) ((daysD l).map I) := fun o => ⟨⟨by simp [get_at'], by simp⟩, by simp [AV.cells]⟩
    have hD := fun (o : AO) => we_Day (h.app [o, .grow 1 ((daysD l).map I)]) hl (hS o) (by omega) lim
    have w1 : wi lim (-1000) 1000 = true := wi_iff.2 ⟨by omega, by omega⟩
    have w2 : wi lim2 (-1000) 1000 = true := wi_iff.2 ⟨by omega, by omega⟩
    have hoff := daysD_off l
    have hdk : dayOk lim (daysD l) = true := by simp [dayOk, w1, hoff]
    have c10 : ((daysD l).length : Int) ≤ 10 := by omega
    rcases Bool.eq_false_or_eq_true w.can with hc | hc
    rotate_left
    · simp only [hfar, hv, Wea.av, Wea.sureP, Wea.perP, Wea.untilP, Wea.dayP, Wea.gate, w1, w2, hdk, c10, hc, if_true, if_false, Bool.false_eq_true, (show (0 : Int) ≤ 10 by decide), (show ¬ (10 : Int) = 0 by decide), Bool.not_false, Bool.and_self] at hF hB hU hU2 hD
      refine (callFL_eq fn7 rfl (by simp [Tryd.f7])).trans ?_
      simp (maxSteps := 1000000) (implicitDefEqProofs := false) (disch := first | rfl | omega | assumption) only [go_sem, ↓reduceIte, Nat.reduceEqDiff, Nat.reduceAdd, Nat.reduceLeDiff, Nat.reduceBEq, Nat.reduceMul, Nat.reduceLT, Int.reduceLT, Int.reduceLE, Int.reduceToNat, Int.reduceNeg, Int.reduceEq, Int.reduceMul, reduceCtorEq, Int.reduceBEq, Int.reduceBNe, Int.reduceAdd, Int.reduceSub, ltT, ltF, leT, leF, s1, s2, s3, hF, hB, hU, hU2, law_awake, r1, q1, hlim, hlim2]
      refine days_loop hv' hll hb _ _ _ _ _ _ _ _ _ _ _ _ ?_ l.length 0 (by omega) [] 0 rfl rfl _ (by rfl) (by rfl) (by rfl) (by rfl) (by rfl) (by rfl) (by rfl) (by rfl) (by rfl) (by rfl) (by rfl) (by rfl) (by rfl) (by rfl)
      intro E e4 e9 e10 e11 e12 e13 e14 e15 e16 e17
      simp (maxSteps := 1000000) (implicitDefEqProofs := false) (disch := first | rfl | omega | assumption) only [go_sem, ↓reduceIte, Nat.reduceEqDiff, Nat.reduceAdd, Nat.reduceLeDiff, Nat.reduceBEq, Nat.reduceMul, Nat.reduceLT, Int.reduceLT, Int.reduceLE, Int.reduceToNat, Int.reduceNeg, Int.reduceEq, Int.reduceMul, reduceCtorEq, Int.reduceBEq, Int.reduceBNe, Int.reduceAdd, Int.reduceSub, ltT, ltF, leT, leF, e9, e10, e11, e12, e13, e14, e15, e16, e17, e4, hD, law_awake]
    · have g1 := gate0 hv hc (d := 0) (by decide) w1
      have g2 := gate0 hv hc (d := 0) (by decide) w2
      have g3 := gate0 hv hc c10 hdk
      have u1 := untilP_can g1
      have u2 := untilP_can g2
      have d1 := dayP_can g3
      simp only [hfar, hv, Wea.av, Wea.sureP, Wea.perP, u1, u2, d1, g1, g2, g3, if_true, if_false, Bool.false_eq_true, Bool.not_false, Bool.and_self] at hF hB hU hU2 hD
      have s4 := h.es.len
      rw [List.length_map] at s4
      have hu0 : 0 ≤ w.uhi ∧ w.uhi ≤ 3 := by have := ho.use; omega
      have hab := at_bd ho (Nat.le_refl _)
      simp only [bd] at hab
      have hlb : -4000000 ≤ w.lastP.1 ∧ w.lastP.1 ≤ 4000000 := by simp only [Wea.lastP]; omega
      by_cases hc1 : lim ≤ w.lastP.1
      · have hc2 : lim2 ≤ w.lastP.1 := by omega
        obtain ⟨n1, n2, n3, n4⟩ := untN_facts hu0 (show 0 ≤ w.lastP.1 - lim by omega)
        have n5 := untN_mono hu0 (show 0 ≤ w.lastP.1 - lim by omega) (show w.lastP.1 - lim ≤ w.lastP.1 - lim2 by omega)
        simp only [hc1, hc2, if_true] at hU hU2
        generalize untN w.uhi (w.lastP.1 - lim) = m1 at hU n1 n2 n3 n4 n5
        generalize untN w.uhi (w.lastP.1 - lim2) = m2 at hU2 n5
        refine (callFL_eq fn7 rfl (by simp [Tryd.f7])).trans ?_
        simp (maxSteps := 1000000) (implicitDefEqProofs := false) (disch := first | rfl | omega | assumption) only [go_sem, ↓reduceIte, Nat.reduceEqDiff, Nat.reduceAdd, Nat.reduceLeDiff, Nat.reduceBEq, Nat.reduceMul, Nat.reduceLT, Int.reduceLT, Int.reduceLE, Int.reduceToNat, Int.reduceNeg, Int.reduceEq, Int.reduceMul, reduceCtorEq, Int.reduceBEq, Int.reduceBNe, Int.reduceAdd, Int.reduceSub, ltT, ltF, leT, leF, s1, s2, s3, hF, hB, hU, hU2, law_awake, r1, q1, hlim, hlim2]
        refine days_loop hv' hll hb _ _ _ _ _ _ _ _ _ _ _ _ ?_ l.length 0 (by omega) [] 0 rfl rfl _ (by rfl) (by rfl) (by rfl) (by rfl) (by rfl) (by rfl) (by rfl) (by rfl) (by rfl) (by rfl) (by rfl) (by rfl) (by rfl) (by rfl)
        intro E e4 e9 e10 e11 e12 e13 e14 e15 e16 e17
        simp (maxSteps := 1000000) (implicitDefEqProofs := false) (disch := first | rfl | omega | assumption) only [go_sem, ↓reduceIte, Nat.reduceEqDiff, Nat.reduceAdd, Nat.reduceLeDiff, Nat.reduceBEq, Nat.reduceMul, Nat.reduceLT, Int.reduceLT, Int.reduceLE, Int.reduceToNat, Int.reduceNeg, Int.reduceEq, Int.reduceMul, reduceCtorEq, Int.reduceBEq, Int.reduceBNe, Int.reduceAdd, Int.reduceSub, ltT, ltF, leT, leF, e9, e10, e11, e12, e13, e14, e15, e16, e17, e4, hD, law_awake, s1, s2, s3, s4]
        refine short_loop h hv hc lim (daysD l) _ _ _ _ _ _ _ _ ?_ w.es.length 0 (by omega) [] _ (by exact e4) (by exact e9) (by exact e10) (by exact e11) (by exact e13) (by exact e14) (by exact e15) (by exact e16) (by exact e17) (by rfl) (by rfl) (by rfl) (by rfl) (by rfl)
        intro E f4 f9 f13 f14 f15 f16 f17 f20 f21 f22
        rw [lst_last]
        have p1 : 0 ≤ m1 * w.uhi ∧ m1 * w.uhi ≤ 300 := mul_bd3 ⟨n1, n2⟩ hu0
        have p2 : 0 ≤ (m1 + 1) * w.uhi ∧ (m1 + 1) * w.uhi ≤ 303 := mul_bd4 ⟨n1, n2⟩ hu0
        have k1 : ¬ m1 < 0 := by omega
        have k2 : ¬ 100 < m1 := by omega
        have k3 : ¬ w.lastP.1 - m1 * w.uhi < lim := by omega
        have k5 : ¬ m2 < m1 := by omega
        have dg : dayG w.uhi lim (daysD l) w.lastP.1 0 := rfl
        by_cases hm : m1 < 100
        · have k4 : ¬ lim ≤ w.lastP.1 - (m1 + 1) * w.uhi := by have := n4 hm; omega
          simp (maxSteps := 1000000) (implicitDefEqProofs := false) (disch := first | rfl | omega | assumption) only [go_sem, ↓reduceIte, Nat.reduceEqDiff, Nat.reduceAdd, Nat.reduceLeDiff, Nat.reduceBEq, Nat.reduceMul, Nat.reduceLT, Int.reduceLT, Int.reduceLE, Int.reduceToNat, Int.reduceNeg, Int.reduceEq, Int.reduceMul, reduceCtorEq, Int.reduceBEq, Int.reduceBNe, Int.reduceAdd, Int.reduceSub, ltT, ltF, leT, leF, f4, f9, f13, f14, f15, f16, f17, f20, f21, f22, hc1, k1, k2, k3, k4, k5, hm]
          exact day_loop hu0 lim (by omega) (daysD l) hDl (daysD_bd l) w.lastP.1 hlb _ (daysD l).length 0 (by omega) dg _ (by exact f4) (by exact f9) (by exact f20) (by exact f21) (by rfl) (by rfl) (by rfl) (by rfl)
        · simp (maxSteps := 1000000) (implicitDefEqProofs := false) (disch := first | rfl | omega | assumption) only [go_sem, ↓reduceIte, Nat.reduceEqDiff, Nat.reduceAdd, Nat.reduceLeDiff, Nat.reduceBEq, Nat.reduceMul, Nat.reduceLT, Int.reduceLT, Int.reduceLE, Int.reduceToNat, Int.reduceNeg, Int.reduceEq, Int.reduceMul, reduceCtorEq, Int.reduceBEq, Int.reduceBNe, Int.reduceAdd, Int.reduceSub, ltT, ltF, leT, leF, f4, f9, f13, f14, f15, f16, f17, f20, f21, f22, hc1, k1, k2, k3, k5, hm]
          exact day_loop hu0 lim (by omega) (daysD l) hDl (daysD_bd l) w.lastP.1 hlb _ (daysD l).length 0 (by omega) dg _ (by exact f4) (by exact f9) (by exact f20) (by exact f21) (by rfl) (by rfl) (by rfl) (by rfl)
      · simp only [hc1, if_false] at hU
        obtain ⟨m2, z2, hm2⟩ : ∃ m2 z2 : Int, (if lim2 ≤ w.lastP.1 then (untN w.uhi (w.lastP.1 - lim2), (0 : Int)) else (0, 4)) = (m2, z2) := ⟨_, _, rfl⟩
        simp only [hm2] at hU2
        have dg : dayG w.uhi lim (daysD l) w.lastP.1 0 := rfl
        refine (callFL_eq fn7 rfl (by simp [Tryd.f7])).trans ?_
        simp (maxSteps := 1000000) (implicitDefEqProofs := false) (disch := first | rfl | omega | assumption) only [go_sem, ↓reduceIte, Nat.reduceEqDiff, Nat.reduceAdd, Nat.reduceLeDiff, Nat.reduceBEq, Nat.reduceMul, Nat.reduceLT, Int.reduceLT, Int.reduceLE, Int.reduceToNat, Int.reduceNeg, Int.reduceEq, Int.reduceMul, reduceCtorEq, Int.reduceBEq, Int.reduceBNe, Int.reduceAdd, Int.reduceSub, ltT, ltF, leT, leF, s1, s2, s3, hF, hB, hU, hU2, law_awake, r1, q1, hlim, hlim2]
        refine days_loop hv' hll hb _ _ _ _ _ _ _ _ _ _ _ _ ?_ l.length 0 (by omega) [] 0 rfl rfl _ (by rfl) (by rfl) (by rfl) (by rfl) (by rfl) (by rfl) (by rfl) (by rfl) (by rfl) (by rfl) (by rfl) (by rfl) (by rfl) (by rfl)
        intro E e4 e9 e10 e11 e12 e13 e14 e15 e16 e17
        simp (maxSteps := 1000000) (implicitDefEqProofs := false) (disch := first | rfl | omega | assumption) only [go_sem, ↓reduceIte, Nat.reduceEqDiff, Nat.reduceAdd, Nat.reduceLeDiff, Nat.reduceBEq, Nat.reduceMul, Nat.reduceLT, Int.reduceLT, Int.reduceLE, Int.reduceToNat, Int.reduceNeg, Int.reduceEq, Int.reduceMul, reduceCtorEq, Int.reduceBEq, Int.reduceBNe, Int.reduceAdd, Int.reduceSub, ltT, ltF, leT, leF, e9, e10, e11, e12, e13, e14, e15, e16, e17, e4, hD, law_awake, s1, s2, s3, s4]
        refine short_loop h hv hc lim (daysD l) _ _ _ _ _ _ _ _ ?_ w.es.length 0 (by omega) [] _ (by exact e4) (by exact e9) (by exact e10) (by exact e11) (by exact e13) (by exact e14) (by exact e15) (by exact e16) (by exact e17) (by rfl) (by rfl) (by rfl) (by rfl) (by rfl)
        intro E f4 f9 f13 f14 f15 f16 f17 f20 f21 f22
        rw [lst_last]
        simp (maxSteps := 1000000) (implicitDefEqProofs := false) (disch := first | rfl | omega | assumption) only [go_sem, ↓reduceIte, Nat.reduceEqDiff, Nat.reduceAdd, Nat.reduceLeDiff, Nat.reduceBEq, Nat.reduceMul, Nat.reduceLT, Int.reduceLT, Int.reduceLE, Int.reduceToNat, Int.reduceNeg, Int.reduceEq, Int.reduceMul, reduceCtorEq, Int.reduceBEq, Int.reduceBNe, Int.reduceAdd, Int.reduceSub, ltT, ltF, leT, leF, f4, f9, f13, f14, f15, f16, f17, f20, f21, f22, hc1]
        exact day_loop hu0 lim (by omega) (daysD l) hDl (daysD_bd l) w.lastP.1 hlb _ (daysD l).length 0 (by omega) dg _ (by exact f4) (by exact f9) (by exact f20) (by exact f21) (by rfl) (by rfl) (by rfl) (by rfl)

end Go.Ab
