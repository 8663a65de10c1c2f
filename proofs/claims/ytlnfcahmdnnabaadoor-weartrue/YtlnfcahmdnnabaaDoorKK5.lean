/-
  The sort of a list of sets, walked.
-/
import Derived.Test.YtlnfcahmdnnabaaDoorKK4
import Derived.Test.YtlnfcahmdnnabaaDoorKK3
namespace Go.Ab
open Go.Proofs
set_option linter.unusedSimpArgs false
set_option linter.unusedVariables false
set_option maxRecDepth 100000

variable {H : Heap}

theorem so_sym_tail {fn : Fn} {cap : List AV} {p n a m b s mid e : Nat} {L L1 L2 L3 : List Nat} (hn : n ≤ 100000) (hb : b ≤ n) (hab : a ≤ s ∧ s ≤ m ∧ m ≤ e ∧ e ≤ b ∧ mid < b) (he : mid + m - s = e) (e6 : ((mid + m : Nat) : Int) - s = (e : Int))
    (d1 : ((s : Int) < m ∧ (m : Int) < e ∧ callFL cfg0 prog0 false 95 [.gsl p n, I s, I m, I (e : Int), .func fn [] cap] (GH H p L) none = some ⟨.ret (.tup []), GH H p L1, none⟩) ∨ ((s : Int) < m ∧ ¬ (m : Int) < e ∧ L = L1) ∨ (¬ (s : Int) < m ∧ L = L1))
    (d2 : ((a : Int) < s ∧ (s : Int) < mid ∧ callFL cfg0 prog0 false 94 [.gsl p n, I a, I s, I mid, .func fn [] cap] (GH H p L1) none = some ⟨.ret (.tup []), GH H p L2, none⟩) ∨ ((a : Int) < s ∧ ¬ (s : Int) < mid ∧ L1 = L2) ∨ (¬ (a : Int) < s ∧ L1 = L2))
    (d3 : ((mid : Int) < e ∧ (e : Int) < b ∧ callFL cfg0 prog0 false 94 [.gsl p n, I mid, I e, I b, .func fn [] cap] (GH H p L2) none = some ⟨.ret (.tup []), GH H p L3, none⟩) ∨ ((mid : Int) < e ∧ ¬ (e : Int) < b ∧ L2 = L3) ∨ (¬ (mid : Int) < e ∧ L2 = L3)) :
    ∀ (E : Env), E.get 0 = .gsl p n → E.get 1 = I a → E.get 2 = I m → E.get 3 = I b → E.get 4 = .func fn [] cap → E.get 18 = I mid → E.get 19 = I ((mid + m : Nat) : Int) → E.get 20 = I s →
        Option.map (finishC H.length) (execL cfg0 prog0 ⟨94, none, false, H.length⟩ (todoPast Tryd.f94 33) ⟨E, [], GH H p L, none⟩) = some ⟨.ret (.tup []), GH H p L3, none⟩ := by
  intro E g0 g1 g2 g3 g4 g18 g19 g20
  simp only [loopIt, todoPast, todoAt, todoOf, firstReg, ↓reduceIte, Option.some.injEq, Nat.reduceEqDiff, reduceCtorEq, Tryd.f94]
  rcases d1 with ⟨u1, v1, w1⟩ | ⟨u1, v1, rfl⟩ | ⟨u1, rfl⟩
  · simp (maxSteps := 1000000) (implicitDefEqProofs := false) (disch := first | rfl | omega | assumption) only [go_sem, ↓reduceIte, Nat.reduceEqDiff, Nat.reduceAdd, Nat.reduceLeDiff, Nat.reduceBEq, Nat.reduceMul, Nat.reduceLT, Int.reduceLT, Int.reduceLE, Int.reduceToNat, Int.reduceNeg, Int.reduceEq, Int.reduceMul, reduceCtorEq, Int.reduceBEq, Int.reduceBNe, Int.reduceAdd, Int.reduceSub, ltT, ltF, leT, leF, g0, g1, g2, g3, g4, g18, g19, g20, e6, u1, v1, w1]
    rcases d2 with ⟨u2, v2, w2⟩ | ⟨u2, v2, rfl⟩ | ⟨u2, rfl⟩
    · simp (maxSteps := 1000000) (implicitDefEqProofs := false) (disch := first | rfl | omega | assumption) only [go_sem, ↓reduceIte, Nat.reduceEqDiff, Nat.reduceAdd, Nat.reduceLeDiff, Nat.reduceBEq, Nat.reduceMul, Nat.reduceLT, Int.reduceLT, Int.reduceLE, Int.reduceToNat, Int.reduceNeg, Int.reduceEq, Int.reduceMul, reduceCtorEq, Int.reduceBEq, Int.reduceBNe, Int.reduceAdd, Int.reduceSub, ltT, ltF, leT, leF, g0, g1, g2, g3, g4, g18, g19, g20, e6, u1, v1, w1, u2, v2, w2]
      rcases d3 with ⟨u3, v3, w3⟩ | ⟨u3, v3, rfl⟩ | ⟨u3, rfl⟩
      · first | (exfalso; omega) | simp (maxSteps := 1000000) (implicitDefEqProofs := false) (disch := first | rfl | omega | assumption) only [go_sem, ↓reduceIte, Nat.reduceEqDiff, Nat.reduceAdd, Nat.reduceLeDiff, Nat.reduceBEq, Nat.reduceMul, Nat.reduceLT, Int.reduceLT, Int.reduceLE, Int.reduceToNat, Int.reduceNeg, Int.reduceEq, Int.reduceMul, reduceCtorEq, Int.reduceBEq, Int.reduceBNe, Int.reduceAdd, Int.reduceSub, ltT, ltF, leT, leF, g0, g1, g2, g3, g4, g18, g19, g20, e6, u1, v1, w1, u2, v2, w2, u3, v3, w3]
      · first | (exfalso; omega) | simp (maxSteps := 1000000) (implicitDefEqProofs := false) (disch := first | rfl | omega | assumption) only [go_sem, ↓reduceIte, Nat.reduceEqDiff, Nat.reduceAdd, Nat.reduceLeDiff, Nat.reduceBEq, Nat.reduceMul, Nat.reduceLT, Int.reduceLT, Int.reduceLE, Int.reduceToNat, Int.reduceNeg, Int.reduceEq, Int.reduceMul, reduceCtorEq, Int.reduceBEq, Int.reduceBNe, Int.reduceAdd, Int.reduceSub, ltT, ltF, leT, leF, g0, g1, g2, g3, g4, g18, g19, g20, e6, u1, v1, w1, u2, v2, w2, u3, v3]
      · first | (exfalso; omega) | simp (maxSteps := 1000000) (implicitDefEqProofs := false) (disch := first | rfl | omega | assumption) only [go_sem, ↓reduceIte, Nat.reduceEqDiff, Nat.reduceAdd, Nat.reduceLeDiff, Nat.reduceBEq, Nat.reduceMul, Nat.reduceLT, Int.reduceLT, Int.reduceLE, Int.reduceToNat, Int.reduceNeg, Int.reduceEq, Int.reduceMul, reduceCtorEq, Int.reduceBEq, Int.reduceBNe, Int.reduceAdd, Int.reduceSub, ltT, ltF, leT, leF, g0, g1, g2, g3, g4, g18, g19, g20, e6, u1, v1, w1, u2, v2, w2, u3]
    · simp (maxSteps := 1000000) (implicitDefEqProofs := false) (disch := first | rfl | omega | assumption) only [go_sem, ↓reduceIte, Nat.reduceEqDiff, Nat.reduceAdd, Nat.reduceLeDiff, Nat.reduceBEq, Nat.reduceMul, Nat.reduceLT, Int.reduceLT, Int.reduceLE, Int.reduceToNat, Int.reduceNeg, Int.reduceEq, Int.reduceMul, reduceCtorEq, Int.reduceBEq, Int.reduceBNe, Int.reduceAdd, Int.reduceSub, ltT, ltF, leT, leF, g0, g1, g2, g3, g4, g18, g19, g20, e6, u1, v1, w1, u2, v2]
      rcases d3 with ⟨u3, v3, w3⟩ | ⟨u3, v3, rfl⟩ | ⟨u3, rfl⟩
      · first | (exfalso; omega) | simp (maxSteps := 1000000) (implicitDefEqProofs := false) (disch := first | rfl | omega | assumption) only [go_sem, ↓reduceIte, Nat.reduceEqDiff, Nat.reduceAdd, Nat.reduceLeDiff, Nat.reduceBEq, Nat.reduceMul, Nat.reduceLT, Int.reduceLT, Int.reduceLE, Int.reduceToNat, Int.reduceNeg, Int.reduceEq, Int.reduceMul, reduceCtorEq, Int.reduceBEq, Int.reduceBNe, Int.reduceAdd, Int.reduceSub, ltT, ltF, leT, leF, g0, g1, g2, g3, g4, g18, g19, g20, e6, u1, v1, w1, u2, v2, u3, v3, w3]
      · first | (exfalso; omega) | simp (maxSteps := 1000000) (implicitDefEqProofs := false) (disch := first | rfl | omega | assumption) only [go_sem, ↓reduceIte, Nat.reduceEqDiff, Nat.reduceAdd, Nat.reduceLeDiff, Nat.reduceBEq, Nat.reduceMul, Nat.reduceLT, Int.reduceLT, Int.reduceLE, Int.reduceToNat, Int.reduceNeg, Int.reduceEq, Int.reduceMul, reduceCtorEq, Int.reduceBEq, Int.reduceBNe, Int.reduceAdd, Int.reduceSub, ltT, ltF, leT, leF, g0, g1, g2, g3, g4, g18, g19, g20, e6, u1, v1, w1, u2, v2, u3, v3]
      · first | (exfalso; omega) | simp (maxSteps := 1000000) (implicitDefEqProofs := false) (disch := first | rfl | omega | assumption) only [go_sem, ↓reduceIte, Nat.reduceEqDiff, Nat.reduceAdd, Nat.reduceLeDiff, Nat.reduceBEq, Nat.reduceMul, Nat.reduceLT, Int.reduceLT, Int.reduceLE, Int.reduceToNat, Int.reduceNeg, Int.reduceEq, Int.reduceMul, reduceCtorEq, Int.reduceBEq, Int.reduceBNe, Int.reduceAdd, Int.reduceSub, ltT, ltF, leT, leF, g0, g1, g2, g3, g4, g18, g19, g20, e6, u1, v1, w1, u2, v2, u3]
    · simp (maxSteps := 1000000) (implicitDefEqProofs := false) (disch := first | rfl | omega | assumption) only [go_sem, ↓reduceIte, Nat.reduceEqDiff, Nat.reduceAdd, Nat.reduceLeDiff, Nat.reduceBEq, Nat.reduceMul, Nat.reduceLT, Int.reduceLT, Int.reduceLE, Int.reduceToNat, Int.reduceNeg, Int.reduceEq, Int.reduceMul, reduceCtorEq, Int.reduceBEq, Int.reduceBNe, Int.reduceAdd, Int.reduceSub, ltT, ltF, leT, leF, g0, g1, g2, g3, g4, g18, g19, g20, e6, u1, v1, w1, u2]
      rcases d3 with ⟨u3, v3, w3⟩ | ⟨u3, v3, rfl⟩ | ⟨u3, rfl⟩
      · first | (exfalso; omega) | simp (maxSteps := 1000000) (implicitDefEqProofs := false) (disch := first | rfl | omega | assumption) only [go_sem, ↓reduceIte, Nat.reduceEqDiff, Nat.reduceAdd, Nat.reduceLeDiff, Nat.reduceBEq, Nat.reduceMul, Nat.reduceLT, Int.reduceLT, Int.reduceLE, Int.reduceToNat, Int.reduceNeg, Int.reduceEq, Int.reduceMul, reduceCtorEq, Int.reduceBEq, Int.reduceBNe, Int.reduceAdd, Int.reduceSub, ltT, ltF, leT, leF, g0, g1, g2, g3, g4, g18, g19, g20, e6, u1, v1, w1, u2, u3, v3, w3]
      · first | (exfalso; omega) | simp (maxSteps := 1000000) (implicitDefEqProofs := false) (disch := first | rfl | omega | assumption) only [go_sem, ↓reduceIte, Nat.reduceEqDiff, Nat.reduceAdd, Nat.reduceLeDiff, Nat.reduceBEq, Nat.reduceMul, Nat.reduceLT, Int.reduceLT, Int.reduceLE, Int.reduceToNat, Int.reduceNeg, Int.reduceEq, Int.reduceMul, reduceCtorEq, Int.reduceBEq, Int.reduceBNe, Int.reduceAdd, Int.reduceSub, ltT, ltF, leT, leF, g0, g1, g2, g3, g4, g18, g19, g20, e6, u1, v1, w1, u2, u3, v3]
      · first | (exfalso; omega) | simp (maxSteps := 1000000) (implicitDefEqProofs := false) (disch := first | rfl | omega | assumption) only [go_sem, ↓reduceIte, Nat.reduceEqDiff, Nat.reduceAdd, Nat.reduceLeDiff, Nat.reduceBEq, Nat.reduceMul, Nat.reduceLT, Int.reduceLT, Int.reduceLE, Int.reduceToNat, Int.reduceNeg, Int.reduceEq, Int.reduceMul, reduceCtorEq, Int.reduceBEq, Int.reduceBNe, Int.reduceAdd, Int.reduceSub, ltT, ltF, leT, leF, g0, g1, g2, g3, g4, g18, g19, g20, e6, u1, v1, w1, u2, u3]
  · simp (maxSteps := 1000000) (implicitDefEqProofs := false) (disch := first | rfl | omega | assumption) only [go_sem, ↓reduceIte, Nat.reduceEqDiff, Nat.reduceAdd, Nat.reduceLeDiff, Nat.reduceBEq, Nat.reduceMul, Nat.reduceLT, Int.reduceLT, Int.reduceLE, Int.reduceToNat, Int.reduceNeg, Int.reduceEq, Int.reduceMul, reduceCtorEq, Int.reduceBEq, Int.reduceBNe, Int.reduceAdd, Int.reduceSub, ltT, ltF, leT, leF, g0, g1, g2, g3, g4, g18, g19, g20, e6, u1, v1]
    rcases d2 with ⟨u2, v2, w2⟩ | ⟨u2, v2, rfl⟩ | ⟨u2, rfl⟩
    · simp (maxSteps := 1000000) (implicitDefEqProofs := false) (disch := first | rfl | omega | assumption) only [go_sem, ↓reduceIte, Nat.reduceEqDiff, Nat.reduceAdd, Nat.reduceLeDiff, Nat.reduceBEq, Nat.reduceMul, Nat.reduceLT, Int.reduceLT, Int.reduceLE, Int.reduceToNat, Int.reduceNeg, Int.reduceEq, Int.reduceMul, reduceCtorEq, Int.reduceBEq, Int.reduceBNe, Int.reduceAdd, Int.reduceSub, ltT, ltF, leT, leF, g0, g1, g2, g3, g4, g18, g19, g20, e6, u1, v1, u2, v2, w2]
      rcases d3 with ⟨u3, v3, w3⟩ | ⟨u3, v3, rfl⟩ | ⟨u3, rfl⟩
      · first | (exfalso; omega) | simp (maxSteps := 1000000) (implicitDefEqProofs := false) (disch := first | rfl | omega | assumption) only [go_sem, ↓reduceIte, Nat.reduceEqDiff, Nat.reduceAdd, Nat.reduceLeDiff, Nat.reduceBEq, Nat.reduceMul, Nat.reduceLT, Int.reduceLT, Int.reduceLE, Int.reduceToNat, Int.reduceNeg, Int.reduceEq, Int.reduceMul, reduceCtorEq, Int.reduceBEq, Int.reduceBNe, Int.reduceAdd, Int.reduceSub, ltT, ltF, leT, leF, g0, g1, g2, g3, g4, g18, g19, g20, e6, u1, v1, u2, v2, w2, u3, v3, w3]
      · first | (exfalso; omega) | simp (maxSteps := 1000000) (implicitDefEqProofs := false) (disch := first | rfl | omega | assumption) only [go_sem, ↓reduceIte, Nat.reduceEqDiff, Nat.reduceAdd, Nat.reduceLeDiff, Nat.reduceBEq, Nat.reduceMul, Nat.reduceLT, Int.reduceLT, Int.reduceLE, Int.reduceToNat, Int.reduceNeg, Int.reduceEq, Int.reduceMul, reduceCtorEq, Int.reduceBEq, Int.reduceBNe, Int.reduceAdd, Int.reduceSub, ltT, ltF, leT, leF, g0, g1, g2, g3, g4, g18, g19, g20, e6, u1, v1, u2, v2, w2, u3, v3]
      · first | (exfalso; omega) | simp (maxSteps := 1000000) (implicitDefEqProofs := false) (disch := first | rfl | omega | assumption) only [go_sem, ↓reduceIte, Nat.reduceEqDiff, Nat.reduceAdd, Nat.reduceLeDiff, Nat.reduceBEq, Nat.reduceMul, Nat.reduceLT, Int.reduceLT, Int.reduceLE, Int.reduceToNat, Int.reduceNeg, Int.reduceEq, Int.reduceMul, reduceCtorEq, Int.reduceBEq, Int.reduceBNe, Int.reduceAdd, Int.reduceSub, ltT, ltF, leT, leF, g0, g1, g2, g3, g4, g18, g19, g20, e6, u1, v1, u2, v2, w2, u3]
    · simp (maxSteps := 1000000) (implicitDefEqProofs := false) (disch := first | rfl | omega | assumption) only [go_sem, ↓reduceIte, Nat.reduceEqDiff, Nat.reduceAdd, Nat.reduceLeDiff, Nat.reduceBEq, Nat.reduceMul, Nat.reduceLT, Int.reduceLT, Int.reduceLE, Int.reduceToNat, Int.reduceNeg, Int.reduceEq, Int.reduceMul, reduceCtorEq, Int.reduceBEq, Int.reduceBNe, Int.reduceAdd, Int.reduceSub, ltT, ltF, leT, leF, g0, g1, g2, g3, g4, g18, g19, g20, e6, u1, v1, u2, v2]
      rcases d3 with ⟨u3, v3, w3⟩ | ⟨u3, v3, rfl⟩ | ⟨u3, rfl⟩
      · first | (exfalso; omega) | simp (maxSteps := 1000000) (implicitDefEqProofs := false) (disch := first | rfl | omega | assumption) only [go_sem, ↓reduceIte, Nat.reduceEqDiff, Nat.reduceAdd, Nat.reduceLeDiff, Nat.reduceBEq, Nat.reduceMul, Nat.reduceLT, Int.reduceLT, Int.reduceLE, Int.reduceToNat, Int.reduceNeg, Int.reduceEq, Int.reduceMul, reduceCtorEq, Int.reduceBEq, Int.reduceBNe, Int.reduceAdd, Int.reduceSub, ltT, ltF, leT, leF, g0, g1, g2, g3, g4, g18, g19, g20, e6, u1, v1, u2, v2, u3, v3, w3]
      · first | (exfalso; omega) | simp (maxSteps := 1000000) (implicitDefEqProofs := false) (disch := first | rfl | omega | assumption) only [go_sem, ↓reduceIte, Nat.reduceEqDiff, Nat.reduceAdd, Nat.reduceLeDiff, Nat.reduceBEq, Nat.reduceMul, Nat.reduceLT, Int.reduceLT, Int.reduceLE, Int.reduceToNat, Int.reduceNeg, Int.reduceEq, Int.reduceMul, reduceCtorEq, Int.reduceBEq, Int.reduceBNe, Int.reduceAdd, Int.reduceSub, ltT, ltF, leT, leF, g0, g1, g2, g3, g4, g18, g19, g20, e6, u1, v1, u2, v2, u3, v3]
      · first | (exfalso; omega) | simp (maxSteps := 1000000) (implicitDefEqProofs := false) (disch := first | rfl | omega | assumption) only [go_sem, ↓reduceIte, Nat.reduceEqDiff, Nat.reduceAdd, Nat.reduceLeDiff, Nat.reduceBEq, Nat.reduceMul, Nat.reduceLT, Int.reduceLT, Int.reduceLE, Int.reduceToNat, Int.reduceNeg, Int.reduceEq, Int.reduceMul, reduceCtorEq, Int.reduceBEq, Int.reduceBNe, Int.reduceAdd, Int.reduceSub, ltT, ltF, leT, leF, g0, g1, g2, g3, g4, g18, g19, g20, e6, u1, v1, u2, v2, u3]
    · simp (maxSteps := 1000000) (implicitDefEqProofs := false) (disch := first | rfl | omega | assumption) only [go_sem, ↓reduceIte, Nat.reduceEqDiff, Nat.reduceAdd, Nat.reduceLeDiff, Nat.reduceBEq, Nat.reduceMul, Nat.reduceLT, Int.reduceLT, Int.reduceLE, Int.reduceToNat, Int.reduceNeg, Int.reduceEq, Int.reduceMul, reduceCtorEq, Int.reduceBEq, Int.reduceBNe, Int.reduceAdd, Int.reduceSub, ltT, ltF, leT, leF, g0, g1, g2, g3, g4, g18, g19, g20, e6, u1, v1, u2]
      rcases d3 with ⟨u3, v3, w3⟩ | ⟨u3, v3, rfl⟩ | ⟨u3, rfl⟩
      · first | (exfalso; omega) | simp (maxSteps := 1000000) (implicitDefEqProofs := false) (disch := first | rfl | omega | assumption) only [go_sem, ↓reduceIte, Nat.reduceEqDiff, Nat.reduceAdd, Nat.reduceLeDiff, Nat.reduceBEq, Nat.reduceMul, Nat.reduceLT, Int.reduceLT, Int.reduceLE, Int.reduceToNat, Int.reduceNeg, Int.reduceEq, Int.reduceMul, reduceCtorEq, Int.reduceBEq, Int.reduceBNe, Int.reduceAdd, Int.reduceSub, ltT, ltF, leT, leF, g0, g1, g2, g3, g4, g18, g19, g20, e6, u1, v1, u2, u3, v3, w3]
      · first | (exfalso; omega) | simp (maxSteps := 1000000) (implicitDefEqProofs := false) (disch := first | rfl | omega | assumption) only [go_sem, ↓reduceIte, Nat.reduceEqDiff, Nat.reduceAdd, Nat.reduceLeDiff, Nat.reduceBEq, Nat.reduceMul, Nat.reduceLT, Int.reduceLT, Int.reduceLE, Int.reduceToNat, Int.reduceNeg, Int.reduceEq, Int.reduceMul, reduceCtorEq, Int.reduceBEq, Int.reduceBNe, Int.reduceAdd, Int.reduceSub, ltT, ltF, leT, leF, g0, g1, g2, g3, g4, g18, g19, g20, e6, u1, v1, u2, u3, v3]
      · first | (exfalso; omega) | simp (maxSteps := 1000000) (implicitDefEqProofs := false) (disch := first | rfl | omega | assumption) only [go_sem, ↓reduceIte, Nat.reduceEqDiff, Nat.reduceAdd, Nat.reduceLeDiff, Nat.reduceBEq, Nat.reduceMul, Nat.reduceLT, Int.reduceLT, Int.reduceLE, Int.reduceToNat, Int.reduceNeg, Int.reduceEq, Int.reduceMul, reduceCtorEq, Int.reduceBEq, Int.reduceBNe, Int.reduceAdd, Int.reduceSub, ltT, ltF, leT, leF, g0, g1, g2, g3, g4, g18, g19, g20, e6, u1, v1, u2, u3]
  · simp (maxSteps := 1000000) (implicitDefEqProofs := false) (disch := first | rfl | omega | assumption) only [go_sem, ↓reduceIte, Nat.reduceEqDiff, Nat.reduceAdd, Nat.reduceLeDiff, Nat.reduceBEq, Nat.reduceMul, Nat.reduceLT, Int.reduceLT, Int.reduceLE, Int.reduceToNat, Int.reduceNeg, Int.reduceEq, Int.reduceMul, reduceCtorEq, Int.reduceBEq, Int.reduceBNe, Int.reduceAdd, Int.reduceSub, ltT, ltF, leT, leF, g0, g1, g2, g3, g4, g18, g19, g20, e6, u1]
    rcases d2 with ⟨u2, v2, w2⟩ | ⟨u2, v2, rfl⟩ | ⟨u2, rfl⟩
    · simp (maxSteps := 1000000) (implicitDefEqProofs := false) (disch := first | rfl | omega | assumption) only [go_sem, ↓reduceIte, Nat.reduceEqDiff, Nat.reduceAdd, Nat.reduceLeDiff, Nat.reduceBEq, Nat.reduceMul, Nat.reduceLT, Int.reduceLT, Int.reduceLE, Int.reduceToNat, Int.reduceNeg, Int.reduceEq, Int.reduceMul, reduceCtorEq, Int.reduceBEq, Int.reduceBNe, Int.reduceAdd, Int.reduceSub, ltT, ltF, leT, leF, g0, g1, g2, g3, g4, g18, g19, g20, e6, u1, u2, v2, w2]
      rcases d3 with ⟨u3, v3, w3⟩ | ⟨u3, v3, rfl⟩ | ⟨u3, rfl⟩
      · first | (exfalso; omega) | simp (maxSteps := 1000000) (implicitDefEqProofs := false) (disch := first | rfl | omega | assumption) only [go_sem, ↓reduceIte, Nat.reduceEqDiff, Nat.reduceAdd, Nat.reduceLeDiff, Nat.reduceBEq, Nat.reduceMul, Nat.reduceLT, Int.reduceLT, Int.reduceLE, Int.reduceToNat, Int.reduceNeg, Int.reduceEq, Int.reduceMul, reduceCtorEq, Int.reduceBEq, Int.reduceBNe, Int.reduceAdd, Int.reduceSub, ltT, ltF, leT, leF, g0, g1, g2, g3, g4, g18, g19, g20, e6, u1, u2, v2, w2, u3, v3, w3]
      · first | (exfalso; omega) | simp (maxSteps := 1000000) (implicitDefEqProofs := false) (disch := first | rfl | omega | assumption) only [go_sem, ↓reduceIte, Nat.reduceEqDiff, Nat.reduceAdd, Nat.reduceLeDiff, Nat.reduceBEq, Nat.reduceMul, Nat.reduceLT, Int.reduceLT, Int.reduceLE, Int.reduceToNat, Int.reduceNeg, Int.reduceEq, Int.reduceMul, reduceCtorEq, Int.reduceBEq, Int.reduceBNe, Int.reduceAdd, Int.reduceSub, ltT, ltF, leT, leF, g0, g1, g2, g3, g4, g18, g19, g20, e6, u1, u2, v2, w2, u3, v3]
      · first | (exfalso; omega) | simp (maxSteps := 1000000) (implicitDefEqProofs := false) (disch := first | rfl | omega | assumption) only [go_sem, ↓reduceIte, Nat.reduceEqDiff, Nat.reduceAdd, Nat.reduceLeDiff, Nat.reduceBEq, Nat.reduceMul, Nat.reduceLT, Int.reduceLT, Int.reduceLE, Int.reduceToNat, Int.reduceNeg, Int.reduceEq, Int.reduceMul, reduceCtorEq, Int.reduceBEq, Int.reduceBNe, Int.reduceAdd, Int.reduceSub, ltT, ltF, leT, leF, g0, g1, g2, g3, g4, g18, g19, g20, e6, u1, u2, v2, w2, u3]
    · simp (maxSteps := 1000000) (implicitDefEqProofs := false) (disch := first | rfl | omega | assumption) only [go_sem, ↓reduceIte, Nat.reduceEqDiff, Nat.reduceAdd, Nat.reduceLeDiff, Nat.reduceBEq, Nat.reduceMul, Nat.reduceLT, Int.reduceLT, Int.reduceLE, Int.reduceToNat, Int.reduceNeg, Int.reduceEq, Int.reduceMul, reduceCtorEq, Int.reduceBEq, Int.reduceBNe, Int.reduceAdd, Int.reduceSub, ltT, ltF, leT, leF, g0, g1, g2, g3, g4, g18, g19, g20, e6, u1, u2, v2]
      rcases d3 with ⟨u3, v3, w3⟩ | ⟨u3, v3, rfl⟩ | ⟨u3, rfl⟩
      · first | (exfalso; omega) | simp (maxSteps := 1000000) (implicitDefEqProofs := false) (disch := first | rfl | omega | assumption) only [go_sem, ↓reduceIte, Nat.reduceEqDiff, Nat.reduceAdd, Nat.reduceLeDiff, Nat.reduceBEq, Nat.reduceMul, Nat.reduceLT, Int.reduceLT, Int.reduceLE, Int.reduceToNat, Int.reduceNeg, Int.reduceEq, Int.reduceMul, reduceCtorEq, Int.reduceBEq, Int.reduceBNe, Int.reduceAdd, Int.reduceSub, ltT, ltF, leT, leF, g0, g1, g2, g3, g4, g18, g19, g20, e6, u1, u2, v2, u3, v3, w3]
      · first | (exfalso; omega) | simp (maxSteps := 1000000) (implicitDefEqProofs := false) (disch := first | rfl | omega | assumption) only [go_sem, ↓reduceIte, Nat.reduceEqDiff, Nat.reduceAdd, Nat.reduceLeDiff, Nat.reduceBEq, Nat.reduceMul, Nat.reduceLT, Int.reduceLT, Int.reduceLE, Int.reduceToNat, Int.reduceNeg, Int.reduceEq, Int.reduceMul, reduceCtorEq, Int.reduceBEq, Int.reduceBNe, Int.reduceAdd, Int.reduceSub, ltT, ltF, leT, leF, g0, g1, g2, g3, g4, g18, g19, g20, e6, u1, u2, v2, u3, v3]
      · first | (exfalso; omega) | simp (maxSteps := 1000000) (implicitDefEqProofs := false) (disch := first | rfl | omega | assumption) only [go_sem, ↓reduceIte, Nat.reduceEqDiff, Nat.reduceAdd, Nat.reduceLeDiff, Nat.reduceBEq, Nat.reduceMul, Nat.reduceLT, Int.reduceLT, Int.reduceLE, Int.reduceToNat, Int.reduceNeg, Int.reduceEq, Int.reduceMul, reduceCtorEq, Int.reduceBEq, Int.reduceBNe, Int.reduceAdd, Int.reduceSub, ltT, ltF, leT, leF, g0, g1, g2, g3, g4, g18, g19, g20, e6, u1, u2, v2, u3]
    · simp (maxSteps := 1000000) (implicitDefEqProofs := false) (disch := first | rfl | omega | assumption) only [go_sem, ↓reduceIte, Nat.reduceEqDiff, Nat.reduceAdd, Nat.reduceLeDiff, Nat.reduceBEq, Nat.reduceMul, Nat.reduceLT, Int.reduceLT, Int.reduceLE, Int.reduceToNat, Int.reduceNeg, Int.reduceEq, Int.reduceMul, reduceCtorEq, Int.reduceBEq, Int.reduceBNe, Int.reduceAdd, Int.reduceSub, ltT, ltF, leT, leF, g0, g1, g2, g3, g4, g18, g19, g20, e6, u1, u2]
      rcases d3 with ⟨u3, v3, w3⟩ | ⟨u3, v3, rfl⟩ | ⟨u3, rfl⟩
      · first | (exfalso; omega) | simp (maxSteps := 1000000) (implicitDefEqProofs := false) (disch := first | rfl | omega | assumption) only [go_sem, ↓reduceIte, Nat.reduceEqDiff, Nat.reduceAdd, Nat.reduceLeDiff, Nat.reduceBEq, Nat.reduceMul, Nat.reduceLT, Int.reduceLT, Int.reduceLE, Int.reduceToNat, Int.reduceNeg, Int.reduceEq, Int.reduceMul, reduceCtorEq, Int.reduceBEq, Int.reduceBNe, Int.reduceAdd, Int.reduceSub, ltT, ltF, leT, leF, g0, g1, g2, g3, g4, g18, g19, g20, e6, u1, u2, u3, v3, w3]
      · first | (exfalso; omega) | simp (maxSteps := 1000000) (implicitDefEqProofs := false) (disch := first | rfl | omega | assumption) only [go_sem, ↓reduceIte, Nat.reduceEqDiff, Nat.reduceAdd, Nat.reduceLeDiff, Nat.reduceBEq, Nat.reduceMul, Nat.reduceLT, Int.reduceLT, Int.reduceLE, Int.reduceToNat, Int.reduceNeg, Int.reduceEq, Int.reduceMul, reduceCtorEq, Int.reduceBEq, Int.reduceBNe, Int.reduceAdd, Int.reduceSub, ltT, ltF, leT, leF, g0, g1, g2, g3, g4, g18, g19, g20, e6, u1, u2, u3, v3]
      · first | (exfalso; omega) | simp (maxSteps := 1000000) (implicitDefEqProofs := false) (disch := first | rfl | omega | assumption) only [go_sem, ↓reduceIte, Nat.reduceEqDiff, Nat.reduceAdd, Nat.reduceLeDiff, Nat.reduceBEq, Nat.reduceMul, Nat.reduceLT, Int.reduceLT, Int.reduceLE, Int.reduceToNat, Int.reduceNeg, Int.reduceEq, Int.reduceMul, reduceCtorEq, Int.reduceBEq, Int.reduceBNe, Int.reduceAdd, Int.reduceSub, ltT, ltF, leT, leF, g0, g1, g2, g3, g4, g18, g19, g20, e6, u1, u2, u3]


theorem so_sym {fn : Fn} {cap : List AV} {key : Nat → Int} {B : Nat} (hc : Cmp fn cap key B) {p : Nat} (hp : p < H.length) {n : Nat} (hn : n ≤ 100000) : ∀ (f : Nat) (L : List Nat) (a m b : Nat), b - a ≤ f → a < m → m < b → b ≤ n → L.length = n → Small B L →
    callFL cfg0 prog0 false 94 [.gsl p n, I a, I m, I b, .func fn [] cap] (GH H p L) none = some ⟨.ret (.tup []), GH H p (sym key f L a m b), none⟩ := by
  intro f
  induction f with
  | zero => intro L a m b h1 h2 h3; omega
  | succ f ih =>
    intro L a m b hf ham hmb hbn hL hB
    have hlen : ∀ M, (GH H p M).length = H.length := fun M => by simp [GH]
    rw [sym]
    by_cases c1 : m - a = 1
    · rw [if_pos c1]
      have z1 : ((m : Int) - a == 1) = true := by simp; omega
      have hb := bs_bd (fun h => decide (key (gt L h) - key (gt L a) < 0)) (b - m + 1) m b (by omega)
      have h2 := up_loop hp a (bs (fun h => decide (key (gt L h) - key (gt L a) < 0)) (b - m + 1) m b) n hn (by omega) (symA key L a m b) _ 0 (Nat.zero_add _) L hL rfl
      refine (callFL_eq fn94 rfl (by simp [Tryd.f94])).trans ?_
      simp (maxSteps := 1000000) (implicitDefEqProofs := false) (disch := first | rfl | omega | assumption) only [go_sem, ↓reduceIte, Nat.reduceEqDiff, Nat.reduceAdd, Nat.reduceLeDiff, Nat.reduceBEq, Nat.reduceMul, Nat.reduceLT, Int.reduceLT, Int.reduceLE, Int.reduceToNat, Int.reduceNeg, Int.reduceEq, Int.reduceMul, reduceCtorEq, Int.reduceBEq, Int.reduceBNe, Int.reduceAdd, Int.reduceSub, ltT, ltF, leT, leF, hlen, z1]
      refine bsA_loop hc hp a m b n hn (by omega) L hL hB (b - m + 1) _ _ _ (fun E g0 g1 g2 g3 g4 g10 => ?_) (b - m + 1) 0 (by omega) m b hbn (by omega) (by omega) rfl _ (by rfl) (by rfl) (by rfl) (by rfl) (by rfl) (by rfl) (by rfl)
      simp (maxSteps := 1000000) (implicitDefEqProofs := false) (disch := first | rfl | omega | assumption) only [go_sem, ↓reduceIte, Nat.reduceEqDiff, Nat.reduceAdd, Nat.reduceLeDiff, Nat.reduceBEq, Nat.reduceMul, Nat.reduceLT, Int.reduceLT, Int.reduceLE, Int.reduceToNat, Int.reduceNeg, Int.reduceEq, Int.reduceMul, reduceCtorEq, Int.reduceBEq, Int.reduceBNe, Int.reduceAdd, Int.reduceSub, ltT, ltF, leT, leF, g0, g1, g2, g3, g4, g10]
      exact h2 _ (by exact g0) (by exact g10) (by rfl)
    rw [if_neg c1]
    have z1 : ((m : Int) - a == 1) = false := by simp; omega
    by_cases c2 : b - m = 1
    · rw [if_pos c2]
      have z2 : ((b : Int) - m == 1) = true := by simp; omega
      have hb := bs_bd (fun h => !decide (key (gt L m) - key (gt L h) < 0)) (m - a + 1) a m (by omega)
      have h2 := dn_loop hp (bs (fun h => !decide (key (gt L m) - key (gt L h) < 0)) (m - a + 1) a m) m n hn (by omega) (symB key L a m b) _ 0 (Nat.zero_add _) L hL rfl
      have e : bs (fun h => !decide (key (gt L m) - key (gt L h) < 0)) (m - a + 1) a m + (m - bs (fun h => !decide (key (gt L m) - key (gt L h) < 0)) (m - a + 1) a m) = m := by omega
      rw [e] at h2
      refine (callFL_eq fn94 rfl (by simp [Tryd.f94])).trans ?_
      simp (maxSteps := 1000000) (implicitDefEqProofs := false) (disch := first | rfl | omega | assumption) only [go_sem, ↓reduceIte, Nat.reduceEqDiff, Nat.reduceAdd, Nat.reduceLeDiff, Nat.reduceBEq, Nat.reduceMul, Nat.reduceLT, Int.reduceLT, Int.reduceLE, Int.reduceToNat, Int.reduceNeg, Int.reduceEq, Int.reduceMul, reduceCtorEq, Int.reduceBEq, Int.reduceBNe, Int.reduceAdd, Int.reduceSub, ltT, ltF, leT, leF, hlen, z1, z2]
      refine bsB_loop hc hp a m b n hn (by omega) L hL hB (m - a + 1) _ _ _ (fun E g0 g1 g2 g3 g4 g14 => ?_) (m - a + 1) 0 (by omega) a m (by omega) (by omega) (by omega) rfl _ (by rfl) (by rfl) (by rfl) (by rfl) (by rfl) (by rfl) (by rfl)
      simp (maxSteps := 1000000) (implicitDefEqProofs := false) (disch := first | rfl | omega | assumption) only [go_sem, ↓reduceIte, Nat.reduceEqDiff, Nat.reduceAdd, Nat.reduceLeDiff, Nat.reduceBEq, Nat.reduceMul, Nat.reduceLT, Int.reduceLT, Int.reduceLE, Int.reduceToNat, Int.reduceNeg, Int.reduceEq, Int.reduceMul, reduceCtorEq, Int.reduceBEq, Int.reduceBNe, Int.reduceAdd, Int.reduceSub, ltT, ltF, leT, leF, g0, g1, g2, g3, g4, g14]
      exact h2 _ (by exact g0) (by exact g14) (by rfl)
    rw [if_neg c2]
    have z2 : ((b : Int) - m == 1) = false := by simp; omega
    dsimp only
    obtain ⟨s1, s2, s3, s4, s5⟩ := symS_bd key L ham hmb
    obtain ⟨s, hs⟩ : ∃ s, symS key L a m b = s := ⟨_, rfl⟩
    have hs' := hs
    simp only [symS] at hs'
    rw [hs] at s1 s2 s3 s4 s5 ⊢
    have e0 := half a b
    have e2 := halfw (x := a) (y := b) (by omega)
    obtain ⟨mid, hmid⟩ : ∃ mid, (a + b) / 2 = mid := ⟨_, rfl⟩
    have e3 : IntKind.i64.wrap (mid : Int) = mid := w64 (by omega) (by omega)
    have hab : a < mid ∧ mid < b := by omega
    rw [hmid] at s3 s4 s5 e0 hs' ⊢
    have e4 : (mid : Int) + m = ((mid + m : Nat) : Int) := rfl
    have e5 : ((mid + m : Nat) : Int) - 1 = ((mid + m - 1 : Nat) : Int) := by omega
    have e6 : ((mid + m : Nat) : Int) - s = ((mid + m - s : Nat) : Int) := by omega
    -- the three calls
    have k1 : s < m → m < mid + m - s → callFL cfg0 prog0 false 95 [.gsl p n, I s, I m, I ((mid + m - s : Nat) : Int), .func fn [] cap] (GH H p L) none = some ⟨.ret (.tup []), GH H p (rot m (mid + m - s - s) L (m - s) (mid + m - s - m)), none⟩ := fun h1 h2 => so_rot hp hn h1 h2 (by omega) hL
    obtain ⟨e, he⟩ : ∃ e, mid + m - s = e := ⟨_, rfl⟩
    rw [he] at k1 e6 s4 s5 ⊢
    have k2 : a < s → s < mid → ∀ M : List Nat, M.length = n → Small B M → callFL cfg0 prog0 false 94 [.gsl p n, I a, I s, I mid, .func fn [] cap] (GH H p M) none = some ⟨.ret (.tup []), GH H p (sym key f M a s mid), none⟩ := fun h1 h2 M h3 h4 => ih M a s mid (by omega) h1 h2 (by omega) h3 h4
    have k3 : mid < e → e < b → ∀ M : List Nat, M.length = n → Small B M → callFL cfg0 prog0 false 94 [.gsl p n, I mid, I e, I b, .func fn [] cap] (GH H p M) none = some ⟨.ret (.tup []), GH H p (sym key f M mid e b), none⟩ := fun h1 h2 M h3 h4 => ih M mid e b (by omega) h1 h2 (by omega) h3 h4
    -- what follows the search
    have tail : ∀ (E : Env), E.get 0 = .gsl p n → E.get 1 = I a → E.get 2 = I m → E.get 3 = I b → E.get 4 = .func fn [] cap → E.get 18 = I mid → E.get 19 = I ((mid + m : Nat) : Int) → E.get 20 = I s →
        Option.map (finishC H.length) (execL cfg0 prog0 ⟨94, none, false, H.length⟩ (todoPast Tryd.f94 33) ⟨E, [], GH H p L, none⟩) = some ⟨.ret (.tup []), GH H p (if mid < e ∧ e < b then sym key f (if a < s ∧ s < mid then sym key f (if s < m ∧ m < e then rot m (e - s) L (m - s) (e - m) else L) a s mid else if s < m ∧ m < e then rot m (e - s) L (m - s) (e - m) else L) mid e b else if a < s ∧ s < mid then sym key f (if s < m ∧ m < e then rot m (e - s) L (m - s) (e - m) else L) a s mid else if s < m ∧ m < e then rot m (e - s) L (m - s) (e - m) else L), none⟩ := by
      intro E g0 g1 g2 g3 g4 g18 g19 g20
      have l1 : ∀ M : List Nat, M.length = n → ∀ f' a' m' b', (sym key f' M a' m' b').length = n := fun M h _ _ _ _ => by rw [sym_len]; exact h
      obtain ⟨L1, hL1⟩ : ∃ L1, (if s < m ∧ m < e then rot m (e - s) L (m - s) (e - m) else L) = L1 := ⟨_, rfl⟩
      have hl1 : L1.length = n := by rw [← hL1]; split <;> simp only [rot_len, hL]
      have hB1 : Small B L1 := by
        rw [← hL1]
        split
        · exact small_rot _ _ _ _ _ (by omega) (by omega) hB
        · exact hB
      obtain ⟨L2, hL2⟩ : ∃ L2, (if a < s ∧ s < mid then sym key f L1 a s mid else L1) = L2 := ⟨_, rfl⟩
      have hl2 : L2.length = n := by rw [← hL2]; split <;> simp only [sym_len, hl1]
      have hB2 : Small B L2 := by
        rw [← hL2]
        split
        · exact small_sym _ _ _ _ _ _ (by omega) (by omega) (by omega) hB1
        · exact hB1
      rw [hL1, hL2]
      have d1 : ((s : Int) < m ∧ (m : Int) < e ∧ callFL cfg0 prog0 false 95 [.gsl p n, I s, I m, I (e : Int), .func fn [] cap] (GH H p L) none = some ⟨.ret (.tup []), GH H p L1, none⟩) ∨ ((s : Int) < m ∧ ¬ (m : Int) < e ∧ L = L1) ∨ (¬ (s : Int) < m ∧ L = L1) := by
        by_cases h1 : s < m
        · by_cases h2 : m < e
          · have := k1 h1 h2
            rw [if_pos ⟨h1, h2⟩] at hL1
            rw [hL1] at this
            exact .inl ⟨by omega, by omega, this⟩
          · rw [if_neg (by omega)] at hL1
            exact .inr (.inl ⟨by omega, by omega, hL1⟩)
        · rw [if_neg (by omega)] at hL1
          exact .inr (.inr ⟨by omega, hL1⟩)
      have d2 : ((a : Int) < s ∧ (s : Int) < mid ∧ callFL cfg0 prog0 false 94 [.gsl p n, I a, I s, I mid, .func fn [] cap] (GH H p L1) none = some ⟨.ret (.tup []), GH H p L2, none⟩) ∨ ((a : Int) < s ∧ ¬ (s : Int) < mid ∧ L1 = L2) ∨ (¬ (a : Int) < s ∧ L1 = L2) := by
        by_cases h1 : a < s
        · by_cases h2 : s < mid
          · have := k2 h1 h2 L1 hl1 hB1
            rw [if_pos ⟨h1, h2⟩] at hL2
            rw [hL2] at this
            exact .inl ⟨by omega, by omega, this⟩
          · rw [if_neg (by omega)] at hL2
            exact .inr (.inl ⟨by omega, by omega, hL2⟩)
        · rw [if_neg (by omega)] at hL2
          exact .inr (.inr ⟨by omega, hL2⟩)
      obtain ⟨L3, hL3⟩ : ∃ L3, (if mid < e ∧ e < b then sym key f L2 mid e b else L2) = L3 := ⟨_, rfl⟩
      rw [hL3]
      have d3 : ((mid : Int) < e ∧ (e : Int) < b ∧ callFL cfg0 prog0 false 94 [.gsl p n, I mid, I e, I b, .func fn [] cap] (GH H p L2) none = some ⟨.ret (.tup []), GH H p L3, none⟩) ∨ ((mid : Int) < e ∧ ¬ (e : Int) < b ∧ L2 = L3) ∨ (¬ (mid : Int) < e ∧ L2 = L3) := by
        by_cases h1 : mid < e
        · by_cases h2 : e < b
          · have := k3 h1 h2 L2 hl2 hB2
            rw [if_pos ⟨h1, h2⟩] at hL3
            rw [hL3] at this
            exact .inl ⟨by omega, by omega, this⟩
          · rw [if_neg (by omega)] at hL3
            exact .inr (.inl ⟨by omega, by omega, hL3⟩)
        · rw [if_neg (by omega)] at hL3
          exact .inr (.inr ⟨by omega, hL3⟩)
      exact so_sym_tail hn hbn ⟨s1, s2, s4, s5, hab.2⟩ he e6 d1 d2 d3 E g0 g1 g2 g3 g4 g18 g19 g20
    refine (callFL_eq fn94 rfl (by simp [Tryd.f94])).trans ?_
    by_cases c3 : mid < m
    · simp only [c3, if_true] at hs'
      have c3' : (mid : Int) < m := by omega
      have e7 : ((mid + m : Nat) : Int) - b = ((mid + m - b : Nat) : Int) := by omega
      simp (maxSteps := 1000000) (implicitDefEqProofs := false) (disch := first | rfl | omega | assumption) only [go_sem, ↓reduceIte, Nat.reduceEqDiff, Nat.reduceAdd, Nat.reduceLeDiff, Nat.reduceBEq, Nat.reduceMul, Nat.reduceLT, Int.reduceLT, Int.reduceLE, Int.reduceToNat, Int.reduceNeg, Int.reduceEq, Int.reduceMul, reduceCtorEq, Int.reduceBEq, Int.reduceBNe, Int.reduceAdd, Int.reduceSub, ltT, ltF, leT, leF, hlen, z1, z2, e0, e2, e3, e4, e5, c3', e7]
      exact bsC_loop hc hp a m b n (mid + m) (mid + m - 1) mid hn (by omega) L hL hB (mid - (mid + m - b) + 1) _ _ _ tail (mid - (mid + m - b) + 1) 0 (by omega) (mid + m - b) mid (by omega) (by omega) (by omega) (by omega) (by omega) hs' _ (by rfl) (by rfl) (by rfl) (by rfl) (by rfl) (by rfl) (by rfl) (by rfl) (by rfl) (by rfl)
    · simp only [c3, if_false] at hs'
      have c3' : ¬ (mid : Int) < m := by omega
      simp (maxSteps := 1000000) (implicitDefEqProofs := false) (disch := first | rfl | omega | assumption) only [go_sem, ↓reduceIte, Nat.reduceEqDiff, Nat.reduceAdd, Nat.reduceLeDiff, Nat.reduceBEq, Nat.reduceMul, Nat.reduceLT, Int.reduceLT, Int.reduceLE, Int.reduceToNat, Int.reduceNeg, Int.reduceEq, Int.reduceMul, reduceCtorEq, Int.reduceBEq, Int.reduceBNe, Int.reduceAdd, Int.reduceSub, ltT, ltF, leT, leF, hlen, z1, z2, e0, e2, e3, e4, e5, c3']
      exact bsC_loop hc hp a m b n (mid + m) (mid + m - 1) mid hn (by omega) L hL hB (m - a + 1) _ _ _ tail (m - a + 1) 0 (by omega) a m (by omega) (by omega) (by omega) (by omega) (by omega) hs' _ (by rfl) (by rfl) (by rfl) (by rfl) (by rfl) (by rfl) (by rfl) (by rfl) (by rfl) (by rfl)

end Go.Ab
/-
  The sort of a list of sets, walked: in blocks.
-/
namespace Go.Ab
open Go.Proofs
set_option linter.unusedSimpArgs false
set_option linter.unusedVariables false
set_option maxRecDepth 100000

variable {H : Heap}

theorem small_ins {B : Nat} (key : Nat → Int) (a : Nat) : ∀ (q i : Nat) (L : List Nat), a < i → i + q ≤ L.length → Small B L → Small B (insOut key a L i q)
  | 0, _, _, _, _, h => h
  | q + 1, i, L, h1, h2, h => by
    rw [insOut]
    exact small_ins key a q (i + 1) _ (by omega) (by rw [insIn_len]; omega) (insIn_small key a _ _ h (by omega))

theorem small_insS {B : Nat} (key : Nat → Int) {L : List Nat} {a b : Nat} (h : b ≤ L.length) (hB : Small B L) : Small B (insS key L a b) := by
  rw [insS]
  by_cases c : a + 1 ≤ b
  · exact small_ins key a _ _ _ (by omega) (by omega) hB
  · rw [show b - (a + 1) = 0 by omega]
    exact hB

def stM1 (key : Nat → Int) (s n : Nat) : Nat → List Nat → Nat → List Nat × Nat
  | 0, L, a => (L, a)
  | f + 1, L, a => if a + 2 * s ≤ n then stM1 key s n f (sym key n L a (a + s) (a + 2 * s)) (a + 2 * s) else (L, a)

theorem stM1_spec (key : Nat → Int) {B : Nat} {s n : Nat} (hs : 0 < s) : ∀ (f : Nat) (L : List Nat) (a : Nat), n < f + a → a ≤ n → L.length = n → Small B L →
    stM key s n f L a = (if (stM1 key s n f L a).2 + s < n then sym key n (stM1 key s n f L a).1 (stM1 key s n f L a).2 ((stM1 key s n f L a).2 + s) n else (stM1 key s n f L a).1) ∧ (stM1 key s n f L a).1.length = n ∧ Small B (stM1 key s n f L a).1 ∧ (stM1 key s n f L a).2 ≤ n
  | 0, L, a, h1, h2, h3, h4 => by omega
  | f + 1, L, a, h1, h2, h3, h4 => by
    rw [stM, stM1]
    by_cases c : a + 2 * s ≤ n
    · rw [if_pos c, if_pos c]
      exact stM1_spec key hs f _ _ (by omega) c (by rw [sym_len]; exact h3) (small_sym key _ _ _ _ _ (by omega) (by omega) (by omega) h4)
    · rw [if_neg c, if_neg c]
      exact ⟨rfl, h3, h4, h2⟩

theorem st3_loop {fn : Fn} {cap : List AV} {key : Nat → Int} {B : Nat} (hc : Cmp fn cap key B) {p : Nat} (hp : p < H.length) (n s : Nat) (hn : n ≤ 100000) (hs : 0 < s ∧ s ≤ 200000) (N : Nat) (R0 : List Nat) (Y : Nat) (K : List Item) (R : Option Done) (hK : ∀ E : Env, E.get 0 = .gsl p n → E.get 1 = I n → E.get 2 = .func fn [] cap → E.get 6 = I s → E.get 7 = I Y → Option.map (finishC H.length) (execL cfg0 prog0 ⟨86, none, false, H.length⟩ K ⟨E, [], GH H p R0, none⟩) = R)  :
    ∀ (q j : Nat), j + q = N → ∀ (L : List Nat), ∀ (a : Nat), L.length = n → Small B L → a ≤ n → n < q + a → stM1 key s n q L a = (R0, Y) → ∀ E : Env, E.get 0 = .gsl p n → E.get 1 = I n → E.get 2 = .func fn [] cap → E.get 6 = I s → E.get 7 = I a → E.get 8 = I ((a + 2 * s : Nat) : Int) →
    Option.map (finishC H.length) (execL cfg0 prog0 ⟨86, none, false, H.length⟩ (loopIt Tryd.f86 9 :: .inBlock 4 :: K) ⟨E, [], GH H p L, none⟩) = R := by
  intro q
  skip
  induction q with
  | zero =>
    intro j hj L a hL hB ha hq hr E g0 g1 g2 g6 g7 g8
    have hk' : ¬ (j : Int) < ((N : Nat) : Int) := by omega
    simp only [loopIt, todoPast, todoAt, todoOf, firstReg, ↓reduceIte, Option.some.injEq, Nat.reduceEqDiff, reduceCtorEq, Tryd.f86]
    rw [execL_inLoop]
    exfalso
    omega
  | succ q ih =>
    intro j hj L a hL hB ha hq hr E g0 g1 g2 g6 g7 g8
    have hk' : (j : Int) < ((N : Nat) : Int) := by omega
    have hk2 : j < N := by omega
    rw [stM1] at hr
    by_cases c : a + 2 * s ≤ n
    · rw [if_pos c] at hr
      have c' : ((a + 2 * s : Nat) : Int) ≤ n := by omega
      have h1 := so_sym hc hp hn n L a (a + s) (a + 2 * s) (by omega) (by omega) (by omega) c hL hB
      have e1 : (a : Int) + s = ((a + s : Nat) : Int) := rfl
      have e2 : (2 : Int) * s = ((2 * s : Nat) : Int) := rfl
      have e3 : ((a + 2 * s : Nat) : Int) + ((2 * s : Nat) : Int) = ((a + 2 * s + 2 * s : Nat) : Int) := rfl
      simp only [loopIt, todoPast, todoAt, todoOf, firstReg, ↓reduceIte, Option.some.injEq, Nat.reduceEqDiff, reduceCtorEq, Tryd.f86]
      rw [execL_inLoop]
      simp (maxSteps := 1000000) (implicitDefEqProofs := false) (disch := first | rfl | omega | assumption) only [go_sem, ↓reduceIte, Nat.reduceEqDiff, Nat.reduceAdd, Nat.reduceLeDiff, Nat.reduceBEq, Nat.reduceMul, Nat.reduceLT, Int.reduceLT, Int.reduceLE, Int.reduceToNat, Int.reduceNeg, Int.reduceEq, Int.reduceMul, reduceCtorEq, Int.reduceBEq, Int.reduceBNe, Int.reduceAdd, Int.reduceSub, g0, g1, g2, g6, g7, g8, ltT, ltF, leT, leF, hk', c', e1, h1, e2, e3]
      exact ih (j + 1) (by omega) _ (a + 2 * s) (by rw [sym_len]; exact hL) (small_sym key _ _ _ _ _ (by omega) (by omega) (by omega) hB) c (by omega) hr _ (by exact g0) (by exact g1) (by exact g2) (by exact g6) (by rfl) (by show I _ = I _; congr 1; omega)
    · rw [if_neg c] at hr
      simp only [Prod.mk.injEq] at hr
      obtain ⟨rfl, rfl⟩ := hr
      have c' : ¬ ((a + 2 * s : Nat) : Int) ≤ n := by omega
      simp only [loopIt, todoPast, todoAt, todoOf, firstReg, ↓reduceIte, Option.some.injEq, Nat.reduceEqDiff, reduceCtorEq, Tryd.f86]
      rw [execL_inLoop]
      simp (maxSteps := 1000000) (implicitDefEqProofs := false) (disch := first | rfl | omega | assumption) only [go_sem, ↓reduceIte, Nat.reduceEqDiff, Nat.reduceAdd, Nat.reduceLeDiff, Nat.reduceBEq, Nat.reduceMul, Nat.reduceLT, Int.reduceLT, Int.reduceLE, Int.reduceToNat, Int.reduceNeg, Int.reduceEq, Int.reduceMul, reduceCtorEq, Int.reduceBEq, Int.reduceBNe, Int.reduceAdd, Int.reduceSub, g0, g1, g2, g6, g7, g8, ltT, ltF, leT, leF, hk', c']
      exact hK _ (by exact g0) (by exact g1) (by exact g2) (by exact g6) (by exact g7)

theorem st2_loop {fn : Fn} {cap : List AV} {key : Nat → Int} {B : Nat} (hc : Cmp fn cap key B) {p : Nat} (hp : p < H.length) (n : Nat) (hn : n ≤ 100000) (N : Nat) (R0 : List Nat) :
    ∀ (q j : Nat), j + q = N → ∀ (L : List Nat), ∀ (s : Nat), L.length = n → Small B L → 0 < s ∧ s ≤ 200000 → n < q + s → stP key n q L s = R0 → ∀ E : Env, E.get 0 = .gsl p n → E.get 1 = I n → E.get 2 = .func fn [] cap → E.get 6 = I s →
    Option.map (finishC H.length) (execL cfg0 prog0 ⟨86, none, false, H.length⟩ (todoAt Tryd.f86 7) ⟨E, [], GH H p L, none⟩) = some ⟨.ret (.tup []), GH H p R0, none⟩ := by
  intro q
  skip
  induction q with
  | zero =>
    intro j hj L s hL hB hs hq hr E g0 g1 g2 g6
    have hk' : ¬ (j : Int) < ((N : Nat) : Int) := by omega
    simp only [stP] at hr
    subst hr
    simp only [loopIt, todoPast, todoAt, todoOf, firstReg, ↓reduceIte, Option.some.injEq, Nat.reduceEqDiff, reduceCtorEq, Tryd.f86]
    rw [execL_inLoop]
    have c' : ¬ (s : Int) < n := by omega
    simp (maxSteps := 1000000) (implicitDefEqProofs := false) (disch := first | rfl | omega | assumption) only [go_sem, ↓reduceIte, Nat.reduceEqDiff, Nat.reduceAdd, Nat.reduceLeDiff, Nat.reduceBEq, Nat.reduceMul, Nat.reduceLT, Int.reduceLT, Int.reduceLE, Int.reduceToNat, Int.reduceNeg, Int.reduceEq, Int.reduceMul, reduceCtorEq, Int.reduceBEq, Int.reduceBNe, Int.reduceAdd, Int.reduceSub, g0, g1, g2, g6, ltT, ltF, leT, leF, hk', c']
  | succ q ih =>
    intro j hj L s hL hB hs hq hr E g0 g1 g2 g6
    have hk' : (j : Int) < ((N : Nat) : Int) := by omega
    have hk2 : j < N := by omega
    rw [stP] at hr
    by_cases c : s < n
    · rw [if_pos c] at hr
      have c' : (s : Int) < n := by omega
      obtain ⟨m1, m2, m3, m4⟩ := stM1_spec key (B := B) (s := s) (n := n) hs.1 (n + 1) L 0 (by omega) (by omega) hL hB
      obtain ⟨x, hx⟩ : ∃ x, stM1 key s n (n + 1) L 0 = x := ⟨_, rfl⟩
      obtain ⟨L', Y⟩ := x
      rw [hx] at m1 m2 m3 m4
      simp only at m1 m2 m3 m4
      rw [m1] at hr
      have e2 : (2 : Int) * s = ((0 + 2 * s : Nat) : Int) := by omega
      have e3 : (s : Int) * 2 = ((2 * s : Nat) : Int) := by omega
      simp only [loopIt, todoPast, todoAt, todoOf, firstReg, ↓reduceIte, Option.some.injEq, Nat.reduceEqDiff, reduceCtorEq, Tryd.f86]
      rw [execL_inLoop]
      simp (maxSteps := 1000000) (implicitDefEqProofs := false) (disch := first | rfl | omega | assumption) only [go_sem, ↓reduceIte, Nat.reduceEqDiff, Nat.reduceAdd, Nat.reduceLeDiff, Nat.reduceBEq, Nat.reduceMul, Nat.reduceLT, Int.reduceLT, Int.reduceLE, Int.reduceToNat, Int.reduceNeg, Int.reduceEq, Int.reduceMul, reduceCtorEq, Int.reduceBEq, Int.reduceBNe, Int.reduceAdd, Int.reduceSub, g0, g1, g2, g6, ltT, ltF, leT, leF, hk', c', e2]
      refine st3_loop hc hp n s hn hs (n + 1) L' Y _ _ (fun E g0 g1 g2 g6 g7 => ?_) (n + 1) 0 (by omega) L 0 hL hB (by omega) (by omega) hx _ (by exact g0) (by exact g1) (by exact g2) (by exact g6) (by rfl) (by show I _ = I _; congr 2; omega)
      have e1 : (Y : Int) + s = ((Y + s : Nat) : Int) := rfl
      by_cases d : Y + s < n
      · rw [if_pos d] at hr
        have d' : ((Y + s : Nat) : Int) < n := by omega
        have h1 := so_sym hc hp hn n L' Y (Y + s) n (by omega) (by omega) d (Nat.le_refl _) m2 m3
        simp (maxSteps := 1000000) (implicitDefEqProofs := false) (disch := first | rfl | omega | assumption) only [go_sem, ↓reduceIte, Nat.reduceEqDiff, Nat.reduceAdd, Nat.reduceLeDiff, Nat.reduceBEq, Nat.reduceMul, Nat.reduceLT, Int.reduceLT, Int.reduceLE, Int.reduceToNat, Int.reduceNeg, Int.reduceEq, Int.reduceMul, reduceCtorEq, Int.reduceBEq, Int.reduceBNe, Int.reduceAdd, Int.reduceSub, g0, g1, g2, g6, ltT, ltF, leT, leF, hk', g0, g1, g2, g6, g7, e1, d', h1, e3]
        exact ih (j + 1) (by omega) _ (2 * s) (by rw [sym_len]; exact m2) (small_sym key _ _ _ _ _ (by omega) d (by omega) m3) (by omega) (by omega) hr _ (by exact g0) (by exact g1) (by exact g2) (by rfl)
      · rw [if_neg d] at hr
        have d' : ¬ ((Y + s : Nat) : Int) < n := by omega
        simp (maxSteps := 1000000) (implicitDefEqProofs := false) (disch := first | rfl | omega | assumption) only [go_sem, ↓reduceIte, Nat.reduceEqDiff, Nat.reduceAdd, Nat.reduceLeDiff, Nat.reduceBEq, Nat.reduceMul, Nat.reduceLT, Int.reduceLT, Int.reduceLE, Int.reduceToNat, Int.reduceNeg, Int.reduceEq, Int.reduceMul, reduceCtorEq, Int.reduceBEq, Int.reduceBNe, Int.reduceAdd, Int.reduceSub, g0, g1, g2, g6, ltT, ltF, leT, leF, hk', g0, g1, g2, g6, g7, e1, d', e3]
        exact ih (j + 1) (by omega) _ (2 * s) m2 m3 (by omega) (by omega) hr _ (by exact g0) (by exact g1) (by exact g2) (by rfl)
    · rw [if_neg c] at hr
      subst hr
      have c' : ¬ (s : Int) < n := by omega
      simp only [loopIt, todoPast, todoAt, todoOf, firstReg, ↓reduceIte, Option.some.injEq, Nat.reduceEqDiff, reduceCtorEq, Tryd.f86]
      rw [execL_inLoop]
      simp (maxSteps := 1000000) (implicitDefEqProofs := false) (disch := first | rfl | omega | assumption) only [go_sem, ↓reduceIte, Nat.reduceEqDiff, Nat.reduceAdd, Nat.reduceLeDiff, Nat.reduceBEq, Nat.reduceMul, Nat.reduceLT, Int.reduceLT, Int.reduceLE, Int.reduceToNat, Int.reduceNeg, Int.reduceEq, Int.reduceMul, reduceCtorEq, Int.reduceBEq, Int.reduceBNe, Int.reduceAdd, Int.reduceSub, g0, g1, g2, g6, ltT, ltF, leT, leF, hk', c']

theorem st1_loop {fn : Fn} {cap : List AV} {key : Nat → Int} {B : Nat} (hc : Cmp fn cap key B) {p : Nat} (hp : p < H.length) (n : Nat) (hn : n ≤ 100000) (N : Nat) (R0 : List Nat) :
    ∀ (q j : Nat), j + q = N → ∀ (L : List Nat), ∀ (a : Nat), L.length = n → Small B L → a ≤ n → n < q + a → stI key n q L a = R0 → ∀ E : Env, E.get 0 = .gsl p n → E.get 1 = I n → E.get 2 = .func fn [] cap → E.get 6 = I 20 → E.get 7 = I a → E.get 8 = I ((a + 20 : Nat) : Int) →
    Option.map (finishC H.length) (execL cfg0 prog0 ⟨86, none, false, H.length⟩ (todoAt Tryd.f86 2) ⟨E, [], GH H p L, none⟩) = some ⟨.ret (.tup []), GH H p (stP key n (n + 1) R0 20), none⟩ := by
  intro q
  skip
  induction q with
  | zero =>
    intro j hj L a hL hB ha hq hr E g0 g1 g2 g6 g7 g8
    have hk' : ¬ (j : Int) < ((N : Nat) : Int) := by omega
    simp only [loopIt, todoPast, todoAt, todoOf, firstReg, ↓reduceIte, Option.some.injEq, Nat.reduceEqDiff, reduceCtorEq, Tryd.f86]
    rw [execL_inLoop]
    exfalso
    omega
  | succ q ih =>
    intro j hj L a hL hB ha hq hr E g0 g1 g2 g6 g7 g8
    have hk' : (j : Int) < ((N : Nat) : Int) := by omega
    have hk2 : j < N := by omega
    rw [stI] at hr
    by_cases c : a + 20 ≤ n
    · rw [if_pos c] at hr
      have c' : ((a + 20 : Nat) : Int) ≤ n := by omega
      have h1 := so_ins hc hp hn (a := a) (b := a + 20) (by omega) hL hB
      have e3 : ((a + 20 : Nat) : Int) + 20 = ((a + 20 + 20 : Nat) : Int) := rfl
      simp only [loopIt, todoPast, todoAt, todoOf, firstReg, ↓reduceIte, Option.some.injEq, Nat.reduceEqDiff, reduceCtorEq, Tryd.f86]
      rw [execL_inLoop]
      simp (maxSteps := 1000000) (implicitDefEqProofs := false) (disch := first | rfl | omega | assumption) only [go_sem, ↓reduceIte, Nat.reduceEqDiff, Nat.reduceAdd, Nat.reduceLeDiff, Nat.reduceBEq, Nat.reduceMul, Nat.reduceLT, Int.reduceLT, Int.reduceLE, Int.reduceToNat, Int.reduceNeg, Int.reduceEq, Int.reduceMul, reduceCtorEq, Int.reduceBEq, Int.reduceBNe, Int.reduceAdd, Int.reduceSub, g0, g1, g2, g6, g7, g8, ltT, ltF, leT, leF, hk', c', h1, e3]
      exact ih (j + 1) (by omega) _ (a + 20) (by rw [insS_len]; exact hL) (small_insS key (by omega) hB) c (by omega) hr _ (by exact g0) (by exact g1) (by exact g2) (by exact g6) (by rfl) (by rfl)
    · rw [if_neg c] at hr
      have c' : ¬ ((a + 20 : Nat) : Int) ≤ n := by omega
      have h1 := so_ins hc hp hn (a := a) (b := n) (by omega) hL hB
      have h2 := st2_loop hc hp n hn (n + 1) _ (n + 1) 0 (by omega) R0 20 (by rw [← hr, insS_len]; exact hL) (by rw [← hr]; exact small_insS key (by omega) hB) (by omega) (by omega) rfl
      rw [hr] at h1
      simp only [loopIt, todoPast, todoAt, todoOf, firstReg, ↓reduceIte, Option.some.injEq, Nat.reduceEqDiff, reduceCtorEq, Tryd.f86]
      rw [execL_inLoop]
      simp (maxSteps := 1000000) (implicitDefEqProofs := false) (disch := first | rfl | omega | assumption) only [go_sem, ↓reduceIte, Nat.reduceEqDiff, Nat.reduceAdd, Nat.reduceLeDiff, Nat.reduceBEq, Nat.reduceMul, Nat.reduceLT, Int.reduceLT, Int.reduceLE, Int.reduceToNat, Int.reduceNeg, Int.reduceEq, Int.reduceMul, reduceCtorEq, Int.reduceBEq, Int.reduceBNe, Int.reduceAdd, Int.reduceSub, g0, g1, g2, g6, g7, g8, ltT, ltF, leT, leF, hk', c', h1]
      exact h2 _ (by exact g0) (by exact g1) (by exact g2) (by exact g6)

theorem so_stable {fn : Fn} {cap : List AV} {key : Nat → Int} {B : Nat} (hc : Cmp fn cap key B) {p : Nat} (hp : p < H.length) {n : Nat} (hn : n ≤ 100000) {L : List Nat} (hL : L.length = n) (hB : Small B L) :
    callFL cfg0 prog0 false 86 [.gsl p n, I n, .func fn [] cap] (GH H p L) none = some ⟨.ret (.tup []), GH H p (stab key n L), none⟩ := by
  have hlen : ∀ M, (GH H p M).length = H.length := fun M => by simp [GH]
  have h1 := st1_loop hc hp n hn (n + 1) _ (n + 1) 0 (by omega) L 0 hL hB (by omega) (by omega) rfl
  refine (callFL_eq fn86 rfl (by simp [Tryd.f86])).trans ?_
  simp (maxSteps := 1000000) (implicitDefEqProofs := false) (disch := first | rfl | omega | assumption) only [go_sem, ↓reduceIte, Nat.reduceEqDiff, Nat.reduceAdd, Nat.reduceLeDiff, Nat.reduceBEq, Nat.reduceMul, Nat.reduceLT, Int.reduceLT, Int.reduceLE, Int.reduceToNat, Int.reduceNeg, Int.reduceEq, Int.reduceMul, reduceCtorEq, Int.reduceBEq, Int.reduceBNe, Int.reduceAdd, Int.reduceSub, ltT, ltF, leT, leF, hlen]
  exact h1 _ (by rfl) (by rfl) (by rfl) (by rfl) (by rfl) (by rfl)

theorem so_sort {fn : Fn} {cap : List AV} {key : Nat → Int} {B : Nat} (hc : Cmp fn cap key B) {p : Nat} (hp : p < H.length) {n : Nat} (hn : n ≤ 100000) {L : List Nat} (hL : L.length = n) (hB : Small B L) :
    callFL cfg0 prog0 false 68 [.gsl p n, .func fn [] cap] (GH H p L) none = some ⟨.ret (.tup []), GH H p (stab key n L), none⟩ := by
  have hlen : ∀ M, (GH H p M).length = H.length := fun M => by simp [GH]
  have h1 := so_stable hc hp hn hL hB
  have hg : (GH H p L)[p]? = some (.grow 1 (L.map U)) := List.getElem?_set_self hp
  refine (callFL_eq fn68 rfl (by simp [Tryd.f68])).trans ?_
  simp (maxSteps := 1000000) (implicitDefEqProofs := false) (disch := first | rfl | omega | assumption) only [go_sem, ↓reduceIte, Nat.reduceEqDiff, Nat.reduceAdd, Nat.reduceLeDiff, Nat.reduceBEq, Nat.reduceMul, Nat.reduceLT, Int.reduceLT, Int.reduceLE, Int.reduceToNat, Int.reduceNeg, Int.reduceEq, Int.reduceMul, reduceCtorEq, Int.reduceBEq, Int.reduceBNe, Int.reduceAdd, Int.reduceSub, ltT, ltF, leT, leF, hg, h1, hlen, hL, List.length_map]

end Go.Ab
/-
  Which readings clash: the least set that does.
-/
namespace Go.Ab
open Go.Proofs
set_option linter.unusedSimpArgs false
set_option linter.unusedVariables false
set_option maxRecDepth 100000

variable {H : Heap}

theorem sorts_all {S : List Nat} (hs : Small 256 S) (hl : S.length ≤ 100000) : SortsTo S (stab popK S.length S) := by
  intro H p hp
  have hlt : p < H.length := (List.getElem?_eq_some_iff.1 hp).1
  have := so_sort (H := H) cl_cmp hlt hl rfl hs
  rwa [show GH H p S = H from set_self hp] at this

theorem subs_mem (r n t : Nat) : t ∈ subs r n ↔ t < n ∧ subP r t = true := by simp [subs]

theorem subs_up (r n : Nat) : ∀ k l, k < l → l < (subs r n).length → gt (subs r n) k < gt (subs r n) l := by
  have h : (subs r n).Pairwise (· < ·) := List.Pairwise.filter _ List.pairwise_lt_range
  intro k l h1 h2
  have := List.pairwise_iff_getElem.1 h k l (by omega) h2 h1
  simpa [gt, List.getD, show k < (subs r n).length by omega, h2] using this

/-- The first at which it is so. -/
theorem firstN_is (b : Nat → Bool) : ∀ (q j : Nat), firstN b j q < j + q → b (firstN b j q) = true ∧ ∀ i, j ≤ i → i < firstN b j q → b i = false
  | 0, j, h => by simp only [firstN] at h; omega
  | q + 1, j, h => by
    simp only [firstN] at h ⊢
    by_cases c : b j = true
    · rw [if_pos c]
      exact ⟨c, fun i h1 h2 => by omega⟩
    · rw [if_neg c] at h ⊢
      obtain ⟨g1, g2⟩ := firstN_is b q (j + 1) (by omega)
      refine ⟨g1, fun i h1 h2 => ?_⟩
      by_cases e : i = j
      · subst e; simpa using c
      · exact g2 i (by omega) h2

/-- A set of readings that clash. -/
def Wea.Bad (w : Wea) (t : Nat) : Prop := t < 2 ^ w.es.length ∧ subP w.rd t = true ∧ w.canB t w.L = false

abbrev Wea.M (w : Wea) : List Nat := stab popK w.S.length w.S

/-- The least one. -/
def Wea.cs (w : Wea) : Nat := w.M.getD (firstN (w.clB w.M) 0 w.M.length) 0

def Wea.clA (w : Wea) : Int × Int := if w.valid then (if w.can then (0, 4) else ((w.cs : Nat), 0)) else (0, 1)

theorem subP_self (r : Nat) : subP r r = true := by
  have : diffN r r = 0 := Nat.eq_of_testBit_eq fun i => by rw [diffN_bit, Nat.zero_testBit]; cases r.testBit i <;> rfl
  simp [subP, this]

theorem rd_lt2 (w : Wea) : w.rd < 2 ^ w.es.length := maskN_lt _ _

theorem M_srt (w : Wea) : Srt popK (gt w.M) 0 w.S.length ∧ Ib (gt w.S) (gt w.M) 0 w.S.length := stab_srt rfl (subs_up _ _)

theorem M_len (w : Wea) : w.M.length = w.S.length := stab_len ..

theorem S_small {w : Wea} (ho : w.Ok) : Small 256 w.S := by
  intro k hk
  have e : w.S.getD k 0 = w.S[k] := by simp [hk]
  have h : w.S[k] ∈ w.S := List.getElem_mem hk
  have := ((subs_mem _ _ _).1 h).1
  have hp8 : (2 : Nat) ^ w.es.length ≤ 2 ^ 8 := Nat.pow_le_pow_right (by omega) ho.many
  rw [e]
  omega

theorem M_small {w : Wea} (ho : w.Ok) : Small 256 w.M := by
  intro k hk
  rw [M_len] at hk
  obtain ⟨j, _, j2, e⟩ := (M_srt w).2.fwd k (by omega) hk
  have := S_small ho j j2
  show gt w.M k < 256
  rw [e]
  exact this

theorem M_has {w : Wea} {t : Nat} (h1 : t < 2 ^ w.es.length) (h2 : subP w.rd t = true) : ∃ k, k < w.M.length ∧ gt w.M k = t := by
  have : t ∈ w.S := (subs_mem _ _ _).2 ⟨h1, h2⟩
  obtain ⟨k, hk, e⟩ := List.mem_iff_getElem.1 this
  obtain ⟨j, _, j2, e'⟩ := (M_srt w).2.bwd k (by omega) hk
  refine ⟨j, by rw [M_len]; exact j2, ?_⟩
  rw [← e', ← e]
  simp [gt, hk]

theorem M_is {w : Wea} {k : Nat} (hk : k < w.M.length) : gt w.M k < 2 ^ w.es.length ∧ subP w.rd (gt w.M k) = true := by
  rw [M_len] at hk
  obtain ⟨j, _, j2, e⟩ := (M_srt w).2.fwd k (by omega) hk
  have h : w.S[j] ∈ w.S := List.getElem_mem j2
  have e2 : gt w.S j = w.S[j] := by simp [gt, j2]
  rw [e, e2]
  exact (subs_mem _ _ _).1 h

theorem M_bad {w : Wea} (hc : w.can = false) : ∃ i, i < w.M.length ∧ w.canB (w.M.getD i 0) w.L = false := by
  obtain ⟨k, h1, h2⟩ := M_has (rd_lt2 w) (subP_self w.rd)
  exact ⟨k, h1, by show w.canB (gt w.M k) w.L = false; rw [h2]; exact hc⟩

theorem we_ClashA {w : Wea} {ve : AV} (h : WeaAt H w ve) (hl : w.es.length ≤ 1000) :
    callFL cfg0 prog0 false 26 [w.av ve] H none = some ⟨.ret (.tup [I w.clA.1, I w.clA.2]), H, none⟩ :=
  we_Clash h hl fun hv hc => by
    have ho := w.valid_iff.1 hv
    have hp8 : (2 : Nat) ^ w.es.length ≤ 2 ^ 8 := Nat.pow_le_pow_right (by omega) ho.many
    exact ⟨sorts_all (S_small ho) (by have := subs_len w.rd (2 ^ w.es.length); simp only [Wea.S]; omega), M_len w, M_small ho, M_bad hc⟩

theorem cs_at {w : Wea} (hc : w.can = false) : ∃ k, k < w.M.length ∧ gt w.M k = w.cs ∧ w.canB w.cs w.L = false ∧ ∀ i, i < k → w.canB (gt w.M i) w.L = true := by
  have hlt := firstN_lt (w.clB w.M) w.M.length 0 (by obtain ⟨i, h1, h2⟩ := M_bad hc; exact ⟨i, by omega, by omega, by simp only [Wea.clB, h2, Bool.not_false]⟩)
  obtain ⟨h1, h2⟩ := firstN_is _ _ _ hlt
  refine ⟨_, by omega, rfl, ?_, fun i hi => ?_⟩
  · simp only [Wea.clB, Bool.not_eq_true'] at h1
    exact h1
  · have := h2 i (by omega) hi
    simp only [Wea.clB, Bool.not_eq_false'] at this
    exact this

theorem cs_bad {w : Wea} (hc : w.can = false) : w.Bad w.cs := by
  obtain ⟨k, h1, h2, h3, -⟩ := cs_at hc
  have := M_is h1
  rw [h2] at this
  exact ⟨this.1, this.2, h3⟩

theorem cs_least {w : Wea} (hc : w.can = false) {t : Nat} (ht : w.Bad t) : t = w.cs ∨ lx popK w.cs t := by
  obtain ⟨k, h1, h2, h3, h4⟩ := cs_at hc
  obtain ⟨j, j1, j2⟩ := M_has ht.1 ht.2.1
  rw [← h2, ← j2]
  rcases Nat.lt_trichotomy j k with c | c | c
  · have := h4 j c
    rw [j2, ht.2.2] at this
    cases this
  · exact .inl (by rw [c])
  · exact .inr ((M_srt w).1 k j (by omega) c (by rw [M_len] at j1; exact j1))

/-- Nothing else is the least one. -/
theorem cs_uniq {w : Wea} (hc : w.can = false) {s : Nat} (h1 : w.Bad s) (h2 : ∀ t, w.Bad t → t = s ∨ lx popK s t) : s = w.cs := by
  rcases cs_least hc h1 with h | h
  · exact h
  · rcases h2 _ (cs_bad hc) with g | g
    · exact g.symm
    · exact absurd (lx_trans h g) lx_irr

end Go.Ab
/-
  WearTrue, walked: its loops.
-/
namespace Go.Ab
open Go.Proofs
set_option linter.unusedSimpArgs false
set_option linter.unusedVariables false
set_option maxRecDepth 100000

variable {H : Heap}

theorem tdays_loop {l : List Int} {v : AV} (hv : SlOk H 1 v (l.map U8)) (hl : l.length ≤ 9223372036854775807) (hu : ∀ i, i < l.length → 0 ≤ l.getD i 0 ∧ l.getD i 0 ≤ 255) (o0 o1 o2 : AO) (a1 a4 a9 a15 a19 : AV) (K : List Item) (R : Option Done) (hK : ∀ E : Env, E.get 1 = a1 → E.get 4 = a4 → E.get 9 = a9 → E.get 15 = a15 → E.get 19 = a19 → E.get 26 = .gsl (H.length + 3) (daysD l).length → Option.map (finishC H.length) (execL cfg0 prog0 ⟨5, none, false, H.length⟩ K ⟨E, [], H ++ [o0, o1, o2, .grow 1 ((daysD l).map I)], none⟩) = R)  :
    ∀ (q j : Nat), j + q = l.length → ∀ (xs : List AV), ∀ (m : Nat), xs = (daysD (l.take j)).map I → m = xs.length → ∀ E : Env, E.get 1 = a1 → E.get 4 = a4 → E.get 9 = a9 → E.get 15 = a15 → E.get 19 = a19 → E.get 26 = .gsl (H.length + 3) m → E.get 186 = v → E.get 187 = I l.length → E.get 188 = I j →
    Option.map (finishC H.length) (execL cfg0 prog0 ⟨5, none, false, H.length⟩ (loopIt Tryd.f5 23 :: .inBlock 2 :: K) ⟨E, [], H ++ [o0, o1, o2, .grow 1 xs], none⟩) = R := by
  intro q
  obtain ⟨b1, b2, b3, b4, b5⟩ := hv.fA (d := 0)
  induction q with
  | zero =>
    intro j hj xs m hx hm E g1 g4 g9 g15 g19 g26 g186 g187 g188
    have hk' : ¬ (j : Int) < ((l.length : Nat) : Int) := by omega
    have ej : j = l.length := by omega
    have hx2 : xs = (daysD l).map I := by rw [hx, List.take_of_length_le (by omega)]
    have hm2 : m = (daysD l).length := by rw [hm, hx2, List.length_map]
    subst hm2
    subst hx2
    simp only [loopIt, todoPast, todoAt, todoOf, firstReg, ↓reduceIte, Option.some.injEq, Nat.reduceEqDiff, reduceCtorEq, Tryd.f5]
    rw [execL_inLoop]
    simp (maxSteps := 1000000) (implicitDefEqProofs := false) (disch := first | rfl | omega | assumption) only [go_sem, ↓reduceIte, Nat.reduceEqDiff, Nat.reduceAdd, Nat.reduceLeDiff, Nat.reduceBEq, Nat.reduceMul, Nat.reduceLT, Int.reduceLT, Int.reduceLE, Int.reduceToNat, Int.reduceNeg, Int.reduceEq, Int.reduceMul, reduceCtorEq, Int.reduceBEq, Int.reduceBNe, Int.reduceAdd, Int.reduceSub, g1, g4, g9, g15, g19, g26, g186, g187, g188, ltT, ltF, leT, leF, hk']
    exact hK _ (by exact g1) (by exact g4) (by exact g9) (by exact g15) (by exact g19) (by exact g26)
  | succ q ih =>
    intro j hj xs m hx hm E g1 g4 g9 g15 g19 g26 g186 g187 g188
    have hk' : (j : Int) < ((l.length : Nat) : Int) := by omega
    have hk2 : j < l.length := by omega
    have hu1 := hu j hk2
    have hn := emod21 (l.getD j 0)
    have e1 : (l.getD j 0).tmod 21 = l.getD j 0 % 21 := Int.tmod_eq_emod_of_nonneg hu1.1
    by_cases hj10 : j < 10
    · have hc : (j : Int) < 10 := by omega
      have ed : daysD (l.take (j + 1)) = daysD (l.take j) ++ [l.getD j 0 % 21] := by
        have h1 : (l.take (j + 1)).take 10 = l.take (j + 1) := List.take_of_length_le (by rw [List.length_take]; omega)
        have h2 : (l.take j).take 10 = l.take j := List.take_of_length_le (by rw [List.length_take]; omega)
        simp only [daysD]
        rw [h1, h2, take_snoc l hk2, List.map_append]
        rfl
      have hml : xs.length ≤ 10 := by rw [hx, List.length_map]; exact daysD_len _
      have hof : ∀ x : Int, addElem (H ++ [o0, o1, o2, .grow 1 xs]) 1 false (.gsl (H.length + 3) m) [I x] = some (.gsl (H.length + 3) (m + 1), H ++ [o0, o1, o2, .grow 1 (xs ++ [I x])]) := by
        intro x
        rw [add_gsl (by simp [get_at']) hm.symm rfl rfl (by simp; omega), set_at']
        rfl
      simp only [loopIt, todoPast, todoAt, todoOf, firstReg, ↓reduceIte, Option.some.injEq, Nat.reduceEqDiff, reduceCtorEq, Tryd.f5]
      rw [execL_inLoop]
      simp (maxSteps := 1000000) (implicitDefEqProofs := false) (disch := first | rfl | omega | assumption) only [go_sem, ↓reduceIte, Nat.reduceEqDiff, Nat.reduceAdd, Nat.reduceLeDiff, Nat.reduceBEq, Nat.reduceMul, Nat.reduceLT, Int.reduceLT, Int.reduceLE, Int.reduceToNat, Int.reduceNeg, Int.reduceEq, Int.reduceMul, reduceCtorEq, Int.reduceBEq, Int.reduceBNe, Int.reduceAdd, Int.reduceSub, g1, g4, g9, g15, g19, g26, g186, g187, g188, ltT, ltF, leT, leF, hk', b1, b2, b3, b4, U8, hc, e1, hof]
      exact ih (j + 1) (by omega) _ (m + 1) (by rw [ed, hx, List.map_append]; rfl) (by rw [hm, List.length_append]; rfl) _ (by exact g1) (by exact g4) (by exact g9) (by exact g15) (by exact g19) (by rfl) (by exact g186) (by exact g187) (by rfl)
    · have hc : ¬ (j : Int) < 10 := by omega
      have ed : daysD (l.take (j + 1)) = daysD (l.take j) := by
        have h1 : (l.take (j + 1)).take 10 = l.take 10 := by rw [List.take_take, Nat.min_eq_left (by omega)]
        have h2 : (l.take j).take 10 = l.take 10 := by rw [List.take_take, Nat.min_eq_left (by omega)]
        simp only [daysD, h1, h2]
      simp only [loopIt, todoPast, todoAt, todoOf, firstReg, ↓reduceIte, Option.some.injEq, Nat.reduceEqDiff, reduceCtorEq, Tryd.f5]
      rw [execL_inLoop]
      simp (maxSteps := 1000000) (implicitDefEqProofs := false) (disch := first | rfl | omega | assumption) only [go_sem, ↓reduceIte, Nat.reduceEqDiff, Nat.reduceAdd, Nat.reduceLeDiff, Nat.reduceBEq, Nat.reduceMul, Nat.reduceLT, Int.reduceLT, Int.reduceLE, Int.reduceToNat, Int.reduceNeg, Int.reduceEq, Int.reduceMul, reduceCtorEq, Int.reduceBEq, Int.reduceBNe, Int.reduceAdd, Int.reduceSub, g1, g4, g9, g15, g19, g26, g186, g187, g188, ltT, ltF, leT, leF, hk', b1, b2, b3, b4, U8, hc]
      exact ih (j + 1) (by omega) xs m (by rw [ed]; exact hx) hm _ (by exact g1) (by exact g4) (by exact g9) (by exact g15) (by exact g19) (by exact g26) (by exact g186) (by exact g187) (by rfl)

theorem andZ0 {s j : Nat} : (((s / 2 ^ j &&& 1 : Nat) : Int) == 0) = !s.testBit j := by
  rw [Nat.and_one_is_mod, Nat.testBit_eq_decide_div_mod_eq]
  have : s / 2 ^ j % 2 = 0 ∨ s / 2 ^ j % 2 = 1 := by omega
  rcases this with h | h <;> rw [h] <;> rfl

/-- What is known of a truth after an event, for a limit. -/
theorem true_bits {x : Wea} (ho : x.Ok) {l : Nat → Int} (hT : x.T l) (lim : Int) {j : Nat} (hj : j < x.es.length) : (l (j + 1) < lim → perF (x.at x.rd x.L) lim j = true) ∧ (lim ≤ l (j + 1) → sureF (x.at x.rd x.L) lim j = false) := by
  have := at_inT ho hT (show j + 1 ≤ x.es.length by omega)
  simp only [inP] at this
  simp only [perF, sureF, decide_eq_true_eq, decide_eq_false_iff_not]
  omega

theorem tafter_loop {x : Wea} {xe : AV} (h : WeaAt H x xe) (hv : x.valid = true) (hcan : x.can = true) {l : Nat → Int} (hT : x.T l) (hlb : ∀ i, i ≤ x.es.length → -1000 ≤ l i ∧ l i ≤ 1000) (lim : Int) (ow : AV) (lo : Int × Int) (Q : List Int) (hQ : Q.length = x.es.length) (hQl : ∀ i, i < Q.length → Q.getD i 0 = l (i + 1)) (v v4 : AV) (hw : ow.lt (H.length + 3) = true) (hv1 : v.lt (H.length + 3) = true) (hv4 : v4.lt (H.length + 3) = true) (K : List Item) (R : Option Done) (hK : ∀ E : Env, E.get 1 = v → E.get 3 = v4 → E.get 4 = .ptr H.length 0 → E.get 9 = .ptr (H.length + 1) 0 → E.get 15 = I lim → E.get 19 = I (l x.es.length) → Option.map (finishC H.length) (execL cfg0 prog0 ⟨5, none, false, H.length⟩ K ⟨E, [], H ++ [.box ow, .box (.agg [I x.llo, I x.lhi, I x.ulo, I x.uhi, xe]), .box (KV lo)], none⟩) = R)  :
    ∀ (q j : Nat), j + q = x.es.length → ∀ (G : Heap), ∀ E : Env, E.get 1 = v → E.get 3 = v4 → E.get 4 = .ptr H.length 0 → E.get 9 = .ptr (H.length + 1) 0 → E.get 15 = I lim → E.get 16 = I (maskN (sureF (x.at x.rd x.L) lim) x.es.length) → E.get 17 = I (maskN (perF (x.at x.rd x.L) lim) x.es.length) → E.get 19 = I (l x.es.length) → E.get 101 = .sl false (Q.map I) → E.get 102 = I x.es.length → E.get 103 = I j →
    Option.map (finishC H.length) (execL cfg0 prog0 ⟨5, none, false, H.length⟩ (loopIt Tryd.f5 12 :: .inBlock 0 :: K) ⟨E, [], H ++ (.box ow :: .box (.agg [I x.llo, I x.lhi, I x.ulo, I x.uhi, xe]) :: .box (KV lo) :: G), none⟩) = R := by
  intro q
  have ho := x.valid_iff.1 hv
  have h8 := ho.many
  have s1 := h.es.scal
  have t1 := h.es.ltn 3
  have t2 := h.es.lt0
  have t3 := fun n => ltI Q n
  have hS : ∀ G : Heap, SlOk (H ++ G) 1 (.sl false (Q.map I)) (Q.map I) := fun G => ⟨rfl, by simp [AV.cells]⟩
  have c1 := fun G : Heap => ((hS G).fA (d := 0)).2.1
  have c2 := fun G : Heap => ((hS G).fA (d := 0)).2.2.2.1
  induction q with
  | zero =>
    intro j hj G E g1 g3 g4 g9 g15 g16 g17 g19 g101 g102 g103
    have hk' : ¬ (j : Int) < ((x.es.length : Nat) : Int) := by omega
    have ej : j = x.es.length := by omega
    subst ej
    simp only [loopIt, todoPast, todoAt, todoOf, firstReg, ↓reduceIte, Option.some.injEq, Nat.reduceEqDiff, reduceCtorEq, Tryd.f5]
    rw [execL_inLoop]
    simp (maxSteps := 1000000) (implicitDefEqProofs := false) (disch := first | rfl | omega | assumption) only [go_sem, ↓reduceIte, Nat.reduceEqDiff, Nat.reduceAdd, Nat.reduceLeDiff, Nat.reduceBEq, Nat.reduceMul, Nat.reduceLT, Int.reduceLT, Int.reduceLE, Int.reduceToNat, Int.reduceNeg, Int.reduceEq, Int.reduceMul, reduceCtorEq, Int.reduceBEq, Int.reduceBNe, Int.reduceAdd, Int.reduceSub, g1, g3, g4, g9, g15, g16, g17, g19, g101, g102, g103, ltT, ltF, leT, leF, hk', s1, t1, t3, hw, hv1, hv4]
    exact hK _ (by rfl) (by rfl) (by rfl) (by rfl) (by rfl) (by rfl)
  | succ q ih =>
    intro j hj G E g1 g3 g4 g9 g15 g16 g17 g19 g101 g102 g103
    have hk' : (j : Int) < ((x.es.length : Nat) : Int) := by omega
    have hk2 : j < x.es.length := by omega
    simp only [loopIt, todoPast, todoAt, todoOf, firstReg, ↓reduceIte, Option.some.injEq, Nat.reduceEqDiff, reduceCtorEq, Tryd.f5]
    rw [execL_inLoop]
    have hA := fun (G : Heap) => we_After (h.app G) (by omega) j
    obtain ⟨hA1, hA2⟩ := after_ok hv hcan hk2
    simp only [hA1, hA2, Wea.av] at hA
    have hin := at_inT ho hT (show j + 1 ≤ x.es.length by omega)
    have hbt := true_bits ho hT lim hk2
    have hlb1 := hlb (j + 1) (by omega)
    have m1 := maskN_lt (sureF (x.at x.rd x.L) lim) x.es.length
    have m2 := maskN_lt (perF (x.at x.rd x.L) lim) x.es.length
    have hp : (2 : Nat) ^ x.es.length ≤ 2 ^ 8 := Nat.pow_le_pow_right (by omega) (by omega)
    have hb1 := bitI (j := j) (show maskN (sureF (x.at x.rd x.L) lim) x.es.length < 2 ^ 60 by omega)
    have hb2 := bitI (j := j) (show maskN (perF (x.at x.rd x.L) lim) x.es.length < 2 ^ 60 by omega)
    have d1 := maskN_bit (sureF (x.at x.rd x.L) lim) j x.es.length
    have d2 := maskN_bit (perF (x.at x.rd x.L) lim) j x.es.length
    simp only [hk2, decide_true, Bool.true_and] at d1 d2
    have hsh := fun (s : Nat) => shrN (s := s) (j := j) (by omega)
    have hq := hQl j (by omega)
    have hab := at_bd ho (show j + 1 ≤ x.es.length by omega)
    have hwi := wi_iff.2 hin
    generalize x.at x.rd x.L (j + 1) = p at hA hab hwi
    generalize hy : l (j + 1) = y at *
    by_cases hc : y < lim
    · have hpb := hbt.1 hc
      rw [hpb] at d2
      have hc' : ¬ lim ≤ y := by omega
      simp (maxSteps := 1000000) (implicitDefEqProofs := false) (disch := first | rfl | omega | assumption) only [go_sem, ↓reduceIte, Nat.reduceEqDiff, Nat.reduceAdd, Nat.reduceLeDiff, Nat.reduceBEq, Nat.reduceMul, Nat.reduceLT, Int.reduceLT, Int.reduceLE, Int.reduceToNat, Int.reduceNeg, Int.reduceEq, Int.reduceMul, reduceCtorEq, Int.reduceBEq, Int.reduceBNe, Int.reduceAdd, Int.reduceSub, g1, g3, g4, g9, g15, g16, g17, g19, g101, g102, g103, ltT, ltF, leT, leF, hk', s1, t1, t3, hw, hv1, hv4, c1, c2, hQ, hq, hA, law_inside, hwi, hc, hc', hb1, hb2, hsh, and_one, andZ0, d1, d2]
      exact ih (j + 1) (by omega) [.box (KV p)] _ (by rfl) (by rfl) (by rfl) (by rfl) (by rfl) (by rfl) (by rfl) (by rfl) (by rfl) (by rfl) (by rfl)
    · have hpb := hbt.2 (by omega)
      rw [hpb] at d1
      have hc' : lim ≤ y := by omega
      simp (maxSteps := 1000000) (implicitDefEqProofs := false) (disch := first | rfl | omega | assumption) only [go_sem, ↓reduceIte, Nat.reduceEqDiff, Nat.reduceAdd, Nat.reduceLeDiff, Nat.reduceBEq, Nat.reduceMul, Nat.reduceLT, Int.reduceLT, Int.reduceLE, Int.reduceToNat, Int.reduceNeg, Int.reduceEq, Int.reduceMul, reduceCtorEq, Int.reduceBEq, Int.reduceBNe, Int.reduceAdd, Int.reduceSub, g1, g3, g4, g9, g15, g16, g17, g19, g101, g102, g103, ltT, ltF, leT, leF, hk', s1, t1, t3, hw, hv1, hv4, c1, c2, hQ, hq, hA, law_inside, hwi, hc, hc', hb1, hb2, hsh, and_one, andZ0, d1, d2]
      exact ih (j + 1) (by omega) [.box (KV p)] _ (by rfl) (by rfl) (by rfl) (by rfl) (by rfl) (by rfl) (by rfl) (by rfl) (by rfl) (by rfl) (by rfl)

end Go.Ab
/-
  WearTrue, walked: the days.
-/
namespace Go.Ab
open Go.Proofs
set_option linter.unusedSimpArgs false
set_option linter.unusedVariables false
set_option maxRecDepth 100000

variable {H : Heap}

theorem tuse_loop {w : Wea} {ve v : AV} {b : List Int} (hb : ByAt H v b) (hu : 0 ≤ w.ulo ∧ w.ulo ≤ w.uhi ∧ w.uhi ≤ 3) (c : Nat) (hc : c ≤ 20) (o1 o2 o3 : AO) (n0 : Int) (k0 : Nat) (hn0 : -20000 ≤ n0 ∧ n0 ≤ 20000) (hk0 : k0 ≤ 1000) (a9 a15 a19 a29 a30 a33 a236 a237 a238 : AV) (r0 : Int × Nat) (K : List Item) (R : Option Done) (hK : ∀ E : Env, E.get 4 = .ptr H.length 0 → E.get 9 = a9 → E.get 15 = a15 → E.get 19 = a19 → E.get 29 = a29 → E.get 30 = a30 → E.get 31 = I r0.1 → E.get 32 = drF (H.length + 5) (H.length + 4) → E.get 33 = a33 → E.get 236 = a236 → E.get 237 = a237 → E.get 238 = a238 → Option.map (finishC H.length) (execL cfg0 prog0 ⟨5, none, false, H.length⟩ K ⟨E, [], H ++ [.box (.agg [I w.llo, I w.lhi, I w.ulo, I w.uhi, ve]), o1, o2, o3, .box v, .box (I (r0.2 : Int))], none⟩) = R)  :
    ∀ (q j : Nat), j + q = c → ∀ (s : Int × Nat), useN b w.ulo w.uhi q s = r0 → (-20000 - 3 * (j : Int) ≤ s.1 ∧ s.1 ≤ 20000) → s.2 ≤ k0 + j → ∀ E : Env, E.get 4 = .ptr H.length 0 → E.get 9 = a9 → E.get 15 = a15 → E.get 19 = a19 → E.get 29 = a29 → E.get 30 = a30 → E.get 31 = I s.1 → E.get 32 = drF (H.length + 5) (H.length + 4) → E.get 33 = a33 → E.get 236 = a236 → E.get 237 = a237 → E.get 238 = a238 → E.get 243 = I c → E.get 244 = I j →
    Option.map (finishC H.length) (execL cfg0 prog0 ⟨5, none, false, H.length⟩ (loopIt Tryd.f5 36 :: .inBlock 6 :: K) ⟨E, [], H ++ [.box (.agg [I w.llo, I w.lhi, I w.ulo, I w.uhi, ve]), o1, o2, o3, .box v, .box (I (s.2 : Int))], none⟩) = R := by
  intro q
  skip
  induction q with
  | zero =>
    intro j hj s hs hn hk E g4 g9 g15 g19 g29 g30 g31 g32 g33 g236 g237 g238 g243 g244
    have hk' : ¬ (j : Int) < ((c : Nat) : Int) := by omega
    simp only [useN] at hs
    subst hs
    simp only [loopIt, todoPast, todoAt, todoOf, firstReg, ↓reduceIte, Option.some.injEq, Nat.reduceEqDiff, reduceCtorEq, Tryd.f5]
    rw [execL_inLoop]
    simp (maxSteps := 1000000) (implicitDefEqProofs := false) (disch := first | rfl | omega | assumption) only [go_sem, ↓reduceIte, Nat.reduceEqDiff, Nat.reduceAdd, Nat.reduceLeDiff, Nat.reduceBEq, Nat.reduceMul, Nat.reduceLT, Int.reduceLT, Int.reduceLE, Int.reduceToNat, Int.reduceNeg, Int.reduceEq, Int.reduceMul, reduceCtorEq, Int.reduceBEq, Int.reduceBNe, Int.reduceAdd, Int.reduceSub, g4, g9, g15, g19, g29, g30, g31, g32, g33, g236, g237, g238, g243, g244, ltT, ltF, leT, leF, hk']
    exact hK _ (by exact g4) (by exact g9) (by exact g15) (by exact g19) (by exact g29) (by exact g30) (by exact g31) (by exact g32) (by exact g33) (by exact g236) (by exact g237) (by exact g238)
  | succ q ih =>
    intro j hj s hs hn hk E g4 g9 g15 g19 g29 g30 g31 g32 g33 g236 g237 g238 g243 g244
    have hk' : (j : Int) < ((c : Nat) : Int) := by omega
    have hk2 : j < c := by omega
    have hD := law_draw (H := H ++ [.box (.agg [I w.llo, I w.lhi, I w.ulo, I w.uhi, ve]), o1, o2, o3, .box v, .box (I (s.2 : Int))]) (p := H.length + 5) (q := H.length + 4) (v := v) (b := b) (k := s.2) (by simp [get_at']) (by simp [get_at']) (hb.sl.app _) hb.bd hb.len (by omega) (lo := w.ulo) (hi := w.uhi) (by omega)
    have hdb := drawV_in b (s.2 + 1) hu.2.1
    simp only [useN] at hs
    simp only [set_at', List.set_cons_succ, List.set_cons_zero] at hD
    simp only [loopIt, todoPast, todoAt, todoOf, firstReg, ↓reduceIte, Option.some.injEq, Nat.reduceEqDiff, reduceCtorEq, Tryd.f5]
    rw [execL_inLoop]
    simp (maxSteps := 1000000) (implicitDefEqProofs := false) (disch := first | rfl | omega | assumption) only [go_sem, ↓reduceIte, Nat.reduceEqDiff, Nat.reduceAdd, Nat.reduceLeDiff, Nat.reduceBEq, Nat.reduceMul, Nat.reduceLT, Int.reduceLT, Int.reduceLE, Int.reduceToNat, Int.reduceNeg, Int.reduceEq, Int.reduceMul, reduceCtorEq, Int.reduceBEq, Int.reduceBNe, Int.reduceAdd, Int.reduceSub, g4, g9, g15, g19, g29, g30, g31, g32, g33, g236, g237, g238, g243, g244, ltT, ltF, leT, leF, hk', hD]
    exact ih (j + 1) (by omega) (s.1 - drawV b (s.2 + 1) w.ulo w.uhi, s.2 + 1) hs (by simp only; omega) (by simp only; omega) _ (by exact g4) (by exact g9) (by exact g15) (by exact g19) (by exact g29) (by exact g30) (by rfl) (by exact g32) (by exact g33) (by exact g236) (by exact g237) (by exact g238) (by exact g243) (by rfl)

/-- On no day before the one that is told. -/
theorem day_late {u lim : Int} {D : List Int} {y : Int} {k : Nat} (hk : k < D.length) (h : leftD u D y (k + 1) < lim) : (dayQ u lim D y).2 = 0 ∧ (dayQ u lim D y).1 ≤ k := by
  have hb : dayC u lim D y k = true := by simp only [dayC, decide_eq_true_eq]; exact h
  have hlt := firstN_lt (dayC u lim D y) D.length 0 ⟨k, by omega, by omega, hb⟩
  rw [Nat.zero_add] at hlt
  obtain ⟨h1, h2⟩ := firstN_is (dayC u lim D y) D.length 0 (by omega)
  have : firstN (dayC u lim D y) 0 D.length ≤ k := by
    by_cases c : firstN (dayC u lim D y) 0 D.length ≤ k
    · exact c
    · have := h2 k (by omega) (by omega)
      rw [hb] at this
      cases this
  simp only [dayQ, if_pos hlt]
  exact ⟨trivial, by omega⟩

theorem fits_at {x : Wea} (hv : x.valid = true) (hc : x.can = true) {n : Int} (hn : inP x.lastP n) (hb : -1000 ≤ n ∧ n ≤ 1000) : x.fitsP (n, n) ≠ 0 ∧ x.gate 0 (spB (n, n) (-1000) 1000) = 0 := by
  have hg : x.gate 0 (spB (n, n) (-1000) 1000) = 0 := gate0 hv hc (by decide) (spB_iff.2 ⟨by simp only; omega, Int.le_refl _, by simp only; omega⟩)
  refine ⟨?_, hg⟩
  simp only [Wea.fitsP, hg, if_true, bothP_eq]
  simp only [inP] at hn
  rw [if_pos (show max x.lastP.1 n ≤ min x.lastP.2 n by omega)]
  split
  · decide
  · rw [if_pos (by simp only; omega)]
    decide

theorem tday_loop {w x : Wea} {ve xe v : AV} {b : List Int} (h : WeaAt H x xe) (hv : x.valid = true) (hc : x.can = true) (hb : ByAt H v b) (hu : 0 ≤ w.ulo ∧ w.ulo ≤ w.uhi ∧ w.uhi ≤ 3) (lim : Int) (D : List Int) (hDl : D.length ≤ 10) (hD : ∀ i, i < D.length → 0 ≤ D.getD i 0 ∧ D.getD i 0 ≤ 20) (n y : Int) (hn : inP x.lastP n) (hnb : -1000 ≤ n ∧ n ≤ 1000) (hy : y ≤ n) (o2 : AO) :
    ∀ (q j : Nat), j + q = D.length → ∀ (k : Nat), k = (nowS b w.ulo w.uhi D n j).2 → ∀ E : Env, E.get 4 = .ptr H.length 0 → E.get 9 = .ptr (H.length + 1) 0 → E.get 15 = I lim → E.get 19 = I n → E.get 29 = I (dayQ w.uhi lim D y).1 → E.get 30 = I (dayQ w.uhi lim D y).2 → E.get 31 = I (nowS b w.ulo w.uhi D n j).1 → E.get 32 = drF (H.length + 5) (H.length + 4) → E.get 236 = .gsl (H.length + 3) D.length → E.get 237 = I D.length → E.get 238 = I j →
    Option.map (finishC H.length) (execL cfg0 prog0 ⟨5, none, false, H.length⟩ (todoAt Tryd.f5 33) ⟨E, [], H ++ [.box (.agg [I w.llo, I w.lhi, I w.ulo, I w.uhi, ve]), .box (.agg [I x.llo, I x.lhi, I x.ulo, I x.uhi, xe]), o2, .grow 1 (D.map I), .box v, .box (I (k : Int))], none⟩) = some ⟨.ret (.bool true), H, none⟩ := by
  intro q
  have h8 := (x.valid_iff.1 hv).many
  have s1 := h.es.scal
  have hS := fun (x0 x1 x2 : AO) (G : Heap) => (show SlOk (H ++ (x0 :: x1 :: x2 :: .grow 1 (D.map I) :: G)) 1 (.gsl (H.length + 3) D.length) (D.map I) from ⟨⟨by simp [get_at'], by simp⟩, by simp [AV.cells]⟩)
  have b2 := fun (x0 x1 x2 : AO) (G : Heap) => ((hS x0 x1 x2 G).fA (d := 0)).2.1
  have b4 := fun (x0 x1 x2 : AO) (G : Heap) => ((hS x0 x1 x2 G).fA (d := 0)).2.2.2.1
  induction q with
  | zero =>
    intro j hj k hk E g4 g9 g15 g19 g29 g30 g31 g32 g236 g237 g238
    have hk' : ¬ (j : Int) < ((D.length : Nat) : Int) := by omega
    simp only [loopIt, todoPast, todoAt, todoOf, firstReg, ↓reduceIte, Option.some.injEq, Nat.reduceEqDiff, reduceCtorEq, Tryd.f5]
    rw [execL_inLoop]
    obtain ⟨f1, f2⟩ := fits_at hv hc hn hnb
    have hF := fun G : Heap => we_Fits (h.app G) (by omega) (n, n)
    have f1' : (x.fitsP (n, n) != 0) = true := bne_iff_ne.2 f1
    simp only [f2, Wea.av] at hF
    generalize x.fitsP (n, n) = fx at hF f1'
    simp (maxSteps := 1000000) (implicitDefEqProofs := false) (disch := first | rfl | omega | assumption) only [go_sem, ↓reduceIte, Nat.reduceEqDiff, Nat.reduceAdd, Nat.reduceLeDiff, Nat.reduceBEq, Nat.reduceMul, Nat.reduceLT, Int.reduceLT, Int.reduceLE, Int.reduceToNat, Int.reduceNeg, Int.reduceEq, Int.reduceMul, reduceCtorEq, Int.reduceBEq, Int.reduceBNe, Int.reduceAdd, Int.reduceSub, g4, g9, g15, g19, g29, g30, g31, g32, g236, g237, g238, ltT, ltF, leT, leF, hk', s1]
    rw [chkK_of]; rotate_left; kernel_rfl
    simp (maxSteps := 1000000) (implicitDefEqProofs := false) (disch := first | rfl | omega | assumption) only [go_sem, ↓reduceIte, Nat.reduceEqDiff, Nat.reduceAdd, Nat.reduceLeDiff, Nat.reduceBEq, Nat.reduceMul, Nat.reduceLT, Int.reduceLT, Int.reduceLE, Int.reduceToNat, Int.reduceNeg, Int.reduceEq, Int.reduceMul, reduceCtorEq, Int.reduceBEq, Int.reduceBNe, Int.reduceAdd, Int.reduceSub, g4, g9, g15, g19, g29, g30, g31, g32, g236, g237, g238, ltT, ltF, leT, leF, hk', s1, hF, law_span, f1', law_awake]
    done
  | succ q ih =>
    intro j hj k hk E g4 g9 g15 g19 g29 g30 g31 g32 g236 g237 g238
    have hk' : (j : Int) < ((D.length : Nat) : Int) := by omega
    have hk2 : j < D.length := by omega
    have hbd := nowS_bd (b := b) hu hD n y hy j (by omega)
    have hbd1 := nowS_bd (b := b) hu hD n y hy (j + 1) (by omega)
    have hd := hD j hk2
    have eu : ((D.getD j 0).toNat : Int) = D.getD j 0 := by omega
    have hl := fun hh => day_late (u := w.uhi) (lim := lim) (D := D) (y := y) hk2 hh
    obtain ⟨s, hs⟩ : ∃ s, nowS b w.ulo w.uhi D n j = s := ⟨_, rfl⟩
    obtain ⟨s', hs'⟩ : ∃ s', nowS b w.ulo w.uhi D n (j + 1) = s' := ⟨_, rfl⟩
    have hsu : useN b w.ulo w.uhi (D.getD j 0).toNat s = s' := by rw [← hs, ← hs']; rfl
    rw [hs] at hbd g31 hk
    rw [hs'] at hbd1
    have ih' := ih (j + 1) (by omega) s'.2 (by rw [hs'])
    rw [hs'] at ih'
    subst hk
    simp only [loopIt, todoPast, todoAt, todoOf, firstReg, ↓reduceIte, Option.some.injEq, Nat.reduceEqDiff, reduceCtorEq, Tryd.f5]
    rw [execL_inLoop]
    simp (maxSteps := 1000000) (implicitDefEqProofs := false) (disch := first | rfl | omega | assumption) only [go_sem, ↓reduceIte, Nat.reduceEqDiff, Nat.reduceAdd, Nat.reduceLeDiff, Nat.reduceBEq, Nat.reduceMul, Nat.reduceLT, Int.reduceLT, Int.reduceLE, Int.reduceToNat, Int.reduceNeg, Int.reduceEq, Int.reduceMul, reduceCtorEq, Int.reduceBEq, Int.reduceBNe, Int.reduceAdd, Int.reduceSub, g4, g9, g15, g19, g29, g30, g31, g32, g236, g237, g238, ltT, ltF, leT, leF, hk', s1, b2, b4, List.length_map]
    refine tuse_loop hb hu (D.getD j 0).toNat (by omega) _ _ _ s.1 s.2 (by omega) (by omega) (.ptr (H.length + 1) 0) (I lim) (I n) (I (dayQ w.uhi lim D y).1) (I (dayQ w.uhi lim D y).2) (I j) (.gsl (H.length + 3) D.length) (I D.length) (I j) s' _ _ (fun E f4 f9 f15 f19 f29 f30 f31 f32 f33 f236 f237 f238 => ?_) (D.getD j 0).toNat 0 (by omega) s hsu (by omega) (by omega) _ (by exact g4) (by exact g9) (by exact g15) (by exact g19) (by exact g29) (by exact g30) (by exact g31) (by exact g32) (by rfl) (by exact g236) (by exact g237) (by exact g238) (by rw [eu]; rfl) (by rfl)
    generalize dayQ w.uhi lim D y = dq at *
    by_cases c : s'.1 < lim
    · obtain ⟨l1, l2⟩ := hl (by omega)
      have l3 : ¬ (j : Int) < dq.1 := by omega
      rw [l1] at f30
      simp (maxSteps := 1000000) (implicitDefEqProofs := false) (disch := first | rfl | omega | assumption) only [go_sem, ↓reduceIte, Nat.reduceEqDiff, Nat.reduceAdd, Nat.reduceLeDiff, Nat.reduceBEq, Nat.reduceMul, Nat.reduceLT, Int.reduceLT, Int.reduceLE, Int.reduceToNat, Int.reduceNeg, Int.reduceEq, Int.reduceMul, reduceCtorEq, Int.reduceBEq, Int.reduceBNe, Int.reduceAdd, Int.reduceSub, g4, g9, g15, g19, g29, g30, g31, g32, g236, g237, g238, ltT, ltF, leT, leF, hk', f4, f9, f15, f19, f29, f30, f31, f32, f33, f236, f237, f238, c, l3]
      exact ih' _ (by exact f4) (by exact f9) (by exact f15) (by exact f19) (by exact f29) (by rw [l1]; exact f30) (by exact f31) (by exact f32) (by exact f236) (by exact f237) (by rfl)
    · simp (maxSteps := 1000000) (implicitDefEqProofs := false) (disch := first | rfl | omega | assumption) only [go_sem, ↓reduceIte, Nat.reduceEqDiff, Nat.reduceAdd, Nat.reduceLeDiff, Nat.reduceBEq, Nat.reduceMul, Nat.reduceLT, Int.reduceLT, Int.reduceLE, Int.reduceToNat, Int.reduceNeg, Int.reduceEq, Int.reduceMul, reduceCtorEq, Int.reduceBEq, Int.reduceBNe, Int.reduceAdd, Int.reduceSub, g4, g9, g15, g19, g29, g30, g31, g32, g236, g237, g238, ltT, ltF, leT, leF, hk', f4, f9, f15, f19, f29, f30, f31, f32, f33, f236, f237, f238, c]
      exact ih' _ (by exact f4) (by exact f9) (by exact f15) (by exact f19) (by exact f29) (by exact f30) (by exact f31) (by exact f32) (by exact f236) (by exact f237) (by rfl)

end Go.Ab
/-
  WearTrue, walked.
-/
namespace Go.Ab
open Go.Proofs
set_option linter.unusedSimpArgs false
set_option linter.unusedVariables false
set_option maxRecDepth 100000

variable {H : Heap}

theorem mask_sub {f g : Nat → Bool} (n : Nat) (h : ∀ i, i < n → f i = true → g i = true) : diffN (maskN f n) (maskN g n) = 0 := by
  refine Nat.eq_of_testBit_eq fun i => ?_
  rw [diffN_bit, Nat.zero_testBit, maskN_bit, maskN_bit]
  by_cases hi : i < n
  · cases hf : f i
    · simp
    · simp [hi, h i hi hf]
  · simp [hi]

theorem sure_per {x : Wea} (ho : x.Ok) (hc : x.can = true) (lim : Int) : diffN (maskN (sureF (x.at x.rd x.L) lim) x.es.length) (maskN (perF (x.at x.rd x.L) lim) x.es.length) = 0 := by
  refine mask_sub _ fun i hi h => ?_
  have := at_le ho hc (show i + 1 ≤ x.es.length by omega)
  simp only [sureF, perF, decide_eq_true_eq] at h ⊢
  omega

theorem dayQ_cases (u lim : Int) (D : List Int) (x : Int) : (∃ k : Nat, k < D.length ∧ dayQ u lim D x = ((k : Int), 0)) ∨ dayQ u lim D x = (0, 4) := by
  simp only [dayQ]
  split
  · rename_i h
    exact .inl ⟨_, h, rfl⟩
  · exact .inr rfl

theorem law_WearTrue {w : Wea} {ve v v4 : AV} {b : List Int} (h : WeaAt H w ve) (hb : ByAt H v b) {l : List Int} (hv' : SlOk H 1 v4 (l.map U8)) (hll : l.length ≤ 9223372036854775807) (hlb : ∀ i, i < l.length → 0 ≤ l.getD i 0 ∧ l.getD i 0 ≤ 255) (n : Int) (hn : 0 ≤ n ∧ n ≤ 65535) :
    callFL cfg0 prog0 false 5 [w.av ve, v, .int .u16 n, v4] H none = some ⟨.ret (.bool true), H, none⟩ := by
  have s1 := h.es.scal
  have s2 := hv'.scal
  have s3 := hv'.len
  rw [List.length_map] at s3
  have s4 := hb.sl.scal
  have hF := fun G : Heap => law_fine (h.app G)
  obtain ⟨r1, r2, r3⟩ := rem420 hn.1
  have hav : w.av ve = .agg [I w.llo, I w.lhi, I w.ulo, I w.uhi, ve] := rfl
  rw [hav]
  cases hf : (!w.farB 0 && w.valid)
  · simp only [hf, Wea.av] at hF
    refine (callFL_eq fn5 rfl (by simp [Tryd.f5])).trans ?_
    simp (maxSteps := 1000000) (implicitDefEqProofs := false) (disch := first | rfl | omega | assumption) only [go_sem, ↓reduceIte, Nat.reduceEqDiff, Nat.reduceAdd, Nat.reduceLeDiff, Nat.reduceBEq, Nat.reduceMul, Nat.reduceLT, Int.reduceLT, Int.reduceLE, Int.reduceToNat, Int.reduceNeg, Int.reduceEq, Int.reduceMul, reduceCtorEq, Int.reduceBEq, Int.reduceBNe, Int.reduceAdd, Int.reduceSub, ltT, ltF, leT, leF, s1, s2, s3, s4, hF, law_awake]
    done
  · simp only [Bool.and_eq_true, Bool.not_eq_true'] at hf
    obtain ⟨hfar, hv0⟩ := hf
    have how := w.valid_iff.1 hv0
    have h8 := how.many
    have hu := how.use
    obtain ⟨lim, hlim⟩ : ∃ lim, n % 420 - 60 = lim := ⟨_, rfl⟩
    have hT := truW_T how b
    have hv := truW_valid how b
    have hxl := truW_len b w
    have hbd := tst_bd how b
    have hTr := fun G : Heap => law_truly (h.app G) (hb.app G) how
    -- the true block
    have hX : ∀ G : Heap, WeaAt (H ++ G) (truW b w) (.sl false ((esT b w w.es.length).map Ev.av)) := fun G => ⟨⟨rfl, by simp [Ev.av, AV.cells]⟩⟩
    obtain ⟨xe, hxe⟩ : ∃ xe, AV.sl false ((esT b w w.es.length).map Ev.av) = xe := ⟨_, rfl⟩
    have hxs : xe.scalar = true := by rw [← hxe]; rfl
    rw [hxe] at hX
    simp only [hxe] at hTr
    clear hxe
    obtain ⟨x, hx⟩ : ∃ x, truW b w = x := ⟨_, rfl⟩
    have y1 : w.llo = x.llo := by rw [← hx]; rfl
    have y2 : w.lhi = x.lhi := by rw [← hx]; rfl
    have y3 : w.ulo = x.ulo := by rw [← hx]; rfl
    have y4 : w.uhi = x.uhi := by rw [← hx]; rfl
    obtain ⟨f, hf⟩ : ∃ f, trV b w = .sl f ((lenT b w w.es.length).map I) := by
      by_cases hz : w.es.length = 0
      · exact ⟨true, by simp only [trV, hz, if_true]; rfl⟩
      · exact ⟨false, by simp only [trV, hz, if_false]⟩
    have hll2 := lenT_len b w w.es.length
    have hlg := fun i (hi : i ≤ w.es.length) => lenT_get b w w.es.length hi
    rw [hf] at hTr
    clear hf
    obtain ⟨ls, hls⟩ : ∃ ls, lenT b w w.es.length = ls := ⟨_, rfl⟩
    obtain ⟨tl, htl⟩ : ∃ tl : Nat → Int, (fun i => (tst b w i).1) = tl := ⟨_, rfl⟩
    have htl' : ∀ i, (tst b w i).1 = tl i := fun i => by rw [← htl]
    rw [htl, hx] at hT
    rw [hx] at hv hxl hX
    simp only [htl'] at hbd hlg
    rw [hls] at hTr hll2 hlg
    clear htl htl' hls hx
    have ho := x.valid_iff.1 hv
    have hc : x.can = true := (canT ho).2 ⟨tl, hT⟩
    rw [← hxl] at hbd hll2 hlg h8
    have hl : x.es.length ≤ 1000 := by omega
    have w1 : wi lim (-1000) 1000 = true := wi_iff.2 ⟨by omega, by omega⟩
    have g1 := gate0 hv hc (d := 0) (by decide) w1
    have u1 := untilP_can g1
    have hlast := at_inT ho hT (Nat.le_refl x.es.length)
    have hlost := lost_inT hv hc hT
    have hCl := fun G : Heap => we_ClashA (hX G) hl
    have hLo := fun G : Heap => we_Lost (hX G) hl
    have hB := fun G : Heap => we_Below (hX G) hl lim
    have hU := fun G : Heap => we_Until (hX G) hl lim
    have hsp := sure_per ho hc lim
    have hDl := daysD_len l
    have hoff := daysD_off l
    have hdk : dayOk lim (daysD l) = true := by simp [dayOk, w1, hoff]
    have c10 : ((daysD l).length : Int) ≤ 10 := by omega
    have g3 := gate0 hv hc c10 hdk
    have d1 := dayP_can g3
    have hDay := fun (o0 o1 o2 : AO) => we_Day (hX [o0, o1, o2, .grow 1 ((daysD l).map I)]) hl (v := .gsl (H.length + 3) (daysD l).length) (l := daysD l) ⟨⟨by simp [get_at'], by simp⟩, by simp [AV.cells]⟩ (by omega) lim
    have hxav : x.av xe = .agg [I x.llo, I x.lhi, I x.ulo, I x.uhi, xe] := rfl
    have gl := gate_can hv hc
    have hba := at_bd ho (Nat.le_refl x.es.length)
    simp only [hfar, hv0, hav, Bool.not_false, Bool.and_self] at hF
    simp only [hav] at hTr
    rw [y1, y2, y3, y4] at hF hTr ⊢
    simp only [Wea.clA, hv, hc, if_true, hxav, gl, Wea.sureP, Wea.perP, g1, g3, u1, d1] at hCl hLo hB hU hDay
    have hSl : ∀ G : Heap, SlOk (H ++ G) 1 (.sl f (ls.map I)) (ls.map I) := fun G => ⟨rfl, by simp [AV.cells]⟩
    have q2 := fun G : Heap => ((hSl G).fA (d := 0)).2.1
    have q4 := fun G : Heap => ((hSl G).fA (d := 0)).2.2.2.1
    have e5 : ((x.es.length + 1 : Nat) : Int) - 1 = (x.es.length : Int) := by omega
    have l0 := hlg 0 (by omega)
    have ln := hlg x.es.length (Nat.le_refl _)
    have hwl := wi_iff.2 hlost
    have m1 := maskN_lt (sureF (x.at x.rd x.L) lim) x.es.length
    have m2 := maskN_lt (perF (x.at x.rd x.L) lim) x.es.length
    have hp : (2 : Nat) ^ x.es.length ≤ 2 ^ 8 := Nat.pow_le_pow_right (by omega) (by omega)
    have bn := bitsNotI (a := maskN (sureF (x.at x.rd x.L) lim) x.es.length) (b := maskN (perF (x.at x.rd x.L) lim) x.es.length) (by omega) (by omega)
    rw [hsp] at bn
    have hall : ((ls.map I).all fun v => v.cells.length == 1) = true := by simp [AV.cells]
    obtain ⟨Q, hQe⟩ : ∃ Q, ls.drop 1 = Q := ⟨_, rfl⟩
    have hQ : Q.length = x.es.length := by rw [← hQe, List.length_drop]; omega
    have hQl : ∀ i, i < Q.length → Q.getD i 0 = tl (i + 1) := fun i hi => by
      rw [← hlg (i + 1) (by omega), ← hQe]
      simp [Nat.add_comm]
    have hdr : List.drop 1 (List.take (x.es.length + 1) (ls.map I)) = Q.map I := by
      rw [List.take_of_length_le (by simp; omega), ← List.map_drop, hQe]
    have bd0 := hbd 0 (by omega)
    have bdn := hbd x.es.length (by omega)
    have t1 := (h.es.ltn 3)
    have t2 := hb.sl.ltn 3
    have t3 := hv'.ltn 3
    refine (callFL_eq fn5 rfl (by simp [Tryd.f5])).trans ?_
    simp (maxSteps := 1000000) (implicitDefEqProofs := false) (disch := first | rfl | omega | assumption) only [go_sem, ↓reduceIte, Nat.reduceEqDiff, Nat.reduceAdd, Nat.reduceLeDiff, Nat.reduceBEq, Nat.reduceMul, Nat.reduceLT, Int.reduceLT, Int.reduceLE, Int.reduceToNat, Int.reduceNeg, Int.reduceEq, Int.reduceMul, reduceCtorEq, Int.reduceBEq, Int.reduceBNe, Int.reduceAdd, Int.reduceSub, ltT, ltF, leT, leF, s1, s2, s3, s4, hF, hxs, hTr, hCl, hLo, hB, r1, hlim, hll2, q2, q4, e5, l0, ln, List.length_map]
    rw [chkK_of]; rotate_left; kernel_rfl
    simp (maxSteps := 1000000) (implicitDefEqProofs := false) (disch := first | rfl | omega | assumption) only [go_sem, ↓reduceIte, Nat.reduceEqDiff, Nat.reduceAdd, Nat.reduceLeDiff, Nat.reduceBEq, Nat.reduceMul, Nat.reduceLT, Int.reduceLT, Int.reduceLE, Int.reduceToNat, Int.reduceNeg, Int.reduceEq, Int.reduceMul, reduceCtorEq, Int.reduceBEq, Int.reduceBNe, Int.reduceAdd, Int.reduceSub, ltT, ltF, leT, leF, s1, s2, s3, s4, hF, hxs, hTr, hCl, hLo, hB, r1, hlim, hll2, q2, q4, e5, l0, ln, List.length_map, law_inside, hwl, bn, and_one, andZ0, hall, hdr, hQ]
    refine tafter_loop (by have := hX []; rwa [List.append_nil] at this) hv hc hT (fun i hi => by have := hbd i hi; omega) lim (.agg [I x.llo, I x.lhi, I x.ulo, I x.uhi, ve]) x.lostP Q hQ hQl v v4 (by simp [AV.lt, ltL, t1]) t2 t3 _ _ (fun E f1 f3 f4 f9 f15 f19 => ?_) x.es.length 0 (by omega) [] _ (by rfl) (by rfl) (by rfl) (by rfl) (by rfl) (by rfl) (by rfl) (by rfl) (by rfl) (by rfl) (by rfl)
    have hy3 : -4000000 ≤ x.lastP.1 ∧ x.lastP.1 ≤ 4000000 := by simp only [bd] at hba; simp only [Wea.lastP]; omega
    have hlp : x.lastP.1 ≤ tl x.es.length := hlast.1
    have hXX : WeaAt H x xe := by have := hX []; rwa [List.append_nil] at this
    have hux : 0 ≤ x.ulo ∧ x.ulo ≤ x.uhi ∧ x.uhi ≤ 3 := ho.use
    by_cases hc1 : lim ≤ x.lastP.1
    · obtain ⟨n1, n2, n3, n4⟩ := untN_facts (u := x.uhi) (by omega) (show 0 ≤ x.lastP.1 - lim by omega)
      simp only [hc1, if_true] at hU
      generalize untN x.uhi (x.lastP.1 - lim) = mm at *
      have p1 : 0 ≤ mm * x.uhi ∧ mm * x.uhi ≤ 300 := mul_bd3 ⟨n1, n2⟩ (by omega)
      have k1 : ¬ mm < 0 := by omega
      have k2 : ¬ 100 < mm := by omega
      have k3 : ¬ tl x.es.length - mm * x.uhi < lim := by omega
      simp (maxSteps := 1000000) (implicitDefEqProofs := false) (disch := first | rfl | omega | assumption) only [go_sem, ↓reduceIte, Nat.reduceEqDiff, Nat.reduceAdd, Nat.reduceLeDiff, Nat.reduceBEq, Nat.reduceMul, Nat.reduceLT, Int.reduceLT, Int.reduceLE, Int.reduceToNat, Int.reduceNeg, Int.reduceEq, Int.reduceMul, reduceCtorEq, Int.reduceBEq, Int.reduceBNe, Int.reduceAdd, Int.reduceSub, ltT, ltF, leT, leF, f1, f3, f4, f9, f15, f19, s3, hxs, hU, k1, k2, k3]
      refine tdays_loop hv' hll hlb _ _ _ _ _ _ _ _ _ _ (fun E d1 d4 d9 d15 d19 d26 => ?_) l.length 0 (by omega) [] 0 rfl rfl _ (by exact f1) (by exact f4) (by exact f9) (by exact f15) (by exact f19) (by rfl) (by rfl) (by rfl) (by rfl)
      obtain ⟨dq, hdq⟩ : ∃ dq, dayQ x.uhi lim (daysD l) x.lastP.1 = dq := ⟨_, rfl⟩
      have hcs := dayQ_cases x.uhi lim (daysD l) x.lastP.1
      have htd := fun (o2 : AO) => tday_loop (H := H) (w := x) (x := x) (ve := ve) (xe := xe) (v := v) (b := b) hXX hv hc hb hux lim (daysD l) hDl (daysD_bd l) (tl x.es.length) x.lastP.1 hlast (by omega) hlp o2 (daysD l).length 0 (by omega) 0 rfl
      rw [hdq] at hDay hcs htd
      have hdw := fun (o0 o1 o2 o3 : AO) => law_draws (hb.app [o0, o1, o2, o3]) 0
      simp only [List.length_append, List.length_cons, List.length_nil, Nat.zero_add, Nat.reduceAdd, List.append_assoc, List.cons_append, List.nil_append, Nat.add_assoc] at hdw
      rcases hcs with ⟨kk, hkk, rfl⟩ | rfl
      · have z1 : ¬ (kk : Int) < 0 := by omega
        have z2 : ¬ ((daysD l).length : Int) ≤ kk := by omega
        simp (maxSteps := 1000000) (implicitDefEqProofs := false) (disch := first | rfl | omega | assumption) only [go_sem, ↓reduceIte, Nat.reduceEqDiff, Nat.reduceAdd, Nat.reduceLeDiff, Nat.reduceBEq, Nat.reduceMul, Nat.reduceLT, Int.reduceLT, Int.reduceLE, Int.reduceToNat, Int.reduceNeg, Int.reduceEq, Int.reduceMul, reduceCtorEq, Int.reduceBEq, Int.reduceBNe, Int.reduceAdd, Int.reduceSub, ltT, ltF, leT, leF, d1, d4, d9, d15, d19, d26, s4, hxs, hDay, z1, z2, hdw]
        exact htd _ _ (by exact d4) (by exact d9) (by exact d15) (by exact d19) (by rfl) (by rfl) (by rfl) (by rfl) (by rfl) (by rfl) (by rfl)
      · simp (maxSteps := 1000000) (implicitDefEqProofs := false) (disch := first | rfl | omega | assumption) only [go_sem, ↓reduceIte, Nat.reduceEqDiff, Nat.reduceAdd, Nat.reduceLeDiff, Nat.reduceBEq, Nat.reduceMul, Nat.reduceLT, Int.reduceLT, Int.reduceLE, Int.reduceToNat, Int.reduceNeg, Int.reduceEq, Int.reduceMul, reduceCtorEq, Int.reduceBEq, Int.reduceBNe, Int.reduceAdd, Int.reduceSub, ltT, ltF, leT, leF, d1, d4, d9, d15, d19, d26, s4, hxs, hDay, hdw]
        exact htd _ _ (by exact d4) (by exact d9) (by exact d15) (by exact d19) (by rfl) (by rfl) (by rfl) (by rfl) (by rfl) (by rfl) (by rfl)
    · simp only [hc1, if_false] at hU
      simp (maxSteps := 1000000) (implicitDefEqProofs := false) (disch := first | rfl | omega | assumption) only [go_sem, ↓reduceIte, Nat.reduceEqDiff, Nat.reduceAdd, Nat.reduceLeDiff, Nat.reduceBEq, Nat.reduceMul, Nat.reduceLT, Int.reduceLT, Int.reduceLE, Int.reduceToNat, Int.reduceNeg, Int.reduceEq, Int.reduceMul, reduceCtorEq, Int.reduceBEq, Int.reduceBNe, Int.reduceAdd, Int.reduceSub, ltT, ltF, leT, leF, f1, f3, f4, f9, f15, f19, s3, hxs, hU]
      refine tdays_loop hv' hll hlb _ _ _ _ _ _ _ _ _ _ (fun E d1 d4 d9 d15 d19 d26 => ?_) l.length 0 (by omega) [] 0 rfl rfl _ (by exact f1) (by exact f4) (by exact f9) (by exact f15) (by exact f19) (by rfl) (by rfl) (by rfl) (by rfl)
      obtain ⟨dq, hdq⟩ : ∃ dq, dayQ x.uhi lim (daysD l) x.lastP.1 = dq := ⟨_, rfl⟩
      have hcs := dayQ_cases x.uhi lim (daysD l) x.lastP.1
      have htd := fun (o2 : AO) => tday_loop (H := H) (w := x) (x := x) (ve := ve) (xe := xe) (v := v) (b := b) hXX hv hc hb hux lim (daysD l) hDl (daysD_bd l) (tl x.es.length) x.lastP.1 hlast (by omega) hlp o2 (daysD l).length 0 (by omega) 0 rfl
      rw [hdq] at hDay hcs htd
      have hdw := fun (o0 o1 o2 o3 : AO) => law_draws (hb.app [o0, o1, o2, o3]) 0
      simp only [List.length_append, List.length_cons, List.length_nil, Nat.zero_add, Nat.reduceAdd, List.append_assoc, List.cons_append, List.nil_append, Nat.add_assoc] at hdw
      rcases hcs with ⟨kk, hkk, rfl⟩ | rfl
      · have z1 : ¬ (kk : Int) < 0 := by omega
        have z2 : ¬ ((daysD l).length : Int) ≤ kk := by omega
        simp (maxSteps := 1000000) (implicitDefEqProofs := false) (disch := first | rfl | omega | assumption) only [go_sem, ↓reduceIte, Nat.reduceEqDiff, Nat.reduceAdd, Nat.reduceLeDiff, Nat.reduceBEq, Nat.reduceMul, Nat.reduceLT, Int.reduceLT, Int.reduceLE, Int.reduceToNat, Int.reduceNeg, Int.reduceEq, Int.reduceMul, reduceCtorEq, Int.reduceBEq, Int.reduceBNe, Int.reduceAdd, Int.reduceSub, ltT, ltF, leT, leF, d1, d4, d9, d15, d19, d26, s4, hxs, hDay, z1, z2, hdw]
        exact htd _ _ (by exact d4) (by exact d9) (by exact d15) (by exact d19) (by rfl) (by rfl) (by rfl) (by rfl) (by rfl) (by rfl) (by rfl)
      · simp (maxSteps := 1000000) (implicitDefEqProofs := false) (disch := first | rfl | omega | assumption) only [go_sem, ↓reduceIte, Nat.reduceEqDiff, Nat.reduceAdd, Nat.reduceLeDiff, Nat.reduceBEq, Nat.reduceMul, Nat.reduceLT, Int.reduceLT, Int.reduceLE, Int.reduceToNat, Int.reduceNeg, Int.reduceEq, Int.reduceMul, reduceCtorEq, Int.reduceBEq, Int.reduceBNe, Int.reduceAdd, Int.reduceSub, ltT, ltF, leT, leF, d1, d4, d9, d15, d19, d26, s4, hxs, hDay, hdw]
        exact htd _ _ (by exact d4) (by exact d9) (by exact d15) (by exact d19) (by rfl) (by rfl) (by rfl) (by rfl) (by rfl) (by rfl) (by rfl)

end Go.Ab
