/-
  The laws that compare with the document's results, walked.
-/
import Derived.Test.YtlhnmpclnbpnhaaKK4
namespace Go.Ab
open Go.Proofs
set_option linter.unusedSimpArgs false
set_option linter.unusedVariables false
set_option maxRecDepth 100000
set_option maxHeartbeats 2000000

variable {H : Heap}

theorem heavy_false {c : Col} {n : Int} (h : c.heavy n = false) : c.ws.length ≤ 40 ∧ c.ps.length ≤ 40 := by
  simp only [Col.heavy, Bool.or_eq_false_iff] at h
  exact c.long_false h.1

theorem law_ColourTells {c : Col} {vw vp : AV} (h : ColAt H c vw vp) (k s a b : Int) : callFL cfg0 prog0 false 3 [c.av vw vp, I k, I s, I a, I b] H none = some ⟨.ret (.bool true), H, none⟩ := by
  have s1 := h.ws.scal
  have s2 := h.ps.scal
  have hH := fun G : Heap => law_heavy (h.app G) 40
  simp only [Col.av] at hH
  rcases Bool.eq_false_or_eq_true (c.heavy 40) with hh | hh
  · simp only [Col.av]
    refine (callFL_eq fn3 rfl (by simp [Try.f3])).trans ?_
    simp (maxSteps := 1000000) (disch := first | rfl | omega | assumption) only [go_sem, ↓reduceIte, Nat.reduceEqDiff, Nat.reduceAdd, Nat.reduceLeDiff, Nat.reduceBEq, Nat.reduceMul, Nat.reduceLT, Int.reduceLT, Int.reduceLE, Int.reduceToNat, Int.reduceNeg, Int.reduceEq, Int.reduceMul, reduceCtorEq, Int.reduceBEq, Int.reduceBNe, Int.reduceAdd, Int.reduceSub, s1, s2, hH, hh, law_alive]
  · obtain ⟨l1, l2⟩ := heavy_false hh
    have h1 := fun G : Heap => co_Apart (h.app G) (by omega) k a b
    have h2 := fun G : Heap => ref_Apart (h.app G) (by omega) k a b
    have h3 := fun G : Heap => co_Parts (h.app G) (by omega) s a b
    have h4 := fun G : Heap => ref_Parts (h.app G) (.inl (by omega)) s a b
    have h5 := fun G : Heap => co_Alike (h.app G) (by omega) s
    have h6 := fun G : Heap => ref_Alike (h.app G) (.inl (by omega)) s
    have h7 := fun G : Heap => co_Pairs (h.app G) (by omega) s
    have h8 := fun G : Heap => ref_Pairs (h.app G) (.inl (by omega)) s
    have h9 := fun G : Heap => co_Reach (h.app G) (by omega) s
    have h10 := fun G : Heap => ref_Reach (h.app G) (.inl (by omega)) s
    simp only [Col.av] at h1 h2 h3 h4 h5 h6 h7 h8 h9 h10 ⊢
    refine (callFL_eq fn3 rfl (by simp [Try.f3])).trans ?_
    simp (maxSteps := 1000000) (disch := first | rfl | omega | assumption) only [go_sem, ↓reduceIte, Nat.reduceEqDiff, Nat.reduceAdd, Nat.reduceLeDiff, Nat.reduceBEq, Nat.reduceMul, Nat.reduceLT, Int.reduceLT, Int.reduceLE, Int.reduceToNat, Int.reduceNeg, Int.reduceEq, Int.reduceMul, reduceCtorEq, Int.reduceBEq, Int.reduceBNe, Int.reduceAdd, Int.reduceSub, s1, s2, hH, hh, h1, h2, h3, h4, h5, h6, h7, h8, h9, h10, law_alive]

theorem law_ColourSets {c : Col} {vw vp : AV} (h : ColAt H c vw vp) (s : Int) : callFL cfg0 prog0 false 4 [c.av vw vp, I s] H none = some ⟨.ret (.bool true), H, none⟩ := by
  have s1 := h.ws.scal
  have s2 := h.ps.scal
  have hH := fun G : Heap => law_heavy (h.app G) 20
  simp only [Col.av] at hH
  rcases Bool.eq_false_or_eq_true (c.heavy 20) with hh | hh
  · simp only [Col.av]
    refine (callFL_eq fn4 rfl (by simp [Try.f4])).trans ?_
    simp (maxSteps := 1000000) (disch := first | rfl | omega | assumption) only [go_sem, ↓reduceIte, Nat.reduceEqDiff, Nat.reduceAdd, Nat.reduceLeDiff, Nat.reduceBEq, Nat.reduceMul, Nat.reduceLT, Int.reduceLT, Int.reduceLE, Int.reduceToNat, Int.reduceNeg, Int.reduceEq, Int.reduceMul, reduceCtorEq, Int.reduceBEq, Int.reduceBNe, Int.reduceAdd, Int.reduceSub, s1, s2, hH, hh, law_alive]
  · obtain ⟨l1, l2⟩ := heavy_false hh
    have h1 := fun G : Heap => co_Fewest (h.app G) (by omega)
    have h2 := fun G : Heap => ref_Fewest (h.app G)
    have h3 := fun G : Heap => co_Cheapest (h.app G) (by omega)
    have h4 := fun G : Heap => ref_Cheapest (h.app G)
    have h5 := fun G : Heap => co_Spare (h.app G) (by omega) s
    have h6 := fun G : Heap => ref_Spare (h.app G) (.inl (by omega)) s
    have h7 := fun G : Heap => co_Next (h.app G) (by omega) s
    have h8 := fun G : Heap => ref_Next (h.app G) (.inl (by omega)) s
    simp only [Col.av, Col.few_eq, Col.spare_eq, Col.next_eq] at h1 h2 h3 h4 h5 h6 h7 h8 ⊢
    refine (callFL_eq fn4 rfl (by simp [Try.f4])).trans ?_
    simp (maxSteps := 1000000) (disch := first | rfl | omega | assumption) only [go_sem, ↓reduceIte, Nat.reduceEqDiff, Nat.reduceAdd, Nat.reduceLeDiff, Nat.reduceBEq, Nat.reduceMul, Nat.reduceLT, Int.reduceLT, Int.reduceLE, Int.reduceToNat, Int.reduceNeg, Int.reduceEq, Int.reduceMul, reduceCtorEq, Int.reduceBEq, Int.reduceBNe, Int.reduceAdd, Int.reduceSub, s1, s2, hH, hh, h1, h2, h3, h4, h5, h6, h7, h8, law_alive]

end Go.Ab
