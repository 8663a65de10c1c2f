/-
  WringTells.
-/
import Derived.Test.YteeefmibaggekaaKK5
namespace Go.Ab
open Go.Proofs
set_option linter.unusedSimpArgs false
set_option linter.unusedVariables false
set_option maxRecDepth 100000
set_option maxHeartbeats 2000000

variable {H : Heap}


theorem ref_LengthA {w : Wg} {vb va : AV} (h : WgAt H w vb va) (hl : w.bs.length ≤ 1000 ∧ w.ps.length ≤ 1000) {v : AV} {xs : List Pc} (hs : SlOk H 2 v (xs.map Pc.av)) (hx : xs.length ≤ 1000) :
    callFL cfg0 prog0 false 20 [.agg [vb, va], v] H none = some ⟨.ret (.tup [spA (w.length xs).1, I (w.length xs).2]), H, none⟩ := by
  rw [ref_Length h hl hs hx]
  have e : (if w.valid then (if w.stk xs then (foldF (w.lnA xs) (w.flm xs) 0 xs.length, (0 : Int)) else ((0, 0), 2)) else ((0, 0), 1)) = w.length xs := by
    simp only [Wg.length]
    cases hv : w.valid
    · rfl
    · cases hk : w.stk xs
      · rfl
      · simp only [if_true]
        rw [len_eq w (stk_pok hk).2]
  rw [e]

theorem law_WringTells {w : Wg} {vb va : AV} (h : WgAt H w vb va) (f : Bool) (xs : List Pc) :
    callFL cfg0 prog0 false 3 [.agg [vb, va], .sl f (xs.map Pc.av)] H none = some ⟨.ret (.bool true), H, none⟩ := by
  have hs := slP (H := H) (b := f) xs
  have s1 := h.bs.scal
  have s2 := h.ps.scal
  have hL := fun G : Heap => law_long (h.app G) (slP (H := H ++ G) (b := f) xs)
  have hA := fun G : Heap => law_alive G
  by_cases hlg : 40 < w.bs.length ∨ 40 < w.ps.length ∨ 40 < xs.length
  · rw [decide_eq_true hlg] at hL
    refine (callFL_eq fn3 rfl (by simp [Try.f3])).trans ?_
    simp (maxSteps := 1000000) (implicitDefEqProofs := false) (disch := first | rfl | omega | assumption) only [go_sem, ltT, ltF, leT, leF, s1, s2, hL, hA]
    done
  · rw [decide_eq_false hlg] at hL
    have hl : w.bs.length ≤ 1000 ∧ w.ps.length ≤ 1000 := by omega
    have r1 := fun G : Heap => wr_Check (h.app G) hl f xs (by omega)
    have r2 := fun G : Heap => ref_Check (h.app G) hl (slP (H := H ++ G) (b := f) xs) (by omega)
    have r3 := fun G : Heap => wr_Holds (h.app G) hl f xs (by omega)
    have r4 := fun G : Heap => ref_Holds (h.app G) hl (slP (H := H ++ G) (b := f) xs) (by omega)
    have r5 := fun G : Heap => wr_Length (h.app G) hl f xs (by omega)
    have r6 := fun G : Heap => ref_LengthA (h.app G) hl (slP (H := H ++ G) (b := f) xs) (by omega)
    generalize w.check xs = a at *
    generalize w.holds xs = b at *
    generalize w.length xs = c at *
    obtain ⟨a1, a2, a3⟩ := a
    obtain ⟨b1, b2⟩ := b
    obtain ⟨⟨c1, c2⟩, c3⟩ := c
    have e1 : (a1 == a1) = true := beq_self_eq_true _
    have e2 : (a2 == a2) = true := beq_self_eq_true _
    have e3 : (a3 == a3) = true := beq_self_eq_true _
    have e4 : (b1 == b1) = true := beq_self_eq_true _
    have e5 : (b2 == b2) = true := beq_self_eq_true _
    have e6 : (c3 == c3) = true := beq_self_eq_true _
    have e7 : sameL [I c1, I c2] [I c1, I c2] = true := by simp [sameL, AV.same]
    simp only [spA] at r5 r6
    refine (callFL_eq fn3 rfl (by simp [Try.f3])).trans ?_
    simp (maxSteps := 1000000) (implicitDefEqProofs := false) (disch := first | rfl | omega | assumption) only [go_sem, ltT, ltF, leT, leF, s1, s2, hL]
    simp (maxSteps := 1000000) (implicitDefEqProofs := false) (disch := first | rfl | omega | assumption) only [go_sem, ltT, ltF, leT, leF, s1, s2, r1, r2, r3, r4, r5, r6, hA, e1, e2, e3, e4, e5, e6, e7]
    done

end Go.Ab
