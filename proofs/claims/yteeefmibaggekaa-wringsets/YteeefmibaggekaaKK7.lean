/-
  WringTells.
-/
import Derived.Test.YteeefmibaggekaaKK6
namespace Go.Ab
open Go.Proofs
set_option linter.unusedSimpArgs false
set_option linter.unusedVariables false
set_option maxRecDepth 100000
set_option maxHeartbeats 2000000

variable {H : Heap}


def sumF (f : Nat → Int) : Nat → Nat → Int
  | _, 0 => 0
  | j, q + 1 => f j + sumF f (j + 1) q

theorem law_long {w : Wg} {vb va : AV} (h : WgAt H w vb va) {v : AV} {xs : List Pc} (hs : SlOk H 2 v (xs.map Pc.av)) :
    callFL cfg0 prog0 false 13 [.agg [vb, va], v] H none = some ⟨.ret (.bool (decide (40 < w.bs.length ∨ 40 < w.ps.length ∨ 40 < xs.length))), H, none⟩ := by
  have s0 := hs.scal
  have s1 := h.bs.scal
  have s2 := h.ps.scal
  have n0 := hs.len
  have n1 := h.bs.len
  have n2 := h.ps.len
  have c1 := h.bs.cel
  have c2 := h.ps.cel
  rw [List.length_map] at n0 n1 n2
  have e : decide (40 < w.bs.length ∨ 40 < w.ps.length ∨ 40 < xs.length) = decide ((40 : Int) < if (if (w.bs.length : Int) < w.ps.length then (w.ps.length : Int) else w.bs.length) < xs.length then (xs.length : Int) else if (w.bs.length : Int) < w.ps.length then (w.ps.length : Int) else w.bs.length) := by
    congr 1
    apply propext
    omega
  rw [e]
  refine (callFL_eq fn13 rfl (by simp [Try.f13])).trans ?_
  simp (maxSteps := 1000000) (implicitDefEqProofs := false) (disch := first | rfl | omega | assumption) only [go_sem, s0, s1, s2, n0, n1, n2, c1, c2]

end Go.Ab
/-
  WringStacks.
-/
namespace Go.Ab
open Go.Proofs
set_option linter.unusedSimpArgs false
set_option linter.unusedVariables false
set_option maxRecDepth 100000
set_option maxHeartbeats 2000000

variable {H : Heap}


end Go.Ab
/-
  WringSets.
-/
namespace Go.Ab
open Go.Proofs
set_option linter.unusedSimpArgs false
set_option linter.unusedVariables false
set_option maxRecDepth 100000
set_option maxHeartbeats 2000000

variable {H : Heap}


theorem law_heavy {w : Wg} {vb va : AV} (h : WgAt H w vb va) (n : Int) : ∃ r : Bool, (r = false → w.bs.length ≤ 40 ∧ w.ps.length ≤ 40) ∧ ∀ G : Heap, callFL cfg0 prog0 false 28 [.agg [vb, va], I n] (H ++ G) none = some ⟨.ret (.bool r), H ++ G, none⟩ := by
  have s1 := h.bs.scal
  have s2 := h.ps.scal
  have n1 := h.bs.len
  rw [List.length_map] at n1
  have c1 := h.bs.cel
  have hL := fun G : Heap => law_long (h.app G) (slP (H := H ++ G) (b := true) [])
  simp only [List.map_nil, List.length_nil] at hL
  by_cases hlg : 40 < w.bs.length ∨ 40 < w.ps.length ∨ 40 < 0
  · rw [decide_eq_true hlg] at hL
    refine ⟨true, fun h => (by cases h), fun G => ?_⟩
    refine (callFL_eq fn28 rfl (by simp [Try.f28])).trans ?_
    simp (maxSteps := 1000000) (implicitDefEqProofs := false) (disch := first | rfl | omega | assumption) only [go_sem, ltT, ltF, leT, leF, s1, s2, hL]
    done
  · rw [decide_eq_false hlg] at hL
    have hl : w.bs.length ≤ 1000 ∧ w.ps.length ≤ 1000 := by omega
    have hW := fun G : Heap => ref_Wring (h.app G) hl
    refine ⟨w.valid && decide (n < (w.bs.length : Int)), fun _ => by omega, fun G => ?_⟩
    cases hv : w.valid
    · rw [hv] at hW
      simp only [Bool.false_and]
      refine (callFL_eq fn28 rfl (by simp [Try.f28])).trans ?_
      simp (maxSteps := 1000000) (implicitDefEqProofs := false) (disch := first | rfl | omega | assumption) only [go_sem, ltT, ltF, leT, leF, s1, s2, hL, hW]
      done
    · rw [hv] at hW
      simp only [Bool.true_and]
      refine (callFL_eq fn28 rfl (by simp [Try.f28])).trans ?_
      simp (maxSteps := 1000000) (implicitDefEqProofs := false) (disch := first | rfl | omega | assumption) only [go_sem, s1, s2, n1, c1, hL, hW]
      done

theorem law_WringSets {w : Wg} {vb va : AV} (h : WgAt H w vb va) :
    callFL cfg0 prog0 false 5 [.agg [vb, va]] H none = some ⟨.ret (.bool true), H, none⟩ := by
  have s1 := h.bs.scal
  have s2 := h.ps.scal
  have hA := fun G : Heap => law_alive G
  obtain ⟨r, hr, hL⟩ := law_heavy h 3
  cases r
  rotate_left
  · refine (callFL_eq fn5 rfl (by simp [Try.f5])).trans ?_
    simp (maxSteps := 1000000) (implicitDefEqProofs := false) (disch := first | rfl | omega | assumption) only [go_sem, ltT, ltF, leT, leF, s1, s2, hL, hA]
    done
  have hl : w.bs.length ≤ 1000 ∧ w.ps.length ≤ 1000 := by have := hr rfl; omega
  have r1 := fun G : Heap => wr_Most (h.app G) hl
  have r2 := fun G : Heap => ref_Most (h.app G) hl
  have r3 := fun G : Heap => wr_Polish (h.app G) hl
  have r4 := fun G : Heap => ref_Polish (h.app G) hl
  have e1 : (if w.valid then .tup [I (pop w.mostR), I w.mostR, I 0] else .tup [I 0, I 0, I 1] : AV) = .tup [I w.most.1, I w.most.2.1, I w.most.2.2] := by
    simp only [Wg.most]
    cases hv : w.valid
    · rfl
    · rw [most_eq (w.valid_iff.1 hv)]; rfl
  have e2 : (if w.valid then (if w.canP (2 ^ (2 * w.bs.length) - 1) then .tup [I (pop w.polishR), I w.polishR, I 0] else .tup [I 0, I 0, I 4]) else .tup [I 0, I 0, I 1] : AV) = .tup [I w.polish.1, I w.polish.2.1, I w.polish.2.2] := by
    simp only [Wg.polish]
    cases hv : w.valid
    · rfl
    · rw [polish_eq (w.valid_iff.1 hv)]
      cases w.canP (2 ^ (2 * w.bs.length) - 1) <;> rfl
  rw [e1] at r2
  rw [e2] at r4
  generalize w.most = a at *
  generalize w.polish = b at *
  obtain ⟨a1, a2, a3⟩ := a
  obtain ⟨b1, b2, b3⟩ := b
  have e1 : (a1 == a1) = true := beq_self_eq_true _
  have e2 : (a2 == a2) = true := beq_self_eq_true _
  have e3 : (a3 == a3) = true := beq_self_eq_true _
  have e4 : (b1 == b1) = true := beq_self_eq_true _
  have e5 : (b2 == b2) = true := beq_self_eq_true _
  have e6 : (b3 == b3) = true := beq_self_eq_true _

  refine (callFL_eq fn5 rfl (by simp [Try.f5])).trans ?_
  simp (maxSteps := 1000000) (implicitDefEqProofs := false) (disch := first | rfl | omega | assumption) only [go_sem, ltT, ltF, leT, leF, s1, s2, hL]
  simp (maxSteps := 1000000) (implicitDefEqProofs := false) (disch := first | rfl | omega | assumption) only [go_sem, ltT, ltF, leT, leF, s1, s2, r1, r2, r3, r4, hA, e1, e2, e3, e4, e5, e6]
  done

end Go.Ab
