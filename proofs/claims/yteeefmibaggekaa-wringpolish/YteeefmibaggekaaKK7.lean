/-
  WringTells.
-/
import Derived.Test.YteeefmibaggekaaKK6
namespace Go.Ab
open Go.Proofs
set_option linter.unusedSimpArgs false
set_option linter.unusedVariables false
set_option maxRecDepth 100000
set_option maxHeartbeats 2000000

variable {H : Heap}


def sumF (f : Nat → Int) : Nat → Nat → Int
  | _, 0 => 0
  | j, q + 1 => f j + sumF f (j + 1) q

theorem law_long {w : Wg} {vb va : AV} (h : WgAt H w vb va) {v : AV} {xs : List Pc} (hs : SlOk H 2 v (xs.map Pc.av)) :
    callFL cfg0 prog0 false 13 [.agg [vb, va], v] H none = some ⟨.ret (.bool (decide (40 < w.bs.length ∨ 40 < w.ps.length ∨ 40 < xs.length))), H, none⟩ := by
  have s0 := hs.scal
  have s1 := h.bs.scal
  have s2 := h.ps.scal
  have n0 := hs.len
  have n1 := h.bs.len
  have n2 := h.ps.len
  have c1 := h.bs.cel
  have c2 := h.ps.cel
  rw [List.length_map] at n0 n1 n2
  have e : decide (40 < w.bs.length ∨ 40 < w.ps.length ∨ 40 < xs.length) = decide ((40 : Int) < if (if (w.bs.length : Int) < w.ps.length then (w.ps.length : Int) else w.bs.length) < xs.length then (xs.length : Int) else if (w.bs.length : Int) < w.ps.length then (w.ps.length : Int) else w.bs.length) := by
    congr 1
    apply propext
    omega
  rw [e]
  refine (callFL_eq fn13 rfl (by simp [Try.f13])).trans ?_
  simp (maxSteps := 1000000) (implicitDefEqProofs := false) (disch := first | rfl | omega | assumption) only [go_sem, s0, s1, s2, n0, n1, n2, c1, c2]

end Go.Ab
/-
  WringStacks.
-/
namespace Go.Ab
open Go.Proofs
set_option linter.unusedSimpArgs false
set_option linter.unusedVariables false
set_option maxRecDepth 100000
set_option maxHeartbeats 2000000

variable {H : Heap}


end Go.Ab
/-
  WringPolish.
-/
namespace Go.Ab
open Go.Proofs
set_option linter.unusedSimpArgs false
set_option linter.unusedVariables false
set_option maxRecDepth 100000
set_option maxHeartbeats 2000000

variable {H : Heap}


theorem law_canP {w : Wg} {vb va : AV} (h : WgAt H w vb va) (ho : w.Ok) (s : Nat) (hs : s < 2 ^ 60) (G : Heap) :
    callFL cfg0 prog0 false 46 [I s, .ptr H.length 0] (H ++ (.box (.agg [vb, va]) :: G)) none = some ⟨.ret (.bool (w.canP s)), H ++ (.box (.agg [vb, va]) :: G), none⟩ := by
  have s1 := h.bs.scal
  have s2 := h.ps.scal
  have h5 := ho.n.2
  simp only [Wg.n] at h5
  have hn := pol_n w s
  have hP := fun G : Heap => ref_Polished (h.app G) h5 s hs
  have hC := fun G : Heap => wr_Count (pol_at (h.app G) s) ⟨by rw [hn]; omega, by have := ho.np; simp only [Wg.pol]; omega⟩
  have hcount : (w.pol s).count = (((w.pol s).tal false w.full).1, 0) := by
    simp only [Wg.count, ((w.pol s).valid_iff).2 (pol_ok ho s), if_true]
    have : (w.pol s).full = w.full := by simp only [Wg.full, hn]
    rw [this]
  rw [hcount] at hC
  have hc : decide (((w.pol s).tal false w.full).1 > 0) = w.canP s := rfl
  refine (callFL_eq fn46 rfl (by simp [Try.f46])).trans ?_
  simp (maxSteps := 1000000) (implicitDefEqProofs := false) (disch := first | rfl | omega | assumption) only [go_sem, s1, s2, hP, hC, hc]
  done

theorem wp_loop {w : Wg} {vb va : AV} (h : WgAt H w vb va) (ho : w.Ok) {S own : Nat} (hS : S < 1024) (hown : own < 1024) (hmin : ∀ j, j < 2 * w.bs.length → S.testBit j = true → w.canP (diffN S (2 ^ j)) = false) (hfin : w.canP own = false ∨ pop S < pop own ∨ (pop S = pop own ∧ S ≤ own)) :
    ∀ (q j : Nat), j + q = 2 * w.bs.length → ∀ E : Env, E.get 2 = .ptr H.length 0 → E.get 5 = I (pop S) → E.get 6 = I S → E.get 8 = .func (.func 46) [] [.ptr H.length 0] → E.get 10 = .func (.func 45) [] [] → E.get 11 = I own → E.get 99 = I (2 * w.bs.length : Nat) → E.get 100 = I j →
    Option.map (finishC H.length) (execL cfg0 prog0 ⟨11, none, false, H.length⟩ (todoAt Try.f11 14) ⟨E, [], H ++ [.box (.agg [vb, va])], none⟩) = some ⟨.ret (.bool true), H, none⟩ := by
  intro q
  have h5 := ho.n.2
  simp only [Wg.n] at h5
  have hA := fun G : Heap => law_alive G
  induction q with
  | zero =>
    intro j hj  E g2 g5 g6 g8 g10 g11 g99 g100
    have hk' : ¬ (j : Int) < ((2 * w.bs.length : Nat) : Int) := by omega
    simp only [loopIt, todoPast, todoAt, todoOf, firstReg, ↓reduceIte, Option.some.injEq, Nat.reduceEqDiff, reduceCtorEq, Try.f11]
    rw [execL_inLoop]
    have hC := fun G : Heap => law_canP h ho own (by omega) G
    have hSz := fun G : Heap => ref_Size (s := own) (by omega) G
    rcases hfin with hf | hf | ⟨hf, hg⟩
    · rw [hf] at hC
      simp (maxSteps := 1000000) (implicitDefEqProofs := false) (disch := first | rfl | omega | assumption) only [go_sem, g2, g5, g6, g8, g10, g11, g99, g100, ltT, ltF, leT, leF, hk', hC, hA]
      done
    · have hf' : (pop S : Int) < (pop own : Int) := by omega
      cases hc : w.canP own <;> rw [hc] at hC
      · simp (maxSteps := 1000000) (implicitDefEqProofs := false) (disch := first | rfl | omega | assumption) only [go_sem, g2, g5, g6, g8, g10, g11, g99, g100, ltT, ltF, leT, leF, hk', hC, hA]
      · simp (maxSteps := 1000000) (implicitDefEqProofs := false) (disch := first | rfl | omega | assumption) only [go_sem, g2, g5, g6, g8, g10, g11, g99, g100, ltT, ltF, leT, leF, hk', hC, hSz, hf', hA]
    · have hf' : ¬ (pop S : Int) < (pop own : Int) := by omega
      have hf2 : ((pop own : Int) == (pop S : Int)) = true := by rw [hf]; exact beq_self_eq_true _
      have hg' : (S : Int) ≤ (own : Int) := by omega
      cases hc : w.canP own <;> rw [hc] at hC
      · simp (maxSteps := 1000000) (implicitDefEqProofs := false) (disch := first | rfl | omega | assumption) only [go_sem, g2, g5, g6, g8, g10, g11, g99, g100, ltT, ltF, leT, leF, hk', hC, hA]
      · simp (maxSteps := 1000000) (implicitDefEqProofs := false) (disch := first | rfl | omega | assumption) only [go_sem, g2, g5, g6, g8, g10, g11, g99, g100, ltT, ltF, leT, leF, hk', hC, hSz, hf', hf2, hg', hA]
  | succ q ih =>
    intro j hj  E g2 g5 g6 g8 g10 g11 g99 g100
    have hk' : (j : Int) < ((2 * w.bs.length : Nat) : Int) := by omega
    have hk2 : j < 2 * w.bs.length := by omega
    have e1 := shrN (s := S) (j := j) (by omega)
    have e2 := bitI (s := S) (j := j) (by omega)
    have e3 := and_one (s := S) (j := j)
    have z : ¬ (j : Int) < 0 := by omega
    have e4 := shlI (k := j) (by omega)
    have hj2 := two_pow_lt (show j < 60 by omega)
    have e5 := bitsNotI (a := S) (b := 2 ^ j) (by omega) (by omega)
    cases c : S.testBit j
    · rw [c] at e3
      simp only [loopIt, todoPast, todoAt, todoOf, firstReg, ↓reduceIte, Option.some.injEq, Nat.reduceEqDiff, reduceCtorEq, Try.f11]
      rw [execL_inLoop]
      simp (maxSteps := 1000000) (implicitDefEqProofs := false) (disch := first | rfl | omega | assumption) only [go_sem, g2, g5, g6, g8, g10, g11, g99, g100, ltT, ltF, leT, leF, hk', e1, e2, e3, z]
      exact ih (j + 1) (by omega) _ (by exact g2) (by exact g5) (by exact g6) (by exact g8) (by exact g10) (by exact g11) (by exact g99) (by rfl)
    · rw [c] at e3
      have hC := fun G : Heap => law_canP h ho (diffN S (2 ^ j)) (Nat.lt_of_lt_of_le (diffN_lt (n := 10) hS) (by decide)) G
      rw [hmin j hk2 c] at hC
      simp only [loopIt, todoPast, todoAt, todoOf, firstReg, ↓reduceIte, Option.some.injEq, Nat.reduceEqDiff, reduceCtorEq, Try.f11]
      rw [execL_inLoop]
      simp (maxSteps := 1000000) (implicitDefEqProofs := false) (disch := first | rfl | omega | assumption) only [go_sem, g2, g5, g6, g8, g10, g11, g99, g100, ltT, ltF, leT, leF, hk', e1, e2, e3, z, e4, e5, hC]
      exact ih (j + 1) (by omega) _ (by exact g2) (by exact g5) (by exact g6) (by exact g8) (by exact g10) (by exact g11) (by exact g99) (by rfl)

theorem pop_clear : ∀ j < 10, ∀ x < 1024, x.testBit j = true → pop (diffN x (2 ^ j)) < pop x ∧ diffN x (2 ^ j) < 1024 := by decide +kernel

theorem law_WringPolish {w : Wg} {vb va : AV} (h : WgAt H w vb va) (n1 : Int) (w1 : 0 ≤ n1 ∧ n1 ≤ 65535) :
    callFL cfg0 prog0 false 11 [.agg [vb, va], .int .u16 n1] H none = some ⟨.ret (.bool true), H, none⟩ := by
  have s1 := h.bs.scal
  have s2 := h.ps.scal
  have l1 := h.bs.len
  rw [List.length_map] at l1
  have c1 := h.bs.cel
  obtain ⟨nb, rfl⟩ := Int.eq_ofNat_of_zero_le w1.1
  have hL := fun G : Heap => law_long (h.app G) (slP (H := H ++ G) (b := true) [])
  have hA := fun G : Heap => law_alive G
  simp only [List.map_nil, List.length_nil] at hL
  by_cases hlg : 40 < w.bs.length ∨ 40 < w.ps.length ∨ 40 < 0
  · rw [decide_eq_true hlg] at hL
    refine (callFL_eq fn11 rfl (by simp [Try.f11])).trans ?_
    simp (maxSteps := 1000000) (implicitDefEqProofs := false) (disch := first | rfl | omega | assumption) only [go_sem, ltT, ltF, leT, leF, s1, s2, hL, hA]
    done
  rw [decide_eq_false hlg] at hL
  have hl : w.bs.length ≤ 1000 ∧ w.ps.length ≤ 1000 := by omega
  have hW := fun G : Heap => ref_Wring (h.app G) hl
  cases hv : w.valid
  · rw [hv] at hW
    refine (callFL_eq fn11 rfl (by simp [Try.f11])).trans ?_
    simp (maxSteps := 1000000) (implicitDefEqProofs := false) (disch := first | rfl | omega | assumption) only [go_sem, ltT, ltF, leT, leF, s1, s2, hL, hW, hA]
    done
  have ho := w.valid_iff.1 hv
  rw [hv] at hW
  have h5 := ho.n.2
  simp only [Wg.n] at h5
  have hp10 := pow_le (show 2 * w.bs.length ≤ 10 by omega)
  have hpos : 0 < 2 ^ (2 * w.bs.length) := Nat.two_pow_pos _
  have r1 := fun G : Heap => wr_Polish (h.app G) hl
  have x0 : IntKind.i64.wrap (2 * (w.bs.length : Int)) = ((2 * w.bs.length : Nat) : Int) := by rw [w64 (by omega) (by omega)]; omega
  have x1 := shlI (k := 2 * w.bs.length) (by omega)
  have x2 : IntKind.i64.wrap (((2 ^ (2 * w.bs.length) : Nat) : Int) - 1) = ((2 ^ (2 * w.bs.length) - 1 : Nat) : Int) := by rw [w64 (by omega) (by omega)]; omega
  have x3 : IntKind.i64.wrap (nb : Int) = nb := w64 (by omega) (by omega)
  have x4 := bitsAndI (a := nb) (b := 2 ^ (2 * w.bs.length) - 1) (by omega) (by omega)
  have x5 : ¬ ((2 * w.bs.length : Nat) : Int) < 0 := by omega
  have hown : (nb &&& (2 ^ (2 * w.bs.length) - 1)) < 2 ^ (2 * w.bs.length) := Nat.lt_of_le_of_lt Nat.and_le_right (by omega)
  have hE := fun G : Heap => law_canP h ho (2 ^ (2 * w.bs.length) - 1) (by omega) G
  have hO := fun G : Heap => law_canP h ho (nb &&& (2 ^ (2 * w.bs.length) - 1)) (by omega) G
  have hpol : w.polish = if w.canP (2 ^ (2 * w.bs.length) - 1) then (((pop w.polishR : Nat) : Int), ((w.polishR : Nat) : Int), (0 : Int)) else (0, 0, 4) := by
    simp only [Wg.polish, hv, if_true]
    rw [polish_eq ho]
    cases w.canP (2 ^ (2 * w.bs.length) - 1) <;> rfl
  generalize nb &&& (2 ^ (2 * w.bs.length) - 1) = own at *
  cases hc : w.canP (2 ^ (2 * w.bs.length) - 1)
  · rw [hc] at hpol hE
    simp only [Bool.false_eq_true, if_false] at hpol
    rw [hpol] at r1
    have hco : w.canP own = false := by
      cases he : w.canP own
      · rfl
      · rw [canP_every ho he] at hc; cases hc
    rw [hco] at hO
    refine (callFL_eq fn11 rfl (by simp [Try.f11])).trans ?_
    simp (maxSteps := 1000000) (implicitDefEqProofs := false) (disch := first | rfl | omega | assumption) only [go_sem, ltT, ltF, leT, leF, s1, s2, l1, c1, hL, hW, r1, x0, x1, x2, x3, x4, x5, hE, hO, hA]
    done
  · rw [hc] at hpol hE
    simp only [if_true] at hpol
    rw [hpol] at r1
    obtain ⟨q1, q2, q3⟩ := polishR_is ho hc
    have hZ := fun G : Heap => law_canP h ho 0 (by omega) G
    simp only [show ((0 : Nat) : Int) = 0 from rfl] at hZ
    have hS := fun G : Heap => law_canP h ho w.polishR (by omega) G
    rw [q1] at hS
    have hSz := fun G : Heap => ref_Size (s := w.polishR) (by omega) G
    have hz : ((w.polishR : Int) == 0) = w.canP 0 := by
      rw [Bool.eq_iff_iff, beq_iff_eq]
      constructor
      · intro e
        have : w.polishR = 0 := by omega
        rw [← this]; exact q1
      · intro e
        have := q3 0 hpos e
        rw [show pop 0 = 0 from by decide] at this
        have := pop_pos w.polishR (by omega) (by omega)
        omega
    have hmin : ∀ j, j < 2 * w.bs.length → w.polishR.testBit j = true → w.canP (diffN w.polishR (2 ^ j)) = false := fun j hj hb => by
      obtain ⟨g1, g2⟩ := pop_clear j (by omega) w.polishR (by omega) hb
      cases he : w.canP (diffN w.polishR (2 ^ j))
      · rfl
      · have := q3 _ (diffN_lt q2) he
        omega
    have hfin : w.canP own = false ∨ pop w.polishR < pop own ∨ (pop w.polishR = pop own ∧ w.polishR ≤ own) := by
      cases he : w.canP own
      · exact .inl rfl
      · exact .inr (q3 own hown he)
    have h1 := wp_loop h ho (S := w.polishR) (own := own) (by omega) (by omega) hmin hfin (2 * w.bs.length) 0 (by omega)
    have y1 : ¬ (w.polishR : Int) < 0 := by omega
    have y2 : ¬ ((2 ^ (2 * w.bs.length) - 1 : Nat) : Int) < (w.polishR : Int) := by omega
    have y3 : ((pop w.polishR : Int) != (pop w.polishR : Int)) = false := by simp
    generalize w.polishR = S at *
    cases h0 : w.canP 0 <;> rw [h0] at hz hZ
    all_goals
      refine (callFL_eq fn11 rfl (by simp [Try.f11])).trans ?_
      simp (maxSteps := 1000000) (implicitDefEqProofs := false) (disch := first | rfl | omega | assumption) only [go_sem, ltT, ltF, leT, leF, s1, s2, l1, c1, hL, hW, r1, x0, x1, x2, x3, x4, x5, hE, hS, hSz, y1, y2, y3, hz, hZ]
      exact h1 _ (by rfl) (by rfl) (by rfl) (by rfl) (by rfl) (by rfl) (by rfl) (by rfl)

end Go.Ab
