/-
  The reference, walked: how many uses more, and on which day.
-/
import Derived.Test.YtlnfcahmdnnabaaDoorKK5
namespace Go.Ab
open Go.Proofs
set_option linter.unusedSimpArgs false
set_option linter.unusedVariables false
set_option maxRecDepth 100000

variable {H : Heap}

theorem untN_is {u d : Int} (hu : 0 ≤ u ∧ u ≤ 3) (hd : 0 ≤ d) {n : Nat} (hn : n ≤ 100) (h1 : (n : Int) * u ≤ d) (h2 : n = 100 ∨ d < (n + 1 : Int) * u) : untN u d = n := by
  have hc : u = 0 ∨ u = 1 ∨ u = 2 ∨ u = 3 := by omega
  rcases hc with rfl | rfl | rfl | rfl
  · simp [untN]; omega
  · simp only [untN, mn, Int.tdiv_eq_ediv_of_nonneg hd]
    simp
    omega
  · simp only [untN, mn, Int.tdiv_eq_ediv_of_nonneg hd]
    simp
    omega
  · simp only [untN, mn, Int.tdiv_eq_ediv_of_nonneg hd]
    simp
    omega

theorem runtil_loop {w : Wea} {ve : AV} (hu : 0 ≤ w.uhi ∧ w.uhi ≤ 3) (lim x : Int) (hl : -1000 ≤ lim ∧ lim ≤ 1000) (hx : lim ≤ x ∧ x ≤ 4000000) (hv : ve.scalar = true) (G : Heap) :
    ∀ (q j : Nat), j + q = 100 → (j : Int) * w.uhi ≤ x - lim → ∀ E : Env, E.get 1 = I lim → E.get 2 = .ptr H.length 0 → E.get 7 = I x → E.get 8 = I j →
    Option.map (finishC H.length) (execL cfg0 prog0 ⟨23, none, false, H.length⟩ (todoAt Tryd.f23 8) ⟨E, [], H ++ (.box (.agg [I w.llo, I w.lhi, I w.ulo, I w.uhi, ve]) :: G), none⟩) = some ⟨.ret (.tup [I (untN w.uhi (x - lim)), I 0]), H, none⟩ := by
  intro q
  skip
  induction q with
  | zero =>
    intro j hj hI E g1 g2 g7 g8
    have hk' : ¬ (j : Int) < ((100 : Nat) : Int) := by omega
    have ej : j = 100 := by omega
    subst ej
    have hq := untN_is hu (by omega) (Nat.le_refl 100) hI (.inl rfl)
    simp only [loopIt, todoPast, todoAt, todoOf, firstReg, ↓reduceIte, Option.some.injEq, Nat.reduceEqDiff, reduceCtorEq, Tryd.f23]
    rw [execL_inLoop]
    simp (maxSteps := 1000000) (implicitDefEqProofs := false) (disch := first | rfl | omega | assumption) only [go_sem, ↓reduceIte, Nat.reduceEqDiff, Nat.reduceAdd, Nat.reduceLeDiff, Nat.reduceBEq, Nat.reduceMul, Nat.reduceLT, Int.reduceLT, Int.reduceLE, Int.reduceToNat, Int.reduceNeg, Int.reduceEq, Int.reduceMul, reduceCtorEq, Int.reduceBEq, Int.reduceBNe, Int.reduceAdd, Int.reduceSub, g1, g2, g7, g8, ltT, ltF, leT, leF, hk', hv, hq]
    done
  | succ q ih =>
    intro j hj hI E g1 g2 g7 g8
    have hk' : (j : Int) < ((100 : Nat) : Int) := by omega
    have hk2 : j < 100 := by omega
    have hm := mul_bd4 (m := (j : Int)) (by omega) hu
    have hm0 := mul_bd3 (m := (j : Int)) (by omega) hu
    have hk3 : (j : Int) < 100 := by omega
    by_cases c : ((j : Int) + 1) * w.uhi ≤ x - lim
    · have c' : lim ≤ x - ((j : Int) + 1) * w.uhi := by omega
      simp only [loopIt, todoPast, todoAt, todoOf, firstReg, ↓reduceIte, Option.some.injEq, Nat.reduceEqDiff, reduceCtorEq, Tryd.f23]
      rw [execL_inLoop]
      simp (maxSteps := 1000000) (implicitDefEqProofs := false) (disch := first | rfl | omega | assumption) only [go_sem, ↓reduceIte, Nat.reduceEqDiff, Nat.reduceAdd, Nat.reduceLeDiff, Nat.reduceBEq, Nat.reduceMul, Nat.reduceLT, Int.reduceLT, Int.reduceLE, Int.reduceToNat, Int.reduceNeg, Int.reduceEq, Int.reduceMul, reduceCtorEq, Int.reduceBEq, Int.reduceBNe, Int.reduceAdd, Int.reduceSub, g1, g2, g7, g8, ltT, ltF, leT, leF, hk', hv, c', hk3]
      exact ih (j + 1) (by omega) (by have e : ((j + 1 : Nat) : Int) = (j : Int) + 1 := rfl; rw [e]; exact c) _ (by exact g1) (by exact g2) (by exact g7) (by rfl)
    · have c' : ¬ lim ≤ x - ((j : Int) + 1) * w.uhi := by omega
      have hq := untN_is hu (d := x - lim) (by omega) (n := j) (by omega) hI (.inr (by omega))
      simp only [loopIt, todoPast, todoAt, todoOf, firstReg, ↓reduceIte, Option.some.injEq, Nat.reduceEqDiff, reduceCtorEq, Tryd.f23]
      rw [execL_inLoop]
      simp (maxSteps := 1000000) (implicitDefEqProofs := false) (disch := first | rfl | omega | assumption) only [go_sem, ↓reduceIte, Nat.reduceEqDiff, Nat.reduceAdd, Nat.reduceLeDiff, Nat.reduceBEq, Nat.reduceMul, Nat.reduceLT, Int.reduceLT, Int.reduceLE, Int.reduceToNat, Int.reduceNeg, Int.reduceEq, Int.reduceMul, reduceCtorEq, Int.reduceBEq, Int.reduceBNe, Int.reduceAdd, Int.reduceSub, g1, g2, g7, g8, ltT, ltF, leT, leF, hk', hv, c', hk3, hq]
      done

theorem ref_Until {w : Wea} {ve : AV} (h : WeaAt H w ve) (hl : w.es.length ≤ 1000) (n : Int) :
    callFL cfg0 prog0 false 23 [w.av ve, I n] H none = some ⟨.ret (.tup [I (w.untilP n).1, I (w.untilP n).2]), H, none⟩ := by
  have s1 := h.es.scal
  have s2 := h.es.len
  rw [List.length_map] at s2
  have hE := fun G : Heap => ref_Limit n G
  have hC := fun (G : Heap) => ref_check (h.app G) 0 (wi n (-1000) 1000)
  have hav : w.av ve = .agg [I w.llo, I w.lhi, I w.ulo, I w.uhi, ve] := rfl
  simp only [hav] at hC ⊢
  by_cases hg : w.gate 0 (wi n (-1000) 1000) = 0
  · obtain ⟨hv, -, hi, hc⟩ := gate_ok hg
    have ho := w.valid_iff.1 hv
    have hi' := wi_iff.1 hi
    have hA : ∀ G : Heap, callFL cfg0 prog0 false 47 [w.av ve, I w.es.length] (H ++ G) none = some ⟨.ret (KV w.lastP), H ++ G, none⟩ := fun G => ref_after (h.app G) ho hc (Nat.le_refl w.es.length)
    have hab : bd 2000000 w.lastP := at_bd ho (Nat.le_refl w.es.length)
    have hu := ho.use
    rw [untilP_can hg]
    simp only [hg, hav] at hC hA ⊢
    generalize w.lastP = q at *
    obtain ⟨a, b⟩ := q
    simp only [bd] at *
    by_cases c : n ≤ a
    · have c' : ¬ a < n := by omega
      have hr := runtil_loop (H := H) (w := w) (ve := ve) (by omega) n a hi' (by omega) s1 [] 100 0 (by omega) (by simp; omega)
      rw [if_pos c]
      refine (callFL_eq fn23 rfl (by simp [Tryd.f23])).trans ?_
      simp (maxSteps := 1000000) (implicitDefEqProofs := false) (disch := first | rfl | omega | assumption) only [go_sem, ↓reduceIte, Nat.reduceEqDiff, Nat.reduceAdd, Nat.reduceLeDiff, Nat.reduceBEq, Nat.reduceMul, Nat.reduceLT, Int.reduceLT, Int.reduceLE, Int.reduceToNat, Int.reduceNeg, Int.reduceEq, Int.reduceMul, reduceCtorEq, Int.reduceBEq, Int.reduceBNe, Int.reduceAdd, Int.reduceSub, ltT, ltF, leT, leF, s1, s2]
      rw [chkK_of]; rotate_left; kernel_rfl
      simp (maxSteps := 1000000) (implicitDefEqProofs := false) (disch := first | rfl | omega | assumption) only [go_sem, ↓reduceIte, Nat.reduceEqDiff, Nat.reduceAdd, Nat.reduceLeDiff, Nat.reduceBEq, Nat.reduceMul, Nat.reduceLT, Int.reduceLT, Int.reduceLE, Int.reduceToNat, Int.reduceNeg, Int.reduceEq, Int.reduceMul, reduceCtorEq, Int.reduceBEq, Int.reduceBNe, Int.reduceAdd, Int.reduceSub, ltT, ltF, leT, leF, s1, s2, hE, hC, hA, c']
      exact hr _ (by rfl) (by rfl) (by rfl) (by rfl)
    · have c' : a < n := by omega
      rw [if_neg c]
      refine (callFL_eq fn23 rfl (by simp [Tryd.f23])).trans ?_
      simp (maxSteps := 1000000) (implicitDefEqProofs := false) (disch := first | rfl | omega | assumption) only [go_sem, ↓reduceIte, Nat.reduceEqDiff, Nat.reduceAdd, Nat.reduceLeDiff, Nat.reduceBEq, Nat.reduceMul, Nat.reduceLT, Int.reduceLT, Int.reduceLE, Int.reduceToNat, Int.reduceNeg, Int.reduceEq, Int.reduceMul, reduceCtorEq, Int.reduceBEq, Int.reduceBNe, Int.reduceAdd, Int.reduceSub, ltT, ltF, leT, leF, s1, s2]
      rw [chkK_of]; rotate_left; kernel_rfl
      simp (maxSteps := 1000000) (implicitDefEqProofs := false) (disch := first | rfl | omega | assumption) only [go_sem, ↓reduceIte, Nat.reduceEqDiff, Nat.reduceAdd, Nat.reduceLeDiff, Nat.reduceBEq, Nat.reduceMul, Nat.reduceLT, Int.reduceLT, Int.reduceLE, Int.reduceToNat, Int.reduceNeg, Int.reduceEq, Int.reduceMul, reduceCtorEq, Int.reduceBEq, Int.reduceBNe, Int.reduceAdd, Int.reduceSub, ltT, ltF, leT, leF, s1, s2, hE, hC, hA, c']
      done
  · have hg' : ((w.gate 0 (wi n (-1000) 1000)) != 0) = true := bne_iff_ne.2 hg
    simp only [Wea.untilP, hg, if_false]
    refine (callFL_eq fn23 rfl (by simp [Tryd.f23])).trans ?_
    simp (maxSteps := 1000000) (implicitDefEqProofs := false) (disch := first | rfl | omega | assumption) only [go_sem, ↓reduceIte, Nat.reduceEqDiff, Nat.reduceAdd, Nat.reduceLeDiff, Nat.reduceBEq, Nat.reduceMul, Nat.reduceLT, Int.reduceLT, Int.reduceLE, Int.reduceToNat, Int.reduceNeg, Int.reduceEq, Int.reduceMul, reduceCtorEq, Int.reduceBEq, Int.reduceBNe, Int.reduceAdd, Int.reduceSub, ltT, ltF, leT, leF, s1, s2]
    rw [chkK_of]; rotate_left; kernel_rfl
    simp (maxSteps := 1000000) (implicitDefEqProofs := false) (disch := first | rfl | omega | assumption) only [go_sem, ↓reduceIte, Nat.reduceEqDiff, Nat.reduceAdd, Nat.reduceLeDiff, Nat.reduceBEq, Nat.reduceMul, Nat.reduceLT, Int.reduceLT, Int.reduceLE, Int.reduceToNat, Int.reduceNeg, Int.reduceEq, Int.reduceMul, reduceCtorEq, Int.reduceBEq, Int.reduceBNe, Int.reduceAdd, Int.reduceSub, ltT, ltF, leT, leF, s1, s2, hE, hC, hg']
    done

theorem rdays_loop {l : List Int} {v : AV} (h : SlOk H 1 v (l.map I)) (hl : l.length ≤ 1000000) :
    ∀ (q j : Nat), j + q = l.length → ∀ E : Env, E.get 0 = v → E.get 3 = I j →
    Option.map (finishC H.length) (execL cfg0 prog0 ⟨65, none, false, H.length⟩ (todoAt Tryd.f65 2) ⟨E, [], H, none⟩) = some ⟨.ret (.bool (!anyF (fun i => !wi (l.getD i 0) 0 20) j q)), H, none⟩ := by
  intro q
  have s1 := h.scal
  have s2 := h.len
  rw [List.length_map] at s2
  obtain ⟨a1, a2, a3, a4, a5⟩ := h.fA (d := 0)
  induction q with
  | zero =>
    intro j hj  E g0 g3
    have hk' : ¬ (j : Int) < ((l.length : Nat) : Int) := by omega
    simp only [loopIt, todoPast, todoAt, todoOf, firstReg, ↓reduceIte, Option.some.injEq, Nat.reduceEqDiff, reduceCtorEq, Tryd.f65]
    rw [execL_inLoop]
    simp (maxSteps := 1000000) (implicitDefEqProofs := false) (disch := first | rfl | omega | assumption) only [go_sem, ↓reduceIte, Nat.reduceEqDiff, Nat.reduceAdd, Nat.reduceLeDiff, Nat.reduceBEq, Nat.reduceMul, Nat.reduceLT, Int.reduceLT, Int.reduceLE, Int.reduceToNat, Int.reduceNeg, Int.reduceEq, Int.reduceMul, reduceCtorEq, Int.reduceBEq, Int.reduceBNe, Int.reduceAdd, Int.reduceSub, g0, g3, ltT, ltF, leT, leF, hk', s1, s2, anyF]
    done
  | succ q ih =>
    intro j hj  E g0 g3
    have hk' : (j : Int) < ((l.length : Nat) : Int) := by omega
    have hk2 : j < l.length := by omega
    have hw := fun G : Heap => ref_in (l.getD j 0) 0 20 G
    simp only [anyF]
    rcases Bool.eq_false_or_eq_true (wi (l.getD j 0) 0 20) with hc | hc
    · rw [hc] at hw
      simp only [loopIt, todoPast, todoAt, todoOf, firstReg, ↓reduceIte, Option.some.injEq, Nat.reduceEqDiff, reduceCtorEq, Tryd.f65]
      rw [execL_inLoop]
      simp (maxSteps := 1000000) (implicitDefEqProofs := false) (disch := first | rfl | omega | assumption) only [go_sem, ↓reduceIte, Nat.reduceEqDiff, Nat.reduceAdd, Nat.reduceLeDiff, Nat.reduceBEq, Nat.reduceMul, Nat.reduceLT, Int.reduceLT, Int.reduceLE, Int.reduceToNat, Int.reduceNeg, Int.reduceEq, Int.reduceMul, reduceCtorEq, Int.reduceBEq, Int.reduceBNe, Int.reduceAdd, Int.reduceSub, g0, g3, ltT, ltF, leT, leF, hk', s1, s2, a1, a2, a3, a4, hw, hc]
      exact ih (j + 1) (by omega) _ (by exact g0) (by rfl)
    · rw [hc] at hw
      simp only [loopIt, todoPast, todoAt, todoOf, firstReg, ↓reduceIte, Option.some.injEq, Nat.reduceEqDiff, reduceCtorEq, Tryd.f65]
      rw [execL_inLoop]
      simp (maxSteps := 1000000) (implicitDefEqProofs := false) (disch := first | rfl | omega | assumption) only [go_sem, ↓reduceIte, Nat.reduceEqDiff, Nat.reduceAdd, Nat.reduceLeDiff, Nat.reduceBEq, Nat.reduceMul, Nat.reduceLT, Int.reduceLT, Int.reduceLE, Int.reduceToNat, Int.reduceNeg, Int.reduceEq, Int.reduceMul, reduceCtorEq, Int.reduceBEq, Int.reduceBNe, Int.reduceAdd, Int.reduceSub, g0, g3, ltT, ltF, leT, leF, hk', s1, s2, a1, a2, a3, a4, hw, hc]

theorem ref_Days {l : List Int} {v : AV} (h : SlOk H 1 v (l.map I)) (hl : l.length ≤ 1000000) : callFL cfg0 prog0 false 65 [v] H none = some ⟨.ret (.bool (!offB l)), H, none⟩ := by
  have hr := rdays_loop h hl l.length 0 (by omega)
  refine (callFL_eq fn65 rfl (by simp [Tryd.f65])).trans ?_
  simp (maxSteps := 1000000) (implicitDefEqProofs := false) (disch := first | rfl | omega | assumption) only [go_sem, ↓reduceIte, Nat.reduceEqDiff, Nat.reduceAdd, Nat.reduceLeDiff, Nat.reduceBEq, Nat.reduceMul, Nat.reduceLT, Int.reduceLT, Int.reduceLE, Int.reduceToNat, Int.reduceNeg, Int.reduceEq, Int.reduceMul, reduceCtorEq, Int.reduceBEq, Int.reduceBNe, Int.reduceAdd, Int.reduceSub, ltT, ltF, leT, leF, h.scal]
  exact hr _ (by rfl) (by rfl)

theorem rday_loop {w : Wea} {ve : AV} (hu : 0 ≤ w.uhi ∧ w.uhi ≤ 3) (lim : Int) (D : List Int) {v : AV} (h : SlOk H 1 v (D.map I)) (hDl : D.length ≤ 10) (hD : ∀ i, i < D.length → 0 ≤ D.getD i 0 ∧ D.getD i 0 ≤ 20) (x : Int) (hx : -4000000 ≤ x ∧ x ≤ 4000000) (hv : ve.scalar = true) (G : Heap) :
    ∀ (q j : Nat), j + q = D.length → dayG w.uhi lim D x j → ∀ E : Env, E.get 1 = I lim → E.get 2 = v → E.get 3 = .ptr H.length 0 → E.get 9 = I (leftD w.uhi D x j) → E.get 10 = I j →
    Option.map (finishC H.length) (execL cfg0 prog0 ⟨25, none, false, H.length⟩ (todoAt Tryd.f25 6) ⟨E, [], H ++ (.box (.agg [I w.llo, I w.lhi, I w.ulo, I w.uhi, ve]) :: G), none⟩) = some ⟨.ret (.tup [I (dayQ w.uhi lim D x).1, I (dayQ w.uhi lim D x).2]), H, none⟩ := by
  intro q
  have s1 := h.scal
  have s2 := h.len
  rw [List.length_map] at s2
  obtain ⟨b1, b2, b3, b4, b5⟩ := h.fA (d := 0)
  have hle := leftD_bd hu hD x
  have o1 := h.old
  have o2 := fun (k : Int) (off : Nat) => ptrOf_elA (k := k) (off := off) h
  induction q with
  | zero =>
    intro j hj hg E g1 g2 g3 g9 g10
    have hk' : ¬ (j : Int) < ((D.length : Nat) : Int) := by omega
    have ej : j = D.length := by omega
    subst ej
    have hq := dayQ_end hg
    simp only [loopIt, todoPast, todoAt, todoOf, firstReg, ↓reduceIte, Option.some.injEq, Nat.reduceEqDiff, reduceCtorEq, Tryd.f25]
    rw [execL_inLoop]
    simp (maxSteps := 1000000) (implicitDefEqProofs := false) (disch := first | rfl | omega | assumption) only [go_sem, ↓reduceIte, Nat.reduceEqDiff, Nat.reduceAdd, Nat.reduceLeDiff, Nat.reduceBEq, Nat.reduceMul, Nat.reduceLT, Int.reduceLT, Int.reduceLE, Int.reduceToNat, Int.reduceNeg, Int.reduceEq, Int.reduceMul, reduceCtorEq, Int.reduceBEq, Int.reduceBNe, Int.reduceAdd, Int.reduceSub, g1, g2, g3, g9, g10, ltT, ltF, leT, leF, hk', hq, s1, s2, hv]
    done
  | succ q ih =>
    intro j hj hg E g1 g2 g3 g9 g10
    have hk' : (j : Int) < ((D.length : Nat) : Int) := by omega
    have hk2 : j < D.length := by omega
    have hle1 := hle (j + 1) (by omega)
    have hle0 := hle j (by omega)
    have hm := mul_bd (hD j hk2) hu
    have e1 : leftD w.uhi D x j - D.getD j 0 * w.uhi = leftD w.uhi D x (j + 1) := rfl
    by_cases hc : leftD w.uhi D x (j + 1) < lim
    · have hq := dayQ_hit hg hk2 hc
      simp only [loopIt, todoPast, todoAt, todoOf, firstReg, ↓reduceIte, Option.some.injEq, Nat.reduceEqDiff, reduceCtorEq, Tryd.f25]
      rw [execL_inLoop]
      simp (maxSteps := 1000000) (implicitDefEqProofs := false) (disch := first | rfl | omega | assumption) only [go_sem, ↓reduceIte, Nat.reduceEqDiff, Nat.reduceAdd, Nat.reduceLeDiff, Nat.reduceBEq, Nat.reduceMul, Nat.reduceLT, Int.reduceLT, Int.reduceLE, Int.reduceToNat, Int.reduceNeg, Int.reduceEq, Int.reduceMul, reduceCtorEq, Int.reduceBEq, Int.reduceBNe, Int.reduceAdd, Int.reduceSub, g1, g2, g3, g9, g10, ltT, ltF, leT, leF, hk', s1, s2, hv]
      rw [chkK_of]; rotate_left; kernel_rfl
      simp (maxSteps := 1000000) (implicitDefEqProofs := false) (disch := first | rfl | omega | assumption) only [go_sem, ↓reduceIte, Nat.reduceEqDiff, Nat.reduceAdd, Nat.reduceLeDiff, Nat.reduceBEq, Nat.reduceMul, Nat.reduceLT, Int.reduceLT, Int.reduceLE, Int.reduceToNat, Int.reduceNeg, Int.reduceEq, Int.reduceMul, reduceCtorEq, Int.reduceBEq, Int.reduceBNe, Int.reduceAdd, Int.reduceSub, g1, g2, g3, g9, g10, ltT, ltF, leT, leF, hk', s1, s2, hv, b1, b2, b3, b4, b5, e1, hc, hq, o1, o2, ld_ne, ld_eq, or_none']
      done
    · have hg' := dayG_step hg hk2 hc
      simp only [loopIt, todoPast, todoAt, todoOf, firstReg, ↓reduceIte, Option.some.injEq, Nat.reduceEqDiff, reduceCtorEq, Tryd.f25]
      rw [execL_inLoop]
      simp (maxSteps := 1000000) (implicitDefEqProofs := false) (disch := first | rfl | omega | assumption) only [go_sem, ↓reduceIte, Nat.reduceEqDiff, Nat.reduceAdd, Nat.reduceLeDiff, Nat.reduceBEq, Nat.reduceMul, Nat.reduceLT, Int.reduceLT, Int.reduceLE, Int.reduceToNat, Int.reduceNeg, Int.reduceEq, Int.reduceMul, reduceCtorEq, Int.reduceBEq, Int.reduceBNe, Int.reduceAdd, Int.reduceSub, g1, g2, g3, g9, g10, ltT, ltF, leT, leF, hk', s1, s2, hv]
      rw [chkK_of]; rotate_left; kernel_rfl
      simp (maxSteps := 1000000) (implicitDefEqProofs := false) (disch := first | rfl | omega | assumption) only [go_sem, ↓reduceIte, Nat.reduceEqDiff, Nat.reduceAdd, Nat.reduceLeDiff, Nat.reduceBEq, Nat.reduceMul, Nat.reduceLT, Int.reduceLT, Int.reduceLE, Int.reduceToNat, Int.reduceNeg, Int.reduceEq, Int.reduceMul, reduceCtorEq, Int.reduceBEq, Int.reduceBNe, Int.reduceAdd, Int.reduceSub, g1, g2, g3, g9, g10, ltT, ltF, leT, leF, hk', s1, s2, hv, b1, b2, b3, b4, b5, e1, hc, o1, o2, ld_ne, ld_eq, or_none']
      exact ih (j + 1) (by omega) hg' _ (by exact g1) (by exact g2) (by exact g3) (by rfl) (by rfl)

theorem ref_Day {w : Wea} {ve v : AV} (h : WeaAt H w ve) (hl : w.es.length ≤ 1000) {l : List Int} (hv' : SlOk H 1 v (l.map I)) (hl' : l.length ≤ 1000000) (n : Int) :
    callFL cfg0 prog0 false 25 [w.av ve, I n, v] H none = some ⟨.ret (.tup [I (w.dayP n l).1, I (w.dayP n l).2]), H, none⟩ := by
  have s1 := h.es.scal
  have s2 := h.es.len
  rw [List.length_map] at s2
  have s3 := hv'.scal
  have s4 := hv'.len
  rw [List.length_map] at s4
  have hE := fun G : Heap => ref_Limit n G
  have hD := fun G : Heap => ref_Days (hv'.app G) hl'
  have hC := fun (G : Heap) => ref_check (h.app G) l.length (dayOk n l)
  have hav : w.av ve = .agg [I w.llo, I w.lhi, I w.ulo, I w.uhi, ve] := rfl
  simp only [hav] at hC ⊢
  by_cases hg : w.gate l.length (dayOk n l) = 0
  · obtain ⟨hv, hl10, hi, hc⟩ := gate_ok hg
    have ho := w.valid_iff.1 hv
    have hi2 : wi n (-1000) 1000 = true ∧ offB l = false := by simpa [dayOk] using hi
    have hA : ∀ G : Heap, callFL cfg0 prog0 false 47 [w.av ve, I w.es.length] (H ++ G) none = some ⟨.ret (KV w.lastP), H ++ G, none⟩ := fun G => ref_after (h.app G) ho hc (Nat.le_refl w.es.length)
    have hab : bd 2000000 w.lastP := at_bd ho (Nat.le_refl w.es.length)
    have hu := ho.use
    rw [dayP_can hg]
    simp only [hg, hav] at hC hA ⊢
    generalize w.lastP = q at *
    obtain ⟨a, b⟩ := q
    simp only [bd] at *
    have hr := rday_loop (H := H) (w := w) (ve := ve) (by omega) n l hv' (by omega) (offB_false hi2.2) a (by omega) s1 [] l.length 0 (by omega) (by simp only [dayG, Nat.sub_zero])
    rw [hi] at hC
    refine (callFL_eq fn25 rfl (by simp [Tryd.f25])).trans ?_
    simp (maxSteps := 1000000) (implicitDefEqProofs := false) (disch := first | rfl | omega | assumption) only [go_sem, ↓reduceIte, Nat.reduceEqDiff, Nat.reduceAdd, Nat.reduceLeDiff, Nat.reduceBEq, Nat.reduceMul, Nat.reduceLT, Int.reduceLT, Int.reduceLE, Int.reduceToNat, Int.reduceNeg, Int.reduceEq, Int.reduceMul, reduceCtorEq, Int.reduceBEq, Int.reduceBNe, Int.reduceAdd, Int.reduceSub, ltT, ltF, leT, leF, s1, s2, s3, s4]
    rw [chkK_of]; rotate_left; kernel_rfl
    simp (maxSteps := 1000000) (implicitDefEqProofs := false) (disch := first | rfl | omega | assumption) only [go_sem, ↓reduceIte, Nat.reduceEqDiff, Nat.reduceAdd, Nat.reduceLeDiff, Nat.reduceBEq, Nat.reduceMul, Nat.reduceLT, Int.reduceLT, Int.reduceLE, Int.reduceToNat, Int.reduceNeg, Int.reduceEq, Int.reduceMul, reduceCtorEq, Int.reduceBEq, Int.reduceBNe, Int.reduceAdd, Int.reduceSub, ltT, ltF, leT, leF, s1, s2, s3, s4, hE, hC, hA, hD, hi2.1, hi2.2]

    exact hr _ (by rfl) (by rfl) (by rfl) (by rfl) (by rfl)
  · have hg' : ((w.gate l.length (dayOk n l)) != 0) = true := bne_iff_ne.2 hg
    simp only [Wea.dayP, hg, if_false]
    cases hw : wi n (-1000) 1000
    · have e : dayOk n l = false := by simp only [dayOk, hw, Bool.false_and]
      rw [e] at hC hg'
      rw [e]
      rw [hw] at hE
      refine (callFL_eq fn25 rfl (by simp [Tryd.f25])).trans ?_
      simp (maxSteps := 1000000) (implicitDefEqProofs := false) (disch := first | rfl | omega | assumption) only [go_sem, ↓reduceIte, Nat.reduceEqDiff, Nat.reduceAdd, Nat.reduceLeDiff, Nat.reduceBEq, Nat.reduceMul, Nat.reduceLT, Int.reduceLT, Int.reduceLE, Int.reduceToNat, Int.reduceNeg, Int.reduceEq, Int.reduceMul, reduceCtorEq, Int.reduceBEq, Int.reduceBNe, Int.reduceAdd, Int.reduceSub, ltT, ltF, leT, leF, s1, s2, s3, s4]
      rw [chkK_of]; rotate_left; kernel_rfl
      simp (maxSteps := 1000000) (implicitDefEqProofs := false) (disch := first | rfl | omega | assumption) only [go_sem, ↓reduceIte, Nat.reduceEqDiff, Nat.reduceAdd, Nat.reduceLeDiff, Nat.reduceBEq, Nat.reduceMul, Nat.reduceLT, Int.reduceLT, Int.reduceLE, Int.reduceToNat, Int.reduceNeg, Int.reduceEq, Int.reduceMul, reduceCtorEq, Int.reduceBEq, Int.reduceBNe, Int.reduceAdd, Int.reduceSub, ltT, ltF, leT, leF, s1, s2, s3, s4, hE, hC, hD, hg']
      done
    · have e : dayOk n l = !offB l := by simp only [dayOk, hw, Bool.true_and]
      rw [e] at hC hg'
      rw [e]
      rw [hw] at hE
      refine (callFL_eq fn25 rfl (by simp [Tryd.f25])).trans ?_
      simp (maxSteps := 1000000) (implicitDefEqProofs := false) (disch := first | rfl | omega | assumption) only [go_sem, ↓reduceIte, Nat.reduceEqDiff, Nat.reduceAdd, Nat.reduceLeDiff, Nat.reduceBEq, Nat.reduceMul, Nat.reduceLT, Int.reduceLT, Int.reduceLE, Int.reduceToNat, Int.reduceNeg, Int.reduceEq, Int.reduceMul, reduceCtorEq, Int.reduceBEq, Int.reduceBNe, Int.reduceAdd, Int.reduceSub, ltT, ltF, leT, leF, s1, s2, s3, s4]
      rw [chkK_of]; rotate_left; kernel_rfl
      simp (maxSteps := 1000000) (implicitDefEqProofs := false) (disch := first | rfl | omega | assumption) only [go_sem, ↓reduceIte, Nat.reduceEqDiff, Nat.reduceAdd, Nat.reduceLeDiff, Nat.reduceBEq, Nat.reduceMul, Nat.reduceLT, Int.reduceLT, Int.reduceLE, Int.reduceToNat, Int.reduceNeg, Int.reduceEq, Int.reduceMul, reduceCtorEq, Int.reduceBEq, Int.reduceBNe, Int.reduceAdd, Int.reduceSub, ltT, ltF, leT, leF, s1, s2, s3, s4, hE, hC, hD, hg']
      done

end Go.Ab
/-
  WearLooks, walked.
-/
namespace Go.Ab
open Go.Proofs
set_option linter.unusedSimpArgs false
set_option linter.unusedVariables false
set_option maxRecDepth 100000

variable {H : Heap}

theorem law_WearLooks {w : Wea} {ve v : AV} (h : WeaAt H w ve) (lim : Int) {l : List Int} (hv : SlOk H 1 v (l.map I)) :
    callFL cfg0 prog0 false 4 [w.av ve, I lim, v] H none = some ⟨.ret (.bool true), H, none⟩ := by
  have s1 := h.es.scal
  have s2 := hv.scal
  have hF := fun G : Heap => law_far (h.app G) (hv.app G)
  have hav : w.av ve = .agg [I w.llo, I w.lhi, I w.ulo, I w.uhi, ve] := rfl
  simp only [hav] at hF ⊢
  cases hf : w.farB l.length
  · have hl := Wea.farB_false hf
    have a1 := fun G : Heap => we_Until (h.app G) (by omega) lim
    have a2 := fun G : Heap => ref_Until (h.app G) (by omega) lim
    have a3 := fun G : Heap => we_Day (h.app G) (by omega) (hv.app G) (by omega) lim
    have a4 := fun G : Heap => ref_Day (h.app G) (by omega) (hv.app G) (by omega) lim
    have a5 := fun G : Heap => we_ClashA (h.app G) (by omega)
    have a6 := fun G : Heap => ref_Clash (h.app G)
    simp only [hav] at a1 a2 a3 a4 a5 a6
    simp only [hf] at hF
    refine (callFL_eq fn4 rfl (by simp [Tryd.f4])).trans ?_
    simp (maxSteps := 1000000) (implicitDefEqProofs := false) (disch := first | rfl | omega | assumption) only [go_sem, ↓reduceIte, Nat.reduceEqDiff, Nat.reduceAdd, Nat.reduceLeDiff, Nat.reduceBEq, Nat.reduceMul, Nat.reduceLT, Int.reduceLT, Int.reduceLE, Int.reduceToNat, Int.reduceNeg, Int.reduceEq, Int.reduceMul, reduceCtorEq, Int.reduceBEq, Int.reduceBNe, Int.reduceAdd, Int.reduceSub, ltT, ltF, leT, leF, s1, s2, hF, law_awake, a1, a2, a3, a4, a5, a6]
    done
  · simp only [hf] at hF
    refine (callFL_eq fn4 rfl (by simp [Tryd.f4])).trans ?_
    simp (maxSteps := 1000000) (implicitDefEqProofs := false) (disch := first | rfl | omega | assumption) only [go_sem, ↓reduceIte, Nat.reduceEqDiff, Nat.reduceAdd, Nat.reduceLeDiff, Nat.reduceBEq, Nat.reduceMul, Nat.reduceLT, Int.reduceLT, Int.reduceLE, Int.reduceToNat, Int.reduceNeg, Int.reduceEq, Int.reduceMul, reduceCtorEq, Int.reduceBEq, Int.reduceBNe, Int.reduceAdd, Int.reduceSub, ltT, ltF, leT, leF, s1, s2, hF, law_awake]
    done

end Go.Ab
