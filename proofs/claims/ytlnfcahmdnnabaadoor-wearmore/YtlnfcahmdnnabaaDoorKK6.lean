/-
  WearMore, walked: what is told after each event.
-/
import Derived.Test.YtlnfcahmdnnabaaDoorKK5
namespace Go.Ab
open Go.Proofs
set_option linter.unusedSimpArgs false
set_option linter.unusedVariables false
set_option maxRecDepth 100000
set_option maxHeartbeats 1000000

variable {H : Heap}

theorem andZ1 {s j : Nat} : (((s / 2 ^ j &&& 1 : Nat) : Int) == 0) = !s.testBit j := by
  rw [Nat.and_one_is_mod, Nat.testBit_eq_decide_div_mod_eq]
  have : s / 2 ^ j % 2 = 0 ∨ s / 2 ^ j % 2 = 1 := by omega
  rcases this with h | h <;> rw [h] <;> rfl

abbrev inF : AV := .func (.func 38) [] []

def oth (jz p i : Nat) : Nat := if jz = 0 ∧ p ≤ i then i + 1 else i

theorem moreC {w z : Wea} {ve ze : AV} (n p jz : Nat) (hn : n ≤ 8) (hp : p ≤ 8) (hjz : jz ≤ 1) (s1 : ve.scalar = true) (t1 : ve.lt (H.length + 6) = true) (s2 : ze.scalar = true) (t2 : ze.lt (H.length + 6) = true) (K17 K170 : AV) (t3 : K17.lt (H.length + 6) = true) (t4 : K170.lt (H.length + 6) = true) (ox oy o20 o29 : AO) (u1 : ox.lt (H.length + 6) = true) (u2 : oy.lt (H.length + 6) = true) (u3 : o20.lt (H.length + 6) = true) (u4 : o29.lt (H.length + 6) = true) (lim v21 v22 v23 v26 : Int) (fw fz : Nat → Int × Int) (su pe mo fe : Nat) (hsu : su < 2 ^ 60) (hpe : pe < 2 ^ 60) (hmo : mo < 2 ^ 60) (hfe : fe < 2 ^ 60) (hA : ∀ (i : Nat) (G : Heap), i < n → callFL cfg0 prog0 false 14 [.agg [I w.llo, I w.lhi, I w.ulo, I w.uhi, ve], I i] (H ++ G) none = some ⟨.ret (.tup [KV (fw i), I 0]), H ++ G, none⟩) (hB : ∀ (i : Nat) (G : Heap), i < n → callFL cfg0 prog0 false 14 [.agg [I z.llo, I z.lhi, I z.ulo, I z.uhi, ze], I (oth jz p i : Nat)] (H ++ G) none = some ⟨.ret (.tup [KV (fz i), I 0]), H ++ G, none⟩) (hin : ∀ i, i < n → (fw i).1 ≤ (fz i).1 ∧ (fz i).2 ≤ (fw i).2) (hs : ∀ i, i < n → su.testBit i = true → mo.testBit (oth jz p i) = true) (hq : ∀ i, i < n → pe.testBit i = false → fe.testBit (oth jz p i) = false) (K : List Item) (R : Option Done) (hK : ∀ E : Env, E.get 4 = .ptr H.length 0 → E.get 10 = I p → E.get 17 = K17 → E.get 18 = I lim → E.get 19 = inF → E.get 20 = .ptr (H.length + 3) 0 → E.get 21 = I v21 → E.get 22 = I v22 → E.get 23 = I v23 → E.get 24 = I su → E.get 25 = I pe → E.get 26 = I v26 → E.get 170 = K170 → E.get 171 = I 2 → E.get 172 = I jz → Option.map (finishC H.length) (execL cfg0 prog0 ⟨10, none, false, H.length⟩ K ⟨E, [], H ++ [.box (.agg [I w.llo, I w.lhi, I w.ulo, I w.uhi, ve]), ox, oy, o20, .box (.agg [I z.llo, I z.lhi, I z.ulo, I z.uhi, ze]), o29], none⟩) = R)  :
    ∀ (q j : Nat), j + q = n → ∀ (G : Heap), ∀ E : Env, E.get 4 = .ptr H.length 0 → E.get 10 = I p → E.get 17 = K17 → E.get 18 = I lim → E.get 19 = inF → E.get 20 = .ptr (H.length + 3) 0 → E.get 21 = I v21 → E.get 22 = I v22 → E.get 23 = I v23 → E.get 24 = I su → E.get 25 = I pe → E.get 26 = I v26 → E.get 27 = I jz → E.get 28 = .ptr (H.length + 4) 0 → E.get 33 = I mo → E.get 34 = I fe → E.get 170 = K170 → E.get 171 = I 2 → E.get 172 = I jz → E.get 245 = I n → E.get 246 = I j →
    Option.map (finishC H.length) (execL cfg0 prog0 ⟨10, none, false, H.length⟩ (loopIt Tryd.f10 36 :: .inBlock 4 :: K) ⟨E, [], H ++ (.box (.agg [I w.llo, I w.lhi, I w.ulo, I w.uhi, ve]) :: ox :: oy :: o20 :: .box (.agg [I z.llo, I z.lhi, I z.ulo, I z.uhi, ze]) :: o29 :: G), none⟩) = R := by
  intro q
  induction q with
  | zero =>
    intro j hj G E g4 g10 g17 g18 g19 g20 g21 g22 g23 g24 g25 g26 g27 g28 g33 g34 g170 g171 g172 g245 g246
    have hk' : ¬ (j : Int) < ((n : Nat) : Int) := by omega
    simp only [loopIt, todoPast, todoAt, todoOf, firstReg, ↓reduceIte, Option.some.injEq, Nat.reduceEqDiff, reduceCtorEq, Tryd.f10]
    rw [execL_inLoop]
    simp (maxSteps := 1000000) (implicitDefEqProofs := false) (disch := first | rfl | omega | assumption) only [go_sem, g4, g10, g17, g18, g19, g20, g21, g22, g23, g24, g25, g26, g27, g28, g33, g34, g170, g171, g172, g245, g246, ltT, ltF, leT, leF, hk', s1, t1, s2, t2, t3, t4, u1, u2, u3, u4]
    exact hK _ (by rfl) (by rfl) (by rfl) (by rfl) (by rfl) (by rfl) (by rfl) (by rfl) (by rfl) (by rfl) (by rfl) (by rfl) (by rfl) (by rfl) (by rfl)
  | succ q ih =>
    intro j hj G E g4 g10 g17 g18 g19 g20 g21 g22 g23 g24 g25 g26 g27 g28 g33 g34 g170 g171 g172 g245 g246
    have hk' : (j : Int) < ((n : Nat) : Int) := by omega
    have hk2 : j < n := by omega
    have hA' := fun G => hA j G hk2
    have hB' := fun G => hB j G hk2
    have hi' := hin j hk2
    have hs' := hs j hk2
    have hq' := hq j hk2
    have hsh := fun (s : Nat) => shrN (s := s) (j := j) (by omega)
    have hsh1 := fun (s : Nat) => shrN (s := s) (j := j + 1) (by omega)
    have b1 := bitI (j := j) hsu
    have b2 := bitI (j := j) hpe
    have b3 := bitI (j := j) hmo
    have b4 := bitI (j := j) hfe
    have b5 := bitI (j := j + 1) hmo
    have b6 := bitI (j := j + 1) hfe
    have hI := fun G : Heap => law_in (fz j) (fw j) hi' (H ++ G)
    generalize fw j = a at *
    generalize fz j = r at *
    have key : ∀ (c : oth jz p j = j ∨ oth jz p j = j + 1), True := fun _ => trivial
    by_cases c0 : jz = 0
    · subst c0
      by_cases cp : p ≤ j
      · have cp' : (p : Int) ≤ j := by omega
        have eo : oth 0 p j = j + 1 := by simp only [oth, cp, and_self, if_true]
        rw [eo] at hB' hs' hq'
        simp only [Int.natCast_add, Int.natCast_one] at hB'
        have htn : ((j : Int) + 1).toNat = j + 1 := by omega
        cases e1 : su.testBit j <;> cases e2 : pe.testBit j
        · have e4 := hq' e2
          simp only [loopIt, todoPast, todoAt, todoOf, firstReg, ↓reduceIte, Option.some.injEq, Nat.reduceEqDiff, reduceCtorEq, Tryd.f10]
          rw [execL_inLoop]
          simp (maxSteps := 1000000) (implicitDefEqProofs := false) (disch := first | rfl | omega | assumption) only [go_sem, g4, g10, g17, g18, g19, g20, g21, g22, g23, g24, g25, g26, g27, g28, g33, g34, g170, g171, g172, g245, g246, ltT, ltF, leT, leF, hk', s1, t1, s2, t2, t3, t4, u1, u2, u3, u4, hA', hB', hI, hsh, hsh1, b1, b2, b3, b4, b5, b6, and_one, andZ1, e1, e2, e4, cp', htn, Int.natCast_zero]
          exact ih (j + 1) (by omega) [.box (KV a), .box (KV r)] _ (by rfl) (by rfl) (by rfl) (by rfl) (by rfl) (by rfl) (by rfl) (by rfl) (by rfl) (by rfl) (by rfl) (by rfl) (by rfl) (by rfl) (by rfl) (by rfl) (by rfl) (by rfl) (by rfl) (by rfl) (by rfl)
        · skip
          simp only [loopIt, todoPast, todoAt, todoOf, firstReg, ↓reduceIte, Option.some.injEq, Nat.reduceEqDiff, reduceCtorEq, Tryd.f10]
          rw [execL_inLoop]
          simp (maxSteps := 1000000) (implicitDefEqProofs := false) (disch := first | rfl | omega | assumption) only [go_sem, g4, g10, g17, g18, g19, g20, g21, g22, g23, g24, g25, g26, g27, g28, g33, g34, g170, g171, g172, g245, g246, ltT, ltF, leT, leF, hk', s1, t1, s2, t2, t3, t4, u1, u2, u3, u4, hA', hB', hI, hsh, hsh1, b1, b2, b3, b4, b5, b6, and_one, andZ1, e1, e2, cp', htn, Int.natCast_zero]
          exact ih (j + 1) (by omega) [.box (KV a), .box (KV r)] _ (by rfl) (by rfl) (by rfl) (by rfl) (by rfl) (by rfl) (by rfl) (by rfl) (by rfl) (by rfl) (by rfl) (by rfl) (by rfl) (by rfl) (by rfl) (by rfl) (by rfl) (by rfl) (by rfl) (by rfl) (by rfl)
        · have e3 := hs' e1
          have e4 := hq' e2
          simp only [loopIt, todoPast, todoAt, todoOf, firstReg, ↓reduceIte, Option.some.injEq, Nat.reduceEqDiff, reduceCtorEq, Tryd.f10]
          rw [execL_inLoop]
          simp (maxSteps := 1000000) (implicitDefEqProofs := false) (disch := first | rfl | omega | assumption) only [go_sem, g4, g10, g17, g18, g19, g20, g21, g22, g23, g24, g25, g26, g27, g28, g33, g34, g170, g171, g172, g245, g246, ltT, ltF, leT, leF, hk', s1, t1, s2, t2, t3, t4, u1, u2, u3, u4, hA', hB', hI, hsh, hsh1, b1, b2, b3, b4, b5, b6, and_one, andZ1, e1, e2, e3, e4, cp', htn, Int.natCast_zero]
          exact ih (j + 1) (by omega) [.box (KV a), .box (KV r)] _ (by rfl) (by rfl) (by rfl) (by rfl) (by rfl) (by rfl) (by rfl) (by rfl) (by rfl) (by rfl) (by rfl) (by rfl) (by rfl) (by rfl) (by rfl) (by rfl) (by rfl) (by rfl) (by rfl) (by rfl) (by rfl)
        · have e3 := hs' e1
          simp only [loopIt, todoPast, todoAt, todoOf, firstReg, ↓reduceIte, Option.some.injEq, Nat.reduceEqDiff, reduceCtorEq, Tryd.f10]
          rw [execL_inLoop]
          simp (maxSteps := 1000000) (implicitDefEqProofs := false) (disch := first | rfl | omega | assumption) only [go_sem, g4, g10, g17, g18, g19, g20, g21, g22, g23, g24, g25, g26, g27, g28, g33, g34, g170, g171, g172, g245, g246, ltT, ltF, leT, leF, hk', s1, t1, s2, t2, t3, t4, u1, u2, u3, u4, hA', hB', hI, hsh, hsh1, b1, b2, b3, b4, b5, b6, and_one, andZ1, e1, e2, e3, cp', htn, Int.natCast_zero]
          exact ih (j + 1) (by omega) [.box (KV a), .box (KV r)] _ (by rfl) (by rfl) (by rfl) (by rfl) (by rfl) (by rfl) (by rfl) (by rfl) (by rfl) (by rfl) (by rfl) (by rfl) (by rfl) (by rfl) (by rfl) (by rfl) (by rfl) (by rfl) (by rfl) (by rfl) (by rfl)
      · have cp' : ¬ (p : Int) ≤ j := by omega
        have eo : oth 0 p j = j := by simp only [oth, cp, and_false, if_false]
        rw [eo] at hB' hs' hq'
        cases e1 : su.testBit j <;> cases e2 : pe.testBit j
        · have e4 := hq' e2
          simp only [loopIt, todoPast, todoAt, todoOf, firstReg, ↓reduceIte, Option.some.injEq, Nat.reduceEqDiff, reduceCtorEq, Tryd.f10]
          rw [execL_inLoop]
          simp (maxSteps := 1000000) (implicitDefEqProofs := false) (disch := first | rfl | omega | assumption) only [go_sem, g4, g10, g17, g18, g19, g20, g21, g22, g23, g24, g25, g26, g27, g28, g33, g34, g170, g171, g172, g245, g246, ltT, ltF, leT, leF, hk', s1, t1, s2, t2, t3, t4, u1, u2, u3, u4, hA', hB', hI, hsh, hsh1, b1, b2, b3, b4, b5, b6, and_one, andZ1, e1, e2, e4, cp', Int.natCast_zero]
          exact ih (j + 1) (by omega) [.box (KV a), .box (KV r)] _ (by rfl) (by rfl) (by rfl) (by rfl) (by rfl) (by rfl) (by rfl) (by rfl) (by rfl) (by rfl) (by rfl) (by rfl) (by rfl) (by rfl) (by rfl) (by rfl) (by rfl) (by rfl) (by rfl) (by rfl) (by rfl)
        · skip
          simp only [loopIt, todoPast, todoAt, todoOf, firstReg, ↓reduceIte, Option.some.injEq, Nat.reduceEqDiff, reduceCtorEq, Tryd.f10]
          rw [execL_inLoop]
          simp (maxSteps := 1000000) (implicitDefEqProofs := false) (disch := first | rfl | omega | assumption) only [go_sem, g4, g10, g17, g18, g19, g20, g21, g22, g23, g24, g25, g26, g27, g28, g33, g34, g170, g171, g172, g245, g246, ltT, ltF, leT, leF, hk', s1, t1, s2, t2, t3, t4, u1, u2, u3, u4, hA', hB', hI, hsh, hsh1, b1, b2, b3, b4, b5, b6, and_one, andZ1, e1, e2, cp', Int.natCast_zero]
          exact ih (j + 1) (by omega) [.box (KV a), .box (KV r)] _ (by rfl) (by rfl) (by rfl) (by rfl) (by rfl) (by rfl) (by rfl) (by rfl) (by rfl) (by rfl) (by rfl) (by rfl) (by rfl) (by rfl) (by rfl) (by rfl) (by rfl) (by rfl) (by rfl) (by rfl) (by rfl)
        · have e3 := hs' e1
          have e4 := hq' e2
          simp only [loopIt, todoPast, todoAt, todoOf, firstReg, ↓reduceIte, Option.some.injEq, Nat.reduceEqDiff, reduceCtorEq, Tryd.f10]
          rw [execL_inLoop]
          simp (maxSteps := 1000000) (implicitDefEqProofs := false) (disch := first | rfl | omega | assumption) only [go_sem, g4, g10, g17, g18, g19, g20, g21, g22, g23, g24, g25, g26, g27, g28, g33, g34, g170, g171, g172, g245, g246, ltT, ltF, leT, leF, hk', s1, t1, s2, t2, t3, t4, u1, u2, u3, u4, hA', hB', hI, hsh, hsh1, b1, b2, b3, b4, b5, b6, and_one, andZ1, e1, e2, e3, e4, cp', Int.natCast_zero]
          exact ih (j + 1) (by omega) [.box (KV a), .box (KV r)] _ (by rfl) (by rfl) (by rfl) (by rfl) (by rfl) (by rfl) (by rfl) (by rfl) (by rfl) (by rfl) (by rfl) (by rfl) (by rfl) (by rfl) (by rfl) (by rfl) (by rfl) (by rfl) (by rfl) (by rfl) (by rfl)
        · have e3 := hs' e1
          simp only [loopIt, todoPast, todoAt, todoOf, firstReg, ↓reduceIte, Option.some.injEq, Nat.reduceEqDiff, reduceCtorEq, Tryd.f10]
          rw [execL_inLoop]
          simp (maxSteps := 1000000) (implicitDefEqProofs := false) (disch := first | rfl | omega | assumption) only [go_sem, g4, g10, g17, g18, g19, g20, g21, g22, g23, g24, g25, g26, g27, g28, g33, g34, g170, g171, g172, g245, g246, ltT, ltF, leT, leF, hk', s1, t1, s2, t2, t3, t4, u1, u2, u3, u4, hA', hB', hI, hsh, hsh1, b1, b2, b3, b4, b5, b6, and_one, andZ1, e1, e2, e3, cp', Int.natCast_zero]
          exact ih (j + 1) (by omega) [.box (KV a), .box (KV r)] _ (by rfl) (by rfl) (by rfl) (by rfl) (by rfl) (by rfl) (by rfl) (by rfl) (by rfl) (by rfl) (by rfl) (by rfl) (by rfl) (by rfl) (by rfl) (by rfl) (by rfl) (by rfl) (by rfl) (by rfl) (by rfl)
    · have ej : jz = 1 := by omega
      subst ej
      have eo : oth 1 p j = j := by simp [oth]
      rw [eo] at hB' hs' hq'
      cases e1 : su.testBit j <;> cases e2 : pe.testBit j
      · have e4 := hq' e2
        simp only [loopIt, todoPast, todoAt, todoOf, firstReg, ↓reduceIte, Option.some.injEq, Nat.reduceEqDiff, reduceCtorEq, Tryd.f10]
        rw [execL_inLoop]
        simp (maxSteps := 1000000) (implicitDefEqProofs := false) (disch := first | rfl | omega | assumption) only [go_sem, g4, g10, g17, g18, g19, g20, g21, g22, g23, g24, g25, g26, g27, g28, g33, g34, g170, g171, g172, g245, g246, ltT, ltF, leT, leF, hk', s1, t1, s2, t2, t3, t4, u1, u2, u3, u4, hA', hB', hI, hsh, hsh1, b1, b2, b3, b4, b5, b6, and_one, andZ1, e1, e2, e4, Int.natCast_one]
        exact ih (j + 1) (by omega) [.box (KV a), .box (KV r)] _ (by rfl) (by rfl) (by rfl) (by rfl) (by rfl) (by rfl) (by rfl) (by rfl) (by rfl) (by rfl) (by rfl) (by rfl) (by rfl) (by rfl) (by rfl) (by rfl) (by rfl) (by rfl) (by rfl) (by rfl) (by rfl)
      · skip
        simp only [loopIt, todoPast, todoAt, todoOf, firstReg, ↓reduceIte, Option.some.injEq, Nat.reduceEqDiff, reduceCtorEq, Tryd.f10]
        rw [execL_inLoop]
        simp (maxSteps := 1000000) (implicitDefEqProofs := false) (disch := first | rfl | omega | assumption) only [go_sem, g4, g10, g17, g18, g19, g20, g21, g22, g23, g24, g25, g26, g27, g28, g33, g34, g170, g171, g172, g245, g246, ltT, ltF, leT, leF, hk', s1, t1, s2, t2, t3, t4, u1, u2, u3, u4, hA', hB', hI, hsh, hsh1, b1, b2, b3, b4, b5, b6, and_one, andZ1, e1, e2, Int.natCast_one]
        exact ih (j + 1) (by omega) [.box (KV a), .box (KV r)] _ (by rfl) (by rfl) (by rfl) (by rfl) (by rfl) (by rfl) (by rfl) (by rfl) (by rfl) (by rfl) (by rfl) (by rfl) (by rfl) (by rfl) (by rfl) (by rfl) (by rfl) (by rfl) (by rfl) (by rfl) (by rfl)
      · have e3 := hs' e1
        have e4 := hq' e2
        simp only [loopIt, todoPast, todoAt, todoOf, firstReg, ↓reduceIte, Option.some.injEq, Nat.reduceEqDiff, reduceCtorEq, Tryd.f10]
        rw [execL_inLoop]
        simp (maxSteps := 1000000) (implicitDefEqProofs := false) (disch := first | rfl | omega | assumption) only [go_sem, g4, g10, g17, g18, g19, g20, g21, g22, g23, g24, g25, g26, g27, g28, g33, g34, g170, g171, g172, g245, g246, ltT, ltF, leT, leF, hk', s1, t1, s2, t2, t3, t4, u1, u2, u3, u4, hA', hB', hI, hsh, hsh1, b1, b2, b3, b4, b5, b6, and_one, andZ1, e1, e2, e3, e4, Int.natCast_one]
        exact ih (j + 1) (by omega) [.box (KV a), .box (KV r)] _ (by rfl) (by rfl) (by rfl) (by rfl) (by rfl) (by rfl) (by rfl) (by rfl) (by rfl) (by rfl) (by rfl) (by rfl) (by rfl) (by rfl) (by rfl) (by rfl) (by rfl) (by rfl) (by rfl) (by rfl) (by rfl)
      · have e3 := hs' e1
        simp only [loopIt, todoPast, todoAt, todoOf, firstReg, ↓reduceIte, Option.some.injEq, Nat.reduceEqDiff, reduceCtorEq, Tryd.f10]
        rw [execL_inLoop]
        simp (maxSteps := 1000000) (implicitDefEqProofs := false) (disch := first | rfl | omega | assumption) only [go_sem, g4, g10, g17, g18, g19, g20, g21, g22, g23, g24, g25, g26, g27, g28, g33, g34, g170, g171, g172, g245, g246, ltT, ltF, leT, leF, hk', s1, t1, s2, t2, t3, t4, u1, u2, u3, u4, hA', hB', hI, hsh, hsh1, b1, b2, b3, b4, b5, b6, and_one, andZ1, e1, e2, e3, Int.natCast_one]
        exact ih (j + 1) (by omega) [.box (KV a), .box (KV r)] _ (by rfl) (by rfl) (by rfl) (by rfl) (by rfl) (by rfl) (by rfl) (by rfl) (by rfl) (by rfl) (by rfl) (by rfl) (by rfl) (by rfl) (by rfl) (by rfl) (by rfl) (by rfl) (by rfl) (by rfl) (by rfl)

end Go.Ab
/-
  WearMore, walked: both blocks of which more is known.
-/
namespace Go.Ab
open Go.Proofs
set_option linter.unusedSimpArgs false
set_option linter.unusedVariables false
set_option maxRecDepth 100000
set_option maxHeartbeats 1000000

variable {H : Heap}

abbrev zA (z : Wea) : AV := .agg [I z.llo, I z.lhi, I z.ulo, I z.uhi, .sl false (z.es.map Ev.av)]

theorem sure_lt {w : Wea} (h8 : w.es.length ≤ 9) (lim : Int) : w.sureP lim < 2 ^ 60 ∧ w.perP lim < 2 ^ 60 := by
  have hp : (2 : Nat) ^ w.es.length ≤ 2 ^ 9 := Nat.pow_le_pow_right (by omega) h8
  constructor
  · simp only [Wea.sureP]; split
    · exact Nat.lt_of_lt_of_le (maskN_lt _ _) (by omega)
    · omega
  · simp only [Wea.perP]; split
    · exact Nat.lt_of_lt_of_le (maskN_lt _ _) (by omega)
    · omega

theorem gate_not {z : Wea} (hv : z.valid = true) (hc : z.can = false) : z.gate 0 true = 10 := by
  simp only [Wea.gate, hv, hc, if_true, if_false, Bool.false_eq_true, (show (0 : Int) ≤ 10 by decide)]

theorem moreB {w x y : Wea} {ve : AV} (h : WeaAt H w ve) (hv : w.valid = true) (p : Nat) (hp : p ≤ w.es.length) (lim : Int) (hl : -1000 ≤ lim ∧ lim ≤ 1000) (hx : More w x (phi p)) (hy : More w y (fun i => i)) (hxl : x.es.length = w.es.length + 1) (hyl : y.es.length = w.es.length) :
    ∀ (q j : Nat), j + q = 2 → ∀ (G : Heap), ∀ E : Env, E.get 4 = .ptr H.length 0 → E.get 10 = I p → E.get 17 = .sl false (w.es.map Ev.av) → E.get 18 = I lim → E.get 19 = inF → E.get 20 = .ptr (H.length + 3) 0 → E.get 21 = I (w.gate 0 true) → E.get 22 = I (w.untilP lim).1 → E.get 23 = I (w.untilP lim).2 → E.get 24 = I (w.sureP lim) → E.get 25 = I (w.perP lim) → E.get 26 = I (w.gate 0 true) → E.get 170 = .sl true [zA x, zA y] → E.get 171 = I 2 → E.get 172 = I j →
    Option.map (finishC H.length) (execL cfg0 prog0 ⟨10, none, false, H.length⟩ (todoAt Tryd.f10 26) ⟨E, [], H ++ (.box (.agg [I w.llo, I w.lhi, I w.ulo, I w.uhi, ve]) :: .box (zA x) :: .box (zA y) :: .box (KV w.lostP) :: G), none⟩) = some ⟨.ret (.bool true), H, none⟩ := by
  intro q
  have ho := w.valid_iff.1 hv
  have h8 := ho.many
  have s1 := h.es.scal
  have s2 := h.es.len
  rw [List.length_map] at s2
  have t1 := h.es.ltn 4
  have t3 := fun (N : Nat) (z : Wea) => evz_lt N z.es
  have w1 : wi lim (-1000) 1000 = true := wi_iff.2 hl
  induction q with
  | zero =>
    intro j hj G E g4 g10 g17 g18 g19 g20 g21 g22 g23 g24 g25 g26 g170 g171 g172
    have hk' : ¬ (j : Int) < ((2 : Nat) : Int) := by omega
    simp only [loopIt, todoPast, todoAt, todoOf, firstReg, ↓reduceIte, Option.some.injEq, Nat.reduceEqDiff, reduceCtorEq, Tryd.f10]
    rw [execL_inLoop]
    simp (maxSteps := 1000000) (implicitDefEqProofs := false) (disch := first | rfl | omega | assumption) only [go_sem, g4, g10, g17, g18, g19, g20, g21, g22, g23, g24, g25, g26, g170, g171, g172, ltT, ltF, leT, leF, hk', s1, s2, t1, t3]
    exact moreD h h8 _ w.es.length 0 (by omega) _ (by rfl) (by rfl) (by rfl) (by rfl)
  | succ q ih =>
    intro j hj G E g4 g10 g17 g18 g19 g20 g21 g22 g23 g24 g25 g26 g170 g171 g172
    have hk' : (j : Int) < ((2 : Nat) : Int) := by omega
    have hk2 : j < 2 := by omega
    simp only [loopIt, todoPast, todoAt, todoOf, firstReg, ↓reduceIte, Option.some.injEq, Nat.reduceEqDiff, reduceCtorEq, Tryd.f10]
    rw [execL_inLoop]
    obtain ⟨z, φ, hz, hM, hzl, hst⟩ : ∃ (z : Wea) (φ : Nat → Nat), [zA x, zA y][j]? = some (zA z) ∧ More w z φ ∧ z.es.length ≤ 9 ∧ ∀ i, i < w.es.length → Step w z φ i (oth j p i) := by
      have : j = 0 ∨ j = 1 := by omega
      rcases this with rfl | rfl
      · refine ⟨x, _, rfl, hx, by omega, fun i hi => ⟨hi, ?_, ?_⟩⟩
        · simp only [oth]; split <;> omega
        · simp only [oth, phi]
          by_cases c : p ≤ i
          · rw [if_neg (by omega), if_pos ⟨trivial, c⟩]
          · rw [if_pos (by omega), if_neg (by omega)]
      · refine ⟨y, _, rfl, hy, by omega, fun i hi => ⟨hi, ?_, ?_⟩⟩
        · show oth 1 p i < _
          simp only [oth, (show ¬ (1 : Nat) = 0 by decide), false_and, if_false]; omega
        · show i + 1 = oth 1 p i + 1
          simp only [oth, (show ¬ (1 : Nat) = 0 by decide), false_and, if_false]
    have k1 : ∀ G : Heap, SlOk G 5 (.sl true [zA x, zA y]) [zA x, zA y] := fun G => ⟨rfl, by simp [AV.cells]⟩
    have a1 := fun (G : Heap) (te : Ty) (ht : te.size = 5) => ((k1 G).at (k := j) (x := zA z) (by omega) hz).1 te ht
    have a2 := fun (G : Heap) => ((k1 G).at (k := j) (x := zA z) (by omega) hz).2.1
    have hr := (show readPart (zA z).cells 0 ⟨.struct [(0, 23), (2, 23), (4, 24)], 5, 56, some (.agg #[.int .i64 0, .int .i64 0, .int .i64 0, .int .i64 0, .slice none 0 0])⟩ = some (zA z) from rfl)
    have hZ : ∀ G : Heap, WeaAt (H ++ G) z (.sl false (z.es.map Ev.av)) := fun G => ⟨⟨rfl, by simp [Ev.av, AV.cells]⟩⟩
    have hV := fun G => ref_Wear (hZ G)
    have hL := fun G => we_Lost (hZ G) (by omega)
    have hU := fun G => we_Until (hZ G) (by omega) lim
    have hB := fun G => we_Below (hZ G) (by omega) lim
    simp only [Wea.av, w1] at hV hL hU hB
    obtain ⟨m1, m2⟩ := sure_lt (w := w) (by omega) lim
    obtain ⟨m3, m4⟩ := sure_lt (w := z) hzl lim
    have hjc : (j : Int) < 2 := by omega
    cases hzv : z.valid
    · simp only [hzv] at hV
      simp (maxSteps := 1000000) (implicitDefEqProofs := false) (disch := first | rfl | omega | assumption) only [go_sem, g4, g10, g17, g18, g19, g20, g21, g22, g23, g24, g25, g26, g170, g171, g172, ltT, ltF, leT, leF, hk', s1, s2, t1, t3, a1, a2, hr, hV]
      exact ih (j + 1) (by omega) [.box (zA z)] _ (by rfl) (by rfl) (by rfl) (by rfl) (by rfl) (by rfl) (by rfl) (by rfl) (by rfl) (by rfl) (by rfl) (by rfl) (by rfl) (by rfl) (by rfl)
    · simp only [hzv] at hV
      have hzo := z.valid_iff.1 hzv
      cases hzc : z.can
      · have gn10 := gate_not hzv hzc
        simp only [gn10] at hL hB
        simp (maxSteps := 1000000) (implicitDefEqProofs := false) (disch := first | rfl | omega | assumption) only [go_sem, g4, g10, g17, g18, g19, g20, g21, g22, g23, g24, g25, g26, g170, g171, g172, ltT, ltF, leT, leF, hk', s1, s2, t1, t3, a1, a2, hr, hV, hL, hU, hB, bne_self_eq_false]
        exact ih (j + 1) (by omega) [.box (zA z), .box (KV z.lostP)] _ (by rfl) (by rfl) (by rfl) (by rfl) (by rfl) (by rfl) (by rfl) (by rfl) (by rfl) (by rfl) (by rfl) (by rfl) (by rfl) (by rfl) (by rfl)
      · have hwc := hM.can ho hzo hzc
        have g0 := gate_can hzv hzc
        have gw := gate_can hv hwc
        have hlo := hM.lost hv hzv hzc
        have hun := hM.until hv hzv hzc hl
        have hI := fun G : Heap => law_in z.lostP w.lostP hlo (H ++ G)
        rw [gw] at g21 g26
        simp only [g0] at hL hB
        have hA : ∀ (i : Nat) (G : Heap), i < w.es.length → callFL cfg0 prog0 false 14 [.agg [I w.llo, I w.lhi, I w.ulo, I w.uhi, ve], I i] (H ++ G) none = some ⟨.ret (.tup [KV (w.afterP i), I 0]), H ++ G, none⟩ := fun i G hi => by
          have := we_After (h.app G) (by omega) (i : Int)
          rw [(after_ok hv hwc hi).2] at this
          exact this
        have hZA : ∀ (i : Nat) (G : Heap), i < w.es.length → callFL cfg0 prog0 false 14 [.agg [I z.llo, I z.lhi, I z.ulo, I z.uhi, .sl false (z.es.map Ev.av)], I (oth j p i : Nat)] (H ++ G) none = some ⟨.ret (.tup [KV (z.afterP (oth j p i : Nat)), I 0]), H ++ G, none⟩ := fun i G hi => by
          have := we_After (hZ G) (by omega) ((oth j p i : Nat) : Int)
          rw [(after_ok hzv hzc (hst i hi).ho).2] at this
          exact this
        have hstep := fun (i : Nat) (hi : i < w.es.length) => hM.step hv hzv hzc (hst i hi) lim
        by_cases hf : (w.untilP lim).2 = 0
        · obtain ⟨hf1, hf2⟩ := hun hf
          have z1 : ((w.untilP lim).2 == 0) = true := by simpa using hf
          have z2 : ¬ (z.untilP lim).1 < (w.untilP lim).1 := by omega
          have z3 : ((z.untilP lim).2 != 0) = false := by simp [hf1]
          simp (maxSteps := 1000000) (implicitDefEqProofs := false) (disch := first | rfl | omega | assumption) only [go_sem, g4, g10, g17, g18, g19, g20, g21, g22, g23, g24, g25, g26, g170, g171, g172, ltT, ltF, leT, leF, hk', s1, s2, t1, t3, a1, a2, hr, hV, hL, hU, hB, hI, z1, z2, z3, bne_self_eq_false]
          refine moreC (w := w) (z := z) (ve := ve) (ze := .sl false (z.es.map Ev.av)) w.es.length p j h8 (by omega) (by omega) s1 (h.es.ltn 6) rfl (by simp [AV.lt, t3]) (.sl false (w.es.map Ev.av)) (.sl true [zA x, zA y]) (by simp [AV.lt, t3]) (by simp [AV.lt, ltL, t3]) (.box (zA x)) (.box (zA y)) (.box (KV w.lostP)) (.box (KV z.lostP)) (by simp [AO.lt, AV.lt, ltL, t3]) (by simp [AO.lt, AV.lt, ltL, t3]) (by simp [AO.lt, AV.lt, ltL]) (by simp [AO.lt, AV.lt, ltL]) lim 0 _ _ 0 (fun i => w.afterP i) (fun i => z.afterP (oth j p i : Nat)) _ _ _ _ m1 m2 m3 m4 hA hZA (fun i hi => (hstep i hi).1) (fun i hi hb => (hstep i hi).2.1 hb hl) (fun i hi hb => (hstep i hi).2.2 hb hl) _ _ (fun E f4 f10 f17 f18 f19 f20 f21 f22 f23 f24 f25 f26 f170 f171 f172 => ?_) w.es.length 0 (by omega) [] _ (by rfl) (by rfl) (by rfl) (by rfl) (by rfl) (by rfl) (by rfl) (by rfl) (by rfl) (by rfl) (by rfl) (by rfl) (by rfl) (by rfl) (by rfl) (by rfl) (by rfl) (by rfl) (by rfl) (by rfl) (by rfl)
          simp (maxSteps := 1000000) (implicitDefEqProofs := false) (disch := first | rfl | omega | assumption) only [go_sem, g4, g10, g17, g18, g19, g20, g21, g22, g23, g24, g25, g26, g170, g171, g172, ltT, ltF, leT, leF, hk', f4, f10, f17, f18, f19, f20, f21, f22, f23, f24, f25, f26, f170, f171, f172]
          exact ih (j + 1) (by omega) [.box (zA z), .box (KV z.lostP)] _ (by exact f4) (by exact f10) (by exact f17) (by exact f18) (by exact f19) (by exact f20) (by rw [gw]; exact f21) (by exact f22) (by exact f23) (by exact f24) (by exact f25) (by rw [gw]; exact f26) (by exact f170) (by exact f171) (by rfl)
        · have z1 : ((w.untilP lim).2 == 0) = false := by simpa using hf
          simp (maxSteps := 1000000) (implicitDefEqProofs := false) (disch := first | rfl | omega | assumption) only [go_sem, g4, g10, g17, g18, g19, g20, g21, g22, g23, g24, g25, g26, g170, g171, g172, ltT, ltF, leT, leF, hk', s1, s2, t1, t3, a1, a2, hr, hV, hL, hU, hB, hI, z1, bne_self_eq_false]
          refine moreC (w := w) (z := z) (ve := ve) (ze := .sl false (z.es.map Ev.av)) w.es.length p j h8 (by omega) (by omega) s1 (h.es.ltn 6) rfl (by simp [AV.lt, t3]) (.sl false (w.es.map Ev.av)) (.sl true [zA x, zA y]) (by simp [AV.lt, t3]) (by simp [AV.lt, ltL, t3]) (.box (zA x)) (.box (zA y)) (.box (KV w.lostP)) (.box (KV z.lostP)) (by simp [AO.lt, AV.lt, ltL, t3]) (by simp [AO.lt, AV.lt, ltL, t3]) (by simp [AO.lt, AV.lt, ltL]) (by simp [AO.lt, AV.lt, ltL]) lim 0 _ _ 0 (fun i => w.afterP i) (fun i => z.afterP (oth j p i : Nat)) _ _ _ _ m1 m2 m3 m4 hA hZA (fun i hi => (hstep i hi).1) (fun i hi hb => (hstep i hi).2.1 hb hl) (fun i hi hb => (hstep i hi).2.2 hb hl) _ _ (fun E f4 f10 f17 f18 f19 f20 f21 f22 f23 f24 f25 f26 f170 f171 f172 => ?_) w.es.length 0 (by omega) [] _ (by rfl) (by rfl) (by rfl) (by rfl) (by rfl) (by rfl) (by rfl) (by rfl) (by rfl) (by rfl) (by rfl) (by rfl) (by rfl) (by rfl) (by rfl) (by rfl) (by rfl) (by rfl) (by rfl) (by rfl) (by rfl)
          simp (maxSteps := 1000000) (implicitDefEqProofs := false) (disch := first | rfl | omega | assumption) only [go_sem, g4, g10, g17, g18, g19, g20, g21, g22, g23, g24, g25, g26, g170, g171, g172, ltT, ltF, leT, leF, hk', f4, f10, f17, f18, f19, f20, f21, f22, f23, f24, f25, f26, f170, f171, f172]
          exact ih (j + 1) (by omega) [.box (zA z), .box (KV z.lostP)] _ (by exact f4) (by exact f10) (by exact f17) (by exact f18) (by exact f19) (by exact f20) (by rw [gw]; exact f21) (by exact f22) (by exact f23) (by exact f24) (by exact f25) (by rw [gw]; exact f26) (by exact f170) (by exact f171) (by rfl)

end Go.Ab
/-
  WearMore, walked.
-/
namespace Go.Ab
open Go.Proofs
set_option linter.unusedSimpArgs false
set_option linter.unusedVariables false
set_option maxRecDepth 100000
set_option maxHeartbeats 4000000

variable {H : Heap}

theorem law_WearMore {w : Wea} {ve : AV} (h0 : WeaAt [] w ve) (b c a : Int) (hb : 0 ≤ b ∧ b ≤ 255) (hc : 0 ≤ c ∧ c ≤ 255) (ha : 0 ≤ a ∧ a ≤ 65535) :
    callFL cfg0 prog0 false 10 [w.av ve, .int .u8 b, .int .u8 c, .int .u16 a] H none = some ⟨.ret (.bool true), H, none⟩ := by
  obtain ⟨f, hve⟩ := wea_sl h0
  have h : WeaAt H w ve := by subst hve; exact ⟨⟨rfl, by simp [Ev.av, AV.cells]⟩⟩
  have s1 := h.es.scal
  have s2 := h.es.len
  rw [List.length_map] at s2
  have hF := fun G : Heap => law_fine (h.app G)
  obtain ⟨r1, r2, r3⟩ := rem420 ha.1
  obtain ⟨q1, q2, q3⟩ := rem40 hc.1
  have hav : w.av ve = .agg [I w.llo, I w.lhi, I w.ulo, I w.uhi, ve] := rfl
  rw [hav]
  cases hf : (!w.farB 0 && w.valid)
  · simp only [hf, Wea.av] at hF
    refine (callFL_eq fn10 rfl (by simp [Tryd.f10])).trans ?_
    simp (maxSteps := 1000000) (implicitDefEqProofs := false) (disch := first | rfl | omega | assumption) only [go_sem, ltT, ltF, leT, leF, s1, hF, law_awake]
    done
  · simp only [Bool.and_eq_true, Bool.not_eq_true'] at hf
    obtain ⟨hfar, hv⟩ := hf
    have ho := w.valid_iff.1 hv
    have h8 := ho.many
    have hlen := ho.len
    have hl : w.es.length ≤ 1000 := by omega
    simp only [hfar, hv, hav, Bool.not_false, Bool.and_self] at hF
    obtain ⟨n, rfl⟩ : ∃ n : Nat, b = n := ⟨b.toNat, by omega⟩
    obtain ⟨d, hd⟩ : ∃ d, c % 40 = d := ⟨_, rfl⟩
    obtain ⟨lim, hlim⟩ : ∃ lim, a % 420 - 60 = lim := ⟨_, rfl⟩
    obtain ⟨p, hp⟩ : ∃ p, n % (w.es.length + 1) = p := ⟨_, rfl⟩
    have hpl : p ≤ w.es.length := by have := Nat.mod_lt n (show 0 < w.es.length + 1 by omega); omega
    have hpm : (n : Int).tmod ((w.es.length : Int) + 1) = (p : Int) := by rw [← hp]; rfl
    have hnz : ¬ (w.es.length : Int) + 1 = 0 := by omega
    have wb : IntKind.i64.wrap (n : Int) = n := w64 (by omega) (by omega)
    have wc : IntKind.i64.wrap c = c := w64 (by omega) (by omega)
    have w1 : wi lim (-1000) 1000 = true := wi_iff.2 ⟨by omega, by omega⟩
    rw [hd] at q1 q2 q3
    have hLo := fun G : Heap => we_Lost (h.app G) hl
    have hU := fun G : Heap => we_Until (h.app G) hl lim
    have hB := fun G : Heap => we_Below (h.app G) hl lim
    simp only [hav, w1] at hLo hU hB
    have hl9 : 9223372036854775807 > w.es.length := by omega
    subst hve
    have hall : ((w.es.map Ev.av).all fun v => v.cells.length == 4) = true := by simp [Ev.av, AV.cells]
    have hdr : List.drop 0 (List.take p (w.es.map Ev.av)) = (w.es.take p).map Ev.av := by rw [List.drop_zero, List.map_take]
    have hdr2 : List.drop p (w.es.map Ev.av) = (w.es.drop p).map Ev.av := by rw [List.map_drop]
    have hdr3 : List.drop p (List.take w.es.length (w.es.map Ev.av)) = (w.es.drop p).map Ev.av := by rw [List.take_of_length_le (by simp), List.map_drop]
    have htl : min p w.es.length = p := by omega
    have hadd1 := fun (A : Heap) => add_full (H := A) (sz := 4) (a := true) (xs := []) (ys := (w.es.take p).map Ev.av) rfl rfl (evz_ok _) (evz_lt 0 _) (by simp; omega) rfl
    simp only [List.length_nil, Nat.zero_add, List.nil_append, List.length_map, List.length_take, htl] at hadd1
    have hadd2 : ∀ (o0 : AO) (x y : Int), addElem (H ++ [o0, .grow 4 ((w.es.take p).map Ev.av)]) 4 true (.gsl (H.length + 1) p) [.agg [I 1, I 0, I x, I y]] = some (.gsl (H.length + 1) (p + 1), H ++ [o0, .grow 4 ((w.es.take p).map Ev.av ++ [.agg [I 1, I 0, I x, I y]])]) := by
      intro o0 x y
      rw [add_gsl (xs := (w.es.take p).map Ev.av) (by rw [get_at']; rfl) (by rw [List.length_map, List.length_take, htl]) rfl rfl (by simp; omega), set_at']
      rfl
    have hadd3 : ∀ (o0 : AO) (x y : Int), addElem (H ++ [o0, .grow 4 ((w.es.take p).map Ev.av ++ [.agg [I 1, I 0, I x, I y]])]) 4 true (.gsl (H.length + 1) (p + 1)) ((w.es.drop p).map Ev.av) = some (.gsl (H.length + 1) (w.es.length + 1), H ++ [o0, .grow 4 ((w.ins p (rdE (x, y))).es.map Ev.av)]) := by
      intro o0 x y
      rw [add_gsl (xs := (w.es.take p).map Ev.av ++ [.agg [I 1, I 0, I x, I y]]) (by rw [get_at']; rfl) (by rw [List.length_append, List.length_map, List.length_take, htl]; rfl) (evz_ok _) (evz_lt 0 _) (by simp; omega), set_at', ins_ok hpl, List.length_map, List.length_drop, List.append_assoc, show p + 1 + (w.es.length - p) = w.es.length + 1 by omega]
      rfl
    have hel := fun G : Heap => (h.es.app G).elems
    have haddY : ∀ o0 o1 o2 : AO, addElem (H ++ [o0, o1, o2]) 4 true (.sl true []) (w.es.map Ev.av) = some (.gsl (H.length + 3) w.es.length, H ++ [o0, o1, o2, .grow 4 ((nrL w n 0).map Ev.av)]) := by
      intro o0 o1 o2
      rw [add_full (H := H ++ [o0, o1, o2]) (sz := 4) (a := true) (xs := []) (ys := w.es.map Ev.av) rfl rfl (evz_ok _) (evz_lt 0 _) (by simp; omega) rfl, nrL_zero]
      simp
    have haddK : ∀ o0 o1 o2 o3 : AO, addElem (H ++ [o0, o1, o2, o3]) 4 true (.sl true []) (w.es.map Ev.av) = some (.gsl (H.length + 4) w.es.length, H ++ [o0, o1, o2, o3, .grow 4 (w.es.map Ev.av)]) := by
      intro o0 o1 o2 o3
      rw [add_full (H := H ++ [o0, o1, o2, o3]) (sz := 4) (a := true) (xs := []) (ys := w.es.map Ev.av) rfl rfl (evz_ok _) (evz_lt 0 _) (by simp; omega) rfl]
      simp
    have t3 := fun (N : Nat) (es : List Ev) => evz_lt N es
    have hil := fun e : Ev => ins_len w hpl e
    have hnl := fun j : Nat => nrL_len w n j
    refine (callFL_eq fn10 rfl (by simp [Tryd.f10])).trans ?_
    simp (maxSteps := 1000000) (implicitDefEqProofs := false) (disch := first | rfl | omega | assumption) only [go_sem, ltT, ltF, leT, leF, s1, s2, hF, wb, wc, q1, r1, hlim, hpm, hnz, hall, hdr, hdr2, hdr3, hadd1, hadd2, hadd3, law_read, List.length_map]
    rw [chkK_of]; rotate_left; kernel_rfl
    simp (maxSteps := 1000000) (implicitDefEqProofs := false) (disch := first | rfl | omega | assumption) only [go_sem, ltT, ltF, leT, leF, s1, s2, hF, wb, wc, q1, r1, hlim, hpm, hnz, hall, hdr, hdr2, hdr3, hadd1, hadd2, hadd3, law_read, List.length_map, t3, hil]
    rw [chkK_of]; rotate_left; kernel_rfl
    simp (maxSteps := 1000000) (implicitDefEqProofs := false) (disch := first | rfl | omega | assumption) only [go_sem, ltT, ltF, leT, leF, s1, s2, hF, wb, wc, q1, r1, hlim, hel, haddY, law_read, List.length_map, t3, hil]
    refine nar_loop ho n p (by omega) a _ _ _ _ (fun E f1 f3 f4 f10 f13 f14 => ?_) w.es.length 0 (by omega) _ (by rfl) (by rfl) (by rfl) (by rfl) (by rfl) (by rfl) (by rfl) (by rfl)
    simp (maxSteps := 1000000) (implicitDefEqProofs := false) (disch := first | rfl | omega | assumption) only [go_sem, ltT, ltF, leT, leF, s1, s2, wb, r1, hlim, hel, haddK, List.length_map, t3, hil, hnl, f1, f3, f4, f10, f13, f14, hLo, hU, hB]
    exact moreB h hv p hpl lim ⟨by omega, by omega⟩ (ins_more w hpl (lim, lim + d)) (nar_more ho n) (ins_len w hpl _) (nar_len w n) 2 0 rfl [] _ (by rfl) (by rfl) (by rfl) (by rfl) (by rfl) (by rfl) (by rfl) (by rfl) (by rfl) (by rfl) (by rfl) (by rfl) (by rfl) (by rfl) (by rfl)

end Go.Ab
