/-
  The reference, walked: powers, sets, steps.
-/
import Derived.Test.YtlnfcahmdnnabaaDoorKK4
namespace Go.Ab
open Go.Proofs
set_option linter.unusedSimpArgs false
set_option linter.unusedVariables false
set_option maxRecDepth 100000

variable {H : Heap}

theorem ld_ne {k m : Nat} {o : Option Nat} {r : Lds} (h : m ≠ k) : getAt (addLd k o r) m = getAt r m := by
  cases o
  · rfl
  · simp only [addLd, getAt]; rw [if_neg (Ne.symm h)]

theorem ld_eq {k : Nat} {o : Option Nat} {r : Lds} : getAt (addLd k o r) k = o.or (getAt r k) := by
  cases o
  · simp [addLd]
  · simp [addLd, getAt]

/-- What lies at a slice that was there before has not turned by what is made later. -/
theorem SlOk.old {sz : Nat} {v : AV} {xs : List AV} (h : SlOk H sz v xs) (A B : Heap) : pairM (some (H ++ A, H ++ B)) (gslOf v) = true := by
  rcases h.obj with hg | ⟨l, hg, hlt, hget⟩
  · rw [hg]; rfl
  · rw [hg, pairM_some]
    have hs : ∀ l : List AV, sameL l l = true := fun l => by
      induction l with
      | nil => rfl
      | cons x r ih => simp [sameL, AV.same_refl, ih]
    simp only [sameAt, List.getElem?_append_left hlt, hget, AO.same, hs]
    simp

theorem or_none' (o : Option Nat) : o.or none = o := by cases o <;> rfl

theorem pow_le {j n : Nat} (h : j ≤ n) : (2 : Nat) ^ j ≤ 2 ^ n := Nat.pow_le_pow_right (by omega) h

theorem wN {m : Nat} (h : m < 2 ^ 62) : IntKind.i64.wrap (m : Int) = m := w64 (by omega) (by omega)

abbrev pw (n : Nat) : Int := ((2 ^ n : Nat) : Int)

theorem power_loop (n : Nat) (hn : n ≤ 60) :
    ∀ (q j : Nat), j + q = n → ∀ E : Env, E.get 0 = I n → E.get 3 = I (pw j) → E.get 4 = I j →
    Option.map (finishC H.length) (execL cfg0 prog0 ⟨54, none, false, H.length⟩ (todoAt Tryd.f54 3) ⟨E, [], H, none⟩) = some ⟨.ret (I (pw n)), H, none⟩ := by
  intro q
  skip
  induction q with
  | zero =>
    intro j hj  E g0 g3 g4
    have hk' : ¬ (j : Int) < ((n : Nat) : Int) := by omega
    have ej : j = n := by omega
    subst ej
    simp only [loopIt, todoPast, todoAt, todoOf, firstReg, ↓reduceIte, Option.some.injEq, Nat.reduceEqDiff, reduceCtorEq, Tryd.f54]
    rw [execL_inLoop]
    simp (maxSteps := 1000000) (implicitDefEqProofs := false) (disch := first | rfl | omega | assumption) only [go_sem, ↓reduceIte, Nat.reduceEqDiff, Nat.reduceAdd, Nat.reduceLeDiff, Nat.reduceBEq, Nat.reduceMul, Nat.reduceLT, Int.reduceLT, Int.reduceLE, Int.reduceToNat, Int.reduceNeg, Int.reduceEq, Int.reduceMul, reduceCtorEq, Int.reduceBEq, Int.reduceBNe, Int.reduceAdd, Int.reduceSub, g0, g3, g4, ltT, ltF, leT, leF, hk']
  | succ q ih =>
    intro j hj  E g0 g3 g4
    have hk' : (j : Int) < ((n : Nat) : Int) := by omega
    have hk2 : j < n := by omega
    have p1 := pow_le (show j + 1 ≤ 60 by omega)
    have e1 : (2 : Int) * ((2 ^ j : Nat) : Int) = ((2 ^ (j + 1) : Nat) : Int) := by rw [Nat.pow_succ]; omega
    have e2 := wN (m := 2 ^ (j + 1)) (by omega)
    simp only [loopIt, todoPast, todoAt, todoOf, firstReg, ↓reduceIte, Option.some.injEq, Nat.reduceEqDiff, reduceCtorEq, Tryd.f54]
    rw [execL_inLoop]
    simp (maxSteps := 1000000) (implicitDefEqProofs := false) (disch := first | rfl | omega | assumption) only [go_sem, ↓reduceIte, Nat.reduceEqDiff, Nat.reduceAdd, Nat.reduceLeDiff, Nat.reduceBEq, Nat.reduceMul, Nat.reduceLT, Int.reduceLT, Int.reduceLE, Int.reduceToNat, Int.reduceNeg, Int.reduceEq, Int.reduceMul, reduceCtorEq, Int.reduceBEq, Int.reduceBNe, Int.reduceAdd, Int.reduceSub, g0, g3, g4, ltT, ltF, leT, leF, hk', e1, e2]
    exact ih (j + 1) (by omega) _ (by exact g0) (by rfl) (by rfl)

theorem ref_power (n : Nat) (hn : n ≤ 60) (H : Heap) : callFL cfg0 prog0 false 54 [I n] H none = some ⟨.ret (I (pw n)), H, none⟩ := by
  refine (callFL_eq fn54 rfl (by simp [Tryd.f54])).trans ?_
  simp (maxSteps := 1000000) (implicitDefEqProofs := false) (disch := first | rfl | omega | assumption) only [go_sem, ↓reduceIte, Nat.reduceEqDiff, Nat.reduceAdd, Nat.reduceLeDiff, Nat.reduceBEq, Nat.reduceMul, Nat.reduceLT, Int.reduceLT, Int.reduceLE, Int.reduceToNat, Int.reduceNeg, Int.reduceEq, Int.reduceMul, reduceCtorEq, Int.reduceBEq, Int.reduceBNe, Int.reduceAdd, Int.reduceSub, ltT, ltF, leT, leF]
  exact power_loop n hn n 0 (by omega) _ (by rfl) (by rfl) (by rfl)

theorem ref_Has {s n : Nat} (hs : s < 2 ^ 60) (hn : n ≤ 60) (H : Heap) : callFL cfg0 prog0 false 74 [I s, I n] H none = some ⟨.ret (.bool (s.testBit n)), H, none⟩ := by
  have hp := fun G : Heap => ref_power n hn G
  have p1 := pow_le hn
  have p2 : 0 < (2 : Nat) ^ n := Nat.two_pow_pos n
  have e1 : ((s : Nat) : Int).tdiv ((2 ^ n : Nat) : Int) = ((s / 2 ^ n : Nat) : Int) := rfl
  have e2 : ((s / 2 ^ n : Nat) : Int).tmod 2 = ((s / 2 ^ n % 2 : Nat) : Int) := rfl
  have e3 : (((s / 2 ^ n % 2 : Nat) : Int) == 1) = s.testBit n := by
    rw [Nat.testBit_eq_decide_div_mod_eq]
    have : s / 2 ^ n % 2 = 0 ∨ s / 2 ^ n % 2 = 1 := by omega
    rcases this with h | h <;> rw [h] <;> rfl
  have z : ((2 ^ n : Nat) : Int) ≠ 0 := by omega
  have d := div_lt (j := n) hs
  have e4 : IntKind.i64.wrap ((s / 2 ^ n : Nat) : Int) = ((s / 2 ^ n : Nat) : Int) := wN (by omega)
  refine (callFL_eq fn74 rfl (by simp [Tryd.f74])).trans ?_
  simp (maxSteps := 1000000) (implicitDefEqProofs := false) (disch := first | rfl | omega | assumption) only [go_sem, ↓reduceIte, Nat.reduceEqDiff, Nat.reduceAdd, Nat.reduceLeDiff, Nat.reduceBEq, Nat.reduceMul, Nat.reduceLT, Int.reduceLT, Int.reduceLE, Int.reduceToNat, Int.reduceNeg, Int.reduceEq, Int.reduceMul, reduceCtorEq, Int.reduceBEq, Int.reduceBNe, Int.reduceAdd, Int.reduceSub, ltT, ltF, leT, leF, hp, e1, e2, e3, e4, z]

def takP (w : Wea) (e : Ev) : Int × Int := if e.k = 0 then (e.u * w.ulo, e.u * w.uhi) else if e.k = 2 then (e.lo, e.hi) else (0, 0)

theorem ref_takes {w : Wea} {ve : AV} (h : WeaAt H w ve) (ho : w.Ok) (e : Ev) (he : e.ok = true) : callFL cfg0 prog0 false 92 [w.av ve, e.av] H none = some ⟨.ret (KV (takP w e)), H, none⟩ := by
  have s1 := h.es.scal
  have hu := ho.use
  simp only [Wea.av, Ev.av, takP]
  rcases (Ev.ok_iff e).1 he with ⟨k0, k1⟩ | ⟨k0, k1⟩ | ⟨k0, k1⟩
  · have b1 := mul_bd k1 (show 0 ≤ w.ulo ∧ w.ulo ≤ 3 by omega)
    have b2 := mul_bd k1 (show 0 ≤ w.uhi ∧ w.uhi ≤ 3 by omega)
    refine (callFL_eq fn92 rfl (by simp [Tryd.f92])).trans ?_
    simp (maxSteps := 1000000) (implicitDefEqProofs := false) (disch := first | rfl | omega | assumption) only [go_sem, ↓reduceIte, Nat.reduceEqDiff, Nat.reduceAdd, Nat.reduceLeDiff, Nat.reduceBEq, Nat.reduceMul, Nat.reduceLT, Int.reduceLT, Int.reduceLE, Int.reduceToNat, Int.reduceNeg, Int.reduceEq, Int.reduceMul, reduceCtorEq, Int.reduceBEq, Int.reduceBNe, Int.reduceAdd, Int.reduceSub, ltT, ltF, leT, leF, s1, k0]
  · refine (callFL_eq fn92 rfl (by simp [Tryd.f92])).trans ?_
    simp (maxSteps := 1000000) (implicitDefEqProofs := false) (disch := first | rfl | omega | assumption) only [go_sem, ↓reduceIte, Nat.reduceEqDiff, Nat.reduceAdd, Nat.reduceLeDiff, Nat.reduceBEq, Nat.reduceMul, Nat.reduceLT, Int.reduceLT, Int.reduceLE, Int.reduceToNat, Int.reduceNeg, Int.reduceEq, Int.reduceMul, reduceCtorEq, Int.reduceBEq, Int.reduceBNe, Int.reduceAdd, Int.reduceSub, ltT, ltF, leT, leF, s1, k0]
  · refine (callFL_eq fn92 rfl (by simp [Tryd.f92])).trans ?_
    simp (maxSteps := 1000000) (implicitDefEqProofs := false) (disch := first | rfl | omega | assumption) only [go_sem, ↓reduceIte, Nat.reduceEqDiff, Nat.reduceAdd, Nat.reduceLeDiff, Nat.reduceBEq, Nat.reduceMul, Nat.reduceLT, Int.reduceLT, Int.reduceLE, Int.reduceToNat, Int.reduceNeg, Int.reduceEq, Int.reduceMul, reduceCtorEq, Int.reduceBEq, Int.reduceBNe, Int.reduceAdd, Int.reduceSub, ltT, ltF, leT, leF, s1, k0]

/-- One step of the reference. -/
def nxE (w : Wea) (e : Ev) (b : Bool) (l : Int × Int) : Int × Int :=
  if (decide (e.k = 1) && b) = true then (max (l.1 - (takP w e).2) e.lo, min (l.2 - (takP w e).1) e.hi) else (l.1 - (takP w e).2, l.2 - (takP w e).1)

theorem takP_bd {w : Wea} (ho : w.Ok) {e : Ev} (he : e.ok = true) : 0 ≤ (takP w e).1 ∧ (takP w e).1 ≤ (takP w e).2 ∧ (takP w e).2 ≤ 60 := by
  have hu := ho.use
  simp only [takP]
  rcases (Ev.ok_iff e).1 he with ⟨k0, k1⟩ | ⟨k0, k1⟩ | ⟨k0, k1⟩
  · have b1 := mul_bd k1 (show 0 ≤ w.ulo ∧ w.ulo ≤ 3 by omega)
    have b2 := mul_bd k1 (show 0 ≤ w.uhi ∧ w.uhi ≤ 3 by omega)
    have b3 : e.u * w.ulo ≤ e.u * w.uhi := Int.mul_le_mul_of_nonneg_left (by omega) (by omega)
    rw [if_pos k0]
    simp only
    omega
  · rw [if_neg (by omega), if_neg (by omega)]
    simp only
    omega
  · rw [if_neg (by omega), if_pos k0]
    simp only
    omega

theorem ref_next {w : Wea} {ve : AV} (h : WeaAt H w ve) (ho : w.Ok) (e : Ev) (he : e.ok = true) (l : Int × Int) (hb : bd 1000000 l) (b : Bool) :
    callFL cfg0 prog0 false 84 [w.av ve, KV l, e.av, .bool b] H none = some ⟨.ret (KV (nxE w e b l)), H, none⟩ := by
  have s1 := h.es.scal
  have hT := fun G : Heap => ref_takes (h.app G) ho e he
  obtain ⟨t1, t2, t3⟩ := takP_bd ho he
  simp only [bd] at hb
  have hmx : ∀ a c : Int, (if a < c then c else a) = max a c := by intro a c; split <;> omega
  have hmn : ∀ a c : Int, (if c < a then c else a) = min a c := by intro a c; split <;> omega
  simp only [Wea.av, Ev.av, nxE] at hT ⊢
  generalize takP w e = t at *
  by_cases hk : e.k = 1
  · have hk' : (e.k == 1) = true := beq_iff_eq.2 hk
    have dk : decide (e.k = 1) = true := decide_eq_true hk
    cases b
    · refine (callFL_eq fn84 rfl (by simp [Tryd.f84])).trans ?_
      simp (maxSteps := 1000000) (implicitDefEqProofs := false) (disch := first | rfl | omega | assumption) only [go_sem, ↓reduceIte, Nat.reduceEqDiff, Nat.reduceAdd, Nat.reduceLeDiff, Nat.reduceBEq, Nat.reduceMul, Nat.reduceLT, Int.reduceLT, Int.reduceLE, Int.reduceToNat, Int.reduceNeg, Int.reduceEq, Int.reduceMul, reduceCtorEq, Int.reduceBEq, Int.reduceBNe, Int.reduceAdd, Int.reduceSub, ltT, ltF, leT, leF, s1, hT, dk, hk', hmx, hmn, Bool.true_and, Bool.and_true]
      done
    · refine (callFL_eq fn84 rfl (by simp [Tryd.f84])).trans ?_
      simp (maxSteps := 1000000) (implicitDefEqProofs := false) (disch := first | rfl | omega | assumption) only [go_sem, ↓reduceIte, Nat.reduceEqDiff, Nat.reduceAdd, Nat.reduceLeDiff, Nat.reduceBEq, Nat.reduceMul, Nat.reduceLT, Int.reduceLT, Int.reduceLE, Int.reduceToNat, Int.reduceNeg, Int.reduceEq, Int.reduceMul, reduceCtorEq, Int.reduceBEq, Int.reduceBNe, Int.reduceAdd, Int.reduceSub, ltT, ltF, leT, leF, s1, hT, dk, hk', hmx, hmn, Bool.true_and, Bool.and_true]
      done
  · have hk' : (e.k == 1) = false := beq_eq_false_iff_ne.2 hk
    have dk : decide (e.k = 1) = false := decide_eq_false hk
    refine (callFL_eq fn84 rfl (by simp [Tryd.f84])).trans ?_
    simp (maxSteps := 1000000) (implicitDefEqProofs := false) (disch := first | rfl | omega | assumption) only [go_sem, ↓reduceIte, Nat.reduceEqDiff, Nat.reduceAdd, Nat.reduceLeDiff, Nat.reduceBEq, Nat.reduceMul, Nat.reduceLT, Int.reduceLT, Int.reduceLE, Int.reduceToNat, Int.reduceNeg, Int.reduceEq, Int.reduceMul, reduceCtorEq, Int.reduceBEq, Int.reduceBNe, Int.reduceAdd, Int.reduceSub, ltT, ltF, leT, leF, s1, hT, dk, hk', hmx, hmn, Bool.false_and]
    done

/-- The reference's run. -/
def Wea.runP (w : Wea) (s : Nat) (l : Int × Int) : Nat → Nat → Int × Int
  | _, 0 => l
  | i, q + 1 => if l.1 ≤ l.2 then w.runP s (nxE w (w.ev i) (s.testBit i) l) (i + 1) q else l

theorem nxE_bd {w : Wea} (ho : w.Ok) {e : Ev} (he : e.ok = true) (b : Bool) {l : Int × Int} {K : Int} (hK : 1000 ≤ K) (h : bd K l) : bd (K + 60) (nxE w e b l) := by
  obtain ⟨t1, t2, t3⟩ := takP_bd ho he
  simp only [bd, nxE] at h ⊢
  by_cases hk : e.k = 1
  · rcases (Ev.ok_iff e).1 he with ⟨k0, k1⟩ | ⟨k0, k1⟩ | ⟨k0, k1⟩
    · omega
    · split <;> simp only <;> omega
    · omega
  · simp only [hk, decide_false, Bool.false_and, Bool.false_eq_true, if_false]
    omega

theorem ok_ev {w : Wea} (ho : w.Ok) {i : Nat} (hi : i < w.es.length) : (w.ev i).ok = true := (Ev.ok_iff _).2 (ho.ev i hi)

theorem run_loop {w : Wea} {ve : AV} (h : WeaAt H w ve) (ho : w.Ok) (s : Nat) (hs : s < 2 ^ 60) (n : Nat) (hn : n ≤ w.es.length) :
    ∀ (q j : Nat), j + q = n → ∀ (l : Int × Int), bd (100000 + 60 * j) l → ∀ E : Env, E.get 3 = I n → E.get 4 = I s → E.get 5 = .ptr H.length 0 → E.get 6 = .ptr (H.length + 1) 0 → E.get 10 = .ptr (H.length + 2) 0 → E.get 11 = I j →
    Option.map (finishC H.length) (execL cfg0 prog0 ⟨50, none, false, H.length⟩ (todoAt Tryd.f50 2) ⟨E, [], H ++ [.box (w.av ve), .box (KV l), .box (KV (0, 0))], none⟩) = some ⟨.ret (KV (w.runP s l j q)), H, none⟩ := by
  intro q
  have h8 := ho.many
  have s1 := h.es.scal
  obtain ⟨a1, a2, a3, a4, a5⟩ := h.es.fA (d := ev0)
  simp only [Wea.av]
  induction q with
  | zero =>
    intro j hj l hl E g3 g4 g5 g6 g10 g11
    have hk' : ¬ (j : Int) < ((n : Nat) : Int) := by omega
    simp only [loopIt, todoPast, todoAt, todoOf, firstReg, ↓reduceIte, Option.some.injEq, Nat.reduceEqDiff, reduceCtorEq, Tryd.f50]
    rw [execL_inLoop]
    simp (maxSteps := 1000000) (implicitDefEqProofs := false) (disch := first | rfl | omega | assumption) only [go_sem, ↓reduceIte, Nat.reduceEqDiff, Nat.reduceAdd, Nat.reduceLeDiff, Nat.reduceBEq, Nat.reduceMul, Nat.reduceLT, Int.reduceLT, Int.reduceLE, Int.reduceToNat, Int.reduceNeg, Int.reduceEq, Int.reduceMul, reduceCtorEq, Int.reduceBEq, Int.reduceBNe, Int.reduceAdd, Int.reduceSub, g3, g4, g5, g6, g10, g11, ltT, ltF, leT, leF, hk', s1, Wea.runP]
    done
  | succ q ih =>
    intro j hj l hl E g3 g4 g5 g6 g10 g11
    have hk' : (j : Int) < ((n : Nat) : Int) := by omega
    have hk2 : j < n := by omega
    simp only [Wea.runP]
    have hj8 : j < w.es.length := by omega
    have hH := fun G : Heap => ref_Has hs (show j ≤ 60 by omega) G
    have hN := fun G : Heap => ref_next (h.app G) ho (w.es.getD j ev0) (ok_ev ho hj8) l (bd_mono (by omega) hl) (s.testBit j)
    have hr : readPart (w.es.getD j ev0).av.cells 0 ⟨.struct [(0, 3), (1, 3), (2, 23)], 4, 32, some (.agg #[.int .i64 0, .int .i64 0, .int .i64 0, .int .i64 0])⟩ = some (w.es.getD j ev0).av := rfl
    have hb' := nxE_bd ho (ok_ev ho hj8) (s.testBit j) (by omega) hl
    have o1 := h.es.old
    have o2 := fun (k : Int) (off : Nat) => ptrOf_elA (k := k) (off := off) h.es
    simp only [Wea.av] at hN
    by_cases hc : l.1 ≤ l.2
    · skip
      simp only [loopIt, todoPast, todoAt, todoOf, firstReg, ↓reduceIte, Option.some.injEq, Nat.reduceEqDiff, reduceCtorEq, Tryd.f50]
      rw [execL_inLoop]
      simp (maxSteps := 1000000) (implicitDefEqProofs := false) (disch := first | rfl | omega | assumption) only [go_sem, ↓reduceIte, Nat.reduceEqDiff, Nat.reduceAdd, Nat.reduceLeDiff, Nat.reduceBEq, Nat.reduceMul, Nat.reduceLT, Int.reduceLT, Int.reduceLE, Int.reduceToNat, Int.reduceNeg, Int.reduceEq, Int.reduceMul, reduceCtorEq, Int.reduceBEq, Int.reduceBNe, Int.reduceAdd, Int.reduceSub, g3, g4, g5, g6, g10, g11, ltT, ltF, leT, leF, hk', s1, hc]
      rw [chkK_of]; rotate_left; kernel_rfl
      simp (maxSteps := 1000000) (implicitDefEqProofs := false) (disch := first | rfl | omega | assumption) only [go_sem, ↓reduceIte, Nat.reduceEqDiff, Nat.reduceAdd, Nat.reduceLeDiff, Nat.reduceBEq, Nat.reduceMul, Nat.reduceLT, Int.reduceLT, Int.reduceLE, Int.reduceToNat, Int.reduceNeg, Int.reduceEq, Int.reduceMul, reduceCtorEq, Int.reduceBEq, Int.reduceBNe, Int.reduceAdd, Int.reduceSub, g3, g4, g5, g6, g10, g11, ltT, ltF, leT, leF, hk', s1, hc, a1, a2, a3, a4, hr, hH, hN, o1, o2, ld_ne, ld_eq, or_none']
      exact ih (j + 1) (by omega) _ (bd_mono (by omega) hb') _ (by exact g3) (by exact g4) (by exact g5) (by exact g6) (by exact g10) (by rfl)
    · skip
      simp only [loopIt, todoPast, todoAt, todoOf, firstReg, ↓reduceIte, Option.some.injEq, Nat.reduceEqDiff, reduceCtorEq, Tryd.f50]
      rw [execL_inLoop]
      simp (maxSteps := 1000000) (implicitDefEqProofs := false) (disch := first | rfl | omega | assumption) only [go_sem, ↓reduceIte, Nat.reduceEqDiff, Nat.reduceAdd, Nat.reduceLeDiff, Nat.reduceBEq, Nat.reduceMul, Nat.reduceLT, Int.reduceLT, Int.reduceLE, Int.reduceToNat, Int.reduceNeg, Int.reduceEq, Int.reduceMul, reduceCtorEq, Int.reduceBEq, Int.reduceBNe, Int.reduceAdd, Int.reduceSub, g3, g4, g5, g6, g10, g11, ltT, ltF, leT, leF, hk', s1, hc]

end Go.Ab
/-
  WearLater, walked: its loops.
-/
namespace Go.Ab
open Go.Proofs
set_option linter.unusedSimpArgs false
set_option linter.unusedVariables false
set_option maxRecDepth 100000

variable {H : Heap}

theorem take_ev (l : List Ev) {j : Nat} (h : j < l.length) : l.take (j + 1) = l.take j ++ [l.getD j ev0] := by
  rw [List.take_add_one, List.getD, List.getElem?_eq_getElem h]; rfl

theorem upx_loop {w : Wea} {ve : AV} (h : WeaAt H w ve) (ho : w.Ok) (n : Int) (hn : 0 ≤ n ∧ n ≤ 40) (a : Int) (K : List Item) (R : Option Done) (hK : ∀ E : Env, E.get 2 = .int .u16 a → E.get 3 = .ptr H.length 0 → E.get 7 = I n → E.get 8 = .ptr (H.length + 1) 0 → Option.map (finishC H.length) (execL cfg0 prog0 ⟨11, none, false, H.length⟩ K ⟨E, [], H ++ [.box (.agg [I w.llo, I w.lhi, I w.ulo, I w.uhi, ve]), .box (.agg [I (w.llo + n), I (w.lhi + n), I w.ulo, I w.uhi, .gsl (H.length + 2) w.es.length]), .grow 4 ((w.up n).es.map Ev.av)], none⟩) = R)  :
    ∀ (q j : Nat), j + q = w.es.length → ∀ (G : Heap), ∀ (xs : List AV), xs = ((w.es.take j).map (upE n)).map Ev.av → ∀ E : Env, E.get 2 = .int .u16 a → E.get 3 = .ptr H.length 0 → E.get 7 = I n → E.get 8 = .ptr (H.length + 1) 0 → E.get 62 = ve → E.get 63 = I w.es.length → E.get 64 = I j →
    Option.map (finishC H.length) (execL cfg0 prog0 ⟨11, none, false, H.length⟩ (loopIt Tryd.f11 8 :: .inBlock 0 :: K) ⟨E, [], H ++ (.box (.agg [I w.llo, I w.lhi, I w.ulo, I w.uhi, ve]) :: .box (.agg [I (w.llo + n), I (w.lhi + n), I w.ulo, I w.uhi, .gsl (H.length + 2) j]) :: .grow 4 xs :: G), none⟩) = R := by
  intro q
  have h8 := ho.many
  have s1 := h.es.scal
  have t1 := h.es.ltn 3
  obtain ⟨a1, a2, a3, a4, a5⟩ := h.es.fA (d := ev0)
  induction q with
  | zero =>
    intro j hj G xs hx E g2 g3 g7 g8 g62 g63 g64
    have hk' : ¬ (j : Int) < ((w.es.length : Nat) : Int) := by omega
    have ej : j = w.es.length := by omega
    subst ej
    have hx2 : xs = (w.up n).es.map Ev.av := by rw [hx, List.take_of_length_le (Nat.le_refl _)]; rfl
    subst hx2
    have t4 := evz_lt 0 (w.up n).es
    simp only [loopIt, todoPast, todoAt, todoOf, firstReg, ↓reduceIte, Option.some.injEq, Nat.reduceEqDiff, reduceCtorEq, Tryd.f11]
    rw [execL_inLoop]
    simp (maxSteps := 1000000) (implicitDefEqProofs := false) (disch := first | rfl | omega | assumption) only [go_sem, ↓reduceIte, Nat.reduceEqDiff, Nat.reduceAdd, Nat.reduceLeDiff, Nat.reduceBEq, Nat.reduceMul, Nat.reduceLT, Int.reduceLT, Int.reduceLE, Int.reduceToNat, Int.reduceNeg, Int.reduceEq, Int.reduceMul, reduceCtorEq, Int.reduceBEq, Int.reduceBNe, Int.reduceAdd, Int.reduceSub, g2, g3, g7, g8, g62, g63, g64, ltT, ltF, leT, leF, hk', s1, t1, t4]
    exact hK _ (by rfl) (by rfl) (by rfl) (by rfl)
  | succ q ih =>
    intro j hj G xs hx E g2 g3 g7 g8 g62 g63 g64
    have hk' : (j : Int) < ((w.es.length : Nat) : Int) := by omega
    have hk2 : j < w.es.length := by omega
    have hr := fun e : Ev => (show readPart e.av.cells 0 ⟨.struct [(0, 3), (1, 3), (2, 23)], 4, 32, some (.agg #[.int .i64 0, .int .i64 0, .int .i64 0, .int .i64 0])⟩ = some (.agg [I e.k, I e.u, I e.lo, I e.hi]) from rfl)
    have t4 : ltL 0 xs = true := by rw [hx]; exact evz_lt 0 _
    have hlx : xs.length = j := by rw [hx]; simp; omega
    have htk := take_ev w.es hk2
    obtain ⟨e, he⟩ : ∃ e, w.es.getD j ev0 = e := ⟨_, rfl⟩
    have hev := ho.ev j hk2
    rw [show w.ev j = e from he] at hev
    rw [he] at htk
    have hof : ∀ (o : AO) (e' : Ev), addElem (H ++ [.box (.agg [I w.llo, I w.lhi, I w.ulo, I w.uhi, ve]), .box (.agg [I (w.llo + n), I (w.lhi + n), I w.ulo, I w.uhi, .gsl (H.length + 2) j]), .grow 4 xs, o]) 4 true (.gsl (H.length + 2) j) [.agg [I e'.k, I e'.u, I e'.lo, I e'.hi]] = some (.gsl (H.length + 2) (j + 1), H ++ [.box (.agg [I w.llo, I w.lhi, I w.ulo, I w.uhi, ve]), .box (.agg [I (w.llo + n), I (w.lhi + n), I w.ulo, I w.uhi, .gsl (H.length + 2) j]), .grow 4 (xs ++ [.agg [I e'.k, I e'.u, I e'.lo, I e'.hi]]), o]) := by
      intro o e'
      rw [add_gsl (xs := xs) (by rw [get_at']; rfl) hlx rfl rfl (by simp; omega), set_at']
      rfl
    by_cases k1 : e.k = 1
    · have z1 : (e.k == 1) = true := by simp [k1]
      have hb : -1000 ≤ e.lo ∧ e.hi ≤ 1000 ∧ e.lo ≤ e.hi := by omega
      have eu : upE n e = ⟨e.k, e.u, e.lo + n, e.hi + n⟩ := by simp only [upE, k1, if_true]
      have hof' := fun o => hof o ⟨e.k, e.u, e.lo + n, e.hi + n⟩
      simp only [loopIt, todoPast, todoAt, todoOf, firstReg, ↓reduceIte, Option.some.injEq, Nat.reduceEqDiff, reduceCtorEq, Tryd.f11]
      rw [execL_inLoop]
      simp (maxSteps := 1000000) (implicitDefEqProofs := false) (disch := first | rfl | omega | assumption) only [go_sem, ↓reduceIte, Nat.reduceEqDiff, Nat.reduceAdd, Nat.reduceLeDiff, Nat.reduceBEq, Nat.reduceMul, Nat.reduceLT, Int.reduceLT, Int.reduceLE, Int.reduceToNat, Int.reduceNeg, Int.reduceEq, Int.reduceMul, reduceCtorEq, Int.reduceBEq, Int.reduceBNe, Int.reduceAdd, Int.reduceSub, g2, g3, g7, g8, g62, g63, g64, ltT, ltF, leT, leF, hk', s1, t1, t4, a1, a2, a3, a4, he, hr, z1, law_span, hof']
      exact ih (j + 1) (by omega) [.box (.agg [I e.k, I e.u, I (e.lo + n), I (e.hi + n)])] _ (by rw [htk, hx]; simp [eu, Ev.av]) _ (by rfl) (by rfl) (by rfl) (by rfl) (by rfl) (by rfl) (by rfl)
    · have z1 : (e.k == 1) = false := by simp [k1]
      have eu : upE n e = e := by simp only [upE, k1, if_false]
      have hof' := fun o => hof o e
      simp only [loopIt, todoPast, todoAt, todoOf, firstReg, ↓reduceIte, Option.some.injEq, Nat.reduceEqDiff, reduceCtorEq, Tryd.f11]
      rw [execL_inLoop]
      simp (maxSteps := 1000000) (implicitDefEqProofs := false) (disch := first | rfl | omega | assumption) only [go_sem, ↓reduceIte, Nat.reduceEqDiff, Nat.reduceAdd, Nat.reduceLeDiff, Nat.reduceBEq, Nat.reduceMul, Nat.reduceLT, Int.reduceLT, Int.reduceLE, Int.reduceToNat, Int.reduceNeg, Int.reduceEq, Int.reduceMul, reduceCtorEq, Int.reduceBEq, Int.reduceBNe, Int.reduceAdd, Int.reduceSub, g2, g3, g7, g8, g62, g63, g64, ltT, ltF, leT, leF, hk', s1, t1, t4, a1, a2, a3, a4, he, hr, z1, hof']
      exact ih (j + 1) (by omega) [.box (.agg [I e.k, I e.u, I e.lo, I e.hi])] _ (by rw [htk, hx]; simp [eu, Ev.av]) _ (by rfl) (by rfl) (by rfl) (by rfl) (by rfl) (by rfl) (by rfl)

theorem laterA {w : Wea} {ve : AV} (h : WeaAt H w ve) (h8 : w.es.length ≤ 8) (n : Int) (hn : 0 ≤ n ∧ n ≤ 40) (xs : List AV) (hxs : ltL 0 xs = true) (fw fx : Nat → Int × Int) (gt : Int) (hfb : ∀ i, bd 3000000 (fw i)) (hA : ∀ (i : Nat) (G : Heap), i < w.es.length → callFL cfg0 prog0 false 14 [.agg [I w.llo, I w.lhi, I w.ulo, I w.uhi, ve], I i] (H ++ G) none = some ⟨.ret (.tup [KV (fw i), I gt]), H ++ G, none⟩) (hB : ∀ (i : Nat) (o0 o1 : AO) (G : Heap), i < w.es.length → callFL cfg0 prog0 false 14 [.agg [I (w.llo + n), I (w.lhi + n), I w.ulo, I w.uhi, .gsl (H.length + 2) w.es.length], I i] (H ++ (o0 :: o1 :: .grow 4 xs :: G)) none = some ⟨.ret (.tup [KV (fx i), I gt]), H ++ (o0 :: o1 :: .grow 4 xs :: G), none⟩) (hE : gt = 0 → ∀ i, i < w.es.length → fx i = ((fw i).1 + n, (fw i).2 + n)) (a14 a16 a17 a18 : Int) (o3 o4 o5 o6 : AO) (ho3 : o3.lt (H.length + 7) = true) (ho4 : o4.lt (H.length + 7) = true) (ho5 : o5.lt (H.length + 7) = true) (ho6 : o6.lt (H.length + 7) = true) (K : List Item) (R : Option Done) (hK : ∀ E : Env, E.get 3 = .ptr H.length 0 → E.get 7 = I n → E.get 8 = .ptr (H.length + 1) 0 → E.get 11 = .ptr (H.length + 3) 0 → E.get 12 = I w.es.length → E.get 13 = .bool true → E.get 14 = I a14 → E.get 15 = .ptr (H.length + 5) 0 → E.get 16 = I a16 → E.get 17 = I a17 → E.get 18 = I a18 → Option.map (finishC H.length) (execL cfg0 prog0 ⟨11, none, false, H.length⟩ K ⟨E, [], H ++ [.box (.agg [I w.llo, I w.lhi, I w.ulo, I w.uhi, ve]), .box (.agg [I (w.llo + n), I (w.lhi + n), I w.ulo, I w.uhi, .gsl (H.length + 2) w.es.length]), .grow 4 xs, o3, o4, o5, o6], none⟩) = R)  :
    ∀ (q j : Nat), j + q = w.es.length → ∀ (G : Heap), ∀ E : Env, E.get 3 = .ptr H.length 0 → E.get 7 = I n → E.get 8 = .ptr (H.length + 1) 0 → E.get 11 = .ptr (H.length + 3) 0 → E.get 12 = I w.es.length → E.get 13 = .bool true → E.get 14 = I a14 → E.get 15 = .ptr (H.length + 5) 0 → E.get 16 = I a16 → E.get 17 = I a17 → E.get 18 = I a18 → E.get 213 = I w.es.length → E.get 214 = I j →
    Option.map (finishC H.length) (execL cfg0 prog0 ⟨11, none, false, H.length⟩ (loopIt Tryd.f11 29 :: .inBlock 2 :: K) ⟨E, [], H ++ (.box (.agg [I w.llo, I w.lhi, I w.ulo, I w.uhi, ve]) :: .box (.agg [I (w.llo + n), I (w.lhi + n), I w.ulo, I w.uhi, .gsl (H.length + 2) w.es.length]) :: .grow 4 xs :: o3 :: o4 :: o5 :: o6 :: G), none⟩) = R := by
  intro q
  have s1 := h.es.scal
  have t1 := h.es.ltn 7
  induction q with
  | zero =>
    intro j hj G E g3 g7 g8 g11 g12 g13 g14 g15 g16 g17 g18 g213 g214
    have hk' : ¬ (j : Int) < ((w.es.length : Nat) : Int) := by omega
    simp only [loopIt, todoPast, todoAt, todoOf, firstReg, ↓reduceIte, Option.some.injEq, Nat.reduceEqDiff, reduceCtorEq, Tryd.f11]
    rw [execL_inLoop]
    simp (maxSteps := 1000000) (implicitDefEqProofs := false) (disch := first | rfl | omega | assumption) only [go_sem, ↓reduceIte, Nat.reduceEqDiff, Nat.reduceAdd, Nat.reduceLeDiff, Nat.reduceBEq, Nat.reduceMul, Nat.reduceLT, Int.reduceLT, Int.reduceLE, Int.reduceToNat, Int.reduceNeg, Int.reduceEq, Int.reduceMul, reduceCtorEq, Int.reduceBEq, Int.reduceBNe, Int.reduceAdd, Int.reduceSub, g3, g7, g8, g11, g12, g13, g14, g15, g16, g17, g18, g213, g214, ltT, ltF, leT, leF, hk', s1, t1, hxs, ho3, ho4, ho5, ho6]
    exact hK _ (by rfl) (by rfl) (by rfl) (by rfl) (by rfl) (by rfl) (by rfl) (by rfl) (by rfl) (by rfl) (by rfl)
  | succ q ih =>
    intro j hj G E g3 g7 g8 g11 g12 g13 g14 g15 g16 g17 g18 g213 g214
    have hk' : (j : Int) < ((w.es.length : Nat) : Int) := by omega
    have hk2 : j < w.es.length := by omega
    simp only [loopIt, todoPast, todoAt, todoOf, firstReg, ↓reduceIte, Option.some.injEq, Nat.reduceEqDiff, reduceCtorEq, Tryd.f11]
    rw [execL_inLoop]
    have hA' := fun G => hA j G hk2
    have hB' := fun o0 o1 G => hB j o0 o1 G hk2
    have hE' := fun hg => hE hg j hk2
    have hb := hfb j
    simp only [bd] at hb
    generalize fw j = p at *
    generalize fx j = r at *
    by_cases hg : gt = 0
    · have hr := hE' hg
      have hsm := same2 (p.1 + n) (p.2 + n) (p.1 + n) (p.2 + n)
      subst hg
      subst hr
      simp (maxSteps := 1000000) (implicitDefEqProofs := false) (disch := first | rfl | omega | assumption) only [go_sem, ↓reduceIte, Nat.reduceEqDiff, Nat.reduceAdd, Nat.reduceLeDiff, Nat.reduceBEq, Nat.reduceMul, Nat.reduceLT, Int.reduceLT, Int.reduceLE, Int.reduceToNat, Int.reduceNeg, Int.reduceEq, Int.reduceMul, reduceCtorEq, Int.reduceBEq, Int.reduceBNe, Int.reduceAdd, Int.reduceSub, g3, g7, g8, g11, g12, g13, g14, g15, g16, g17, g18, g213, g214, ltT, ltF, leT, leF, hk', s1, t1, hxs, ho3, ho4, ho5, ho6, hA', hB']
      rw [chkK_of]; rotate_left; kernel_rfl
      simp (maxSteps := 1000000) (implicitDefEqProofs := false) (disch := first | rfl | omega | assumption) only [go_sem, ↓reduceIte, Nat.reduceEqDiff, Nat.reduceAdd, Nat.reduceLeDiff, Nat.reduceBEq, Nat.reduceMul, Nat.reduceLT, Int.reduceLT, Int.reduceLE, Int.reduceToNat, Int.reduceNeg, Int.reduceEq, Int.reduceMul, reduceCtorEq, Int.reduceBEq, Int.reduceBNe, Int.reduceAdd, Int.reduceSub, g3, g7, g8, g11, g12, g13, g14, g15, g16, g17, g18, g213, g214, ltT, ltF, leT, leF, hk', s1, t1, hxs, ho3, ho4, ho5, ho6, hA', hB', law_span, hsm, decide_true, bne_self_eq_false]
      exact ih (j + 1) (by omega) [.box (KV p), .box (KV (p.1 + n, p.2 + n))] _ (by rfl) (by rfl) (by rfl) (by rfl) (by rfl) (by rfl) (by rfl) (by rfl) (by rfl) (by rfl) (by rfl) (by rfl) (by rfl)
    · have z0 : (gt == 0) = false := by simpa using hg
      simp (maxSteps := 1000000) (implicitDefEqProofs := false) (disch := first | rfl | omega | assumption) only [go_sem, ↓reduceIte, Nat.reduceEqDiff, Nat.reduceAdd, Nat.reduceLeDiff, Nat.reduceBEq, Nat.reduceMul, Nat.reduceLT, Int.reduceLT, Int.reduceLE, Int.reduceToNat, Int.reduceNeg, Int.reduceEq, Int.reduceMul, reduceCtorEq, Int.reduceBEq, Int.reduceBNe, Int.reduceAdd, Int.reduceSub, g3, g7, g8, g11, g12, g13, g14, g15, g16, g17, g18, g213, g214, ltT, ltF, leT, leF, hk', s1, t1, hxs, ho3, ho4, ho5, ho6, hA', hB']
      rw [chkK_of]; rotate_left; kernel_rfl
      simp (maxSteps := 1000000) (implicitDefEqProofs := false) (disch := first | rfl | omega | assumption) only [go_sem, ↓reduceIte, Nat.reduceEqDiff, Nat.reduceAdd, Nat.reduceLeDiff, Nat.reduceBEq, Nat.reduceMul, Nat.reduceLT, Int.reduceLT, Int.reduceLE, Int.reduceToNat, Int.reduceNeg, Int.reduceEq, Int.reduceMul, reduceCtorEq, Int.reduceBEq, Int.reduceBNe, Int.reduceAdd, Int.reduceSub, g3, g7, g8, g11, g12, g13, g14, g15, g16, g17, g18, g213, g214, ltT, ltF, leT, leF, hk', s1, t1, hxs, ho3, ho4, ho5, ho6, hA', hB', law_span, z0, bne_self_eq_false]
      exact ih (j + 1) (by omega) [.box (KV p), .box (KV r)] _ (by rfl) (by rfl) (by rfl) (by rfl) (by rfl) (by rfl) (by rfl) (by rfl) (by rfl) (by rfl) (by rfl) (by rfl) (by rfl)

theorem laterB {w : Wea} {ve : AV} (h : WeaAt H w ve) (h8 : w.es.length ≤ 8) (n : Int) (hn : 0 ≤ n ∧ n ≤ 40) (xs : List AV) (hxs : ltL 0 xs = true) (fw fx : Nat → Int × Int) (gt : Int) (hfb : ∀ i, bd 3000000 (fw i)) (hA : ∀ (i : Nat) (G : Heap), i < w.es.length → callFL cfg0 prog0 false 14 [.agg [I w.llo, I w.lhi, I w.ulo, I w.uhi, ve], I i] (H ++ G) none = some ⟨.ret (.tup [KV (fw i), I gt]), H ++ G, none⟩) (hB : ∀ (i : Nat) (o0 o1 : AO) (G : Heap), i < w.es.length → callFL cfg0 prog0 false 14 [.agg [I (w.llo + n), I (w.lhi + n), I w.ulo, I w.uhi, .gsl (H.length + 2) w.es.length], I i] (H ++ (o0 :: o1 :: .grow 4 xs :: G)) none = some ⟨.ret (.tup [KV (fx i), I gt]), H ++ (o0 :: o1 :: .grow 4 xs :: G), none⟩) (hE : gt = 0 → ∀ i, i < w.es.length → fx i = ((fw i).1 + n, (fw i).2 + n)) (a14 a16 a17 a18 : Int) (o3 o4 o5 : AO) (ho3 : o3.lt (H.length + 7) = true) (ho4 : o4.lt (H.length + 7) = true) (ho5 : o5.lt (H.length + 7) = true) :
    ∀ (q j : Nat), j + q = w.es.length → ∀ (G : Heap), (G = [] ∨ ∃ (p : Int × Int) (r : Heap), G = .box (KV p) :: r) → ∀ E : Env, E.get 3 = .ptr H.length 0 → E.get 7 = I n → E.get 8 = .ptr (H.length + 1) 0 → E.get 11 = .ptr (H.length + 3) 0 → E.get 12 = I w.es.length → E.get 13 = .bool false → E.get 14 = I a14 → E.get 15 = .ptr (H.length + 4) 0 → E.get 16 = I a16 → E.get 17 = I a17 → E.get 18 = I a18 → E.get 213 = I w.es.length → E.get 214 = I j →
    Option.map (finishC H.length) (execL cfg0 prog0 ⟨11, none, false, H.length⟩ (todoAt Tryd.f11 29) ⟨E, [], H ++ (.box (.agg [I w.llo, I w.lhi, I w.ulo, I w.uhi, ve]) :: .box (.agg [I (w.llo + n), I (w.lhi + n), I w.ulo, I w.uhi, .gsl (H.length + 2) w.es.length]) :: .grow 4 xs :: o3 :: o4 :: o5 :: G), none⟩) = some ⟨.ret (.bool true), H, none⟩ := by
  intro q
  have s1 := h.es.scal
  have t1 := h.es.ltn 7
  induction q with
  | zero =>
    intro j hj G hG E g3 g7 g8 g11 g12 g13 g14 g15 g16 g17 g18 g213 g214
    have hk' : ¬ (j : Int) < ((w.es.length : Nat) : Int) := by omega
    simp only [loopIt, todoPast, todoAt, todoOf, firstReg, ↓reduceIte, Option.some.injEq, Nat.reduceEqDiff, reduceCtorEq, Tryd.f11]
    rw [execL_inLoop]
    rcases hG with rfl | ⟨p6, r6, rfl⟩
    · simp (maxSteps := 1000000) (implicitDefEqProofs := false) (disch := first | rfl | omega | assumption) only [go_sem, ↓reduceIte, Nat.reduceEqDiff, Nat.reduceAdd, Nat.reduceLeDiff, Nat.reduceBEq, Nat.reduceMul, Nat.reduceLT, Int.reduceLT, Int.reduceLE, Int.reduceToNat, Int.reduceNeg, Int.reduceEq, Int.reduceMul, reduceCtorEq, Int.reduceBEq, Int.reduceBNe, Int.reduceAdd, Int.reduceSub, g3, g7, g8, g11, g12, g13, g14, g15, g16, g17, g18, g213, g214, ltT, ltF, leT, leF, hk', s1, t1, hxs, ho3, ho4, ho5, law_awake]
      done
    · simp (maxSteps := 1000000) (implicitDefEqProofs := false) (disch := first | rfl | omega | assumption) only [go_sem, ↓reduceIte, Nat.reduceEqDiff, Nat.reduceAdd, Nat.reduceLeDiff, Nat.reduceBEq, Nat.reduceMul, Nat.reduceLT, Int.reduceLT, Int.reduceLE, Int.reduceToNat, Int.reduceNeg, Int.reduceEq, Int.reduceMul, reduceCtorEq, Int.reduceBEq, Int.reduceBNe, Int.reduceAdd, Int.reduceSub, g3, g7, g8, g11, g12, g13, g14, g15, g16, g17, g18, g213, g214, ltT, ltF, leT, leF, hk', s1, t1, hxs, ho3, ho4, ho5, law_awake]
      done
  | succ q ih =>
    intro j hj G hG E g3 g7 g8 g11 g12 g13 g14 g15 g16 g17 g18 g213 g214
    have hk' : (j : Int) < ((w.es.length : Nat) : Int) := by omega
    have hk2 : j < w.es.length := by omega
    simp only [loopIt, todoPast, todoAt, todoOf, firstReg, ↓reduceIte, Option.some.injEq, Nat.reduceEqDiff, reduceCtorEq, Tryd.f11]
    rw [execL_inLoop]
    have hA' := fun G => hA j G hk2
    have hB' := fun o0 o1 G => hB j o0 o1 G hk2
    have hE' := fun hg => hE hg j hk2
    have hb := hfb j
    simp only [bd] at hb
    generalize fw j = p at *
    generalize fx j = r at *
    rcases hG with rfl | ⟨p6, r6, rfl⟩
    · by_cases hg : gt = 0
      · have hr := hE' hg
        have hsm := same2 (p.1 + n) (p.2 + n) (p.1 + n) (p.2 + n)
        subst hg
        subst hr
        simp (maxSteps := 1000000) (implicitDefEqProofs := false) (disch := first | rfl | omega | assumption) only [go_sem, ↓reduceIte, Nat.reduceEqDiff, Nat.reduceAdd, Nat.reduceLeDiff, Nat.reduceBEq, Nat.reduceMul, Nat.reduceLT, Int.reduceLT, Int.reduceLE, Int.reduceToNat, Int.reduceNeg, Int.reduceEq, Int.reduceMul, reduceCtorEq, Int.reduceBEq, Int.reduceBNe, Int.reduceAdd, Int.reduceSub, g3, g7, g8, g11, g12, g13, g14, g15, g16, g17, g18, g213, g214, ltT, ltF, leT, leF, hk', s1, t1, hxs, ho3, ho4, ho5, hA', hB']
        rw [chkK_of]; rotate_left; kernel_rfl
        simp (maxSteps := 1000000) (implicitDefEqProofs := false) (disch := first | rfl | omega | assumption) only [go_sem, ↓reduceIte, Nat.reduceEqDiff, Nat.reduceAdd, Nat.reduceLeDiff, Nat.reduceBEq, Nat.reduceMul, Nat.reduceLT, Int.reduceLT, Int.reduceLE, Int.reduceToNat, Int.reduceNeg, Int.reduceEq, Int.reduceMul, reduceCtorEq, Int.reduceBEq, Int.reduceBNe, Int.reduceAdd, Int.reduceSub, g3, g7, g8, g11, g12, g13, g14, g15, g16, g17, g18, g213, g214, ltT, ltF, leT, leF, hk', s1, t1, hxs, ho3, ho4, ho5, hA', hB', law_span, hsm, decide_true, bne_self_eq_false]
        exact ih (j + 1) (by omega) [.box (KV p), .box (KV (p.1 + n, p.2 + n))] (.inr ⟨_, _, rfl⟩) _ (by rfl) (by rfl) (by rfl) (by rfl) (by rfl) (by rfl) (by rfl) (by rfl) (by rfl) (by rfl) (by rfl) (by rfl) (by rfl)
      · have z0 : (gt == 0) = false := by simpa using hg
        simp (maxSteps := 1000000) (implicitDefEqProofs := false) (disch := first | rfl | omega | assumption) only [go_sem, ↓reduceIte, Nat.reduceEqDiff, Nat.reduceAdd, Nat.reduceLeDiff, Nat.reduceBEq, Nat.reduceMul, Nat.reduceLT, Int.reduceLT, Int.reduceLE, Int.reduceToNat, Int.reduceNeg, Int.reduceEq, Int.reduceMul, reduceCtorEq, Int.reduceBEq, Int.reduceBNe, Int.reduceAdd, Int.reduceSub, g3, g7, g8, g11, g12, g13, g14, g15, g16, g17, g18, g213, g214, ltT, ltF, leT, leF, hk', s1, t1, hxs, ho3, ho4, ho5, hA', hB']
        rw [chkK_of]; rotate_left; kernel_rfl
        simp (maxSteps := 1000000) (implicitDefEqProofs := false) (disch := first | rfl | omega | assumption) only [go_sem, ↓reduceIte, Nat.reduceEqDiff, Nat.reduceAdd, Nat.reduceLeDiff, Nat.reduceBEq, Nat.reduceMul, Nat.reduceLT, Int.reduceLT, Int.reduceLE, Int.reduceToNat, Int.reduceNeg, Int.reduceEq, Int.reduceMul, reduceCtorEq, Int.reduceBEq, Int.reduceBNe, Int.reduceAdd, Int.reduceSub, g3, g7, g8, g11, g12, g13, g14, g15, g16, g17, g18, g213, g214, ltT, ltF, leT, leF, hk', s1, t1, hxs, ho3, ho4, ho5, hA', hB', law_span, z0, bne_self_eq_false]
        exact ih (j + 1) (by omega) [.box (KV p), .box (KV r)] (.inr ⟨_, _, rfl⟩) _ (by rfl) (by rfl) (by rfl) (by rfl) (by rfl) (by rfl) (by rfl) (by rfl) (by rfl) (by rfl) (by rfl) (by rfl) (by rfl)
    · by_cases hg : gt = 0
      · have hr := hE' hg
        have hsm := same2 (p.1 + n) (p.2 + n) (p.1 + n) (p.2 + n)
        subst hg
        subst hr
        simp (maxSteps := 1000000) (implicitDefEqProofs := false) (disch := first | rfl | omega | assumption) only [go_sem, ↓reduceIte, Nat.reduceEqDiff, Nat.reduceAdd, Nat.reduceLeDiff, Nat.reduceBEq, Nat.reduceMul, Nat.reduceLT, Int.reduceLT, Int.reduceLE, Int.reduceToNat, Int.reduceNeg, Int.reduceEq, Int.reduceMul, reduceCtorEq, Int.reduceBEq, Int.reduceBNe, Int.reduceAdd, Int.reduceSub, g3, g7, g8, g11, g12, g13, g14, g15, g16, g17, g18, g213, g214, ltT, ltF, leT, leF, hk', s1, t1, hxs, ho3, ho4, ho5, hA', hB']
        rw [chkK_of]; rotate_left; kernel_rfl
        simp (maxSteps := 1000000) (implicitDefEqProofs := false) (disch := first | rfl | omega | assumption) only [go_sem, ↓reduceIte, Nat.reduceEqDiff, Nat.reduceAdd, Nat.reduceLeDiff, Nat.reduceBEq, Nat.reduceMul, Nat.reduceLT, Int.reduceLT, Int.reduceLE, Int.reduceToNat, Int.reduceNeg, Int.reduceEq, Int.reduceMul, reduceCtorEq, Int.reduceBEq, Int.reduceBNe, Int.reduceAdd, Int.reduceSub, g3, g7, g8, g11, g12, g13, g14, g15, g16, g17, g18, g213, g214, ltT, ltF, leT, leF, hk', s1, t1, hxs, ho3, ho4, ho5, hA', hB', law_span, hsm, decide_true, bne_self_eq_false]
        exact ih (j + 1) (by omega) [.box (KV p6), .box (KV p), .box (KV (p.1 + n, p.2 + n))] (.inr ⟨_, _, rfl⟩) _ (by rfl) (by rfl) (by rfl) (by rfl) (by rfl) (by rfl) (by rfl) (by rfl) (by rfl) (by rfl) (by rfl) (by rfl) (by rfl)
      · have z0 : (gt == 0) = false := by simpa using hg
        simp (maxSteps := 1000000) (implicitDefEqProofs := false) (disch := first | rfl | omega | assumption) only [go_sem, ↓reduceIte, Nat.reduceEqDiff, Nat.reduceAdd, Nat.reduceLeDiff, Nat.reduceBEq, Nat.reduceMul, Nat.reduceLT, Int.reduceLT, Int.reduceLE, Int.reduceToNat, Int.reduceNeg, Int.reduceEq, Int.reduceMul, reduceCtorEq, Int.reduceBEq, Int.reduceBNe, Int.reduceAdd, Int.reduceSub, g3, g7, g8, g11, g12, g13, g14, g15, g16, g17, g18, g213, g214, ltT, ltF, leT, leF, hk', s1, t1, hxs, ho3, ho4, ho5, hA', hB']
        rw [chkK_of]; rotate_left; kernel_rfl
        simp (maxSteps := 1000000) (implicitDefEqProofs := false) (disch := first | rfl | omega | assumption) only [go_sem, ↓reduceIte, Nat.reduceEqDiff, Nat.reduceAdd, Nat.reduceLeDiff, Nat.reduceBEq, Nat.reduceMul, Nat.reduceLT, Int.reduceLT, Int.reduceLE, Int.reduceToNat, Int.reduceNeg, Int.reduceEq, Int.reduceMul, reduceCtorEq, Int.reduceBEq, Int.reduceBNe, Int.reduceAdd, Int.reduceSub, g3, g7, g8, g11, g12, g13, g14, g15, g16, g17, g18, g213, g214, ltT, ltF, leT, leF, hk', s1, t1, hxs, ho3, ho4, ho5, hA', hB', law_span, z0, bne_self_eq_false]
        exact ih (j + 1) (by omega) [.box (KV p6), .box (KV p), .box (KV r)] (.inr ⟨_, _, rfl⟩) _ (by rfl) (by rfl) (by rfl) (by rfl) (by rfl) (by rfl) (by rfl) (by rfl) (by rfl) (by rfl) (by rfl) (by rfl) (by rfl)

end Go.Ab
/-
  WearLater, walked.
-/
namespace Go.Ab
open Go.Proofs
set_option linter.unusedSimpArgs false
set_option linter.unusedVariables false
set_option maxRecDepth 100000

variable {H : Heap}

theorem rem40 {n : Int} (h : 0 ≤ n) : n.tmod 40 = n % 40 ∧ 0 ≤ n % 40 ∧ n % 40 < 40 := ⟨Int.tmod_eq_emod_of_nonneg h, Int.emod_nonneg _ (by decide), Int.emod_lt_of_pos _ (by decide)⟩

theorem gate_okL {w : Wea} {d : Int} {b : Bool} (h : w.gate d b = 0) : w.valid = true ∧ d ≤ 10 ∧ b = true ∧ w.can = true := by
  simp only [Wea.gate] at h
  cases hv : w.valid <;> simp [hv] at h
  by_cases hd : d ≤ 10 <;> simp [hd] at h
  cases b <;> simp at h
  cases hc : w.can <;> simp [hc] at h
  exact ⟨rfl, hd, rfl, rfl⟩

/-- What is told of two blocks of which as many truths are. -/
theorem gate_same {w x : Wea} (hv : w.valid = true) (hx : x.valid = true) (hc : x.can = w.can) (d : Int) (b : Bool) : x.gate d b = w.gate d b := by
  simp only [Wea.gate, hv, hx, hc]

theorem up_facts {w : Wea} (hv : w.valid = true) {n : Int} (hx : (w.up n).valid = true) {lim : Int} (h1 : wi lim (-1000) 1000 = true) (h2 : wi (lim + n) (-1000) 1000 = true) :
    (∀ d b, (w.up n).gate d b = w.gate d b) ∧ (w.up n).lostP = w.lostP ∧ (w.up n).untilP (lim + n) = w.untilP lim ∧ (w.up n).clA = w.clA ∧ (w.gate 0 true = 0 → ∀ i : Nat, i < w.es.length → (w.up n).afterP i = ((w.afterP i).1 + n, (w.afterP i).2 + n)) := by
  have ho := w.valid_iff.1 hv
  have hox := (w.up n).valid_iff.1 hx
  have hc := up_can ho hox
  have hg := fun d b => gate_same hv hx hc d b
  refine ⟨hg, ?_, ?_, ?_, fun hg0 i hi => ?_⟩
  · cases c : w.can
    · have g1 : w.gate 0 true = 10 := by simp only [Wea.gate, hv, c, if_true, if_false, Bool.false_eq_true, (show (0 : Int) ≤ 10 by decide)]
      simp only [Wea.lostP, hg, g1, if_false, (show ¬ (10 : Int) = 0 by decide)]
    · exact up_lost ho hox c
  · cases c : w.can
    · have g1 : w.gate 0 true = 10 := by simp only [Wea.gate, hv, c, if_true, if_false, Bool.false_eq_true, (show (0 : Int) ≤ 10 by decide)]
      simp only [Wea.untilP, h1, h2, hg, g1, if_false, (show ¬ (10 : Int) = 0 by decide)]
    · have g1 := gate0 hv c (d := 0) (by decide) h1
      have g2 : (w.up n).gate 0 (wi (lim + n) (-1000) 1000) = 0 := by rw [hg, h2, ← h1]; exact g1
      have hl := up_at ho hox c (Nat.le_refl w.es.length)
      refine until_eq rfl ?_ g1 g2
      have e : (w.up n).lastP = (w.up n).at (w.up n).rd (w.up n).L w.es.length := by simp only [Wea.lastP, up_len]
      rw [e, hl]
      rfl
  · simp only [Wea.clA, hv, hx, hc, if_true]
    cases c : w.can
    · simp only [Bool.false_eq_true, if_false, up_cs ho hox c]
    · rfl
  · obtain ⟨-, -, -, c⟩ := gate_okL hg0
    obtain ⟨a1, -⟩ := after_ok hv c hi
    obtain ⟨a2, -⟩ := after_ok hx (by rw [hc]; exact c) (j := i) (by rw [up_len]; exact hi)
    rw [a1, a2, up_at ho hox c (by omega)]

theorem join_facts {w : Wea} (hv : w.valid = true) (hx : w.join.valid = true) (h : 2 ≤ w.es.length) (k1 : (w.ev (w.es.length - 1)).k = 0) (k2 : (w.ev (w.es.length - 2)).k = 0) (lim : Int) :
    (∀ d b, w.join.gate d b = w.gate d b) ∧ w.join.lostP = w.lostP ∧ w.join.untilP lim = w.untilP lim ∧ w.join.afterP ((w.es.length - 2 : Nat) : Int) = w.afterP ((w.es.length - 1 : Nat) : Int) := by
  have ho := w.valid_iff.1 hv
  have hox := w.join.valid_iff.1 hx
  have hc := join_can ho hox h k1 k2
  have hg := fun d b => gate_same hv hx hc d b
  have hjl := join_len h
  refine ⟨hg, ?_, ?_, ?_⟩
  · cases c : w.can
    · have g1 : w.gate 0 true = 10 := by simp only [Wea.gate, hv, c, if_true, if_false, Bool.false_eq_true, (show (0 : Int) ≤ 10 by decide)]
      simp only [Wea.lostP, hg, g1, if_false, (show ¬ (10 : Int) = 0 by decide)]
    · exact join_lost ho hox h k1 k2 c
  · by_cases g1 : w.gate 0 (wi lim (-1000) 1000) = 0
    · obtain ⟨-, -, -, c⟩ := gate_okL g1
      have := until_eq (w := w) (x := w.join) (lim := lim) (d := 0) rfl (by rw [join_last ho hox h k1 k2 c]; omega) g1 (by rw [hg, Int.add_zero]; exact g1)
      rwa [Int.add_zero] at this
    · simp only [Wea.untilP, hg, g1, if_false]
  · have i1 : wi ((w.es.length - 1 : Nat) : Int) 0 (w.es.length - 1) = true := wi_iff.2 ⟨by omega, by omega⟩
    have i2 : wi ((w.es.length - 2 : Nat) : Int) 0 (w.join.es.length - 1) = true := wi_iff.2 ⟨by omega, by rw [hjl]; omega⟩
    simp only [Wea.afterP, i1, i2, hg]
    by_cases g1 : w.gate 0 true = 0
    · obtain ⟨-, -, -, c⟩ := gate_okL g1
      have hl := join_last ho hox h k1 k2 c
      simp only [Wea.lastP, hjl] at hl
      simp only [g1, if_true, Int.toNat_natCast, show w.es.length - 2 + 1 = w.es.length - 1 by omega, show w.es.length - 1 + 1 = w.es.length by omega]
      exact hl
    · simp only [g1, if_false]

theorem wea_sl {w : Wea} {ve : AV} (h : WeaAt [] w ve) : ∃ f, ve = .sl f (w.es.map Ev.av) := by
  obtain ⟨h1, -⟩ := h.es
  cases ve <;> simp only at h1
  · exact ⟨_, by rw [h1]⟩
  · simp at h1

end Go.Ab
/-
  WearLater, walked.
-/
namespace Go.Ab
open Go.Proofs
set_option linter.unusedSimpArgs false
set_option linter.unusedVariables false
set_option maxRecDepth 100000
set_option maxHeartbeats 4000000

variable {H : Heap}

theorem law_WearLater {w : Wea} {ve : AV} (h0 : WeaAt [] w ve) (b a : Int) (hb : 0 ≤ b ∧ b ≤ 255) (ha : 0 ≤ a ∧ a ≤ 65535) :
    callFL cfg0 prog0 false 11 [w.av ve, .int .u8 b, .int .u16 a] H none = some ⟨.ret (.bool true), H, none⟩ := by
  obtain ⟨f, hve⟩ := wea_sl h0
  have h : WeaAt H w ve := by subst hve; exact ⟨⟨rfl, by simp [Ev.av, AV.cells]⟩⟩
  have s1 := h.es.scal
  have s2 := h.es.len
  rw [List.length_map] at s2
  have hF := fun G : Heap => law_fine (h.app G)
  obtain ⟨r1, r2, r3⟩ := rem420 ha.1
  obtain ⟨q1, q2, q3⟩ := rem40 hb.1
  have hav : w.av ve = .agg [I w.llo, I w.lhi, I w.ulo, I w.uhi, ve] := rfl
  rw [hav]
  cases hf : (!w.farB 0 && w.valid)
  · simp only [hf, Wea.av] at hF
    refine (callFL_eq fn11 rfl (by simp [Tryd.f11])).trans ?_
    simp (maxSteps := 1000000) (implicitDefEqProofs := false) (disch := first | rfl | omega | assumption) only [go_sem, ↓reduceIte, Nat.reduceEqDiff, Nat.reduceAdd, Nat.reduceLeDiff, Nat.reduceBEq, Nat.reduceMul, Nat.reduceLT, Int.reduceLT, Int.reduceLE, Int.reduceToNat, Int.reduceNeg, Int.reduceEq, Int.reduceMul, reduceCtorEq, Int.reduceBEq, Int.reduceBNe, Int.reduceAdd, Int.reduceSub, ltT, ltF, leT, leF, s1, hF, law_awake]
    done
  · simp only [Bool.and_eq_true, Bool.not_eq_true'] at hf
    obtain ⟨hfar, hv⟩ := hf
    have ho := w.valid_iff.1 hv
    have h8 := ho.many
    have hlen := ho.len
    have hl : w.es.length ≤ 1000 := by omega
    simp only [hfar, hv, hav, Bool.not_false, Bool.and_self] at hF
    obtain ⟨n, hn⟩ : ∃ n, b % 40 = n := ⟨_, rfl⟩
    obtain ⟨lim, hlim⟩ : ∃ lim, a % 420 - 60 = lim := ⟨_, rfl⟩
    have wb : IntKind.i64.wrap b = b := w64 (by omega) (by omega)
    have w1 : wi lim (-1000) 1000 = true := wi_iff.2 ⟨by omega, by omega⟩
    have w2 : wi (lim + n) (-1000) 1000 = true := wi_iff.2 ⟨by omega, by omega⟩
    rw [hn] at q1 q2 q3
    have hCl := fun G : Heap => we_ClashA (h.app G) hl
    have hLo := fun G : Heap => we_Lost (h.app G) hl
    have hU := fun G : Heap => we_Until (h.app G) hl lim
    simp only [hav] at hCl hLo hU
    -- the longer block
    have hX : ∀ (o0 o1 : AO) (G : Heap), WeaAt (H ++ (o0 :: o1 :: .grow 4 ((w.up n).es.map Ev.av) :: G)) (w.up n) (.gsl (H.length + 2) w.es.length) := fun o0 o1 G => ⟨⟨⟨by simp [get_at'], by simp [Wea.up]⟩, by simp [Ev.av, AV.cells]⟩⟩
    have hxl : (w.up n).es.length ≤ 1000 := by rw [up_len]; exact hl
    have hXV := fun o0 o1 G => ref_Wear (hX o0 o1 G)
    have hXL := fun o0 o1 G => we_Lost (hX o0 o1 G) hxl
    have hXU := fun o0 o1 G => we_Until (hX o0 o1 G) hxl (lim + n)
    have hXC := fun o0 o1 G => we_ClashA (hX o0 o1 G) hxl
    have hXA := fun (i : Nat) o0 o1 G => we_After (hX o0 o1 G) hxl i
    have hxav : (w.up n).av (.gsl (H.length + 2) w.es.length) = .agg [I (w.llo + n), I (w.lhi + n), I w.ulo, I w.uhi, .gsl (H.length + 2) w.es.length] := rfl
    simp only [hxav, up_len] at hXV hXL hXU hXC hXA
    have hupf := fun hx => up_facts hv (n := n) hx w1 w2
    have t0 := evz_lt 0 (w.up n).es
    obtain ⟨a1, a2, a3, a4, a5⟩ := h.es.fA (d := ev0)
    have hr0 := fun e : Ev => (show readPart e.av.cells 0 ⟨.int .i64, 1, 8, some (.int .i64 0)⟩ = some (I e.k) from rfl)
    have hr1 := fun e : Ev => (show readPart e.av.cells 1 ⟨.int .i64, 1, 8, some (.int .i64 0)⟩ = some (I e.u) from rfl)
    have t7 := h.es.ltn 7
    have hAw := fun (i : Nat) (G : Heap) => we_After (h.app G) hl i
    simp only [hav] at hAw
    have hwi : ∀ i : Nat, i < w.es.length → wi (i : Int) 0 (w.es.length - 1) = true := fun i hi => wi_iff.2 ⟨by omega, by omega⟩
    have hA2 : ∀ (i : Nat) (G : Heap), i < w.es.length → callFL cfg0 prog0 false 14 [.agg [I w.llo, I w.lhi, I w.ulo, I w.uhi, ve], I i] (H ++ G) none = some ⟨.ret (.tup [KV ((fun i : Nat => if i < w.es.length then w.afterP i else (0, 0)) i), I (w.gate 0 true)]), H ++ G, none⟩ := fun i G hi => by
      have := hAw i G
      rw [hwi i hi] at this
      simp only [hi, if_true]
      exact this
    have hfb : ∀ i : Nat, bd 3000000 ((fun i : Nat => if i < w.es.length then w.afterP i else (0, 0)) i) := fun i => by
      by_cases hi : i < w.es.length
      · simp only [hi, if_true, Wea.afterP]
        split
        · exact bd_mono (by decide) (at_bd ho (by omega))
        · simp only [bd]; omega
      · simp only [hi, if_false, bd]; omega
    have hB2 : (w.up n).valid = true → ∀ (i : Nat) (o0 o1 : AO) (G : Heap), i < w.es.length → callFL cfg0 prog0 false 14 [.agg [I (w.llo + n), I (w.lhi + n), I w.ulo, I w.uhi, .gsl (H.length + 2) w.es.length], I i] (H ++ (o0 :: o1 :: .grow 4 ((w.up n).es.map Ev.av) :: G)) none = some ⟨.ret (.tup [KV ((w.up n).afterP i), I (w.gate 0 true)]), H ++ (o0 :: o1 :: .grow 4 ((w.up n).es.map Ev.av) :: G), none⟩ := fun hx i o0 o1 G hi => by
      have := hXA i o0 o1 G
      rw [hwi i hi, (hupf hx).1] at this
      exact this
    have hE2 : (w.up n).valid = true → w.gate 0 true = 0 → ∀ i : Nat, i < w.es.length → (w.up n).afterP i = (((fun i : Nat => if i < w.es.length then w.afterP i else (0, 0)) i).1 + n, ((fun i : Nat => if i < w.es.length then w.afterP i else (0, 0)) i).2 + n) := fun hx hg i hi => by
      simp only [hi, if_true]
      exact (hupf hx).2.2.2.2 hg i hi
    by_cases hj : 2 ≤ w.es.length ∧ (w.ev (w.es.length - 1)).k = 0 ∧ (w.ev (w.es.length - 2)).k = 0
    rotate_left
    · by_cases c2 : 2 ≤ w.es.length
      · have c2' : (2 : Int) ≤ w.es.length := by omega
        have e5 : (w.es.length : Int) - 1 = ((w.es.length - 1 : Nat) : Int) := by omega
        have e6 : (w.es.length : Int) - 2 = ((w.es.length - 2 : Nat) : Int) := by omega
        have he1 : w.es.getD (w.es.length - 1) ev0 = w.ev (w.es.length - 1) := rfl
        have he2 : w.es.getD (w.es.length - 2) ev0 = w.ev (w.es.length - 2) := rfl
        have hlt1 : ((w.es.length - 1 : Nat) : Int) < w.es.length := by omega
        by_cases k1 : (w.ev (w.es.length - 1)).k = 0
        · have k2 : ¬ (w.ev (w.es.length - 2)).k = 0 := fun hk => hj ⟨c2, k1, hk⟩
          have z1 : ((w.es.getD (w.es.length - 1) ev0).k == 0) = true := by simpa using k1
          have z2 : ((w.es.getD (w.es.length - 2) ev0).k == 0) = false := by simpa using k2
          cases hxv : (w.up n).valid
          · rw [hxv] at hXV
            refine (callFL_eq fn11 rfl (by simp [Tryd.f11])).trans ?_
            simp (maxSteps := 1000000) (implicitDefEqProofs := false) (disch := first | rfl | omega | assumption) only [go_sem, ↓reduceIte, Nat.reduceEqDiff, Nat.reduceAdd, Nat.reduceLeDiff, Nat.reduceBEq, Nat.reduceMul, Nat.reduceLT, Int.reduceLT, Int.reduceLE, Int.reduceToNat, Int.reduceNeg, Int.reduceEq, Int.reduceMul, reduceCtorEq, Int.reduceBEq, Int.reduceBNe, Int.reduceAdd, Int.reduceSub, ltT, ltF, leT, leF, s1, s2, hF, wb, q1, law_span]
            refine upx_loop h ho n (by omega) a _ _ (fun E f2 f3 f7 f8 => ?_) w.es.length 0 (by omega) [] [] rfl _ (by rfl) (by rfl) (by rfl) (by rfl) (by rfl) (by rfl) (by rfl)
            simp (maxSteps := 1000000) (implicitDefEqProofs := false) (disch := first | rfl | omega | assumption) only [go_sem, ↓reduceIte, Nat.reduceEqDiff, Nat.reduceAdd, Nat.reduceLeDiff, Nat.reduceBEq, Nat.reduceMul, Nat.reduceLT, Int.reduceLT, Int.reduceLE, Int.reduceToNat, Int.reduceNeg, Int.reduceEq, Int.reduceMul, reduceCtorEq, Int.reduceBEq, Int.reduceBNe, Int.reduceAdd, Int.reduceSub, ltT, ltF, leT, leF, s1, s2, hF, wb, q1, r1, hlim, law_span, f2, f3, f7, f8, a1, a2, a3, a4, a5, hr0, hr1, hCl, hLo, hU, c2', e5, e6, z1, z2]
            rw [chkK_of]; rotate_left; kernel_rfl
            simp (maxSteps := 1000000) (implicitDefEqProofs := false) (disch := first | rfl | omega | assumption) only [go_sem, ↓reduceIte, Nat.reduceEqDiff, Nat.reduceAdd, Nat.reduceLeDiff, Nat.reduceBEq, Nat.reduceMul, Nat.reduceLT, Int.reduceLT, Int.reduceLE, Int.reduceToNat, Int.reduceNeg, Int.reduceEq, Int.reduceMul, reduceCtorEq, Int.reduceBEq, Int.reduceBNe, Int.reduceAdd, Int.reduceSub, ltT, ltF, leT, leF, s1, s2, hF, wb, q1, r1, hlim, law_span, f2, f3, f7, f8, a1, a2, a3, a4, a5, hr0, hr1, hCl, hLo, hU, hXV, law_awake, c2', e5, e6, z1, z2]
            done
          · obtain ⟨eG, eL, eU, eC, eA⟩ := hupf hxv
            rw [hxv] at hXV
            simp only [eL, eU, eC, eG] at hXL hXU hXC hXA
            have hsm := same2 w.lostP.1 w.lostP.2 w.lostP.1 w.lostP.2
            refine (callFL_eq fn11 rfl (by simp [Tryd.f11])).trans ?_
            simp (maxSteps := 1000000) (implicitDefEqProofs := false) (disch := first | rfl | omega | assumption) only [go_sem, ↓reduceIte, Nat.reduceEqDiff, Nat.reduceAdd, Nat.reduceLeDiff, Nat.reduceBEq, Nat.reduceMul, Nat.reduceLT, Int.reduceLT, Int.reduceLE, Int.reduceToNat, Int.reduceNeg, Int.reduceEq, Int.reduceMul, reduceCtorEq, Int.reduceBEq, Int.reduceBNe, Int.reduceAdd, Int.reduceSub, ltT, ltF, leT, leF, s1, s2, hF, wb, q1, law_span]
            refine upx_loop h ho n (by omega) a _ _ (fun E f2 f3 f7 f8 => ?_) w.es.length 0 (by omega) [] [] rfl _ (by rfl) (by rfl) (by rfl) (by rfl) (by rfl) (by rfl) (by rfl)
            simp (maxSteps := 1000000) (implicitDefEqProofs := false) (disch := first | rfl | omega | assumption) only [go_sem, ↓reduceIte, Nat.reduceEqDiff, Nat.reduceAdd, Nat.reduceLeDiff, Nat.reduceBEq, Nat.reduceMul, Nat.reduceLT, Int.reduceLT, Int.reduceLE, Int.reduceToNat, Int.reduceNeg, Int.reduceEq, Int.reduceMul, reduceCtorEq, Int.reduceBEq, Int.reduceBNe, Int.reduceAdd, Int.reduceSub, ltT, ltF, leT, leF, s1, s2, hF, wb, q1, r1, hlim, law_span, f2, f3, f7, f8, a1, a2, a3, a4, a5, hr0, hr1, hCl, hLo, hU, c2', e5, e6, z1, z2]
            rw [chkK_of]; rotate_left; kernel_rfl
            simp (maxSteps := 1000000) (implicitDefEqProofs := false) (disch := first | rfl | omega | assumption) only [go_sem, ↓reduceIte, Nat.reduceEqDiff, Nat.reduceAdd, Nat.reduceLeDiff, Nat.reduceBEq, Nat.reduceMul, Nat.reduceLT, Int.reduceLT, Int.reduceLE, Int.reduceToNat, Int.reduceNeg, Int.reduceEq, Int.reduceMul, reduceCtorEq, Int.reduceBEq, Int.reduceBNe, Int.reduceAdd, Int.reduceSub, ltT, ltF, leT, leF, s1, s2, hF, wb, q1, r1, hlim, law_span, f2, f3, f7, f8, a1, a2, a3, a4, a5, hr0, hr1, hCl, hLo, hU, hXV, hXL, hXU, hXC, hsm, decide_true, bne_self_eq_false, c2', e5, e6, z1, z2]
            exact laterB h h8 n (by omega) _ t0 (fun i => if i < w.es.length then w.afterP i else (0, 0)) (fun i => (w.up n).afterP i) (w.gate 0 true) hfb hA2 (hB2 hxv) (hE2 hxv) lim _ _ _ _ _ _ (by simp [AO.lt, AV.lt, ltL, t7]) (by simp [AO.lt, AV.lt, ltL, t7]) (by simp [AO.lt, AV.lt, ltL, t7]) w.es.length 0 (by omega) [] (.inl rfl) _ (by exact f3) (by exact f7) (by exact f8) (by rfl) (by rfl) (by rfl) (by rfl) (by rfl) (by rfl) (by rfl) (by rfl) (by rfl) (by rfl)
        · have z1 : ((w.es.getD (w.es.length - 1) ev0).k == 0) = false := by simpa using k1
          cases hxv : (w.up n).valid
          · rw [hxv] at hXV
            refine (callFL_eq fn11 rfl (by simp [Tryd.f11])).trans ?_
            simp (maxSteps := 1000000) (implicitDefEqProofs := false) (disch := first | rfl | omega | assumption) only [go_sem, ↓reduceIte, Nat.reduceEqDiff, Nat.reduceAdd, Nat.reduceLeDiff, Nat.reduceBEq, Nat.reduceMul, Nat.reduceLT, Int.reduceLT, Int.reduceLE, Int.reduceToNat, Int.reduceNeg, Int.reduceEq, Int.reduceMul, reduceCtorEq, Int.reduceBEq, Int.reduceBNe, Int.reduceAdd, Int.reduceSub, ltT, ltF, leT, leF, s1, s2, hF, wb, q1, law_span]
            refine upx_loop h ho n (by omega) a _ _ (fun E f2 f3 f7 f8 => ?_) w.es.length 0 (by omega) [] [] rfl _ (by rfl) (by rfl) (by rfl) (by rfl) (by rfl) (by rfl) (by rfl)
            simp (maxSteps := 1000000) (implicitDefEqProofs := false) (disch := first | rfl | omega | assumption) only [go_sem, ↓reduceIte, Nat.reduceEqDiff, Nat.reduceAdd, Nat.reduceLeDiff, Nat.reduceBEq, Nat.reduceMul, Nat.reduceLT, Int.reduceLT, Int.reduceLE, Int.reduceToNat, Int.reduceNeg, Int.reduceEq, Int.reduceMul, reduceCtorEq, Int.reduceBEq, Int.reduceBNe, Int.reduceAdd, Int.reduceSub, ltT, ltF, leT, leF, s1, s2, hF, wb, q1, r1, hlim, law_span, f2, f3, f7, f8, a1, a2, a3, a4, a5, hr0, hr1, hCl, hLo, hU, c2', e5, e6, z1]
            rw [chkK_of]; rotate_left; kernel_rfl
            simp (maxSteps := 1000000) (implicitDefEqProofs := false) (disch := first | rfl | omega | assumption) only [go_sem, ↓reduceIte, Nat.reduceEqDiff, Nat.reduceAdd, Nat.reduceLeDiff, Nat.reduceBEq, Nat.reduceMul, Nat.reduceLT, Int.reduceLT, Int.reduceLE, Int.reduceToNat, Int.reduceNeg, Int.reduceEq, Int.reduceMul, reduceCtorEq, Int.reduceBEq, Int.reduceBNe, Int.reduceAdd, Int.reduceSub, ltT, ltF, leT, leF, s1, s2, hF, wb, q1, r1, hlim, law_span, f2, f3, f7, f8, a1, a2, a3, a4, a5, hr0, hr1, hCl, hLo, hU, hXV, law_awake, c2', e5, e6, z1]
            done
          · obtain ⟨eG, eL, eU, eC, eA⟩ := hupf hxv
            rw [hxv] at hXV
            simp only [eL, eU, eC, eG] at hXL hXU hXC hXA
            have hsm := same2 w.lostP.1 w.lostP.2 w.lostP.1 w.lostP.2
            refine (callFL_eq fn11 rfl (by simp [Tryd.f11])).trans ?_
            simp (maxSteps := 1000000) (implicitDefEqProofs := false) (disch := first | rfl | omega | assumption) only [go_sem, ↓reduceIte, Nat.reduceEqDiff, Nat.reduceAdd, Nat.reduceLeDiff, Nat.reduceBEq, Nat.reduceMul, Nat.reduceLT, Int.reduceLT, Int.reduceLE, Int.reduceToNat, Int.reduceNeg, Int.reduceEq, Int.reduceMul, reduceCtorEq, Int.reduceBEq, Int.reduceBNe, Int.reduceAdd, Int.reduceSub, ltT, ltF, leT, leF, s1, s2, hF, wb, q1, law_span]
            refine upx_loop h ho n (by omega) a _ _ (fun E f2 f3 f7 f8 => ?_) w.es.length 0 (by omega) [] [] rfl _ (by rfl) (by rfl) (by rfl) (by rfl) (by rfl) (by rfl) (by rfl)
            simp (maxSteps := 1000000) (implicitDefEqProofs := false) (disch := first | rfl | omega | assumption) only [go_sem, ↓reduceIte, Nat.reduceEqDiff, Nat.reduceAdd, Nat.reduceLeDiff, Nat.reduceBEq, Nat.reduceMul, Nat.reduceLT, Int.reduceLT, Int.reduceLE, Int.reduceToNat, Int.reduceNeg, Int.reduceEq, Int.reduceMul, reduceCtorEq, Int.reduceBEq, Int.reduceBNe, Int.reduceAdd, Int.reduceSub, ltT, ltF, leT, leF, s1, s2, hF, wb, q1, r1, hlim, law_span, f2, f3, f7, f8, a1, a2, a3, a4, a5, hr0, hr1, hCl, hLo, hU, c2', e5, e6, z1]
            rw [chkK_of]; rotate_left; kernel_rfl
            simp (maxSteps := 1000000) (implicitDefEqProofs := false) (disch := first | rfl | omega | assumption) only [go_sem, ↓reduceIte, Nat.reduceEqDiff, Nat.reduceAdd, Nat.reduceLeDiff, Nat.reduceBEq, Nat.reduceMul, Nat.reduceLT, Int.reduceLT, Int.reduceLE, Int.reduceToNat, Int.reduceNeg, Int.reduceEq, Int.reduceMul, reduceCtorEq, Int.reduceBEq, Int.reduceBNe, Int.reduceAdd, Int.reduceSub, ltT, ltF, leT, leF, s1, s2, hF, wb, q1, r1, hlim, law_span, f2, f3, f7, f8, a1, a2, a3, a4, a5, hr0, hr1, hCl, hLo, hU, hXV, hXL, hXU, hXC, hsm, decide_true, bne_self_eq_false, c2', e5, e6, z1]
            exact laterB h h8 n (by omega) _ t0 (fun i => if i < w.es.length then w.afterP i else (0, 0)) (fun i => (w.up n).afterP i) (w.gate 0 true) hfb hA2 (hB2 hxv) (hE2 hxv) lim _ _ _ _ _ _ (by simp [AO.lt, AV.lt, ltL, t7]) (by simp [AO.lt, AV.lt, ltL, t7]) (by simp [AO.lt, AV.lt, ltL, t7]) w.es.length 0 (by omega) [] (.inl rfl) _ (by exact f3) (by exact f7) (by exact f8) (by rfl) (by rfl) (by rfl) (by rfl) (by rfl) (by rfl) (by rfl) (by rfl) (by rfl) (by rfl)
      · have c2' : ¬ (2 : Int) ≤ w.es.length := by omega
        cases hxv : (w.up n).valid
        · rw [hxv] at hXV
          refine (callFL_eq fn11 rfl (by simp [Tryd.f11])).trans ?_
          simp (maxSteps := 1000000) (implicitDefEqProofs := false) (disch := first | rfl | omega | assumption) only [go_sem, ↓reduceIte, Nat.reduceEqDiff, Nat.reduceAdd, Nat.reduceLeDiff, Nat.reduceBEq, Nat.reduceMul, Nat.reduceLT, Int.reduceLT, Int.reduceLE, Int.reduceToNat, Int.reduceNeg, Int.reduceEq, Int.reduceMul, reduceCtorEq, Int.reduceBEq, Int.reduceBNe, Int.reduceAdd, Int.reduceSub, ltT, ltF, leT, leF, s1, s2, hF, wb, q1, law_span]
          refine upx_loop h ho n (by omega) a _ _ (fun E f2 f3 f7 f8 => ?_) w.es.length 0 (by omega) [] [] rfl _ (by rfl) (by rfl) (by rfl) (by rfl) (by rfl) (by rfl) (by rfl)
          simp (maxSteps := 1000000) (implicitDefEqProofs := false) (disch := first | rfl | omega | assumption) only [go_sem, ↓reduceIte, Nat.reduceEqDiff, Nat.reduceAdd, Nat.reduceLeDiff, Nat.reduceBEq, Nat.reduceMul, Nat.reduceLT, Int.reduceLT, Int.reduceLE, Int.reduceToNat, Int.reduceNeg, Int.reduceEq, Int.reduceMul, reduceCtorEq, Int.reduceBEq, Int.reduceBNe, Int.reduceAdd, Int.reduceSub, ltT, ltF, leT, leF, s1, s2, hF, wb, q1, r1, hlim, law_span, f2, f3, f7, f8, a1, a2, a3, a4, a5, hr0, hr1, hCl, hLo, hU, c2']
          rw [chkK_of]; rotate_left; kernel_rfl
          simp (maxSteps := 1000000) (implicitDefEqProofs := false) (disch := first | rfl | omega | assumption) only [go_sem, ↓reduceIte, Nat.reduceEqDiff, Nat.reduceAdd, Nat.reduceLeDiff, Nat.reduceBEq, Nat.reduceMul, Nat.reduceLT, Int.reduceLT, Int.reduceLE, Int.reduceToNat, Int.reduceNeg, Int.reduceEq, Int.reduceMul, reduceCtorEq, Int.reduceBEq, Int.reduceBNe, Int.reduceAdd, Int.reduceSub, ltT, ltF, leT, leF, s1, s2, hF, wb, q1, r1, hlim, law_span, f2, f3, f7, f8, a1, a2, a3, a4, a5, hr0, hr1, hCl, hLo, hU, hXV, law_awake, c2']
          done
        · obtain ⟨eG, eL, eU, eC, eA⟩ := hupf hxv
          rw [hxv] at hXV
          simp only [eL, eU, eC, eG] at hXL hXU hXC hXA
          have hsm := same2 w.lostP.1 w.lostP.2 w.lostP.1 w.lostP.2
          refine (callFL_eq fn11 rfl (by simp [Tryd.f11])).trans ?_
          simp (maxSteps := 1000000) (implicitDefEqProofs := false) (disch := first | rfl | omega | assumption) only [go_sem, ↓reduceIte, Nat.reduceEqDiff, Nat.reduceAdd, Nat.reduceLeDiff, Nat.reduceBEq, Nat.reduceMul, Nat.reduceLT, Int.reduceLT, Int.reduceLE, Int.reduceToNat, Int.reduceNeg, Int.reduceEq, Int.reduceMul, reduceCtorEq, Int.reduceBEq, Int.reduceBNe, Int.reduceAdd, Int.reduceSub, ltT, ltF, leT, leF, s1, s2, hF, wb, q1, law_span]
          refine upx_loop h ho n (by omega) a _ _ (fun E f2 f3 f7 f8 => ?_) w.es.length 0 (by omega) [] [] rfl _ (by rfl) (by rfl) (by rfl) (by rfl) (by rfl) (by rfl) (by rfl)
          simp (maxSteps := 1000000) (implicitDefEqProofs := false) (disch := first | rfl | omega | assumption) only [go_sem, ↓reduceIte, Nat.reduceEqDiff, Nat.reduceAdd, Nat.reduceLeDiff, Nat.reduceBEq, Nat.reduceMul, Nat.reduceLT, Int.reduceLT, Int.reduceLE, Int.reduceToNat, Int.reduceNeg, Int.reduceEq, Int.reduceMul, reduceCtorEq, Int.reduceBEq, Int.reduceBNe, Int.reduceAdd, Int.reduceSub, ltT, ltF, leT, leF, s1, s2, hF, wb, q1, r1, hlim, law_span, f2, f3, f7, f8, a1, a2, a3, a4, a5, hr0, hr1, hCl, hLo, hU, c2']
          rw [chkK_of]; rotate_left; kernel_rfl
          simp (maxSteps := 1000000) (implicitDefEqProofs := false) (disch := first | rfl | omega | assumption) only [go_sem, ↓reduceIte, Nat.reduceEqDiff, Nat.reduceAdd, Nat.reduceLeDiff, Nat.reduceBEq, Nat.reduceMul, Nat.reduceLT, Int.reduceLT, Int.reduceLE, Int.reduceToNat, Int.reduceNeg, Int.reduceEq, Int.reduceMul, reduceCtorEq, Int.reduceBEq, Int.reduceBNe, Int.reduceAdd, Int.reduceSub, ltT, ltF, leT, leF, s1, s2, hF, wb, q1, r1, hlim, law_span, f2, f3, f7, f8, a1, a2, a3, a4, a5, hr0, hr1, hCl, hLo, hU, hXV, hXL, hXU, hXC, hsm, decide_true, bne_self_eq_false, c2']
          exact laterB h h8 n (by omega) _ t0 (fun i => if i < w.es.length then w.afterP i else (0, 0)) (fun i => (w.up n).afterP i) (w.gate 0 true) hfb hA2 (hB2 hxv) (hE2 hxv) lim _ _ _ _ _ _ (by simp [AO.lt, AV.lt, ltL, t7]) (by simp [AO.lt, AV.lt, ltL, t7]) (by simp [AO.lt, AV.lt, ltL, t7]) w.es.length 0 (by omega) [] (.inl rfl) _ (by exact f3) (by exact f7) (by exact f8) (by rfl) (by rfl) (by rfl) (by rfl) (by rfl) (by rfl) (by rfl) (by rfl) (by rfl) (by rfl)
    · obtain ⟨c2, k1, k2⟩ := hj
      subst hve
      have c2' : (2 : Int) ≤ w.es.length := by omega
      have e5 : (w.es.length : Int) - 1 = ((w.es.length - 1 : Nat) : Int) := by omega
      have e6 : (w.es.length : Int) - 2 = ((w.es.length - 2 : Nat) : Int) := by omega
      have e8 : w.es.length - 2 + 1 = w.es.length - 1 := by omega
      have z1 : ((w.es.getD (w.es.length - 1) ev0).k == 0) = true := by simpa using k1
      have z2 : ((w.es.getD (w.es.length - 2) ev0).k == 0) = true := by simpa using k2
      have u1 : 0 ≤ (w.es.getD (w.es.length - 1) ev0).u ∧ (w.es.getD (w.es.length - 1) ev0).u ≤ 20 := by
        rcases ho.ev (w.es.length - 1) (by omega) with ⟨_, x⟩ | ⟨y, _⟩ | ⟨y, _⟩
        · exact x
        · exact absurd (k1.symm.trans y) (by decide)
        · exact absurd (k1.symm.trans y) (by decide)
      have u2 : 0 ≤ (w.es.getD (w.es.length - 2) ev0).u ∧ (w.es.getD (w.es.length - 2) ev0).u ≤ 20 := by
        rcases ho.ev (w.es.length - 2) (by omega) with ⟨_, x⟩ | ⟨y, _⟩ | ⟨y, _⟩
        · exact x
        · exact absurd (k2.symm.trans y) (by decide)
        · exact absurd (k2.symm.trans y) (by decide)
      have hall : ((w.es.map Ev.av).all fun v => v.cells.length == 4) = true := by simp [Ev.av, AV.cells]
      have hdr : List.drop 0 (List.take (w.es.length - 2) (w.es.map Ev.av)) = (w.es.take (w.es.length - 2)).map Ev.av := by rw [List.drop_zero, List.map_take]
      have hadd1 := fun (A : Heap) => add_full (H := A) (sz := 4) (a := true) (xs := []) (ys := (w.es.take (w.es.length - 2)).map Ev.av) rfl rfl (evz_ok _) (evz_lt 0 _) (by simp; omega) rfl
      have htl : min (w.es.length - 2) w.es.length = w.es.length - 2 := by omega
      simp only [List.length_nil, Nat.zero_add, List.nil_append, List.length_map, List.length_take, htl] at hadd1
      have hjes : (w.es.take (w.es.length - 2)).map Ev.av ++ [.agg [I 0, I ((w.es.getD (w.es.length - 1) ev0).u + (w.es.getD (w.es.length - 2) ev0).u), I 0, I 0]] = w.join.es.map Ev.av := by simp only [Wea.join, List.map_append]; rfl
      have hadd2 : ∀ o0 o1 o2 o3 : AO, addElem (H ++ [o0, o1, o2, o3, .grow 4 ((w.es.take (w.es.length - 2)).map Ev.av)]) 4 true (.gsl (H.length + 4) (w.es.length - 2)) [.agg [I 0, I ((w.es.getD (w.es.length - 1) ev0).u + (w.es.getD (w.es.length - 2) ev0).u), I 0, I 0]] = some (.gsl (H.length + 4) (w.es.length - 1), H ++ [o0, o1, o2, o3, .grow 4 (w.join.es.map Ev.av)]) := by
        intro o0 o1 o2 o3
        rw [add_gsl (xs := (w.es.take (w.es.length - 2)).map Ev.av) (by rw [get_at']; rfl) (by rw [List.length_map, List.length_take, htl]) rfl rfl (by simp; omega), set_at', hjes, List.length_cons, List.length_nil, Nat.zero_add, e8]
        rfl
      have hjl := join_len c2
      have o1 := h.es.old
      have o2 := fun (k : Int) (off : Nat) => ptrOf_elA (k := k) (off := off) h.es
      have hY : ∀ (o0 o1 o2 o3 : AO) (G : Heap), WeaAt (H ++ (o0 :: o1 :: o2 :: o3 :: .grow 4 (w.join.es.map Ev.av) :: G)) w.join (.gsl (H.length + 4) (w.es.length - 1)) := fun o0 o1 o2 o3 G => ⟨⟨⟨by simp [get_at'], by simp [hjl]⟩, by simp [Ev.av, AV.cells]⟩⟩
      have hyl : w.join.es.length ≤ 1000 := by rw [hjl]; omega
      have hYV := fun o0 o1 o2 o3 G => ref_Wear (hY o0 o1 o2 o3 G)
      have hYL := fun o0 o1 o2 o3 G => we_Lost (hY o0 o1 o2 o3 G) hyl
      have hYU := fun o0 o1 o2 o3 G => we_Until (hY o0 o1 o2 o3 G) hyl lim
      have hYA := fun o0 o1 o2 o3 G => we_After (hY o0 o1 o2 o3 G) hyl ((w.es.length - 2 : Nat) : Int)
      have hjav : w.join.av (.gsl (H.length + 4) (w.es.length - 1)) = .agg [I w.llo, I w.lhi, I w.ulo, I w.uhi, .gsl (H.length + 4) (w.es.length - 1)] := rfl
      simp only [hjav] at hYV hYL hYU hYA
      have hwj : wi ((w.es.length - 2 : Nat) : Int) 0 (w.join.es.length - 1) = true := wi_iff.2 ⟨by omega, by rw [hjl]; omega⟩
      have hjf := fun hx => join_facts hv hx c2 k1 k2 lim
      have hAl := fun G : Heap => hAw (w.es.length - 1) G
      rw [hwi _ (by omega)] at hAl
      have hsm := same2 w.lostP.1 w.lostP.2 w.lostP.1 w.lostP.2
      have hsma := same2 (w.afterP ((w.es.length - 1 : Nat) : Int)).1 (w.afterP ((w.es.length - 1 : Nat) : Int)).2 (w.afterP ((w.es.length - 1 : Nat) : Int)).1 (w.afterP ((w.es.length - 1 : Nat) : Int)).2
      cases hxv : (w.up n).valid
      · rw [hxv] at hXV
        cases hyv : w.join.valid
        · rw [hyv] at hYV
          refine (callFL_eq fn11 rfl (by simp [Tryd.f11])).trans ?_
          simp (maxSteps := 1000000) (implicitDefEqProofs := false) (disch := first | rfl | omega | assumption) only [go_sem, ↓reduceIte, Nat.reduceEqDiff, Nat.reduceAdd, Nat.reduceLeDiff, Nat.reduceBEq, Nat.reduceMul, Nat.reduceLT, Int.reduceLT, Int.reduceLE, Int.reduceToNat, Int.reduceNeg, Int.reduceEq, Int.reduceMul, reduceCtorEq, Int.reduceBEq, Int.reduceBNe, Int.reduceAdd, Int.reduceSub, ltT, ltF, leT, leF, s1, s2, hF, wb, q1, law_span]
          refine upx_loop h ho n (by omega) a _ _ (fun E f2 f3 f7 f8 => ?_) w.es.length 0 (by omega) [] [] rfl _ (by rfl) (by rfl) (by rfl) (by rfl) (by rfl) (by rfl) (by rfl)
          simp (maxSteps := 1000000) (implicitDefEqProofs := false) (disch := first | rfl | omega | assumption) only [go_sem, ↓reduceIte, Nat.reduceEqDiff, Nat.reduceAdd, Nat.reduceLeDiff, Nat.reduceBEq, Nat.reduceMul, Nat.reduceLT, Int.reduceLT, Int.reduceLE, Int.reduceToNat, Int.reduceNeg, Int.reduceEq, Int.reduceMul, reduceCtorEq, Int.reduceBEq, Int.reduceBNe, Int.reduceAdd, Int.reduceSub, ltT, ltF, leT, leF, s1, s2, hF, wb, q1, r1, hlim, law_span, f2, f3, f7, f8, a1, a2, a3, a4, a5, hr0, hr1, hCl, hLo, hU, c2', e5, e6, e8, z1, z2, hall, hdr, hadd1, hadd2, law_uses, hjes, List.length_map, List.length_take, o1, o2, ld_ne, ld_eq, or_none']
          rw [chkK_of]; rotate_left; kernel_rfl
          simp (maxSteps := 1000000) (implicitDefEqProofs := false) (disch := first | rfl | omega | assumption) only [go_sem, ↓reduceIte, Nat.reduceEqDiff, Nat.reduceAdd, Nat.reduceLeDiff, Nat.reduceBEq, Nat.reduceMul, Nat.reduceLT, Int.reduceLT, Int.reduceLE, Int.reduceToNat, Int.reduceNeg, Int.reduceEq, Int.reduceMul, reduceCtorEq, Int.reduceBEq, Int.reduceBNe, Int.reduceAdd, Int.reduceSub, ltT, ltF, leT, leF, s1, s2, hF, wb, q1, r1, hlim, law_span, f2, f3, f7, f8, a1, a2, a3, a4, a5, hr0, hr1, hCl, hLo, hU, c2', e5, e6, e8, z1, z2, hall, hdr, hadd1, hadd2, law_uses, hjes, List.length_map, List.length_take, o1, o2, ld_ne, ld_eq, or_none']
          rw [chkK_of]; rotate_left; kernel_rfl
          simp (maxSteps := 1000000) (implicitDefEqProofs := false) (disch := first | rfl | omega | assumption) only [go_sem, ↓reduceIte, Nat.reduceEqDiff, Nat.reduceAdd, Nat.reduceLeDiff, Nat.reduceBEq, Nat.reduceMul, Nat.reduceLT, Int.reduceLT, Int.reduceLE, Int.reduceToNat, Int.reduceNeg, Int.reduceEq, Int.reduceMul, reduceCtorEq, Int.reduceBEq, Int.reduceBNe, Int.reduceAdd, Int.reduceSub, ltT, ltF, leT, leF, s1, s2, hF, wb, q1, r1, hlim, law_span, f2, f3, f7, f8, a1, a2, a3, a4, a5, hr0, hr1, hCl, hLo, hU, c2', e5, e6, e8, z1, z2, hall, hdr, hadd1, hadd2, law_uses, hjes, List.length_map, List.length_take, o1, o2, ld_ne, ld_eq, or_none', hXV, hYV, law_awake]
          done
        · obtain ⟨jG, jL, jU, jA⟩ := hjf hyv
          rw [hyv] at hYV
          simp only [jL, jU, jA, jG, hwj] at hYL hYU hYA
          refine (callFL_eq fn11 rfl (by simp [Tryd.f11])).trans ?_
          simp (maxSteps := 1000000) (implicitDefEqProofs := false) (disch := first | rfl | omega | assumption) only [go_sem, ↓reduceIte, Nat.reduceEqDiff, Nat.reduceAdd, Nat.reduceLeDiff, Nat.reduceBEq, Nat.reduceMul, Nat.reduceLT, Int.reduceLT, Int.reduceLE, Int.reduceToNat, Int.reduceNeg, Int.reduceEq, Int.reduceMul, reduceCtorEq, Int.reduceBEq, Int.reduceBNe, Int.reduceAdd, Int.reduceSub, ltT, ltF, leT, leF, s1, s2, hF, wb, q1, law_span]
          refine upx_loop h ho n (by omega) a _ _ (fun E f2 f3 f7 f8 => ?_) w.es.length 0 (by omega) [] [] rfl _ (by rfl) (by rfl) (by rfl) (by rfl) (by rfl) (by rfl) (by rfl)
          simp (maxSteps := 1000000) (implicitDefEqProofs := false) (disch := first | rfl | omega | assumption) only [go_sem, ↓reduceIte, Nat.reduceEqDiff, Nat.reduceAdd, Nat.reduceLeDiff, Nat.reduceBEq, Nat.reduceMul, Nat.reduceLT, Int.reduceLT, Int.reduceLE, Int.reduceToNat, Int.reduceNeg, Int.reduceEq, Int.reduceMul, reduceCtorEq, Int.reduceBEq, Int.reduceBNe, Int.reduceAdd, Int.reduceSub, ltT, ltF, leT, leF, s1, s2, hF, wb, q1, r1, hlim, law_span, f2, f3, f7, f8, a1, a2, a3, a4, a5, hr0, hr1, hCl, hLo, hU, c2', e5, e6, e8, z1, z2, hall, hdr, hadd1, hadd2, law_uses, hjes, List.length_map, List.length_take, o1, o2, ld_ne, ld_eq, or_none']
          rw [chkK_of]; rotate_left; kernel_rfl
          simp (maxSteps := 1000000) (implicitDefEqProofs := false) (disch := first | rfl | omega | assumption) only [go_sem, ↓reduceIte, Nat.reduceEqDiff, Nat.reduceAdd, Nat.reduceLeDiff, Nat.reduceBEq, Nat.reduceMul, Nat.reduceLT, Int.reduceLT, Int.reduceLE, Int.reduceToNat, Int.reduceNeg, Int.reduceEq, Int.reduceMul, reduceCtorEq, Int.reduceBEq, Int.reduceBNe, Int.reduceAdd, Int.reduceSub, ltT, ltF, leT, leF, s1, s2, hF, wb, q1, r1, hlim, law_span, f2, f3, f7, f8, a1, a2, a3, a4, a5, hr0, hr1, hCl, hLo, hU, c2', e5, e6, e8, z1, z2, hall, hdr, hadd1, hadd2, law_uses, hjes, List.length_map, List.length_take, o1, o2, ld_ne, ld_eq, or_none']
          rw [chkK_of]; rotate_left; kernel_rfl
          simp (maxSteps := 1000000) (implicitDefEqProofs := false) (disch := first | rfl | omega | assumption) only [go_sem, ↓reduceIte, Nat.reduceEqDiff, Nat.reduceAdd, Nat.reduceLeDiff, Nat.reduceBEq, Nat.reduceMul, Nat.reduceLT, Int.reduceLT, Int.reduceLE, Int.reduceToNat, Int.reduceNeg, Int.reduceEq, Int.reduceMul, reduceCtorEq, Int.reduceBEq, Int.reduceBNe, Int.reduceAdd, Int.reduceSub, ltT, ltF, leT, leF, s1, s2, hF, wb, q1, r1, hlim, law_span, f2, f3, f7, f8, a1, a2, a3, a4, a5, hr0, hr1, hCl, hLo, hU, c2', e5, e6, e8, z1, z2, hall, hdr, hadd1, hadd2, law_uses, hjes, List.length_map, List.length_take, o1, o2, ld_ne, ld_eq, or_none', hXV, hYV, hYL, hYU, hYA, hAl, hsm, hsma, decide_true, beq_self_eq_true, law_awake]
          done
      · obtain ⟨eG, eL, eU, eC, eA⟩ := hupf hxv
        rw [hxv] at hXV
        simp only [eL, eU, eC, eG] at hXL hXU hXC hXA
        cases hyv : w.join.valid
        · rw [hyv] at hYV
          refine (callFL_eq fn11 rfl (by simp [Tryd.f11])).trans ?_
          simp (maxSteps := 1000000) (implicitDefEqProofs := false) (disch := first | rfl | omega | assumption) only [go_sem, ↓reduceIte, Nat.reduceEqDiff, Nat.reduceAdd, Nat.reduceLeDiff, Nat.reduceBEq, Nat.reduceMul, Nat.reduceLT, Int.reduceLT, Int.reduceLE, Int.reduceToNat, Int.reduceNeg, Int.reduceEq, Int.reduceMul, reduceCtorEq, Int.reduceBEq, Int.reduceBNe, Int.reduceAdd, Int.reduceSub, ltT, ltF, leT, leF, s1, s2, hF, wb, q1, law_span]
          refine upx_loop h ho n (by omega) a _ _ (fun E f2 f3 f7 f8 => ?_) w.es.length 0 (by omega) [] [] rfl _ (by rfl) (by rfl) (by rfl) (by rfl) (by rfl) (by rfl) (by rfl)
          simp (maxSteps := 1000000) (implicitDefEqProofs := false) (disch := first | rfl | omega | assumption) only [go_sem, ↓reduceIte, Nat.reduceEqDiff, Nat.reduceAdd, Nat.reduceLeDiff, Nat.reduceBEq, Nat.reduceMul, Nat.reduceLT, Int.reduceLT, Int.reduceLE, Int.reduceToNat, Int.reduceNeg, Int.reduceEq, Int.reduceMul, reduceCtorEq, Int.reduceBEq, Int.reduceBNe, Int.reduceAdd, Int.reduceSub, ltT, ltF, leT, leF, s1, s2, hF, wb, q1, r1, hlim, law_span, f2, f3, f7, f8, a1, a2, a3, a4, a5, hr0, hr1, hCl, hLo, hU, c2', e5, e6, e8, z1, z2, hall, hdr, hadd1, hadd2, law_uses, hjes, List.length_map, List.length_take, o1, o2, ld_ne, ld_eq, or_none']
          rw [chkK_of]; rotate_left; kernel_rfl
          simp (maxSteps := 1000000) (implicitDefEqProofs := false) (disch := first | rfl | omega | assumption) only [go_sem, ↓reduceIte, Nat.reduceEqDiff, Nat.reduceAdd, Nat.reduceLeDiff, Nat.reduceBEq, Nat.reduceMul, Nat.reduceLT, Int.reduceLT, Int.reduceLE, Int.reduceToNat, Int.reduceNeg, Int.reduceEq, Int.reduceMul, reduceCtorEq, Int.reduceBEq, Int.reduceBNe, Int.reduceAdd, Int.reduceSub, ltT, ltF, leT, leF, s1, s2, hF, wb, q1, r1, hlim, law_span, f2, f3, f7, f8, a1, a2, a3, a4, a5, hr0, hr1, hCl, hLo, hU, c2', e5, e6, e8, z1, z2, hall, hdr, hadd1, hadd2, law_uses, hjes, List.length_map, List.length_take, o1, o2, ld_ne, ld_eq, or_none']
          rw [chkK_of]; rotate_left; kernel_rfl
          simp (maxSteps := 1000000) (implicitDefEqProofs := false) (disch := first | rfl | omega | assumption) only [go_sem, ↓reduceIte, Nat.reduceEqDiff, Nat.reduceAdd, Nat.reduceLeDiff, Nat.reduceBEq, Nat.reduceMul, Nat.reduceLT, Int.reduceLT, Int.reduceLE, Int.reduceToNat, Int.reduceNeg, Int.reduceEq, Int.reduceMul, reduceCtorEq, Int.reduceBEq, Int.reduceBNe, Int.reduceAdd, Int.reduceSub, ltT, ltF, leT, leF, s1, s2, hF, wb, q1, r1, hlim, law_span, f2, f3, f7, f8, a1, a2, a3, a4, a5, hr0, hr1, hCl, hLo, hU, c2', e5, e6, e8, z1, z2, hall, hdr, hadd1, hadd2, law_uses, hjes, List.length_map, List.length_take, o1, o2, ld_ne, ld_eq, or_none', hXV, hXL, hXU, hXC, hsm, decide_true, bne_self_eq_false]
          refine laterA h h8 n (by omega) _ t0 (fun i => if i < w.es.length then w.afterP i else (0, 0)) (fun i => (w.up n).afterP i) (w.gate 0 true) hfb hA2 (hB2 hxv) (hE2 hxv) lim _ _ _ _ _ _ _ (by simp [AO.lt, AV.lt, ltL, evz_lt]) (by simp [AO.lt, AV.lt, ltL, evz_lt]) (by simp [AO.lt, AV.lt, ltL, evz_lt]) (by simp [AO.lt, AV.lt, ltL, evz_lt]) _ _ (fun E d3 d7 d8 d11 d12 d13 d14 d15 d16 d17 d18 => ?_) w.es.length 0 (by omega) [] _ (by exact f3) (by exact f7) (by exact f8) (by rfl) (by rfl) (by rfl) (by rfl) (by rfl) (by rfl) (by rfl) (by rfl) (by rfl) (by rfl)
          simp (maxSteps := 1000000) (implicitDefEqProofs := false) (disch := first | rfl | omega | assumption) only [go_sem, ↓reduceIte, Nat.reduceEqDiff, Nat.reduceAdd, Nat.reduceLeDiff, Nat.reduceBEq, Nat.reduceMul, Nat.reduceLT, Int.reduceLT, Int.reduceLE, Int.reduceToNat, Int.reduceNeg, Int.reduceEq, Int.reduceMul, reduceCtorEq, Int.reduceBEq, Int.reduceBNe, Int.reduceAdd, Int.reduceSub, ltT, ltF, leT, leF, s1, s2, d3, d7, d8, d11, d12, d13, d14, d15, d16, d17, d18, e5, e6, hYV, law_awake]
          done
        · obtain ⟨jG, jL, jU, jA⟩ := hjf hyv
          rw [hyv] at hYV
          simp only [jL, jU, jA, jG, hwj] at hYL hYU hYA
          refine (callFL_eq fn11 rfl (by simp [Tryd.f11])).trans ?_
          simp (maxSteps := 1000000) (implicitDefEqProofs := false) (disch := first | rfl | omega | assumption) only [go_sem, ↓reduceIte, Nat.reduceEqDiff, Nat.reduceAdd, Nat.reduceLeDiff, Nat.reduceBEq, Nat.reduceMul, Nat.reduceLT, Int.reduceLT, Int.reduceLE, Int.reduceToNat, Int.reduceNeg, Int.reduceEq, Int.reduceMul, reduceCtorEq, Int.reduceBEq, Int.reduceBNe, Int.reduceAdd, Int.reduceSub, ltT, ltF, leT, leF, s1, s2, hF, wb, q1, law_span]
          refine upx_loop h ho n (by omega) a _ _ (fun E f2 f3 f7 f8 => ?_) w.es.length 0 (by omega) [] [] rfl _ (by rfl) (by rfl) (by rfl) (by rfl) (by rfl) (by rfl) (by rfl)
          simp (maxSteps := 1000000) (implicitDefEqProofs := false) (disch := first | rfl | omega | assumption) only [go_sem, ↓reduceIte, Nat.reduceEqDiff, Nat.reduceAdd, Nat.reduceLeDiff, Nat.reduceBEq, Nat.reduceMul, Nat.reduceLT, Int.reduceLT, Int.reduceLE, Int.reduceToNat, Int.reduceNeg, Int.reduceEq, Int.reduceMul, reduceCtorEq, Int.reduceBEq, Int.reduceBNe, Int.reduceAdd, Int.reduceSub, ltT, ltF, leT, leF, s1, s2, hF, wb, q1, r1, hlim, law_span, f2, f3, f7, f8, a1, a2, a3, a4, a5, hr0, hr1, hCl, hLo, hU, c2', e5, e6, e8, z1, z2, hall, hdr, hadd1, hadd2, law_uses, hjes, List.length_map, List.length_take, o1, o2, ld_ne, ld_eq, or_none']
          rw [chkK_of]; rotate_left; kernel_rfl
          simp (maxSteps := 1000000) (implicitDefEqProofs := false) (disch := first | rfl | omega | assumption) only [go_sem, ↓reduceIte, Nat.reduceEqDiff, Nat.reduceAdd, Nat.reduceLeDiff, Nat.reduceBEq, Nat.reduceMul, Nat.reduceLT, Int.reduceLT, Int.reduceLE, Int.reduceToNat, Int.reduceNeg, Int.reduceEq, Int.reduceMul, reduceCtorEq, Int.reduceBEq, Int.reduceBNe, Int.reduceAdd, Int.reduceSub, ltT, ltF, leT, leF, s1, s2, hF, wb, q1, r1, hlim, law_span, f2, f3, f7, f8, a1, a2, a3, a4, a5, hr0, hr1, hCl, hLo, hU, c2', e5, e6, e8, z1, z2, hall, hdr, hadd1, hadd2, law_uses, hjes, List.length_map, List.length_take, o1, o2, ld_ne, ld_eq, or_none']
          rw [chkK_of]; rotate_left; kernel_rfl
          simp (maxSteps := 1000000) (implicitDefEqProofs := false) (disch := first | rfl | omega | assumption) only [go_sem, ↓reduceIte, Nat.reduceEqDiff, Nat.reduceAdd, Nat.reduceLeDiff, Nat.reduceBEq, Nat.reduceMul, Nat.reduceLT, Int.reduceLT, Int.reduceLE, Int.reduceToNat, Int.reduceNeg, Int.reduceEq, Int.reduceMul, reduceCtorEq, Int.reduceBEq, Int.reduceBNe, Int.reduceAdd, Int.reduceSub, ltT, ltF, leT, leF, s1, s2, hF, wb, q1, r1, hlim, law_span, f2, f3, f7, f8, a1, a2, a3, a4, a5, hr0, hr1, hCl, hLo, hU, c2', e5, e6, e8, z1, z2, hall, hdr, hadd1, hadd2, law_uses, hjes, List.length_map, List.length_take, o1, o2, ld_ne, ld_eq, or_none', hXV, hXL, hXU, hXC, hsm, decide_true, bne_self_eq_false]
          refine laterA h h8 n (by omega) _ t0 (fun i => if i < w.es.length then w.afterP i else (0, 0)) (fun i => (w.up n).afterP i) (w.gate 0 true) hfb hA2 (hB2 hxv) (hE2 hxv) lim _ _ _ _ _ _ _ (by simp [AO.lt, AV.lt, ltL, evz_lt]) (by simp [AO.lt, AV.lt, ltL, evz_lt]) (by simp [AO.lt, AV.lt, ltL, evz_lt]) (by simp [AO.lt, AV.lt, ltL, evz_lt]) _ _ (fun E d3 d7 d8 d11 d12 d13 d14 d15 d16 d17 d18 => ?_) w.es.length 0 (by omega) [] _ (by exact f3) (by exact f7) (by exact f8) (by rfl) (by rfl) (by rfl) (by rfl) (by rfl) (by rfl) (by rfl) (by rfl) (by rfl) (by rfl)
          simp (maxSteps := 1000000) (implicitDefEqProofs := false) (disch := first | rfl | omega | assumption) only [go_sem, ↓reduceIte, Nat.reduceEqDiff, Nat.reduceAdd, Nat.reduceLeDiff, Nat.reduceBEq, Nat.reduceMul, Nat.reduceLT, Int.reduceLT, Int.reduceLE, Int.reduceToNat, Int.reduceNeg, Int.reduceEq, Int.reduceMul, reduceCtorEq, Int.reduceBEq, Int.reduceBNe, Int.reduceAdd, Int.reduceSub, ltT, ltF, leT, leF, s1, s2, d3, d7, d8, d11, d12, d13, d14, d15, d16, d17, d18, e5, e6, hYV, hYL, hYU, hYA, hAl, hsm, hsma, decide_true, beq_self_eq_true, law_awake]
          done

end Go.Ab
