/-
  The reference, walked: powers, sets, steps.
-/
import Derived.Test.YtlnfcahmdnnabaaDoorKK3
import Derived.Test.YtlnfcahmdnnabaaDoorKK2
import Derived.Test.YtlnfcahmdnnabaaDoorKK1
namespace Go.Ab
open Go.Proofs
set_option linter.unusedSimpArgs false
set_option linter.unusedVariables false
set_option maxRecDepth 100000

variable {H : Heap}

theorem ld_ne {k m : Nat} {o : Option Nat} {r : Lds} (h : m ≠ k) : getAt (addLd k o r) m = getAt r m := by
  cases o
  · rfl
  · simp only [addLd, getAt]; rw [if_neg (Ne.symm h)]

theorem ld_eq {k : Nat} {o : Option Nat} {r : Lds} : getAt (addLd k o r) k = o.or (getAt r k) := by
  cases o
  · simp [addLd]
  · simp [addLd, getAt]

/-- What lies at a slice that was there before has not turned by what is made later. -/
theorem SlOk.old {sz : Nat} {v : AV} {xs : List AV} (h : SlOk H sz v xs) (A B : Heap) : pairM (some (H ++ A, H ++ B)) (gslOf v) = true := by
  rcases h.obj with hg | ⟨l, hg, hlt, hget⟩
  · rw [hg]; rfl
  · rw [hg, pairM_some]
    have hs : ∀ l : List AV, sameL l l = true := fun l => by
      induction l with
      | nil => rfl
      | cons x r ih => simp [sameL, AV.same_refl, ih]
    simp only [sameAt, List.getElem?_append_left hlt, hget, AO.same, hs]
    simp

theorem or_none' (o : Option Nat) : o.or none = o := by cases o <;> rfl

theorem pow_le {j n : Nat} (h : j ≤ n) : (2 : Nat) ^ j ≤ 2 ^ n := Nat.pow_le_pow_right (by omega) h

theorem wN {m : Nat} (h : m < 2 ^ 62) : IntKind.i64.wrap (m : Int) = m := w64 (by omega) (by omega)

abbrev pw (n : Nat) : Int := ((2 ^ n : Nat) : Int)

theorem power_loop (n : Nat) (hn : n ≤ 60) :
    ∀ (q j : Nat), j + q = n → ∀ E : Env, E.get 0 = I n → E.get 3 = I (pw j) → E.get 4 = I j →
    Option.map (finishC H.length) (execL cfg0 prog0 ⟨54, none, false, H.length⟩ (todoAt Tryd.f54 3) ⟨E, [], H, none⟩) = some ⟨.ret (I (pw n)), H, none⟩ := by
  intro q
  skip
  induction q with
  | zero =>
    intro j hj  E g0 g3 g4
    have hk' : ¬ (j : Int) < ((n : Nat) : Int) := by omega
    have ej : j = n := by omega
    subst ej
    simp only [loopIt, todoPast, todoAt, todoOf, firstReg, ↓reduceIte, Option.some.injEq, Nat.reduceEqDiff, reduceCtorEq, Tryd.f54]
    rw [execL_inLoop]
    simp (maxSteps := 1000000) (implicitDefEqProofs := false) (disch := first | rfl | omega | assumption) only [go_sem, ↓reduceIte, Nat.reduceEqDiff, Nat.reduceAdd, Nat.reduceLeDiff, Nat.reduceBEq, Nat.reduceMul, Nat.reduceLT, Int.reduceLT, Int.reduceLE, Int.reduceToNat, Int.reduceNeg, Int.reduceEq, Int.reduceMul, reduceCtorEq, Int.reduceBEq, Int.reduceBNe, Int.reduceAdd, Int.reduceSub, g0, g3, g4, ltT, ltF, leT, leF, hk']
  | succ q ih =>
    intro j hj  E g0 g3 g4
    have hk' : (j : Int) < ((n : Nat) : Int) := by omega
    have hk2 : j < n := by omega
    have p1 := pow_le (show j + 1 ≤ 60 by omega)
    have e1 : (2 : Int) * ((2 ^ j : Nat) : Int) = ((2 ^ (j + 1) : Nat) : Int) := by rw [Nat.pow_succ]; omega
    have e2 := wN (m := 2 ^ (j + 1)) (by omega)
    simp only [loopIt, todoPast, todoAt, todoOf, firstReg, ↓reduceIte, Option.some.injEq, Nat.reduceEqDiff, reduceCtorEq, Tryd.f54]
    rw [execL_inLoop]
    simp (maxSteps := 1000000) (implicitDefEqProofs := false) (disch := first | rfl | omega | assumption) only [go_sem, ↓reduceIte, Nat.reduceEqDiff, Nat.reduceAdd, Nat.reduceLeDiff, Nat.reduceBEq, Nat.reduceMul, Nat.reduceLT, Int.reduceLT, Int.reduceLE, Int.reduceToNat, Int.reduceNeg, Int.reduceEq, Int.reduceMul, reduceCtorEq, Int.reduceBEq, Int.reduceBNe, Int.reduceAdd, Int.reduceSub, g0, g3, g4, ltT, ltF, leT, leF, hk', e1, e2]
    exact ih (j + 1) (by omega) _ (by exact g0) (by rfl) (by rfl)

theorem ref_power (n : Nat) (hn : n ≤ 60) (H : Heap) : callFL cfg0 prog0 false 54 [I n] H none = some ⟨.ret (I (pw n)), H, none⟩ := by
  refine (callFL_eq fn54 rfl (by simp [Tryd.f54])).trans ?_
  simp (maxSteps := 1000000) (implicitDefEqProofs := false) (disch := first | rfl | omega | assumption) only [go_sem, ↓reduceIte, Nat.reduceEqDiff, Nat.reduceAdd, Nat.reduceLeDiff, Nat.reduceBEq, Nat.reduceMul, Nat.reduceLT, Int.reduceLT, Int.reduceLE, Int.reduceToNat, Int.reduceNeg, Int.reduceEq, Int.reduceMul, reduceCtorEq, Int.reduceBEq, Int.reduceBNe, Int.reduceAdd, Int.reduceSub, ltT, ltF, leT, leF]
  exact power_loop n hn n 0 (by omega) _ (by rfl) (by rfl) (by rfl)

theorem ref_Has {s n : Nat} (hs : s < 2 ^ 60) (hn : n ≤ 60) (H : Heap) : callFL cfg0 prog0 false 74 [I s, I n] H none = some ⟨.ret (.bool (s.testBit n)), H, none⟩ := by
  have hp := fun G : Heap => ref_power n hn G
  have p1 := pow_le hn
  have p2 : 0 < (2 : Nat) ^ n := Nat.two_pow_pos n
  have e1 : ((s : Nat) : Int).tdiv ((2 ^ n : Nat) : Int) = ((s / 2 ^ n : Nat) : Int) := rfl
  have e2 : ((s / 2 ^ n : Nat) : Int).tmod 2 = ((s / 2 ^ n % 2 : Nat) : Int) := rfl
  have e3 : (((s / 2 ^ n % 2 : Nat) : Int) == 1) = s.testBit n := by
    rw [Nat.testBit_eq_decide_div_mod_eq]
    have : s / 2 ^ n % 2 = 0 ∨ s / 2 ^ n % 2 = 1 := by omega
    rcases this with h | h <;> rw [h] <;> rfl
  have z : ((2 ^ n : Nat) : Int) ≠ 0 := by omega
  have d := div_lt (j := n) hs
  have e4 : IntKind.i64.wrap ((s / 2 ^ n : Nat) : Int) = ((s / 2 ^ n : Nat) : Int) := wN (by omega)
  refine (callFL_eq fn74 rfl (by simp [Tryd.f74])).trans ?_
  simp (maxSteps := 1000000) (implicitDefEqProofs := false) (disch := first | rfl | omega | assumption) only [go_sem, ↓reduceIte, Nat.reduceEqDiff, Nat.reduceAdd, Nat.reduceLeDiff, Nat.reduceBEq, Nat.reduceMul, Nat.reduceLT, Int.reduceLT, Int.reduceLE, Int.reduceToNat, Int.reduceNeg, Int.reduceEq, Int.reduceMul, reduceCtorEq, Int.reduceBEq, Int.reduceBNe, Int.reduceAdd, Int.reduceSub, ltT, ltF, leT, leF, hp, e1, e2, e3, e4, z]

def takP (w : Wea) (e : Ev) : Int × Int := if e.k = 0 then (e.u * w.ulo, e.u * w.uhi) else if e.k = 2 then (e.lo, e.hi) else (0, 0)

theorem ref_takes {w : Wea} {ve : AV} (h : WeaAt H w ve) (ho : w.Ok) (e : Ev) (he : e.ok = true) : callFL cfg0 prog0 false 92 [w.av ve, e.av] H none = some ⟨.ret (KV (takP w e)), H, none⟩ := by
  have s1 := h.es.scal
  have hu := ho.use
  simp only [Wea.av, Ev.av, takP]
  rcases (Ev.ok_iff e).1 he with ⟨k0, k1⟩ | ⟨k0, k1⟩ | ⟨k0, k1⟩
  · have b1 := mul_bd k1 (show 0 ≤ w.ulo ∧ w.ulo ≤ 3 by omega)
    have b2 := mul_bd k1 (show 0 ≤ w.uhi ∧ w.uhi ≤ 3 by omega)
    refine (callFL_eq fn92 rfl (by simp [Tryd.f92])).trans ?_
    simp (maxSteps := 1000000) (implicitDefEqProofs := false) (disch := first | rfl | omega | assumption) only [go_sem, ↓reduceIte, Nat.reduceEqDiff, Nat.reduceAdd, Nat.reduceLeDiff, Nat.reduceBEq, Nat.reduceMul, Nat.reduceLT, Int.reduceLT, Int.reduceLE, Int.reduceToNat, Int.reduceNeg, Int.reduceEq, Int.reduceMul, reduceCtorEq, Int.reduceBEq, Int.reduceBNe, Int.reduceAdd, Int.reduceSub, ltT, ltF, leT, leF, s1, k0]
  · refine (callFL_eq fn92 rfl (by simp [Tryd.f92])).trans ?_
    simp (maxSteps := 1000000) (implicitDefEqProofs := false) (disch := first | rfl | omega | assumption) only [go_sem, ↓reduceIte, Nat.reduceEqDiff, Nat.reduceAdd, Nat.reduceLeDiff, Nat.reduceBEq, Nat.reduceMul, Nat.reduceLT, Int.reduceLT, Int.reduceLE, Int.reduceToNat, Int.reduceNeg, Int.reduceEq, Int.reduceMul, reduceCtorEq, Int.reduceBEq, Int.reduceBNe, Int.reduceAdd, Int.reduceSub, ltT, ltF, leT, leF, s1, k0]
  · refine (callFL_eq fn92 rfl (by simp [Tryd.f92])).trans ?_
    simp (maxSteps := 1000000) (implicitDefEqProofs := false) (disch := first | rfl | omega | assumption) only [go_sem, ↓reduceIte, Nat.reduceEqDiff, Nat.reduceAdd, Nat.reduceLeDiff, Nat.reduceBEq, Nat.reduceMul, Nat.reduceLT, Int.reduceLT, Int.reduceLE, Int.reduceToNat, Int.reduceNeg, Int.reduceEq, Int.reduceMul, reduceCtorEq, Int.reduceBEq, Int.reduceBNe, Int.reduceAdd, Int.reduceSub, ltT, ltF, leT, leF, s1, k0]

/-- One step of the reference. -/
def nxE (w : Wea) (e : Ev) (b : Bool) (l : Int × Int) : Int × Int :=
  if (decide (e.k = 1) && b) = true then (max (l.1 - (takP w e).2) e.lo, min (l.2 - (takP w e).1) e.hi) else (l.1 - (takP w e).2, l.2 - (takP w e).1)

theorem takP_bd {w : Wea} (ho : w.Ok) {e : Ev} (he : e.ok = true) : 0 ≤ (takP w e).1 ∧ (takP w e).1 ≤ (takP w e).2 ∧ (takP w e).2 ≤ 60 := by
  have hu := ho.use
  simp only [takP]
  rcases (Ev.ok_iff e).1 he with ⟨k0, k1⟩ | ⟨k0, k1⟩ | ⟨k0, k1⟩
  · have b1 := mul_bd k1 (show 0 ≤ w.ulo ∧ w.ulo ≤ 3 by omega)
    have b2 := mul_bd k1 (show 0 ≤ w.uhi ∧ w.uhi ≤ 3 by omega)
    have b3 : e.u * w.ulo ≤ e.u * w.uhi := Int.mul_le_mul_of_nonneg_left (by omega) (by omega)
    rw [if_pos k0]
    simp only
    omega
  · rw [if_neg (by omega), if_neg (by omega)]
    simp only
    omega
  · rw [if_neg (by omega), if_pos k0]
    simp only
    omega

theorem ref_next {w : Wea} {ve : AV} (h : WeaAt H w ve) (ho : w.Ok) (e : Ev) (he : e.ok = true) (l : Int × Int) (hb : bd 1000000 l) (b : Bool) :
    callFL cfg0 prog0 false 84 [w.av ve, KV l, e.av, .bool b] H none = some ⟨.ret (KV (nxE w e b l)), H, none⟩ := by
  have s1 := h.es.scal
  have hT := fun G : Heap => ref_takes (h.app G) ho e he
  obtain ⟨t1, t2, t3⟩ := takP_bd ho he
  simp only [bd] at hb
  have hmx : ∀ a c : Int, (if a < c then c else a) = max a c := by intro a c; split <;> omega
  have hmn : ∀ a c : Int, (if c < a then c else a) = min a c := by intro a c; split <;> omega
  simp only [Wea.av, Ev.av, nxE] at hT ⊢
  generalize takP w e = t at *
  by_cases hk : e.k = 1
  · have hk' : (e.k == 1) = true := beq_iff_eq.2 hk
    have dk : decide (e.k = 1) = true := decide_eq_true hk
    cases b
    · refine (callFL_eq fn84 rfl (by simp [Tryd.f84])).trans ?_
      simp (maxSteps := 1000000) (implicitDefEqProofs := false) (disch := first | rfl | omega | assumption) only [go_sem, ↓reduceIte, Nat.reduceEqDiff, Nat.reduceAdd, Nat.reduceLeDiff, Nat.reduceBEq, Nat.reduceMul, Nat.reduceLT, Int.reduceLT, Int.reduceLE, Int.reduceToNat, Int.reduceNeg, Int.reduceEq, Int.reduceMul, reduceCtorEq, Int.reduceBEq, Int.reduceBNe, Int.reduceAdd, Int.reduceSub, ltT, ltF, leT, leF, s1, hT, dk, hk', hmx, hmn, Bool.true_and, Bool.and_true]
      done
    · refine (callFL_eq fn84 rfl (by simp [Tryd.f84])).trans ?_
      simp (maxSteps := 1000000) (implicitDefEqProofs := false) (disch := first | rfl | omega | assumption) only [go_sem, ↓reduceIte, Nat.reduceEqDiff, Nat.reduceAdd, Nat.reduceLeDiff, Nat.reduceBEq, Nat.reduceMul, Nat.reduceLT, Int.reduceLT, Int.reduceLE, Int.reduceToNat, Int.reduceNeg, Int.reduceEq, Int.reduceMul, reduceCtorEq, Int.reduceBEq, Int.reduceBNe, Int.reduceAdd, Int.reduceSub, ltT, ltF, leT, leF, s1, hT, dk, hk', hmx, hmn, Bool.true_and, Bool.and_true]
      done
  · have hk' : (e.k == 1) = false := beq_eq_false_iff_ne.2 hk
    have dk : decide (e.k = 1) = false := decide_eq_false hk
    refine (callFL_eq fn84 rfl (by simp [Tryd.f84])).trans ?_
    simp (maxSteps := 1000000) (implicitDefEqProofs := false) (disch := first | rfl | omega | assumption) only [go_sem, ↓reduceIte, Nat.reduceEqDiff, Nat.reduceAdd, Nat.reduceLeDiff, Nat.reduceBEq, Nat.reduceMul, Nat.reduceLT, Int.reduceLT, Int.reduceLE, Int.reduceToNat, Int.reduceNeg, Int.reduceEq, Int.reduceMul, reduceCtorEq, Int.reduceBEq, Int.reduceBNe, Int.reduceAdd, Int.reduceSub, ltT, ltF, leT, leF, s1, hT, dk, hk', hmx, hmn, Bool.false_and]
    done

/-- The reference's run. -/
def Wea.runP (w : Wea) (s : Nat) (l : Int × Int) : Nat → Nat → Int × Int
  | _, 0 => l
  | i, q + 1 => if l.1 ≤ l.2 then w.runP s (nxE w (w.ev i) (s.testBit i) l) (i + 1) q else l

theorem nxE_bd {w : Wea} (ho : w.Ok) {e : Ev} (he : e.ok = true) (b : Bool) {l : Int × Int} {K : Int} (hK : 1000 ≤ K) (h : bd K l) : bd (K + 60) (nxE w e b l) := by
  obtain ⟨t1, t2, t3⟩ := takP_bd ho he
  simp only [bd, nxE] at h ⊢
  by_cases hk : e.k = 1
  · rcases (Ev.ok_iff e).1 he with ⟨k0, k1⟩ | ⟨k0, k1⟩ | ⟨k0, k1⟩
    · omega
    · split <;> simp only <;> omega
    · omega
  · simp only [hk, decide_false, Bool.false_and, Bool.false_eq_true, if_false]
    omega

theorem ok_ev {w : Wea} (ho : w.Ok) {i : Nat} (hi : i < w.es.length) : (w.ev i).ok = true := (Ev.ok_iff _).2 (ho.ev i hi)

theorem run_loop {w : Wea} {ve : AV} (h : WeaAt H w ve) (ho : w.Ok) (s : Nat) (hs : s < 2 ^ 60) (n : Nat) (hn : n ≤ w.es.length) :
    ∀ (q j : Nat), j + q = n → ∀ (l : Int × Int), bd (100000 + 60 * j) l → ∀ E : Env, E.get 3 = I n → E.get 4 = I s → E.get 5 = .ptr H.length 0 → E.get 6 = .ptr (H.length + 1) 0 → E.get 10 = .ptr (H.length + 2) 0 → E.get 11 = I j →
    Option.map (finishC H.length) (execL cfg0 prog0 ⟨50, none, false, H.length⟩ (todoAt Tryd.f50 2) ⟨E, [], H ++ [.box (w.av ve), .box (KV l), .box (KV (0, 0))], none⟩) = some ⟨.ret (KV (w.runP s l j q)), H, none⟩ := by
  intro q
  have h8 := ho.many
  have s1 := h.es.scal
  obtain ⟨a1, a2, a3, a4, a5⟩ := h.es.fA (d := ev0)
  simp only [Wea.av]
  induction q with
  | zero =>
    intro j hj l hl E g3 g4 g5 g6 g10 g11
    have hk' : ¬ (j : Int) < ((n : Nat) : Int) := by omega
    simp only [loopIt, todoPast, todoAt, todoOf, firstReg, ↓reduceIte, Option.some.injEq, Nat.reduceEqDiff, reduceCtorEq, Tryd.f50]
    rw [execL_inLoop]
    simp (maxSteps := 1000000) (implicitDefEqProofs := false) (disch := first | rfl | omega | assumption) only [go_sem, ↓reduceIte, Nat.reduceEqDiff, Nat.reduceAdd, Nat.reduceLeDiff, Nat.reduceBEq, Nat.reduceMul, Nat.reduceLT, Int.reduceLT, Int.reduceLE, Int.reduceToNat, Int.reduceNeg, Int.reduceEq, Int.reduceMul, reduceCtorEq, Int.reduceBEq, Int.reduceBNe, Int.reduceAdd, Int.reduceSub, g3, g4, g5, g6, g10, g11, ltT, ltF, leT, leF, hk', s1, Wea.runP]
    done
  | succ q ih =>
    intro j hj l hl E g3 g4 g5 g6 g10 g11
    have hk' : (j : Int) < ((n : Nat) : Int) := by omega
    have hk2 : j < n := by omega
    simp only [Wea.runP]
    have hj8 : j < w.es.length := by omega
    have hH := fun G : Heap => ref_Has hs (show j ≤ 60 by omega) G
    have hN := fun G : Heap => ref_next (h.app G) ho (w.es.getD j ev0) (ok_ev ho hj8) l (bd_mono (by omega) hl) (s.testBit j)
    have hr : readPart (w.es.getD j ev0).av.cells 0 ⟨.struct [(0, 3), (1, 3), (2, 23)], 4, 32, some (.agg #[.int .i64 0, .int .i64 0, .int .i64 0, .int .i64 0])⟩ = some (w.es.getD j ev0).av := rfl
    have hb' := nxE_bd ho (ok_ev ho hj8) (s.testBit j) (by omega) hl
    have o1 := h.es.old
    have o2 := fun (k : Int) (off : Nat) => ptrOf_elA (k := k) (off := off) h.es
    simp only [Wea.av] at hN
    by_cases hc : l.1 ≤ l.2
    · skip
      simp only [loopIt, todoPast, todoAt, todoOf, firstReg, ↓reduceIte, Option.some.injEq, Nat.reduceEqDiff, reduceCtorEq, Tryd.f50]
      rw [execL_inLoop]
      simp (maxSteps := 1000000) (implicitDefEqProofs := false) (disch := first | rfl | omega | assumption) only [go_sem, ↓reduceIte, Nat.reduceEqDiff, Nat.reduceAdd, Nat.reduceLeDiff, Nat.reduceBEq, Nat.reduceMul, Nat.reduceLT, Int.reduceLT, Int.reduceLE, Int.reduceToNat, Int.reduceNeg, Int.reduceEq, Int.reduceMul, reduceCtorEq, Int.reduceBEq, Int.reduceBNe, Int.reduceAdd, Int.reduceSub, g3, g4, g5, g6, g10, g11, ltT, ltF, leT, leF, hk', s1, hc]
      rw [chkK_of]; rotate_left; kernel_rfl
      simp (maxSteps := 1000000) (implicitDefEqProofs := false) (disch := first | rfl | omega | assumption) only [go_sem, ↓reduceIte, Nat.reduceEqDiff, Nat.reduceAdd, Nat.reduceLeDiff, Nat.reduceBEq, Nat.reduceMul, Nat.reduceLT, Int.reduceLT, Int.reduceLE, Int.reduceToNat, Int.reduceNeg, Int.reduceEq, Int.reduceMul, reduceCtorEq, Int.reduceBEq, Int.reduceBNe, Int.reduceAdd, Int.reduceSub, g3, g4, g5, g6, g10, g11, ltT, ltF, leT, leF, hk', s1, hc, a1, a2, a3, a4, hr, hH, hN, o1, o2, ld_ne, ld_eq, or_none']
      exact ih (j + 1) (by omega) _ (bd_mono (by omega) hb') _ (by exact g3) (by exact g4) (by exact g5) (by exact g6) (by exact g10) (by rfl)
    · skip
      simp only [loopIt, todoPast, todoAt, todoOf, firstReg, ↓reduceIte, Option.some.injEq, Nat.reduceEqDiff, reduceCtorEq, Tryd.f50]
      rw [execL_inLoop]
      simp (maxSteps := 1000000) (implicitDefEqProofs := false) (disch := first | rfl | omega | assumption) only [go_sem, ↓reduceIte, Nat.reduceEqDiff, Nat.reduceAdd, Nat.reduceLeDiff, Nat.reduceBEq, Nat.reduceMul, Nat.reduceLT, Int.reduceLT, Int.reduceLE, Int.reduceToNat, Int.reduceNeg, Int.reduceEq, Int.reduceMul, reduceCtorEq, Int.reduceBEq, Int.reduceBNe, Int.reduceAdd, Int.reduceSub, g3, g4, g5, g6, g10, g11, ltT, ltF, leT, leF, hk', s1, hc]

end Go.Ab
/-
  What truly was, by remainders: plain, and draws walked.
-/
namespace Go.Ab
open Go.Proofs
set_option linter.unusedSimpArgs false
set_option linter.unusedVariables false
set_option maxRecDepth 100000

variable {H : Heap}

abbrev U16 (n : Int) : AV := .int .u16 n

/-- A number of a span, by remainders. -/
def drawV (b : List Int) (k : Nat) (lo hi : Int) : Int := if b.length = 0 then lo else lo + (b.getD (k % b.length) 0 + 29 * k) % (hi - lo + 1)

theorem drawV_in (b : List Int) (k : Nat) {lo hi : Int} (h : lo ≤ hi) : lo ≤ drawV b k lo hi ∧ drawV b k lo hi ≤ hi := by
  simp only [drawV]
  split
  · omega
  · have h1 := Int.emod_nonneg (b.getD (k % b.length) 0 + 29 * k) (show hi - lo + 1 ≠ 0 by omega)
    have h2 := Int.emod_lt_of_pos (b.getD (k % b.length) 0 + 29 * k) (show 0 < hi - lo + 1 by omega)
    omega

theorem SlOk.setb {sz : Nat} {v : AV} {xs : List AV} (h : SlOk H sz v xs) {p : Nat} {x : AV} (hp : H[p]? = some (.box x)) (o : AO) : SlOk (H.set p o) sz v xs := by
  obtain ⟨h1, h2⟩ := h
  refine ⟨?_, h2⟩
  cases v <;> simp only at h1 ⊢
  · exact h1
  · refine ⟨?_, h1.2⟩
    rw [List.getElem?_set_ne (by rintro rfl; rw [hp] at h1; cases h1.1)]
    exact h1.1

theorem law_draw {p q : Nat} {v : AV} {b : List Int} {k : Nat} (hp : H[p]? = some (.box (I k))) (hq : H[q]? = some (.box v)) (hv : SlOk H 1 v (b.map U16)) (hb : ∀ i, i < b.length → 0 ≤ b.getD i 0 ∧ b.getD i 0 ≤ 65535) (hbl : b.length ≤ 9223372036854775807) (hk : k ≤ 100000) {lo hi : Int} (hs : -1000000 ≤ lo ∧ lo ≤ hi ∧ hi ≤ 1000000) :
    callVL cfg0 prog0 false (.func 75) [KV (lo, hi)] [.ptr p 0, .ptr q 0] H none = some ⟨.ret (I (drawV b (k + 1) lo hi)), H.set p (.box (I ((k + 1 : Nat) : Int))), none⟩ := by
  have lp : p < H.length := (List.getElem?_eq_some_iff.1 hp).1
  have lq : q < H.length := (List.getElem?_eq_some_iff.1 hq).1
  have hpq : p ≠ q := by
    rintro rfl
    rw [hp] at hq
    injection hq with hq
    injection hq with hq
    have := hv.1
    rw [← hq] at this
    exact this
  have e0 : (k : Int) + 1 = ((k + 1 : Nat) : Int) := rfl
  have hv2 := hv.setb hp (.box (I ((k + 1 : Nat) : Int)))
  have s1 := hv2.scal
  have s3 := hv2.cel
  have s2 := hv2.len
  rw [List.length_map] at s2
  have hw := (hv2.app [.box (KV (lo, hi))]).len
  obtain ⟨a1, a2, a3, a4, a5⟩ := hv2.fA (d := 0)
  have q1 : (H.set p (.box (I ((k + 1 : Nat) : Int))))[p]? = some (.box (I ((k + 1 : Nat) : Int))) := List.getElem?_set_self lp
  have q2 : (H.set p (.box (I ((k + 1 : Nat) : Int))))[q]? = some (.box v) := by rw [List.getElem?_set_ne hpq]; exact hq
  have ln : (H.set p (.box (I ((k + 1 : Nat) : Int)))).length = H.length := by simp
  have g1 : ∀ G : Heap, (H ++ G)[p]? = some (.box (I k)) := fun G => by rw [get_lt lp]; exact hp
  have g2 : ∀ (G : Heap) (o : AO), (H ++ G).set p o = H.set p o ++ G := fun G o => set_lt lp
  have g3 : ∀ G : Heap, (H.set p (.box (I ((k + 1 : Nat) : Int))) ++ G)[p]? = some (.box (I ((k + 1 : Nat) : Int))) := fun G => by rw [get_lt (by simpa using lp)]; exact q1
  have g4 : ∀ G : Heap, (H.set p (.box (I ((k + 1 : Nat) : Int))) ++ G)[q]? = some (.box v) := fun G => by rw [get_lt (by simpa using lq)]; exact q2
  simp only [callVL_func, List.append_nil, List.cons_append, List.nil_append]
  by_cases hz : b.length = 0
  · have hz' : ((b.length : Int) == 0) = true := by simp [hz]
    have hd : drawV b (k + 1) lo hi = lo := by simp only [drawV, hz, if_true]
    rw [hd]
    refine (callFL_eq fn75 rfl (by simp [Tryd.f75])).trans ?_
    simp (maxSteps := 1000000) (implicitDefEqProofs := false) (disch := first | rfl | omega | assumption) only [go_sem, ↓reduceIte, Nat.reduceEqDiff, Nat.reduceAdd, Nat.reduceLeDiff, Nat.reduceBEq, Nat.reduceMul, Nat.reduceLT, Int.reduceLT, Int.reduceLE, Int.reduceToNat, Int.reduceNeg, Int.reduceEq, Int.reduceMul, reduceCtorEq, Int.reduceBEq, Int.reduceBNe, Int.reduceAdd, Int.reduceSub, ltT, ltF, leT, leF, g1, g2, g3, g4, e0, s1, s2, s3, hz', hw]
    done
  · have hz' : ((b.length : Int) == 0) = false := by simp; exact fun h => hz (by simp [h])
    obtain ⟨x, hx⟩ : ∃ x, (k + 1) % b.length = x := ⟨_, rfl⟩
    have hxl : x < b.length := by rw [← hx]; exact Nat.mod_lt _ (by omega)
    have hbx := hb x hxl
    have r1 : ((k + 1 : Nat) : Int).tmod (b.length : Int) = (x : Int) := by rw [← hx]; rfl
    have hd : drawV b (k + 1) lo hi = lo + (b.getD x 0 + 29 * ((k + 1 : Nat) : Int)) % (hi - lo + 1) := by simp only [drawV, hz, if_false, hx]
    have r2 : (b.getD x 0 + 29 * ((k + 1 : Nat) : Int)).tmod (hi - lo + 1) = (b.getD x 0 + 29 * ((k + 1 : Nat) : Int)) % (hi - lo + 1) := Int.tmod_eq_emod_of_nonneg (by omega)
    have h1 := Int.emod_nonneg (b.getD x 0 + 29 * ((k + 1 : Nat) : Int)) (show hi - lo + 1 ≠ 0 by omega)
    have h2 := Int.emod_lt_of_pos (b.getD x 0 + 29 * ((k + 1 : Nat) : Int)) (show 0 < hi - lo + 1 by omega)
    have w1 : IntKind.i64.wrap (b.getD x 0) = b.getD x 0 := w64 (by omega) (by omega)
    have z1 : ¬ ((b.length : Int) = 0) := by omega
    have z2 : ¬ (hi - lo + 1 = 0) := by omega
    have o1 := hv2.old
    have o2 := fun (k : Int) (off : Nat) => ptrOf_elA (k := k) (off := off) hv2
    rw [hd]
    refine (callFL_eq fn75 rfl (by simp [Tryd.f75])).trans ?_
    simp (maxSteps := 1000000) (implicitDefEqProofs := false) (disch := first | rfl | omega | assumption) only [go_sem, ↓reduceIte, Nat.reduceEqDiff, Nat.reduceAdd, Nat.reduceLeDiff, Nat.reduceBEq, Nat.reduceMul, Nat.reduceLT, Int.reduceLT, Int.reduceLE, Int.reduceToNat, Int.reduceNeg, Int.reduceEq, Int.reduceMul, reduceCtorEq, Int.reduceBEq, Int.reduceBNe, Int.reduceAdd, Int.reduceSub, ltT, ltF, leT, leF, g1, g2, g3, g4, e0, s1, s2, s3, hz', hw]
    rw [chkK_of]; rotate_left; kernel_rfl
    simp (maxSteps := 1000000) (implicitDefEqProofs := false) (disch := first | rfl | omega | assumption) only [go_sem, ↓reduceIte, Nat.reduceEqDiff, Nat.reduceAdd, Nat.reduceLeDiff, Nat.reduceBEq, Nat.reduceMul, Nat.reduceLT, Int.reduceLT, Int.reduceLE, Int.reduceToNat, Int.reduceNeg, Int.reduceEq, Int.reduceMul, reduceCtorEq, Int.reduceBEq, Int.reduceBNe, Int.reduceAdd, Int.reduceSub, ltT, ltF, leT, leF, g1, g2, g3, g4, e0, s1, s2, s3, hz', hw, a1, a2, a3, a4, r1, r2, w1, z1, z2, o1, o2, ld_ne, ld_eq, or_none']
    done

end Go.Ab
/-
  A truth by remainders: plain.
-/
namespace Go.Ab
open Go.Proofs
set_option linter.unusedSimpArgs false
set_option linter.unusedVariables false
set_option maxRecDepth 100000

/-- So many uses, each by a remainder. -/
def useN (b : List Int) (lo hi : Int) : Nat → Int × Nat → Int × Nat
  | 0, s => s
  | c + 1, s => useN b lo hi c (s.1 - drawV b (s.2 + 1) lo hi, s.2 + 1)

theorem useN_at (b : List Int) (lo hi : Int) : ∀ c s, (useN b lo hi c s).2 = s.2 + c
  | 0, _ => rfl
  | c + 1, s => by rw [useN, useN_at b lo hi c]; simp only; omega

theorem useN_bd (b : List Int) {lo hi : Int} (h : lo ≤ hi) : ∀ (c : Nat) s, s.1 - c * hi ≤ (useN b lo hi c s).1 ∧ (useN b lo hi c s).1 ≤ s.1 - c * lo
  | 0, s => by simp [useN]
  | c + 1, s => by
    have hd := drawV_in b (s.2 + 1) h
    have ih := useN_bd b h c (s.1 - drawV b (s.2 + 1) lo hi, s.2 + 1)
    rw [useN]
    have e1 : ((c + 1 : Nat) : Int) * hi = c * hi + hi := by rw [Int.natCast_add, Int.add_mul]; simp
    have e2 : ((c + 1 : Nat) : Int) * lo = c * lo + lo := by rw [Int.natCast_add, Int.add_mul]; simp
    simp only at ih
    omega

/-- What an event does to a length. -/
def evS (b : List Int) (w : Wea) (e : Ev) (s : Int × Nat) : Int × Nat :=
  if e.k = 0 then useN b w.ulo w.uhi e.u.toNat s else if e.k = 2 then (s.1 - drawV b (s.2 + 1) e.lo e.hi, s.2 + 1) else s

/-- A reading that is right. -/
def evT (e : Ev) (n : Int) : Ev :=
  if e.k = 0 then e else if e.k = 2 then e else ⟨1, 0, n - min (e.hi - e.lo) 30 / 2, n + min (e.hi - e.lo) 30 - min (e.hi - e.lo) 30 / 2⟩

/-- The true length after so many events, and how many draws there were. -/
def tst (b : List Int) (w : Wea) : Nat → Int × Nat
  | 0 => (drawV b 1 w.llo w.lhi, 1)
  | j + 1 => evS b w (w.ev j) (tst b w j)

def tEv (b : List Int) (w : Wea) (i : Nat) : Ev := evT (w.ev i) (tst b w i).1

def esT (b : List Int) (w : Wea) (j : Nat) : List Ev := (List.range w.es.length).map fun i => if i < j then tEv b w i else w.ev i

def truW (b : List Int) (w : Wea) : Wea := { w with es := esT b w w.es.length }

def lenT (b : List Int) (w : Wea) (j : Nat) : List Int := (List.range (j + 1)).map fun i => (tst b w i).1

theorem esT_len (b : List Int) (w : Wea) (j : Nat) : (esT b w j).length = w.es.length := by simp [esT]

theorem esT_get (b : List Int) (w : Wea) (j : Nat) {i : Nat} (hi : i < w.es.length) : (esT b w j).getD i ev0 = if i < j then tEv b w i else w.ev i := by
  simp [esT, hi]

theorem ext_getD {l m : List Ev} (h : l.length = m.length) (e : ∀ i, i < l.length → l.getD i ev0 = m.getD i ev0) : l = m := by
  refine List.ext_getElem h fun i h1 h2 => ?_
  have := e i h1
  simpa [List.getD, h1, h2] using this

theorem getD_set (l : List Ev) (i k : Nat) (e : Ev) (hk : k < l.length) : (l.set i e).getD k ev0 = if i = k then e else l.getD k ev0 := by
  simp only [List.getD, List.getElem?_set]
  by_cases h : i = k
  · subst h; simp [hk]
  · simp [h]

theorem esT_zero (b : List Int) (w : Wea) : esT b w 0 = w.es := by
  refine ext_getD (esT_len ..) fun i hi => ?_
  rw [esT_len] at hi
  rw [esT_get b w 0 hi, if_neg (by omega)]

theorem esT_set (b : List Int) (w : Wea) {j : Nat} (hj : j < w.es.length) : (esT b w j).set j (tEv b w j) = esT b w (j + 1) := by
  refine ext_getD (by simp [esT_len]) fun i hi => ?_
  rw [List.length_set, esT_len] at hi
  rw [getD_set _ _ _ _ (by rw [esT_len]; exact hi), esT_get b w j hi, esT_get b w (j + 1) hi]
  by_cases c : j = i
  · subst c; simp
  · by_cases d : i < j
    · rw [if_neg c, if_pos d, if_pos (by omega)]
    · rw [if_neg c, if_neg d, if_neg (by omega)]

theorem esT_same (b : List Int) (w : Wea) {j : Nat} (hj : j < w.es.length) (h : tEv b w j = w.ev j) : esT b w (j + 1) = esT b w j := by
  rw [← esT_set b w hj, h]
  refine ext_getD (by simp) fun i hi => ?_
  rw [List.length_set, esT_len] at hi
  rw [getD_set _ _ _ _ (by rw [esT_len]; exact hi), esT_get b w j hi]
  by_cases c : j = i
  · subst c; simp
  · rw [if_neg c]

theorem lenT_succ (b : List Int) (w : Wea) (j : Nat) : lenT b w (j + 1) = lenT b w j ++ [(tst b w (j + 1)).1] := by
  simp [lenT, List.range_succ]

theorem lenT_len (b : List Int) (w : Wea) (j : Nat) : (lenT b w j).length = j + 1 := by simp [lenT]

theorem lenT_get (b : List Int) (w : Wea) (j : Nat) {i : Nat} (hi : i ≤ j) : (lenT b w j).getD i 0 = (tst b w i).1 := by
  simp [lenT, show i < j + 1 by omega]

/-- How far true lengths are, and how many draws. -/
theorem tst_bd {w : Wea} (ho : w.Ok) (b : List Int) : ∀ j, j ≤ w.es.length → -60 * (j : Int) ≤ (tst b w j).1 ∧ (tst b w j).1 ≤ 300 ∧ (tst b w j).2 ≤ 1 + 20 * j
  | 0, _ => by
    have hl := ho.len
    have := drawV_in b 1 (show w.llo ≤ w.lhi by omega)
    simp only [tst]
    omega
  | j + 1, hj => by
    have ih := tst_bd ho b j (by omega)
    have hu := ho.use
    simp only [tst, evS]
    rcases ho.ev j (by omega) with ⟨k0, k1⟩ | ⟨k0, k1⟩ | ⟨k0, k1⟩
    · simp only [k0, if_true]
      have h1 := useN_bd b (show w.ulo ≤ w.uhi by omega) (w.ev j).u.toNat (tst b w j)
      have h2 := useN_at b w.ulo w.uhi (w.ev j).u.toNat (tst b w j)
      have h3 : ((w.ev j).u.toNat : Int) * w.uhi ≤ 20 * 3 := Int.mul_le_mul (by omega) (by omega) (by omega) (by omega)
      have h4 : 0 ≤ ((w.ev j).u.toNat : Int) * w.ulo := Int.mul_nonneg (by omega) (by omega)
      omega
    · simp only [k0, if_false, (show ¬ (1 : Int) = 0 by decide), (show ¬ (1 : Int) = 2 by decide)]
      omega
    · simp only [k0, if_true, if_false, (show ¬ (2 : Int) = 0 by decide)]
      have := drawV_in b ((tst b w j).2 + 1) (show (w.ev j).lo ≤ (w.ev j).hi by omega)
      omega

theorem tEv_0 {b : List Int} {w : Wea} {j : Nat} (h : (w.ev j).k = 0) : tEv b w j = w.ev j := by simp only [tEv, evT, h, if_true]
theorem tEv_2 {b : List Int} {w : Wea} {j : Nat} (h : (w.ev j).k = 2) : tEv b w j = w.ev j := by simp only [tEv, evT, h, if_true, if_false, (show ¬ (2 : Int) = 0 by decide)]

theorem truW_ev (b : List Int) (w : Wea) {i : Nat} (hi : i < w.es.length) : (truW b w).ev i = tEv b w i := by
  show (esT b w w.es.length).getD i ev0 = _
  rw [esT_get b w _ hi, if_pos hi]

theorem truW_len (b : List Int) (w : Wea) : (truW b w).es.length = w.es.length := esT_len ..

/-- The true lengths are a truth. -/
theorem truW_T {w : Wea} (ho : w.Ok) (b : List Int) : (truW b w).T fun i => (tst b w i).1 := by
  constructor
  · have hl := ho.len
    exact drawV_in b 1 (show w.llo ≤ w.lhi by omega)
  · intro i hi
    rw [truW_len] at hi
    rw [truW_ev b w hi]
    have hu := ho.use
    show (tEv b w i).go (w.ulo, w.uhi) _ _
    simp only [tst, evS]
    rcases ho.ev i hi with ⟨k0, k1⟩ | ⟨k0, k1⟩ | ⟨k0, k1⟩
    · rw [tEv_0 k0]
      simp only [Ev.go, k0, if_true]
      have h1 := useN_bd b (show w.ulo ≤ w.uhi by omega) (w.ev i).u.toNat (tst b w i)
      have e : ((w.ev i).u.toNat : Int) = (w.ev i).u := by omega
      rw [e] at h1
      exact h1
    · simp only [tEv, evT, k0, if_false, (show ¬ (1 : Int) = 0 by decide), (show ¬ (1 : Int) = 2 by decide), Ev.go, if_true]
      exact ⟨by omega, by omega, trivial⟩
    · rw [tEv_2 k0]
      simp only [Ev.go, k0, if_true, if_false, (show ¬ (2 : Int) = 0 by decide)]
      have := drawV_in b ((tst b w i).2 + 1) (show (w.ev i).lo ≤ (w.ev i).hi by omega)
      omega

theorem truW_valid {w : Wea} (ho : w.Ok) (b : List Int) : (truW b w).valid = true := by
  rw [Wea.valid_iff]
  refine ⟨ho.len, ho.use, by rw [truW_len]; exact ho.many, fun i hi => ?_⟩
  rw [truW_len] at hi
  rw [truW_ev b w hi]
  have h8 := ho.many
  rcases ho.ev i hi with ⟨k0, k1⟩ | ⟨k0, k1⟩ | ⟨k0, k1⟩
  · rw [tEv_0 k0]; exact .inl ⟨k0, k1⟩
  · have := tst_bd ho b i (by omega)
    refine .inr (.inl ?_)
    simp only [tEv, evT, k0, if_false, (show ¬ (1 : Int) = 0 by decide), (show ¬ (1 : Int) = 2 by decide)]
    exact ⟨trivial, by omega, by omega, by omega⟩
  · rw [tEv_2 k0]; exact .inr (.inr ⟨k0, k1⟩)

/-- The uses of later days, by remainders. -/
def nowS (b : List Int) (lo hi : Int) (D : List Int) (x : Int) : Nat → Int × Nat
  | 0 => (x, 0)
  | j + 1 => useN b lo hi (D.getD j 0).toNat (nowS b lo hi D x j)

theorem nowS_bd {b : List Int} {lo hi : Int} (h : 0 ≤ lo ∧ lo ≤ hi ∧ hi ≤ 3) {D : List Int} (hD : ∀ i, i < D.length → 0 ≤ D.getD i 0 ∧ D.getD i 0 ≤ 20) (x y : Int) (hxy : y ≤ x) : ∀ j, j ≤ D.length → leftD hi D y j ≤ (nowS b lo hi D x j).1 ∧ (nowS b lo hi D x j).1 ≤ x ∧ x - 60 * j ≤ (nowS b lo hi D x j).1 ∧ (nowS b lo hi D x j).2 ≤ 20 * j
  | 0, _ => by simp [leftD, nowS]; exact hxy
  | j + 1, hj => by
    have ih := nowS_bd (b := b) h hD x y hxy j (by omega)
    have hd := hD j (by omega)
    have h1 := useN_bd b h.2.1 (D.getD j 0).toNat (nowS b lo hi D x j)
    have h2 := useN_at b lo hi (D.getD j 0).toNat (nowS b lo hi D x j)
    have e : ((D.getD j 0).toNat : Int) = D.getD j 0 := by omega
    have h3 : D.getD j 0 * hi ≤ 20 * 3 := Int.mul_le_mul (by omega) (by omega) (by omega) (by omega)
    have h4 : 0 ≤ D.getD j 0 * lo := Int.mul_nonneg (by omega) (by omega)
    rw [e] at h1
    simp only [leftD, nowS]
    omega

end Go.Ab
/-
  WearTrue, walked: what truly was.
-/
namespace Go.Ab
open Go.Proofs
set_option linter.unusedSimpArgs false
set_option linter.unusedVariables false
set_option maxRecDepth 100000

variable {H : Heap}

/-- Numbers by which remainders are drawn. -/
structure ByAt (H : Heap) (v : AV) (b : List Int) : Prop where
  sl : SlOk H 1 v (b.map U16)
  bd : ∀ i, i < b.length → 0 ≤ b.getD i 0 ∧ b.getD i 0 ≤ 65535
  len : b.length ≤ 9223372036854775807

theorem ByAt.app {v : AV} {b : List Int} (h : ByAt H v b) (G : Heap) : ByAt (H ++ G) v b := ⟨h.sl.app G, h.bd, h.len⟩

/-- What draws. -/
abbrev drF (p q : Nat) : AV := .func (.func 75) [] [.ptr p 0, .ptr q 0]

theorem law_draws {v : AV} {b : List Int} (h : ByAt H v b) (N : Nat) : callFL cfg0 prog0 false 31 [v] H none = some ⟨.ret (drF (H.length + 1) H.length), H ++ [.box v, .box (I 0)], none⟩ := by
  have s1 := h.sl.scal
  have s2 := h.sl.cel
  have he : elemOk 1 false v = true := by
    obtain ⟨h1, -⟩ := h.sl
    cases v <;> simp only at h1 <;> rfl
  refine (callFL_eq fn31 rfl (by simp [Tryd.f31])).trans ?_
  simp (maxSteps := 1000000) (implicitDefEqProofs := false) (disch := first | rfl | omega | assumption) only [go_sem, ↓reduceIte, Nat.reduceEqDiff, Nat.reduceAdd, Nat.reduceLeDiff, Nat.reduceBEq, Nat.reduceMul, Nat.reduceLT, Int.reduceLT, Int.reduceLE, Int.reduceToNat, Int.reduceNeg, Int.reduceEq, Int.reduceMul, reduceCtorEq, Int.reduceBEq, Int.reduceBNe, Int.reduceAdd, Int.reduceSub, ltT, ltF, leT, leF, s1, s2, he]
  done

theorem use_loop {w : Wea} {ve v : AV} {b : List Int} (hb : ByAt H v b) (hu : 0 ≤ w.ulo ∧ w.ulo ≤ w.uhi ∧ w.uhi ≤ 3) (c : Nat) (hc : c ≤ 20) (o : AO) (GG : Heap) (T5 : AV) (n0 : Int) (k0 : Nat) (hn0 : -1000 ≤ n0 ∧ n0 ≤ 1000) (hk0 : k0 ≤ 1000) (a8 a9 a26 a27 a28 : AV) (r0 : Int × Nat) (K : List Item) (R : Option Done) (hK : ∀ E : Env, E.get 2 = .ptr H.length 0 → E.get 4 = .ptr (H.length + 1) 0 → E.get 5 = T5 → E.get 6 = drF (H.length + 3) (H.length + 2) → E.get 7 = I r0.1 → E.get 8 = a8 → E.get 9 = a9 → E.get 26 = a26 → E.get 27 = a27 → E.get 28 = a28 → Option.map (finishC H.length) (execL cfg0 prog0 ⟨29, none, false, H.length⟩ K ⟨E, [], H ++ (.box (.agg [I w.llo, I w.lhi, I w.ulo, I w.uhi, ve]) :: o :: .box v :: .box (I (r0.2 : Int)) :: GG), none⟩) = R)  :
    ∀ (q j : Nat), j + q = c → ∀ (s : Int × Nat), useN b w.ulo w.uhi q s = r0 → (-1000 - 3 * (j : Int) ≤ s.1 ∧ s.1 ≤ 1000) → s.2 ≤ k0 + j → ∀ E : Env, E.get 2 = .ptr H.length 0 → E.get 4 = .ptr (H.length + 1) 0 → E.get 5 = T5 → E.get 6 = drF (H.length + 3) (H.length + 2) → E.get 7 = I s.1 → E.get 8 = a8 → E.get 9 = a9 → E.get 26 = a26 → E.get 27 = a27 → E.get 28 = a28 → E.get 61 = I c → E.get 62 = I j →
    Option.map (finishC H.length) (execL cfg0 prog0 ⟨29, none, false, H.length⟩ (loopIt Tryd.f29 13 :: .inBlock 3 :: K) ⟨E, [], H ++ (.box (.agg [I w.llo, I w.lhi, I w.ulo, I w.uhi, ve]) :: o :: .box v :: .box (I (s.2 : Int)) :: GG), none⟩) = R := by
  intro q
  skip
  induction q with
  | zero =>
    intro j hj s hs hn hk E g2 g4 g5 g6 g7 g8 g9 g26 g27 g28 g61 g62
    have hk' : ¬ (j : Int) < ((c : Nat) : Int) := by omega
    simp only [useN] at hs
    subst hs
    simp only [loopIt, todoPast, todoAt, todoOf, firstReg, ↓reduceIte, Option.some.injEq, Nat.reduceEqDiff, reduceCtorEq, Tryd.f29]
    rw [execL_inLoop]
    simp (maxSteps := 1000000) (implicitDefEqProofs := false) (disch := first | rfl | omega | assumption) only [go_sem, ↓reduceIte, Nat.reduceEqDiff, Nat.reduceAdd, Nat.reduceLeDiff, Nat.reduceBEq, Nat.reduceMul, Nat.reduceLT, Int.reduceLT, Int.reduceLE, Int.reduceToNat, Int.reduceNeg, Int.reduceEq, Int.reduceMul, reduceCtorEq, Int.reduceBEq, Int.reduceBNe, Int.reduceAdd, Int.reduceSub, g2, g4, g5, g6, g7, g8, g9, g26, g27, g28, g61, g62, ltT, ltF, leT, leF, hk']
    exact hK _ (by exact g2) (by exact g4) (by exact g5) (by exact g6) (by exact g7) (by exact g8) (by exact g9) (by exact g26) (by exact g27) (by exact g28)
  | succ q ih =>
    intro j hj s hs hn hk E g2 g4 g5 g6 g7 g8 g9 g26 g27 g28 g61 g62
    have hk' : (j : Int) < ((c : Nat) : Int) := by omega
    have hk2 : j < c := by omega
    have hD := law_draw (H := H ++ (.box (.agg [I w.llo, I w.lhi, I w.ulo, I w.uhi, ve]) :: o :: .box v :: .box (I (s.2 : Int)) :: GG)) (p := H.length + 3) (q := H.length + 2) (v := v) (b := b) (k := s.2) (by simp [get_at']) (by simp [get_at']) (hb.sl.app _) hb.bd hb.len (by omega) (lo := w.ulo) (hi := w.uhi) (by omega)
    have hdb := drawV_in b (s.2 + 1) hu.2.1
    simp only [useN] at hs
    simp only [set_at', List.set_cons_succ, List.set_cons_zero] at hD
    simp only [loopIt, todoPast, todoAt, todoOf, firstReg, ↓reduceIte, Option.some.injEq, Nat.reduceEqDiff, reduceCtorEq, Tryd.f29]
    rw [execL_inLoop]
    simp (maxSteps := 1000000) (implicitDefEqProofs := false) (disch := first | rfl | omega | assumption) only [go_sem, ↓reduceIte, Nat.reduceEqDiff, Nat.reduceAdd, Nat.reduceLeDiff, Nat.reduceBEq, Nat.reduceMul, Nat.reduceLT, Int.reduceLT, Int.reduceLE, Int.reduceToNat, Int.reduceNeg, Int.reduceEq, Int.reduceMul, reduceCtorEq, Int.reduceBEq, Int.reduceBNe, Int.reduceAdd, Int.reduceSub, g2, g4, g5, g6, g7, g8, g9, g26, g27, g28, g61, g62, ltT, ltF, leT, leF, hk', hD]
    exact ih (j + 1) (by omega) (s.1 - drawV b (s.2 + 1) w.ulo w.uhi, s.2 + 1) hs (by simp only; omega) (by simp only; omega) _ (by exact g2) (by exact g4) (by exact g5) (by exact g6) (by rfl) (by exact g8) (by exact g9) (by exact g26) (by exact g27) (by exact g28) (by exact g61) (by rfl)

theorem evl_store {l n b : Nat} {es : List Ev} {e : Ev} {z : Option Value} (hl : H[l]? = some (.grow 4 (es.map Ev.av))) (hn : es.length = n) {j : Nat} (hj : j < n) : evStore b H ⟨.struct [(0, 3), (1, 3), (2, 23)], 4, 32, z⟩ (elA (.gsl l n) (j : Int) 0) (.agg [I e.k, I e.u, I e.lo, I e.hi]) = some (H.set l (.grow 4 ((es.set j e).map Ev.av))) := by
  subst hn
  have h1 : (es.map Ev.av)[j]? = some (Ev.av (es.getD j ev0)) := by simp [hj]
  simp only [elA, Int.toNat_natCast, evStore, hl, List.length_map, h1]
  simp [AV.lt, ltL, writePart, allScalar, AV.cells, AV.scalar, splice, AV.withCells, Ev.av, List.map_set]

/-- What lies behind the events: nothing at first, then an event and the lengths. -/
def TlOk (N : Nat) (b : List Int) (w : Wea) (j : Nat) (Tl : Heap) (T5 : AV) : Prop :=
  (j = 0 ∧ Tl = [] ∧ T5 = .sl true [I (tst b w 0).1]) ∨ ∃ (e : Ev) (G : Heap), 1 ≤ j ∧ Tl = .box (.agg [I e.k, I e.u, I e.lo, I e.hi]) :: .grow 1 ((lenT b w j).map I) :: G ∧ T5 = .gsl (N + 6) (j + 1)

/-- The true lengths, as they come back. -/
def trV (b : List Int) (w : Wea) : AV := if w.es.length = 0 then .sl true [I (tst b w 0).1] else .sl false ((lenT b w w.es.length).map I)

theorem add_one {N : Nat} {b : List Int} {w : Wea} {j : Nat} {T5 : AV} {A G : Heap} (hN : A.length = N + 6) (x : Int) (hT : T5 = .sl true [I x]) (y : Int) : addElem A 1 false T5 [I y] = some (.gsl (N + 6) 2, A ++ [.grow 1 [I x, I y]]) := by
  subst hT
  rw [← hN]
  rfl

theorem truly_loop {w : Wea} {ve v : AV} {b : List Int} (h : WeaAt H w ve) (hb : ByAt H v b) (ho : w.Ok) :
    ∀ (q j : Nat), j + q = w.es.length → ∀ (Tl : Heap), ∀ (T5 : AV), TlOk H.length b w j Tl T5 → ∀ E : Env, E.get 2 = .ptr H.length 0 → E.get 4 = .ptr (H.length + 1) 0 → E.get 5 = T5 → E.get 6 = drF (H.length + 3) (H.length + 2) → E.get 7 = I (tst b w j).1 → E.get 26 = ve → E.get 27 = I w.es.length → E.get 28 = I j →
    Option.map (finishC H.length) (execL cfg0 prog0 ⟨29, none, false, H.length⟩ (todoAt Tryd.f29 6) ⟨E, [], H ++ (.box (.agg [I w.llo, I w.lhi, I w.ulo, I w.uhi, ve]) :: .box (.agg [I w.llo, I w.lhi, I w.ulo, I w.uhi, .gsl (H.length + 4) w.es.length]) :: .box v :: .box (I ((tst b w j).2 : Int)) :: .grow 4 ((esT b w j).map Ev.av) :: Tl), none⟩) = some ⟨.ret (.tup [.agg [I w.llo, I w.lhi, I w.ulo, I w.uhi, .sl false ((esT b w w.es.length).map Ev.av)], trV b w]), H, none⟩ := by
  intro q
  have h8 := ho.many
  have hu := ho.use
  have s1 := h.es.scal
  have s2 := h.es.len
  rw [List.length_map] at s2
  have t1 := h.es.ltn 7
  have t2 := hb.sl.ltn 7
  have t3 := fun j => evz_lt 0 (esT b w j)
  have t4 := fun l n => ltI l n
  have u3 := hb.sl.cel
  have hL := fun j => esT_len b w j
  obtain ⟨a1, a2, a3, a4, a5⟩ := h.es.fA (d := ev0)
  induction q with
  | zero =>
    intro j hj Tl T5 hT E g2 g4 g5 g6 g7 g26 g27 g28
    have hk' : ¬ (j : Int) < ((w.es.length : Nat) : Int) := by omega
    have ej : j = w.es.length := by omega
    subst ej
    have hL2 := lenT_len b w w.es.length
    simp only [loopIt, todoPast, todoAt, todoOf, firstReg, ↓reduceIte, Option.some.injEq, Nat.reduceEqDiff, reduceCtorEq, Tryd.f29]
    rw [execL_inLoop]
    rcases hT with ⟨hj, rfl, rfl⟩ | ⟨e, G, hj, rfl, rfl⟩
    · have ez : trV b w = .sl true [I (tst b w 0).1] := by simp only [trV, hj, if_true]
      rw [ez]
      simp (maxSteps := 1000000) (implicitDefEqProofs := false) (disch := first | rfl | omega | assumption) only [go_sem, ↓reduceIte, Nat.reduceEqDiff, Nat.reduceAdd, Nat.reduceLeDiff, Nat.reduceBEq, Nat.reduceMul, Nat.reduceLT, Int.reduceLT, Int.reduceLE, Int.reduceToNat, Int.reduceNeg, Int.reduceEq, Int.reduceMul, reduceCtorEq, Int.reduceBEq, Int.reduceBNe, Int.reduceAdd, Int.reduceSub, g2, g4, g5, g6, g7, g26, g27, g28, ltT, ltF, leT, leF, hk', s1, s2, t1, t2, t3, t4, u3, hL, List.length_map]
      done
    · have ez : trV b w = .sl false ((lenT b w w.es.length).map I) := by simp only [trV]; rw [if_neg (by omega)]
      rw [ez]
      simp (maxSteps := 1000000) (implicitDefEqProofs := false) (disch := first | rfl | omega | assumption) only [go_sem, ↓reduceIte, Nat.reduceEqDiff, Nat.reduceAdd, Nat.reduceLeDiff, Nat.reduceBEq, Nat.reduceMul, Nat.reduceLT, Int.reduceLT, Int.reduceLE, Int.reduceToNat, Int.reduceNeg, Int.reduceEq, Int.reduceMul, reduceCtorEq, Int.reduceBEq, Int.reduceBNe, Int.reduceAdd, Int.reduceSub, g2, g4, g5, g6, g7, g26, g27, g28, ltT, ltF, leT, leF, hk', s1, s2, t1, t2, t3, t4, u3, hL, hL2, List.length_map]
      done
  | succ q ih =>
    intro j hj Tl T5 hT E g2 g4 g5 g6 g7 g26 g27 g28
    have hk' : (j : Int) < ((w.es.length : Nat) : Int) := by omega
    have hk2 : j < w.es.length := by omega
    have hbd := tst_bd ho b j (by omega)
    have hbd1 := tst_bd ho b (j + 1) (by omega)
    have hr := fun e : Ev => (show readPart e.av.cells 0 ⟨.struct [(0, 3), (1, 3), (2, 23)], 4, 32, some (.agg #[.int .i64 0, .int .i64 0, .int .i64 0, .int .i64 0])⟩ = some (.agg [I e.k, I e.u, I e.lo, I e.hi]) from rfl)
    obtain ⟨e, he⟩ : ∃ e, w.es.getD j ev0 = e := ⟨_, rfl⟩
    have hstep : tst b w (j + 1) = evS b w e (tst b w j) := by rw [← he]; rfl
    have hev := ho.ev j (by omega)
    have hset := esT_set b w (show j < w.es.length by omega)
    have hsm := esT_same b w (show j < w.es.length by omega)
    have hls := lenT_succ b w j
    have hTE : tEv b w j = evT e (tst b w j).1 := by rw [← he]; rfl
    rw [hTE] at hset hsm
    rw [show w.ev j = e from he] at hev hsm
    have hne : ¬ w.es.length = 0 := by omega
    obtain ⟨s, hs⟩ : ∃ s, tst b w j = s := ⟨_, rfl⟩
    obtain ⟨s', hs'⟩ : ∃ s', tst b w (j + 1) = s' := ⟨_, rfl⟩
    rw [hs'] at hstep hbd1 hls
    rw [hs] at hstep hbd g7 hset hsm
    rw [hs]
    have ih' := ih (j + 1) (by omega)
    rw [hs'] at ih'
    have hD := fun (x1 : AO) (GG : Heap) (lo hi : Int) (hlh : -1000000 ≤ lo ∧ lo ≤ hi ∧ hi ≤ 1000000) => law_draw (H := H ++ (.box (.agg [I w.llo, I w.lhi, I w.ulo, I w.uhi, ve]) :: x1 :: .box v :: .box (I (s.2 : Int)) :: GG)) (p := H.length + 3) (q := H.length + 2) (v := v) (b := b) (k := s.2) (by simp [get_at']) (by simp [get_at']) (hb.sl.app _) hb.bd hb.len (by omega) (lo := lo) (hi := hi) hlh
    have hS := fun (x0 x1 x2 x3 : AO) (GG : Heap) => (show SlOk (H ++ (x0 :: x1 :: x2 :: x3 :: .grow 4 ((esT b w j).map Ev.av) :: GG)) 4 (.gsl (H.length + 4) w.es.length) ((esT b w j).map Ev.av) from ⟨⟨by simp [get_at'], by simp [hL]⟩, by simp [Ev.av, AV.cells]⟩)
    have c2 := fun (x0 x1 x2 x3 : AO) (GG : Heap) => ((hS x0 x1 x2 x3 GG).fA (d := ev0)).2.1
    simp only [hL] at c2
    have hst := fun (x0 x1 x2 x3 : AO) (GG : Heap) (bb : Nat) (e' : Ev) => evl_store (H := H ++ (x0 :: x1 :: x2 :: x3 :: .grow 4 ((esT b w j).map Ev.av) :: GG)) (l := H.length + 4) (n := w.es.length) (b := bb) (e := e') (z := some (.agg #[.int .i64 0, .int .i64 0, .int .i64 0, .int .i64 0])) (by simp [get_at']) (hL j) hk2
    simp only [set_at', List.set_cons_succ, List.set_cons_zero] at hD hst
    rcases hT with ⟨hj, rfl, rfl⟩ | ⟨ex, G, hj, rfl, rfl⟩
    · have hadd := fun (x0 x1 : AO) (y : Int) => add_one (N := H.length) (b := b) (w := w) (j := j) (A := H ++ [.box (.agg [I w.llo, I w.lhi, I w.ulo, I w.uhi, ve]), .box (.agg [I w.llo, I w.lhi, I w.ulo, I w.uhi, .gsl (H.length + 4) w.es.length]), .box v, x0, x1, .box (.agg [I e.k, I e.u, I e.lo, I e.hi])]) (G := []) (by simp) (tst b w 0).1 rfl y
      have hl1 : (lenT b w (j + 1)).map I = [I (tst b w 0).1, I s'.1] := by rw [hls, hj]; rfl
      have hT' : TlOk H.length b w (j + 1) [.box (.agg [I e.k, I e.u, I e.lo, I e.hi]), .grow 1 [I (tst b w 0).1, I s'.1]] (.gsl (H.length + 6) 2) := .inr ⟨e, [], by omega, by rw [hl1], by rw [hj]⟩
      rcases hev with ⟨k0, k1⟩ | ⟨k0, k1⟩ | ⟨k0, k1⟩
      · have z0 : (e.k == 0) = true := by simp [k0]
        have eu : (e.u.toNat : Int) = e.u := by omega
        have hsu : useN b w.ulo w.uhi e.u.toNat s = s' := by rw [hstep]; simp only [evS, k0, if_true]
        have hsame := hsm (by simp only [evT, k0, if_true])
        rw [hsame] at ih'
        simp only [loopIt, todoPast, todoAt, todoOf, firstReg, ↓reduceIte, Option.some.injEq, Nat.reduceEqDiff, reduceCtorEq, Tryd.f29]
        rw [execL_inLoop]
        simp (maxSteps := 1000000) (implicitDefEqProofs := false) (disch := first | rfl | omega | assumption) only [go_sem, ↓reduceIte, Nat.reduceEqDiff, Nat.reduceAdd, Nat.reduceLeDiff, Nat.reduceBEq, Nat.reduceMul, Nat.reduceLT, Int.reduceLT, Int.reduceLE, Int.reduceToNat, Int.reduceNeg, Int.reduceEq, Int.reduceMul, reduceCtorEq, Int.reduceBEq, Int.reduceBNe, Int.reduceAdd, Int.reduceSub, g2, g4, g5, g6, g7, g26, g27, g28, ltT, ltF, leT, leF, hk', s1, s2, t1, t2, t3, t4, u3, hL, a1, a2, a3, a4, hr, he, List.length_map, z0]
        refine use_loop hb hu e.u.toNat (by omega) _ _ _ s.1 s.2 (by omega) (by omega) _ _ _ _ _ s' _ _ (fun E f2 f4 f5 f6 f7 f8 f9 f26 f27 f28 => ?_) e.u.toNat 0 (by omega) s hsu (by omega) (by omega) _ (by rfl) (by rfl) (by rfl) (by rfl) (by rfl) (by rfl) (by rfl) (by rfl) (by rfl) (by rfl) (by rw [eu]; rfl) (by rfl)
        simp (maxSteps := 1000000) (implicitDefEqProofs := false) (disch := first | rfl | omega | assumption) only [go_sem, ↓reduceIte, Nat.reduceEqDiff, Nat.reduceAdd, Nat.reduceLeDiff, Nat.reduceBEq, Nat.reduceMul, Nat.reduceLT, Int.reduceLT, Int.reduceLE, Int.reduceToNat, Int.reduceNeg, Int.reduceEq, Int.reduceMul, reduceCtorEq, Int.reduceBEq, Int.reduceBNe, Int.reduceAdd, Int.reduceSub, g2, g4, g5, g6, g7, g26, g27, g28, ltT, ltF, leT, leF, hk', s1, s2, t1, t2, t3, t4, u3, hL, a1, a2, a3, a4, hr, he, List.length_map, f2, f4, f5, f6, f7, f26, f27, f28, hadd]
        exact ih' _ _ hT' _ (by exact f2) (by exact f4) (by rfl) (by exact f6) (by exact f7) (by exact f26) (by exact f27) (by rfl)
      · have z0 : (e.k == 0) = false := by simp [k0]
        have z2 : (e.k == 2) = false := by simp [k0]
        obtain ⟨wd, hwd⟩ : ∃ wd, min (e.hi - e.lo) 30 = wd := ⟨_, rfl⟩
        have hmn : (if (30 : Int) < e.hi - e.lo then 30 else e.hi - e.lo) = wd := by rw [← hwd]; split <;> omega
        have hw0 : 0 ≤ wd ∧ wd ≤ 30 := by omega
        have htd : wd.tdiv 2 = wd / 2 := Int.tdiv_eq_ediv_of_nonneg hw0.1
        have eT : evT e s.1 = ⟨1, 0, s.1 - wd / 2, s.1 + wd - wd / 2⟩ := by simp only [evT, k0, if_false, (show ¬ (1 : Int) = 0 by decide), (show ¬ (1 : Int) = 2 by decide), hwd]
        have hst' := fun (x0 x1 x2 x3 : AO) (GG : Heap) (bb : Nat) => hst x0 x1 x2 x3 GG bb (evT e s.1)
        rw [hset] at hst'
        simp only [eT] at hst'
        have hss : s' = s := by rw [hstep]; simp only [evS, k0, if_false, (show ¬ (1 : Int) = 0 by decide), (show ¬ (1 : Int) = 2 by decide)]
        subst hss
        simp only [loopIt, todoPast, todoAt, todoOf, firstReg, ↓reduceIte, Option.some.injEq, Nat.reduceEqDiff, reduceCtorEq, Tryd.f29]
        rw [execL_inLoop]
        simp (maxSteps := 1000000) (implicitDefEqProofs := false) (disch := first | rfl | omega | assumption) only [go_sem, ↓reduceIte, Nat.reduceEqDiff, Nat.reduceAdd, Nat.reduceLeDiff, Nat.reduceBEq, Nat.reduceMul, Nat.reduceLT, Int.reduceLT, Int.reduceLE, Int.reduceToNat, Int.reduceNeg, Int.reduceEq, Int.reduceMul, reduceCtorEq, Int.reduceBEq, Int.reduceBNe, Int.reduceAdd, Int.reduceSub, g2, g4, g5, g6, g7, g26, g27, g28, ltT, ltF, leT, leF, hk', s1, s2, t1, t2, t3, t4, u3, hL, a1, a2, a3, a4, hr, he, List.length_map, z0, z2, hmn, htd]
        rw [chkK_of]; rotate_left; kernel_rfl
        simp (maxSteps := 1000000) (implicitDefEqProofs := false) (disch := first | rfl | omega | assumption) only [go_sem, ↓reduceIte, Nat.reduceEqDiff, Nat.reduceAdd, Nat.reduceLeDiff, Nat.reduceBEq, Nat.reduceMul, Nat.reduceLT, Int.reduceLT, Int.reduceLE, Int.reduceToNat, Int.reduceNeg, Int.reduceEq, Int.reduceMul, reduceCtorEq, Int.reduceBEq, Int.reduceBNe, Int.reduceAdd, Int.reduceSub, g2, g4, g5, g6, g7, g26, g27, g28, ltT, ltF, leT, leF, hk', s1, s2, t1, t2, t3, t4, u3, hL, a1, a2, a3, a4, hr, he, List.length_map, z0, z2, hmn, htd, law_read, c2, hst', hadd]
        exact ih' _ _ hT' _ (by rfl) (by rfl) (by rfl) (by rfl) (by rfl) (by rfl) (by rfl) (by rfl)
      · have z0 : (e.k == 0) = false := by simp [k0]
        have z2 : (e.k == 2) = true := by simp [k0]
        have hdb := drawV_in b (s.2 + 1) (show e.lo ≤ e.hi by omega)
        have hsu : s' = (s.1 - drawV b (s.2 + 1) e.lo e.hi, s.2 + 1) := by rw [hstep]; simp only [evS, k0, if_true, if_false, (show ¬ (2 : Int) = 0 by decide)]
        have hsame := hsm (by simp only [evT, k0, if_true, if_false, (show ¬ (2 : Int) = 0 by decide)])
        have hD' := fun (x1 : AO) (GG : Heap) => hD x1 GG e.lo e.hi (by omega)
        rw [hsame] at ih'
        subst hsu
        simp only [loopIt, todoPast, todoAt, todoOf, firstReg, ↓reduceIte, Option.some.injEq, Nat.reduceEqDiff, reduceCtorEq, Tryd.f29]
        rw [execL_inLoop]
        simp (maxSteps := 1000000) (implicitDefEqProofs := false) (disch := first | rfl | omega | assumption) only [go_sem, ↓reduceIte, Nat.reduceEqDiff, Nat.reduceAdd, Nat.reduceLeDiff, Nat.reduceBEq, Nat.reduceMul, Nat.reduceLT, Int.reduceLT, Int.reduceLE, Int.reduceToNat, Int.reduceNeg, Int.reduceEq, Int.reduceMul, reduceCtorEq, Int.reduceBEq, Int.reduceBNe, Int.reduceAdd, Int.reduceSub, g2, g4, g5, g6, g7, g26, g27, g28, ltT, ltF, leT, leF, hk', s1, s2, t1, t2, t3, t4, u3, hL, a1, a2, a3, a4, hr, he, List.length_map, z0, z2, hD', hadd]
        exact ih' _ _ hT' _ (by rfl) (by rfl) (by rfl) (by rfl) (by rfl) (by rfl) (by rfl) (by rfl)
    · have hadd := fun (x0 x1 : AO) (y : Int) => add_gsl (H := H ++ [.box (.agg [I w.llo, I w.lhi, I w.ulo, I w.uhi, ve]), .box (.agg [I w.llo, I w.lhi, I w.ulo, I w.uhi, .gsl (H.length + 4) w.es.length]), .box v, x0, x1, .box (.agg [I ex.k, I ex.u, I ex.lo, I ex.hi]), .grow 1 ((lenT b w j).map I), .box (.agg [I e.k, I e.u, I e.lo, I e.hi])]) (sz := 1) (a := false) (l := H.length + 6) (n := j + 1) (xs := (lenT b w j).map I) (ys := [I y]) (by simp [get_at']) (by simp [lenT_len]) rfl rfl (by simp; omega)
      simp only [set_at', List.set_cons_succ, List.set_cons_zero, List.length_cons, List.length_nil, Nat.zero_add] at hadd
      have hl1 : (lenT b w (j + 1)).map I = (lenT b w j).map I ++ [I s'.1] := by rw [hls, List.map_append]; rfl
      have hT' : TlOk H.length b w (j + 1) [.box (.agg [I ex.k, I ex.u, I ex.lo, I ex.hi]), .grow 1 ((lenT b w j).map I ++ [I s'.1]), .box (.agg [I e.k, I e.u, I e.lo, I e.hi])] (.gsl (H.length + 6) (j + 1 + 1)) := .inr ⟨ex, [.box (.agg [I e.k, I e.u, I e.lo, I e.hi])], by omega, by rw [hl1], rfl⟩
      rcases hev with ⟨k0, k1⟩ | ⟨k0, k1⟩ | ⟨k0, k1⟩
      · have z0 : (e.k == 0) = true := by simp [k0]
        have eu : (e.u.toNat : Int) = e.u := by omega
        have hsu : useN b w.ulo w.uhi e.u.toNat s = s' := by rw [hstep]; simp only [evS, k0, if_true]
        have hsame := hsm (by simp only [evT, k0, if_true])
        rw [hsame] at ih'
        simp only [loopIt, todoPast, todoAt, todoOf, firstReg, ↓reduceIte, Option.some.injEq, Nat.reduceEqDiff, reduceCtorEq, Tryd.f29]
        rw [execL_inLoop]
        simp (maxSteps := 1000000) (implicitDefEqProofs := false) (disch := first | rfl | omega | assumption) only [go_sem, ↓reduceIte, Nat.reduceEqDiff, Nat.reduceAdd, Nat.reduceLeDiff, Nat.reduceBEq, Nat.reduceMul, Nat.reduceLT, Int.reduceLT, Int.reduceLE, Int.reduceToNat, Int.reduceNeg, Int.reduceEq, Int.reduceMul, reduceCtorEq, Int.reduceBEq, Int.reduceBNe, Int.reduceAdd, Int.reduceSub, g2, g4, g5, g6, g7, g26, g27, g28, ltT, ltF, leT, leF, hk', s1, s2, t1, t2, t3, t4, u3, hL, a1, a2, a3, a4, hr, he, List.length_map, z0]
        refine use_loop hb hu e.u.toNat (by omega) _ _ _ s.1 s.2 (by omega) (by omega) _ _ _ _ _ s' _ _ (fun E f2 f4 f5 f6 f7 f8 f9 f26 f27 f28 => ?_) e.u.toNat 0 (by omega) s hsu (by omega) (by omega) _ (by rfl) (by rfl) (by rfl) (by rfl) (by rfl) (by rfl) (by rfl) (by rfl) (by rfl) (by rfl) (by rw [eu]; rfl) (by rfl)
        simp (maxSteps := 1000000) (implicitDefEqProofs := false) (disch := first | rfl | omega | assumption) only [go_sem, ↓reduceIte, Nat.reduceEqDiff, Nat.reduceAdd, Nat.reduceLeDiff, Nat.reduceBEq, Nat.reduceMul, Nat.reduceLT, Int.reduceLT, Int.reduceLE, Int.reduceToNat, Int.reduceNeg, Int.reduceEq, Int.reduceMul, reduceCtorEq, Int.reduceBEq, Int.reduceBNe, Int.reduceAdd, Int.reduceSub, g2, g4, g5, g6, g7, g26, g27, g28, ltT, ltF, leT, leF, hk', s1, s2, t1, t2, t3, t4, u3, hL, a1, a2, a3, a4, hr, he, List.length_map, f2, f4, f5, f6, f7, f26, f27, f28, hadd]
        exact ih' _ _ hT' _ (by exact f2) (by exact f4) (by rfl) (by exact f6) (by exact f7) (by exact f26) (by exact f27) (by rfl)
      · have z0 : (e.k == 0) = false := by simp [k0]
        have z2 : (e.k == 2) = false := by simp [k0]
        obtain ⟨wd, hwd⟩ : ∃ wd, min (e.hi - e.lo) 30 = wd := ⟨_, rfl⟩
        have hmn : (if (30 : Int) < e.hi - e.lo then 30 else e.hi - e.lo) = wd := by rw [← hwd]; split <;> omega
        have hw0 : 0 ≤ wd ∧ wd ≤ 30 := by omega
        have htd : wd.tdiv 2 = wd / 2 := Int.tdiv_eq_ediv_of_nonneg hw0.1
        have eT : evT e s.1 = ⟨1, 0, s.1 - wd / 2, s.1 + wd - wd / 2⟩ := by simp only [evT, k0, if_false, (show ¬ (1 : Int) = 0 by decide), (show ¬ (1 : Int) = 2 by decide), hwd]
        have hst' := fun (x0 x1 x2 x3 : AO) (GG : Heap) (bb : Nat) => hst x0 x1 x2 x3 GG bb (evT e s.1)
        rw [hset] at hst'
        simp only [eT] at hst'
        have hss : s' = s := by rw [hstep]; simp only [evS, k0, if_false, (show ¬ (1 : Int) = 0 by decide), (show ¬ (1 : Int) = 2 by decide)]
        subst hss
        simp only [loopIt, todoPast, todoAt, todoOf, firstReg, ↓reduceIte, Option.some.injEq, Nat.reduceEqDiff, reduceCtorEq, Tryd.f29]
        rw [execL_inLoop]
        simp (maxSteps := 1000000) (implicitDefEqProofs := false) (disch := first | rfl | omega | assumption) only [go_sem, ↓reduceIte, Nat.reduceEqDiff, Nat.reduceAdd, Nat.reduceLeDiff, Nat.reduceBEq, Nat.reduceMul, Nat.reduceLT, Int.reduceLT, Int.reduceLE, Int.reduceToNat, Int.reduceNeg, Int.reduceEq, Int.reduceMul, reduceCtorEq, Int.reduceBEq, Int.reduceBNe, Int.reduceAdd, Int.reduceSub, g2, g4, g5, g6, g7, g26, g27, g28, ltT, ltF, leT, leF, hk', s1, s2, t1, t2, t3, t4, u3, hL, a1, a2, a3, a4, hr, he, List.length_map, z0, z2, hmn, htd]
        rw [chkK_of]; rotate_left; kernel_rfl
        simp (maxSteps := 1000000) (implicitDefEqProofs := false) (disch := first | rfl | omega | assumption) only [go_sem, ↓reduceIte, Nat.reduceEqDiff, Nat.reduceAdd, Nat.reduceLeDiff, Nat.reduceBEq, Nat.reduceMul, Nat.reduceLT, Int.reduceLT, Int.reduceLE, Int.reduceToNat, Int.reduceNeg, Int.reduceEq, Int.reduceMul, reduceCtorEq, Int.reduceBEq, Int.reduceBNe, Int.reduceAdd, Int.reduceSub, g2, g4, g5, g6, g7, g26, g27, g28, ltT, ltF, leT, leF, hk', s1, s2, t1, t2, t3, t4, u3, hL, a1, a2, a3, a4, hr, he, List.length_map, z0, z2, hmn, htd, law_read, c2, hst', hadd]
        exact ih' _ _ hT' _ (by rfl) (by rfl) (by rfl) (by rfl) (by rfl) (by rfl) (by rfl) (by rfl)
      · have z0 : (e.k == 0) = false := by simp [k0]
        have z2 : (e.k == 2) = true := by simp [k0]
        have hdb := drawV_in b (s.2 + 1) (show e.lo ≤ e.hi by omega)
        have hsu : s' = (s.1 - drawV b (s.2 + 1) e.lo e.hi, s.2 + 1) := by rw [hstep]; simp only [evS, k0, if_true, if_false, (show ¬ (2 : Int) = 0 by decide)]
        have hsame := hsm (by simp only [evT, k0, if_true, if_false, (show ¬ (2 : Int) = 0 by decide)])
        have hD' := fun (x1 : AO) (GG : Heap) => hD x1 GG e.lo e.hi (by omega)
        rw [hsame] at ih'
        subst hsu
        simp only [loopIt, todoPast, todoAt, todoOf, firstReg, ↓reduceIte, Option.some.injEq, Nat.reduceEqDiff, reduceCtorEq, Tryd.f29]
        rw [execL_inLoop]
        simp (maxSteps := 1000000) (implicitDefEqProofs := false) (disch := first | rfl | omega | assumption) only [go_sem, ↓reduceIte, Nat.reduceEqDiff, Nat.reduceAdd, Nat.reduceLeDiff, Nat.reduceBEq, Nat.reduceMul, Nat.reduceLT, Int.reduceLT, Int.reduceLE, Int.reduceToNat, Int.reduceNeg, Int.reduceEq, Int.reduceMul, reduceCtorEq, Int.reduceBEq, Int.reduceBNe, Int.reduceAdd, Int.reduceSub, g2, g4, g5, g6, g7, g26, g27, g28, ltT, ltF, leT, leF, hk', s1, s2, t1, t2, t3, t4, u3, hL, a1, a2, a3, a4, hr, he, List.length_map, z0, z2, hD', hadd]
        exact ih' _ _ hT' _ (by rfl) (by rfl) (by rfl) (by rfl) (by rfl) (by rfl) (by rfl) (by rfl)

theorem law_truly {w : Wea} {ve v : AV} {b : List Int} (h : WeaAt H w ve) (hb : ByAt H v b) (ho : w.Ok) :
    callFL cfg0 prog0 false 29 [w.av ve, v] H none = some ⟨.ret (.tup [.agg [I w.llo, I w.lhi, I w.ulo, I w.uhi, .sl false ((esT b w w.es.length).map Ev.av)], trV b w]), H, none⟩ := by
  have h8 := ho.many
  have hl := ho.len
  have s1 := h.es.scal
  have s2 := h.es.len
  rw [List.length_map] at s2
  have hdr := fun G : Heap => law_draws (hb.app G) 0
  have hD := fun (x0 x1 : AO) => law_draw (H := H ++ [x0, x1, .box v, .box (I ((0 : Nat) : Int))]) (p := H.length + 3) (q := H.length + 2) (v := v) (b := b) (k := 0) (by simp [get_at']) (by simp [get_at']) (hb.sl.app _) hb.bd hb.len (by omega) (lo := w.llo) (hi := w.lhi) (by omega)
  have hadd := fun (A : Heap) => add_full (H := A) (sz := 4) (a := true) (xs := []) (ys := w.es.map Ev.av) rfl rfl (evz_ok _) (evz_lt 0 _) (by simp; omega) rfl
  have hel := fun G : Heap => (h.es.app G).elems
  have hl0 : esT b w 0 = w.es := esT_zero b w
  have hr := truly_loop h hb ho w.es.length 0 (by omega) [] (.sl true [I (tst b w 0).1]) (.inl ⟨rfl, rfl, rfl⟩)
  rw [hl0] at hr
  simp only [set_at', List.set_cons_succ, List.set_cons_zero, Nat.zero_add, List.nil_append, List.length_nil, List.length_map, Int.natCast_zero] at hD hadd
  simp only [Wea.av]
  refine (callFL_eq fn29 rfl (by simp [Tryd.f29])).trans ?_
  simp (maxSteps := 1000000) (implicitDefEqProofs := false) (disch := first | rfl | omega | assumption) only [go_sem, ↓reduceIte, Nat.reduceEqDiff, Nat.reduceAdd, Nat.reduceLeDiff, Nat.reduceBEq, Nat.reduceMul, Nat.reduceLT, Int.reduceLT, Int.reduceLE, Int.reduceToNat, Int.reduceNeg, Int.reduceEq, Int.reduceMul, reduceCtorEq, Int.reduceBEq, Int.reduceBNe, Int.reduceAdd, Int.reduceSub, ltT, ltF, leT, leF, s1, s2, hdr, hD, hadd, hel]
  exact hr _ (by rfl) (by rfl) (by rfl) (by rfl) (by rfl) (by rfl) (by rfl) (by rfl)

end Go.Ab
/-
  The sort of a list of sets that rises: plain. By insertion, in blocks, which are merged.
-/
namespace Go.Ab
set_option linter.unusedSimpArgs false
set_option linter.unusedVariables false

/-- An element of a list of numbers. -/
abbrev gt (L : List Nat) (k : Nat) : Nat := L.getD k 0

theorem gt_swp {L : List Nat} {i j : Nat} (hi : i < L.length) (hj : j < L.length) (k : Nat) : gt (swp L i j) k = if j = k then gt L i else if i = k then gt L j else gt L k := by
  simp only [gt, swp, List.getD, List.getElem?_set, List.length_set]
  by_cases h4 : j = k
  · subst h4; simp [hj]
  · by_cases h5 : i = k
    · subst h5; simp [h4, hi]
    · simp [h4, h5]

/-- The same elements from a to b, and the same ones beyond. -/
structure Sm (f g : Nat → Nat) (a b : Nat) : Prop where
  out : ∀ k, (k < a ∨ b ≤ k) → g k = f k
  fwd : ∀ k, a ≤ k → k < b → ∃ j, a ≤ j ∧ j < b ∧ g k = f j
  bwd : ∀ k, a ≤ k → k < b → ∃ j, a ≤ j ∧ j < b ∧ f k = g j

theorem Sm.refl (f : Nat → Nat) (a b : Nat) : Sm f f a b := ⟨fun _ _ => rfl, fun k h1 h2 => ⟨k, h1, h2, rfl⟩, fun k h1 h2 => ⟨k, h1, h2, rfl⟩⟩

theorem Sm.trans {f g h : Nat → Nat} {a b : Nat} (p : Sm f g a b) (q : Sm g h a b) : Sm f h a b where
  out k hk := (q.out k hk).trans (p.out k hk)
  fwd k h1 h2 := by
    obtain ⟨j, j1, j2, e⟩ := q.fwd k h1 h2
    obtain ⟨i, i1, i2, e'⟩ := p.fwd j j1 j2
    exact ⟨i, i1, i2, e.trans e'⟩
  bwd k h1 h2 := by
    obtain ⟨j, j1, j2, e⟩ := p.bwd k h1 h2
    obtain ⟨i, i1, i2, e'⟩ := q.bwd j j1 j2
    exact ⟨i, i1, i2, e.trans e'⟩

theorem Sm.wide {f g : Nat → Nat} {a b a' b' : Nat} (p : Sm f g a b) (ha : a' ≤ a) (hb : b ≤ b') : Sm f g a' b' where
  out k hk := p.out k (by omega)
  fwd k h1 h2 := by
    by_cases h : a ≤ k ∧ k < b
    · obtain ⟨j, j1, j2, e⟩ := p.fwd k h.1 h.2
      exact ⟨j, by omega, by omega, e⟩
    · exact ⟨k, h1, h2, p.out k (by omega)⟩
  bwd k h1 h2 := by
    by_cases h : a ≤ k ∧ k < b
    · obtain ⟨j, j1, j2, e⟩ := p.bwd k h.1 h.2
      exact ⟨j, by omega, by omega, e⟩
    · exact ⟨k, h1, h2, (p.out k (by omega)).symm⟩

theorem Sm.all {f g : Nat → Nat} {a b : Nat} (p : Sm f g a b) {Q : Nat → Prop} (h : ∀ k, a ≤ k → k < b → Q (f k)) : ∀ k, a ≤ k → k < b → Q (g k) := by
  intro k h1 h2
  obtain ⟨j, j1, j2, e⟩ := p.fwd k h1 h2
  exact e ▸ h j j1 j2

theorem sm_swp {L : List Nat} {i j a b : Nat} (hi : i < L.length) (hj : j < L.length) (h1 : a ≤ i ∧ i < b) (h2 : a ≤ j ∧ j < b) : Sm (gt L) (gt (swp L i j)) a b where
  out k hk := by rw [gt_swp hi hj, if_neg (by omega), if_neg (by omega)]
  fwd k k1 k2 := by
    rw [gt_swp hi hj]
    by_cases e1 : j = k
    · rw [if_pos e1]; exact ⟨i, h1.1, h1.2, rfl⟩
    · rw [if_neg e1]
      by_cases e2 : i = k
      · rw [if_pos e2]; exact ⟨j, h2.1, h2.2, rfl⟩
      · rw [if_neg e2]; exact ⟨k, k1, k2, rfl⟩
  bwd k k1 k2 := by
    by_cases e1 : j = k
    · subst e1
      refine ⟨i, h1.1, h1.2, ?_⟩
      rw [gt_swp hi hj]
      by_cases e2 : j = i
      · rw [if_pos e2, e2]
      · rw [if_neg e2, if_pos rfl]
    · by_cases e2 : i = k
      · subst e2
        exact ⟨j, h2.1, h2.2, by rw [gt_swp hi hj, if_pos rfl]⟩
      · exact ⟨k, k1, k2, by rw [gt_swp hi hj, if_neg e1, if_neg e2]⟩

section
variable (key : Nat → Int)

/-- Fewer, or as many and less. -/
def lx (x y : Nat) : Prop := key x < key y ∨ key x = key y ∧ x < y

variable {key}
theorem lx_trans {x y z : Nat} (h : lx key x y) (g : lx key y z) : lx key x z := by
  simp only [lx] at *
  omega

theorem lx_irr {x : Nat} : ¬ lx key x x := by simp [lx]

variable (key)
/-- In order from a to b. -/
def Srt (f : Nat → Nat) (a b : Nat) : Prop := ∀ i j, a ≤ i → i < j → j < b → lx key (f i) (f j)

variable {key}
theorem Srt.sub {f : Nat → Nat} {a b a' b' : Nat} (h : Srt key f a b) (ha : a ≤ a') (hb : b' ≤ b) : Srt key f a' b' := fun i j h1 h2 h3 => h i j (by omega) h2 (by omega)

theorem Srt.cong {f g : Nat → Nat} {a b : Nat} (h : Srt key f a b) (e : ∀ k, a ≤ k → k < b → g k = f k) : Srt key g a b := by
  intro i j h1 h2 h3
  rw [e i h1 (by omega), e j (by omega) h3]
  exact h i j h1 h2 h3

/-- Two halves in order, of which all of the one come before all of the other. -/
theorem Srt.join {f : Nat → Nat} {a m b : Nat} (h : Srt key f a m) (g : Srt key f m b) (c : ∀ i j, a ≤ i → i < m → m ≤ j → j < b → lx key (f i) (f j)) : Srt key f a b := by
  intro i j h1 h2 h3
  by_cases hj : j < m
  · exact h i j h1 h2 hj
  · by_cases hi : i < m
    · exact c i j h1 hi (by omega) h3
    · exact g i j (by omega) h2 h3

/-! ### Sort by insertion -/

structure InsInv (f : Nat → Nat) (a q Q : Nat) : Prop where
  rest : ∀ i j, a ≤ i → i < j → j < a + Q + 1 → i ≠ a + q → j ≠ a + q → lx key (f i) (f j)
  up : ∀ j, a + q < j → j < a + Q + 1 → lx key (f (a + q)) (f j)
  low : ∀ i, a ≤ i → i < a + q → key (f i) = key (f (a + q)) → f i < f (a + q)

theorem insIn_srt (a Q : Nat) : ∀ (q : Nat) (L : List Nat), q ≤ Q → a + Q < L.length → InsInv (key := key) (gt L) a q Q → Srt key (gt (insIn key a L q)) a (a + Q + 1) ∧ Sm (gt L) (gt (insIn key a L q)) a (a + Q + 1)
  | 0, L, _, hl, h => by
    refine ⟨fun i j h1 h2 h3 => ?_, Sm.refl ..⟩
    by_cases hi : i = a + 0
    · subst hi
      exact h.up j h2 h3
    · exact h.rest i j h1 h2 h3 hi (by omega)
  | q + 1, L, hq, hl, h => by
    rw [insIn]
    split
    · rename_i hc
      have g := @gt_swp L (a + q + 1) (a + q) (by omega) (by omega)
      have h2 : InsInv (key := key) (gt (swp L (a + q + 1) (a + q))) a q Q := by
        refine ⟨fun i j h1 h2 h3 h4 h5 => ?_, fun j h1 h2 => ?_, fun i h1 h2 => ?_⟩
        · rw [g i, g j, if_neg (Ne.symm h4), if_neg (Ne.symm h5)]
          by_cases hi : a + q + 1 = i
          · rw [if_pos hi, if_neg (by omega)]
            exact h.rest _ _ (by omega) (by omega) h3 (by omega) (by omega)
          · rw [if_neg hi]
            by_cases hj : a + q + 1 = j
            · rw [if_pos hj]
              exact h.rest _ _ h1 (by omega) (by omega) (by omega) (by omega)
            · rw [if_neg hj]
              exact h.rest _ _ h1 h2 h3 (by omega) (by omega)
        · rw [g (a + q), g j, if_pos rfl, if_neg (by omega)]
          by_cases hj : a + q + 1 = j
          · rw [if_pos hj]
            exact .inl (by simp only [gt]; omega)
          · rw [if_neg hj]
            exact h.up j (by omega) h2
        · rw [g (a + q), g i, if_pos rfl, if_neg (by omega), if_neg (by omega)]
          exact h.low i h1 (by omega)
      obtain ⟨r1, r2⟩ := insIn_srt a Q q (swp L (a + q + 1) (a + q)) (by omega) (by rw [swp_len]; exact hl) h2
      exact ⟨r1, (sm_swp (by omega) (by omega) (by omega) (by omega)).trans r2⟩
    · rename_i hc
      refine ⟨fun i j h1 h2 h3 => ?_, Sm.refl ..⟩
      have hle : lx key (gt L (a + q)) (gt L (a + q + 1)) := by
        by_cases he : key (gt L (a + q)) = key (gt L (a + (q + 1)))
        · exact .inr ⟨he, h.low _ (by omega) (by omega) he⟩
        · exact .inl (by simp only [gt] at he hc ⊢; rw [← Nat.add_assoc] at he; omega)
      by_cases hi : i = a + (q + 1)
      · subst hi
        exact h.up j h2 h3
      · by_cases hj : j = a + (q + 1)
        · subst hj
          by_cases hi2 : i = a + q
          · subst hi2
            exact hle
          · exact lx_trans (h.rest i (a + q) h1 (by omega) (by omega) hi (by omega)) hle
        · exact h.rest i j h1 h2 h3 hi hj

theorem insOut_srt (a b : Nat) : ∀ (q i : Nat) (L : List Nat), i + q = b → a < i → b ≤ L.length → Srt key (gt L) a i → (∀ k l, a ≤ k → k < l → i ≤ l → l < b → gt L k < gt L l) → Srt key (gt (insOut key a L i q)) a b ∧ Sm (gt L) (gt (insOut key a L i q)) a b
  | 0, i, L, hi, ha, hl, h, _ => by
    obtain rfl : i = b := by omega
    exact ⟨h, Sm.refl ..⟩
  | q + 1, i, L, hi, ha, hl, h, hu => by
    rw [insOut]
    have hinv : InsInv (key := key) (gt L) a (i - a) (i - a) := by
      refine ⟨fun k l h1 h2 h3 h4 h5 => h k l h1 h2 (by omega), fun j h1 h2 => by omega, fun k h1 h2 _ => hu k _ h1 h2 (by omega) (by omega)⟩
    obtain ⟨r1, r2⟩ := insIn_srt a (i - a) (i - a) L (Nat.le_refl _) (by omega) hinv
    have e : a + (i - a) + 1 = i + 1 := by omega
    rw [e] at r1 r2
    obtain ⟨s1, s2⟩ := insOut_srt a b q (i + 1) (insIn key a L (i - a)) (by omega) (by omega) (by rw [insIn_len]; exact hl) r1 (fun k l h1 h2 h3 h4 => by
      rw [r2.out l (by omega)]
      by_cases hk : k < i + 1
      · exact r2.all (Q := fun x => x < gt L l) (fun k' g1 g2 => hu k' l g1 (by omega) (by omega) h4) k h1 hk
      · rw [r2.out k (by omega)]
        exact hu k l h1 h2 (by omega) h4)
    exact ⟨s1, (r2.wide (Nat.le_refl _) (by omega)).trans s2⟩

/-- Elements that rise are in order then. -/
theorem insS_srt {a b : Nat} {L : List Nat} (hab : a ≤ b) (hl : b ≤ L.length) (hu : ∀ k l, a ≤ k → k < l → l < b → gt L k < gt L l) : Srt key (gt (insS key L a b)) a b ∧ Sm (gt L) (gt (insS key L a b)) a b := by
  by_cases h : a + 1 ≤ b
  · exact insOut_srt a b (b - (a + 1)) (a + 1) L (by omega) (by omega) hl (fun i j h1 h2 h3 => by omega) (fun k l h1 h2 h3 h4 => hu k l h1 h2 h4)
  · rw [insS, show b - (a + 1) = 0 by omega, insOut]
    exact ⟨fun i j h1 h2 h3 => by omega, Sm.refl ..⟩
end

/-! ### Ranges change places -/

def swR (a b : Nat) : List Nat → Nat → Nat → List Nat
  | L, _, 0 => L
  | L, i, q + 1 => swR a b (swp L (a + i) (b + i)) (i + 1) q

theorem swR_len (a b : Nat) : ∀ (q i : Nat) (L : List Nat), (swR a b L i q).length = L.length
  | 0, _, _ => rfl
  | q + 1, i, L => by rw [swR, swR_len a b q, swp_len]

theorem gt_swR (a b : Nat) : ∀ (q i : Nat) (L : List Nat), a + i + q ≤ b + i → b + i + q ≤ L.length → ∀ k, gt (swR a b L i q) k = if a + i ≤ k ∧ k < a + i + q then gt L (k - a + b) else if b + i ≤ k ∧ k < b + i + q then gt L (k - b + a) else gt L k
  | 0, i, L, _, _, k => by rw [swR, if_neg (by omega), if_neg (by omega)]
  | q + 1, i, L, h1, h2, k => by
    rw [swR, gt_swR a b q (i + 1) _ (by omega) (by rw [swp_len]; omega)]
    have g := @gt_swp L (a + i) (b + i) (by omega) (by omega)
    by_cases c1 : a + (i + 1) ≤ k ∧ k < a + (i + 1) + q
    · rw [if_pos c1, if_pos (by omega), g, if_neg (by omega), if_neg (by omega)]
    · rw [if_neg c1]
      by_cases c2 : b + (i + 1) ≤ k ∧ k < b + (i + 1) + q
      · rw [if_pos c2, if_neg (by omega), if_pos (by omega), g, if_neg (by omega), if_neg (by omega)]
      · rw [if_neg c2, g]
        by_cases c3 : b + i = k
        · rw [if_pos c3, if_neg (by omega), if_pos (by omega)]
          congr 1; omega
        · rw [if_neg c3]
          by_cases c4 : a + i = k
          · rw [if_pos c4, if_pos (by omega)]
            congr 1; omega
          · rw [if_neg c4, if_neg (by omega), if_neg (by omega)]

def rot (m : Nat) : Nat → List Nat → Nat → Nat → List Nat
  | 0, L, _, _ => L
  | f + 1, L, i, j => if i = j then swR (m - i) m L 0 i else if j < i then rot m f (swR (m - i) m L 0 j) (i - j) j else rot m f (swR (m - i) (m + j - i) L 0 i) i (j - i)

theorem rot_len (m : Nat) : ∀ (f : Nat) (L : List Nat) (i j : Nat), (rot m f L i j).length = L.length
  | 0, _, _, _ => rfl
  | f + 1, L, i, j => by
    rw [rot]
    split
    · rw [swR_len]
    · split
      · rw [rot_len m f, swR_len]
      · rw [rot_len m f, swR_len]

theorem gt_rot (m : Nat) : ∀ (f : Nat) (L : List Nat) (i j : Nat), i + j ≤ f → 0 < i → 0 < j → i ≤ m → m + j ≤ L.length → ∀ k, gt (rot m f L i j) k = if m - i ≤ k ∧ k < m - i + j then gt L (k + i) else if m - i + j ≤ k ∧ k < m + j then gt L (k - j) else gt L k
  | 0, L, i, j, h, h1, _, _, _, _ => by omega
  | f + 1, L, i, j, h, hi, hj, him, hl, k => by
    rw [rot]
    by_cases e : i = j
    · subst e
      rw [if_pos rfl, gt_swR _ _ _ _ _ (by omega) (by omega)]
      by_cases c1 : m - i ≤ k ∧ k < m - i + i
      · rw [if_pos (by omega), if_pos c1]; congr 1; omega
      · rw [if_neg (by omega), if_neg c1]
        by_cases c2 : m - i + i ≤ k ∧ k < m + i
        · rw [if_pos (by omega), if_pos c2]; congr 1; omega
        · rw [if_neg (by omega), if_neg c2]
    · rw [if_neg e]
      by_cases c : j < i
      · rw [if_pos c, gt_rot m f _ (i - j) j (by omega) (by omega) hj (by omega) (by rw [swR_len]; exact hl)]
        have g := gt_swR (m - i) m j 0 L (by omega) (by omega)
        rw [g, g, g]
        by_cases c1 : m - (i - j) ≤ k ∧ k < m - (i - j) + j
        · rw [if_pos c1]
          by_cases c2 : m ≤ k + (i - j)
          · rw [if_neg (by omega), if_pos (by omega), if_neg (by omega), if_pos (by omega)]; congr 1; omega
          · omega
        · rw [if_neg c1]
          by_cases c2 : m - (i - j) + j ≤ k ∧ k < m + j
          · rw [if_pos c2, if_neg (by omega), if_neg (by omega), if_neg (by omega), if_pos (by omega)]
          · rw [if_neg c2]
            by_cases c3 : m - i ≤ k ∧ k < m - i + j
            · rw [if_pos (by omega), if_pos c3]; congr 1; omega
            · rw [if_neg (by omega), if_neg (by omega), if_neg c3, if_neg (by omega)]
      · rw [if_neg c, gt_rot m f _ i (j - i) (by omega) hi (by omega) him (by rw [swR_len]; omega)]
        have g := gt_swR (m - i) (m + j - i) i 0 L (by omega) (by omega)
        rw [g, g, g]
        obtain ⟨u, hu⟩ : ∃ u, m = u + i := ⟨m - i, by omega⟩
        obtain ⟨v, hv⟩ : ∃ v, j = v + i := ⟨j - i, by omega⟩
        subst hu
        subst hv
        have e1 : u + i - i = u := by omega
        have e2 : v + i - i = v := by omega
        have e3 : u + i + (v + i) - i = u + i + v := by omega
        rw [e1, e2, e3]
        by_cases c1 : u ≤ k ∧ k < u + v
        · rw [if_pos c1, if_neg (by omega), if_neg (by omega), if_pos (by omega)]
        · rw [if_neg c1]
          by_cases c2 : u + v ≤ k ∧ k < u + i + v
          · rw [if_pos c2, if_pos (by omega), if_pos (by omega)]; congr 1; omega
          · rw [if_neg c2, if_neg (by omega)]
            by_cases c4 : u + i + v ≤ k ∧ k < u + i + (v + i)
            · rw [if_pos (by omega), if_neg (by omega), if_pos (by omega)]; congr 1; omega
            · rw [if_neg (by omega), if_neg (by omega), if_neg (by omega)]

/-- A rotation leaves the same elements. -/
theorem sm_rot {m f : Nat} {L : List Nat} {i j : Nat} (h : i + j ≤ f) (hi : 0 < i) (hj : 0 < j) (him : i ≤ m) (hl : m + j ≤ L.length) : Sm (gt L) (gt (rot m f L i j)) (m - i) (m + j) := by
  have g := gt_rot m f L i j h hi hj him hl
  refine ⟨fun k hk => by rw [g, if_neg (by omega), if_neg (by omega)], fun k h1 h2 => ?_, fun k h1 h2 => ?_⟩
  · by_cases c : k < m - i + j
    · exact ⟨k + i, by omega, by omega, by rw [g, if_pos ⟨h1, c⟩]⟩
    · exact ⟨k - j, by omega, by omega, by rw [g, if_neg (by omega), if_pos (by omega)]⟩
  · by_cases c : k < m
    · exact ⟨k + j, by omega, by omega, by rw [g, if_neg (by omega), if_pos (by omega)]; congr 1; omega⟩
    · exact ⟨k - i, by omega, by omega, by rw [g, if_pos (by omega)]; congr 1; omega⟩

/-! ### By halves -/

def bs (P : Nat → Bool) : Nat → Nat → Nat → Nat
  | 0, i, _ => i
  | f + 1, i, j => if i < j then (if P ((i + j) / 2) then bs P f ((i + j) / 2 + 1) j else bs P f i ((i + j) / 2)) else i

/-- The first place at which it is no more so. -/
theorem bs_spec (P : Nat → Bool) (lo hi : Nat) (hP : ∀ x y, lo ≤ x → x ≤ y → y < hi → P y = true → P x = true) : ∀ (f i j : Nat), j - i < f → lo ≤ i → i ≤ j → j ≤ hi → (∀ x, lo ≤ x → x < i → P x = true) → (∀ x, j ≤ x → x < hi → P x = false) →
    lo ≤ bs P f i j ∧ bs P f i j ≤ hi ∧ (∀ x, lo ≤ x → x < bs P f i j → P x = true) ∧ ∀ x, bs P f i j ≤ x → x < hi → P x = false
  | 0, i, j, h, _, _, _, _, _ => by omega
  | f + 1, i, j, h, h1, h2, h3, h4, h5 => by
    rw [bs]
    by_cases c : i < j
    · rw [if_pos c]
      by_cases p : P ((i + j) / 2) = true
      · rw [if_pos p]
        exact bs_spec P lo hi hP f _ j (by omega) (by omega) (by omega) h3 (fun x g1 g2 => hP x _ g1 (show x ≤ (i + j) / 2 by omega) (by omega) p) h5
      · rw [if_neg p]
        refine bs_spec P lo hi hP f i _ (by omega) h1 (by omega) (by omega) h4 (fun x g1 g2 => ?_)
        rw [← Bool.not_eq_true]
        exact fun hx => p (hP _ x (by omega) g1 g2 hx)
    · rw [if_neg c]
      obtain rfl : i = j := by omega
      exact ⟨h1, h3, h4, h5⟩

/-! ### Elements go up, or down -/

def upS : List Nat → Nat → Nat → List Nat
  | L, _, 0 => L
  | L, k, q + 1 => upS (swp L k (k + 1)) (k + 1) q

def dnS : List Nat → Nat → Nat → List Nat
  | L, _, 0 => L
  | L, i, q + 1 => dnS (swp L (i + q + 1) (i + q)) i q

theorem upS_len : ∀ (q k : Nat) (L : List Nat), (upS L k q).length = L.length
  | 0, _, _ => rfl
  | q + 1, k, L => by rw [upS, upS_len q, swp_len]

theorem dnS_len : ∀ (q k : Nat) (L : List Nat), (dnS L k q).length = L.length
  | 0, _, _ => rfl
  | q + 1, k, L => by rw [dnS, dnS_len q, swp_len]

theorem gt_upS : ∀ (q a : Nat) (L : List Nat), a + q < L.length → ∀ k, gt (upS L a q) k = if a ≤ k ∧ k < a + q then gt L (k + 1) else if k = a + q then gt L a else gt L k
  | 0, a, L, h, k => by
    rw [upS, if_neg (by omega)]
    split
    · rename_i h; rw [h]; rfl
    · rfl
  | q + 1, a, L, h, k => by
    have g := @gt_swp L a (a + 1) (by omega) (by omega)
    rw [upS, gt_upS q (a + 1) _ (by rw [swp_len]; omega), g, g, g]
    by_cases c1 : a + 1 ≤ k ∧ k < a + 1 + q
    · rw [if_pos c1, if_neg (by omega), if_neg (by omega), if_pos (by omega)]
    · rw [if_neg c1]
      by_cases c2 : k = a + 1 + q
      · rw [if_pos c2, if_pos rfl, if_neg (by omega), if_pos (by omega)]
      · rw [if_neg c2, if_neg (by omega)]
        by_cases c3 : a = k
        · rw [if_pos c3, if_pos (by omega), c3]
        · rw [if_neg c3, if_neg (by omega), if_neg (by omega)]

theorem gt_dnS : ∀ (q a : Nat) (L : List Nat), a + q < L.length → ∀ k, gt (dnS L a q) k = if k = a then gt L (a + q) else if a < k ∧ k ≤ a + q then gt L (k - 1) else gt L k
  | 0, a, L, h, k => by
    rw [dnS]
    split
    · rename_i h; rw [h]; rfl
    · rw [if_neg (by omega)]
  | q + 1, a, L, h, k => by
    have g := @gt_swp L (a + q + 1) (a + q) (by omega) (by omega)
    rw [dnS, gt_dnS q a _ (by rw [swp_len]; omega), g, g, g]
    by_cases c1 : k = a
    · rw [if_pos c1, if_pos rfl, if_pos c1]; rfl
    · rw [if_neg c1, if_neg c1]
      by_cases c2 : a < k ∧ k ≤ a + q
      · rw [if_pos c2, if_neg (by omega), if_neg (by omega), if_pos (by omega)]
      · rw [if_neg c2]
        by_cases c3 : k = a + q + 1
        · rw [if_neg (by omega), if_pos (by omega), if_pos (by omega)]; congr 1; omega
        · rw [if_neg (by omega), if_neg (by omega), if_neg (by omega)]

/-! ### Two lists in order become one -/

section
variable (key : Nat → Int)

def symA (L : List Nat) (a m b : Nat) : List Nat := upS L a (bs (fun h => decide (key (gt L h) - key (gt L a) < 0)) (b - m + 1) m b - 1 - a)
def symB (L : List Nat) (a m b : Nat) : List Nat := dnS L (bs (fun h => !decide (key (gt L m) - key (gt L h) < 0)) (m - a + 1) a m) (m - bs (fun h => !decide (key (gt L m) - key (gt L h) < 0)) (m - a + 1) a m)

def symS (L : List Nat) (a m b : Nat) : Nat :=
  bs (fun c => !decide (key (gt L ((a + b) / 2 + m - 1 - c)) - key (gt L c) < 0)) ((if (a + b) / 2 < m then (a + b) / 2 else m) - (if (a + b) / 2 < m then (a + b) / 2 + m - b else a) + 1) (if (a + b) / 2 < m then (a + b) / 2 + m - b else a) (if (a + b) / 2 < m then (a + b) / 2 else m)

def sym : Nat → List Nat → Nat → Nat → Nat → List Nat
  | 0, L, _, _, _ => L
  | f + 1, L, a, m, b =>
    if m - a = 1 then symA key L a m b else if b - m = 1 then symB key L a m b else
    let mid := (a + b) / 2
    let s := symS key L a m b
    let e := mid + m - s
    let L1 := if s < m ∧ m < e then rot m (e - s) L (m - s) (e - m) else L
    let L2 := if a < s ∧ s < mid then sym f L1 a s mid else L1
    if mid < e ∧ e < b then sym f L2 mid e b else L2

variable {key}

/-- Two lists that are in order, of which those of the second one are greater if they count as many. -/
structure SymPre (f : Nat → Nat) (a m b : Nat) : Prop where
  am : a < m
  mb : m < b
  l : Srt key f a m
  r : Srt key f m b
  x : ∀ i j, a ≤ i → i < m → m ≤ j → j < b → key (f i) = key (f j) → f i < f j

/-- What comes first. -/
theorem SymPre.lt {f : Nat → Nat} {a m b : Nat} (h : SymPre (key := key) f a m b) {i j : Nat} (h1 : a ≤ i) (h2 : i < m) (h3 : m ≤ j) (h4 : j < b) : lx key (f i) (f j) ↔ ¬ key (f j) - key (f i) < 0 := by
  have := h.x i j h1 h2 h3 h4
  simp only [lx]
  omega

theorem SymPre.gt {f : Nat → Nat} {a m b : Nat} (h : SymPre (key := key) f a m b) {i j : Nat} (h1 : a ≤ i) (h2 : i < m) (h3 : m ≤ j) (h4 : j < b) (hk : key (f j) - key (f i) < 0) : lx key (f j) (f i) := .inl (by omega)

theorem symA_srt {L : List Nat} {a m b : Nat} (h : SymPre (key := key) (gt L) a m b) (hl : b ≤ L.length) (h1 : m - a = 1) : Srt key (gt (symA key L a m b)) a b ∧ Sm (gt L) (gt (symA key L a m b)) a b := by
  have hm : m = a + 1 := by have := h.am; omega
  subst hm
  have hmb := h.mb
  obtain ⟨b1, b2, b3, b4⟩ := bs_spec (fun h => decide (key (gt L h) - key (gt L a) < 0)) (a + 1) b (fun x y g1 g2 g3 g4 => by
    simp only [decide_eq_true_eq] at g4 ⊢
    by_cases hxy : x = y
    · subst hxy; exact g4
    · have := h.r x y g1 (by omega) g3
      simp only [lx] at this
      omega) (b - (a + 1) + 1) (a + 1) b (by omega) (by omega) (by omega) (by omega) (by omega) (by omega)
  simp only [symA]
  generalize bs (fun h => decide (key (gt L h) - key (gt L a) < 0)) (b - (a + 1) + 1) (a + 1) b = t at *
  have g := gt_upS (t - 1 - a) a L (by omega)
  simp only [decide_eq_true_eq, decide_eq_false_iff_not] at b3 b4
  constructor
  · intro i j i1 i2 i3
    rw [g, g]
    by_cases c1 : a ≤ i ∧ i < a + (t - 1 - a)
    · rw [if_pos c1]
      by_cases c2 : a ≤ j ∧ j < a + (t - 1 - a)
      · rw [if_pos c2]
        exact h.r _ _ (by omega) (by omega) (by omega)
      · rw [if_neg c2]
        split
        · exact h.gt (Nat.le_refl _) (by omega) (by omega) (by omega) (b3 (i + 1) (by omega) (by omega))
        · exact h.r _ _ (by omega) (by omega) (by omega)
    · rw [if_neg c1]
      by_cases c2 : i = a + (t - 1 - a)
      · rw [if_pos c2, if_neg (by omega), if_neg (by omega)]
        exact (h.lt (Nat.le_refl _) (by omega) (by omega) (by omega)).2 (b4 j (by omega) (by omega))
      · rw [if_neg c2, if_neg (by omega), if_neg (by omega)]
        exact h.r _ _ (by omega) (by omega) (by omega)
  · refine ⟨fun k hk => by rw [g, if_neg (by omega), if_neg (by omega)], fun k k1 k2 => ?_, fun k k1 k2 => ?_⟩
    · rw [g]
      split
      · exact ⟨k + 1, by omega, by omega, rfl⟩
      · split
        · exact ⟨a, by omega, by omega, rfl⟩
        · exact ⟨k, by omega, by omega, rfl⟩
    · by_cases c1 : k = a
      · exact ⟨a + (t - 1 - a), by omega, by omega, by rw [g, if_neg (by omega), if_pos rfl, c1]⟩
      · by_cases c2 : k < t
        · exact ⟨k - 1, by omega, by omega, by rw [g, if_pos (by omega)]; congr 1; omega⟩
        · exact ⟨k, by omega, by omega, by rw [g, if_neg (by omega), if_neg (by omega)]⟩

theorem symB_srt {L : List Nat} {a m b : Nat} (h : SymPre (key := key) (gt L) a m b) (hl : b ≤ L.length) (h1 : b - m = 1) : Srt key (gt (symB key L a m b)) a b ∧ Sm (gt L) (gt (symB key L a m b)) a b := by
  have hm : b = m + 1 := by have := h.mb; omega
  subst hm
  have ham := h.am
  obtain ⟨b1, b2, b3, b4⟩ := bs_spec (fun h => !decide (key (gt L m) - key (gt L h) < 0)) a m (fun x y g1 g2 g3 g4 => by
    simp only [Bool.not_eq_true', decide_eq_false_iff_not] at g4 ⊢
    by_cases hxy : x = y
    · subst hxy; exact g4
    · have := h.l x y g1 (by omega) g3
      simp only [lx] at this
      omega) (m - a + 1) a m (by omega) (by omega) (by omega) (by omega) (by omega) (by omega)
  simp only [symB]
  generalize bs (fun h => !decide (key (gt L m) - key (gt L h) < 0)) (m - a + 1) a m = t at *
  have g := gt_dnS (m - t) t L (by omega)
  simp only [Bool.not_eq_true', decide_eq_false_iff_not, Bool.not_eq_false', decide_eq_true_eq] at b3 b4
  have et : t + (m - t) = m := by omega
  rw [et] at g
  constructor
  · intro i j i1 i2 i3
    rw [g, g]
    by_cases c1 : i = t
    · rw [if_pos c1, if_neg (by omega), if_pos (by omega)]
      exact h.gt (i := j - 1) (by omega) (by omega) (Nat.le_refl _) (by omega) (b4 _ (by omega) (by omega))
    · rw [if_neg c1]
      by_cases c2 : t < i ∧ i ≤ m
      · rw [if_pos c2, if_neg (by omega), if_pos (by omega)]
        exact h.l _ _ (by omega) (by omega) (by omega)
      · rw [if_neg c2]
        by_cases c3 : j = t
        · rw [if_pos c3]
          exact (h.lt (by omega) (by omega) (Nat.le_refl _) (by omega)).2 (b3 _ (by omega) (by omega))
        · rw [if_neg c3]
          split
          · exact h.l _ _ (by omega) (by omega) (by omega)
          · exact h.l _ _ (by omega) (by omega) (by omega)
  · refine ⟨fun k hk => by rw [g, if_neg (by omega), if_neg (by omega)], fun k k1 k2 => ?_, fun k k1 k2 => ?_⟩
    · rw [g]
      split
      · exact ⟨m, by omega, by omega, rfl⟩
      · split
        · exact ⟨k - 1, by omega, by omega, rfl⟩
        · exact ⟨k, by omega, by omega, rfl⟩
    · by_cases c1 : k = m
      · exact ⟨t, by omega, by omega, by rw [g, if_pos rfl, c1]⟩
      · by_cases c2 : t ≤ k
        · exact ⟨k + 1, by omega, by omega, by rw [g, if_neg (by omega), if_pos (by omega)]; rfl⟩
        · exact ⟨k, by omega, by omega, by rw [g, if_neg (by omega), if_neg (by omega)]⟩

theorem symA_len (L : List Nat) (a m b : Nat) : (symA key L a m b).length = L.length := upS_len ..
theorem symB_len (L : List Nat) (a m b : Nat) : (symB key L a m b).length = L.length := dnS_len ..

theorem sym_len : ∀ (f : Nat) (L : List Nat) (a m b : Nat), (sym key f L a m b).length = L.length
  | 0, _, _, _, _ => rfl
  | f + 1, L, a, m, b => by
    rw [sym]
    split
    · exact symA_len ..
    · split
      · exact symB_len ..
      · dsimp only
        repeat' split
        all_goals simp only [sym_len f, rot_len]

/-- Where the two lists are cut. -/
theorem symS_spec {L : List Nat} {a m b : Nat} (h : SymPre (key := key) (gt L) a m b) {s : Nat} (hs : symS key L a m b = s) :
    a ≤ s ∧ s ≤ m ∧ s ≤ (a + b) / 2 ∧ m ≤ (a + b) / 2 + m - s ∧ (a + b) / 2 + m - s ≤ b ∧ (∀ i j, a ≤ i → i < s → (a + b) / 2 + m - s ≤ j → j < b → lx key (gt L i) (gt L j)) ∧ ∀ i j, s ≤ i → i < m → m ≤ j → j < (a + b) / 2 + m - s → lx key (gt L j) (gt L i) := by
  have ham := h.am
  have hmb := h.mb
  simp only [symS] at hs
  obtain ⟨lo, hlo⟩ : ∃ lo, (if (a + b) / 2 < m then (a + b) / 2 + m - b else a) = lo := ⟨_, rfl⟩
  obtain ⟨hi, hhi⟩ : ∃ hi, (if (a + b) / 2 < m then (a + b) / 2 else m) = hi := ⟨_, rfl⟩
  rw [hlo, hhi] at hs
  have k1 : a ≤ lo ∧ lo ≤ hi ∧ hi ≤ m ∧ hi ≤ (a + b) / 2 ∧ (a + b) / 2 + m - 1 - lo < b ∧ m ≤ (a + b) / 2 + m - hi ∧ (lo = a ∨ (a + b) / 2 + m - lo = b) ∧ (hi = m ∨ (a + b) / 2 = hi) := by
    split at hlo <;> split at hhi <;> omega
  obtain ⟨k1, k2, k3, k4, k5, k6, k7, k8⟩ := k1
  obtain ⟨b1, b2, b3, b4⟩ := bs_spec (fun c => !decide (key (gt L ((a + b) / 2 + m - 1 - c)) - key (gt L c) < 0)) lo hi (fun x y g1 g2 g3 g4 => by
    simp only [Bool.not_eq_true', decide_eq_false_iff_not] at g4 ⊢
    by_cases hxy : x = y
    · subst hxy; exact g4
    · have p1 := h.l x y (by omega) (by omega) (by omega)
      have p2 := h.r ((a + b) / 2 + m - 1 - y) ((a + b) / 2 + m - 1 - x) (by omega) (by omega) (by omega)
      simp only [lx] at p1 p2
      omega) (hi - lo + 1) lo hi (by omega) (by omega) (by omega) (by omega) (by omega) (by omega)
  rw [hs] at b1 b2 b3 b4
  simp only [Bool.not_eq_true', decide_eq_false_iff_not, Bool.not_eq_false', decide_eq_true_eq] at b3 b4
  refine ⟨by omega, by omega, by omega, by omega, by omega, fun i j i1 i2 i3 i4 => ?_, fun i j i1 i2 i3 i4 => ?_⟩
  · have hlos : lo < s := by omega
    have q1 := (h.lt (i := s - 1) (j := (a + b) / 2 + m - 1 - (s - 1)) (by omega) (by omega) (by omega) (by omega)).2 (b3 (s - 1) (by omega) (by omega))
    have q2 : lx key (gt L i) (gt L ((a + b) / 2 + m - 1 - (s - 1))) := by
      by_cases hi : i = s - 1
      · subst hi; exact q1
      · exact lx_trans (h.l i (s - 1) i1 (by omega) (by omega)) q1
    by_cases hj : j = (a + b) / 2 + m - 1 - (s - 1)
    · subst hj; exact q2
    · exact lx_trans q2 (h.r _ j (by omega) (by omega) i4)
  · have hsh : s < hi := by omega
    have q1 := h.gt (i := s) (j := (a + b) / 2 + m - 1 - s) (by omega) (by omega) (by omega) (by omega) (b4 s (by omega) (by omega))
    have q2 : lx key (gt L ((a + b) / 2 + m - 1 - s)) (gt L i) := by
      by_cases hi : i = s
      · subst hi; exact q1
      · exact lx_trans q1 (h.l s i (by omega) (by omega) (by omega))
    by_cases hj : j = (a + b) / 2 + m - 1 - s
    · subst hj; exact q2
    · exact lx_trans (h.r j _ i3 (by omega) (by omega)) q2

theorem sym_srt : ∀ (f : Nat) (L : List Nat) (a m b : Nat), b - a ≤ f → b ≤ L.length → SymPre (key := key) (gt L) a m b → Srt key (gt (sym key f L a m b)) a b ∧ Sm (gt L) (gt (sym key f L a m b)) a b
  | 0, L, a, m, b, hf, _, h => by have := h.am; have := h.mb; omega
  | f + 1, L, a, m, b, hf, hl, h => by
    have ham := h.am
    have hmb := h.mb
    rw [sym]
    by_cases c1 : m - a = 1
    · rw [if_pos c1]; exact symA_srt h hl c1
    rw [if_neg c1]
    by_cases c2 : b - m = 1
    · rw [if_pos c2]; exact symB_srt h hl c2
    rw [if_neg c2]
    dsimp only
    obtain ⟨s, hs⟩ : ∃ s, symS key L a m b = s := ⟨_, rfl⟩
    obtain ⟨s1, s2, s3, s4, s5, s6, s7⟩ := symS_spec h hs
    rw [hs]
    obtain ⟨mid, hmid⟩ : ∃ mid, (a + b) / 2 = mid := ⟨_, rfl⟩
    rw [hmid] at s3 s4 s5 s6 s7 ⊢
    obtain ⟨e, he⟩ : ∃ e, mid + m - s = e := ⟨_, rfl⟩
    rw [he] at s4 s5 s6 s7 ⊢
    obtain ⟨L1, hL1⟩ : ∃ L1, (if s < m ∧ m < e then rot m (e - s) L (m - s) (e - m) else L) = L1 := ⟨_, rfl⟩
    rw [hL1]
    have hl1 : L1.length = L.length := by rw [← hL1]; split <;> simp only [rot_len]
    have g : ∀ k, gt L1 k = if s ≤ k ∧ k < mid then gt L (k + (m - s)) else if mid ≤ k ∧ k < e then gt L (k - (e - m)) else gt L k := by
      intro k
      rw [← hL1]
      by_cases c : s < m ∧ m < e
      · rw [if_pos c, gt_rot m _ _ _ _ (by omega) (by omega) (by omega) (by omega) (by omega)]
        have e1 : m - (m - s) = s := by omega
        have e2 : s + (e - m) = mid := by omega
        have e3 : m + (e - m) = e := by omega
        rw [e1, e2, e3]
      · rw [if_neg c]
        by_cases d : s = m
        · subst d
          by_cases d2 : s ≤ k ∧ k < mid
          · rw [if_pos d2, Nat.sub_self, Nat.add_zero]
          · rw [if_neg d2, if_neg (by omega)]
        · have : e = m := by omega
          subst this
          rw [if_neg (by omega)]
          split
          · rw [Nat.sub_self]; rfl
          · rfl
    have hsm1 : Sm (gt L) (gt L1) a b := by
      rw [← hL1]
      by_cases c : s < m ∧ m < e
      · rw [if_pos c]
        have := sm_rot (m := m) (f := e - s) (L := L) (i := m - s) (j := e - m) (by omega) (by omega) (by omega) (by omega) (by omega)
        exact this.wide (by omega) (by omega)
      · rw [if_neg c]; exact Sm.refl ..
    -- the left half
    have lft : ∀ i, a ≤ i → i < s → gt L1 i = gt L i := fun i h1 h2 => by rw [g, if_neg (by omega), if_neg (by omega)]
    have lfm : ∀ i, s ≤ i → i < mid → gt L1 i = gt L (i + (m - s)) := fun i h1 h2 => by rw [g, if_pos ⟨h1, h2⟩]
    have rgm : ∀ i, mid ≤ i → i < e → gt L1 i = gt L (i - (e - m)) := fun i h1 h2 => by rw [g, if_neg (by omega), if_pos ⟨h1, h2⟩]
    have rgt : ∀ i, e ≤ i → i < b → gt L1 i = gt L i := fun i h1 h2 => by rw [g, if_neg (by omega), if_neg (by omega)]
    have A1 : Srt key (gt L1) a s := (h.l.sub (Nat.le_refl _) s2).cong lft
    have B1 : Srt key (gt L1) s mid := fun i j i1 i2 i3 => by
      rw [lfm i i1 (by omega), lfm j (by omega) i3]; exact h.r _ _ (by omega) (by omega) (by omega)
    have A2 : Srt key (gt L1) mid e := fun i j i1 i2 i3 => by
      rw [rgm i i1 (by omega), rgm j (by omega) i3]; exact h.l _ _ (by omega) (by omega) (by omega)
    have B2 : Srt key (gt L1) e b := (h.r.sub s4 (Nat.le_refl _)).cong rgt
    have X1 : ∀ i j, a ≤ i → i < s → s ≤ j → j < mid → key (gt L1 i) = key (gt L1 j) → gt L1 i < gt L1 j := fun i j h1 h2 h3 h4 hk => by
      rw [lft i h1 h2, lfm j h3 h4] at hk ⊢; exact h.x _ _ h1 (by omega) (by omega) (by omega) hk
    have X2 : ∀ i j, mid ≤ i → i < e → e ≤ j → j < b → key (gt L1 i) = key (gt L1 j) → gt L1 i < gt L1 j := fun i j h1 h2 h3 h4 hk => by
      rw [rgm i h1 h2, rgt j h3 h4] at hk ⊢; exact h.x _ _ (by omega) (by omega) (by omega) (by omega) hk
    have cross : ∀ i j, a ≤ i → i < mid → mid ≤ j → j < b → lx key (gt L1 i) (gt L1 j) := by
      intro i j h1 h2 h3 h4
      by_cases ci : i < s
      · rw [lft i h1 ci]
        by_cases cj : j < e
        · rw [rgm j h3 cj]; exact h.l _ _ h1 (by omega) (by omega)
        · rw [rgt j (by omega) h4]; exact s6 i j h1 ci (by omega) h4
      · rw [lfm i (by omega) h2]
        by_cases cj : j < e
        · rw [rgm j h3 cj]; exact s7 _ _ (by omega) (by omega) (by omega) (by omega)
        · rw [rgt j (by omega) h4]; exact h.r _ _ (by omega) (by omega) h4
    have hmidb : mid < b ∧ a < mid := by omega
    -- the left half, in order
    obtain ⟨L2, hL2⟩ : ∃ L2, (if a < s ∧ s < mid then sym key f L1 a s mid else L1) = L2 := ⟨_, rfl⟩
    rw [hL2]
    have hl2 : L2.length = L.length := by rw [← hL2]; split <;> simp only [sym_len, hl1]
    have r2 : Srt key (gt L2) a mid ∧ Sm (gt L1) (gt L2) a mid := by
      rw [← hL2]
      by_cases c : a < s ∧ s < mid
      · rw [if_pos c]
        exact sym_srt f L1 a s mid (by omega) (by omega) ⟨c.1, c.2, A1, B1, X1⟩
      · rw [if_neg c]
        refine ⟨?_, Sm.refl ..⟩
        by_cases d : s = a
        · subst d; exact B1
        · have : s = mid := by omega
          subst this; exact A1
    have out2 : ∀ k, mid ≤ k → gt L2 k = gt L1 k := fun k hk => r2.2.out k (.inr hk)
    obtain ⟨L3, hL3⟩ : ∃ L3, (if mid < e ∧ e < b then sym key f L2 mid e b else L2) = L3 := ⟨_, rfl⟩
    rw [hL3]
    have r3 : Srt key (gt L3) mid b ∧ Sm (gt L2) (gt L3) mid b := by
      rw [← hL3]
      have A2' : Srt key (gt L2) mid e := A2.cong fun k h1 _ => out2 k h1
      have B2' : Srt key (gt L2) e b := B2.cong fun k h1 _ => out2 k (by omega)
      by_cases c : mid < e ∧ e < b
      · rw [if_pos c]
        exact sym_srt f L2 mid e b (by omega) (by omega) ⟨c.1, c.2, A2', B2', fun i j h1 h2 h3 h4 => by rw [out2 i h1, out2 j (by omega)]; exact X2 i j h1 h2 h3 h4⟩
      · rw [if_neg c]
        refine ⟨?_, Sm.refl ..⟩
        by_cases d : e = mid
        · subst d; exact B2'
        · have : e = b := by omega
          subst this; exact A2'
    refine ⟨Srt.join (m := mid) (r2.1.cong fun k h1 h2 => r3.2.out k (.inl h2)) r3.1 fun i j h1 h2 h3 h4 => ?_, (hsm1.trans (r2.2.wide (Nat.le_refl _) (by omega))).trans (r3.2.wide (by omega) (Nat.le_refl _))⟩
    rw [r3.2.out i (.inl h2)]
    refine r3.2.all (Q := fun x => lx key (gt L2 i) x) (fun j' g1 g2 => ?_) j h3 h4
    rw [out2 j' g1]
    exact r2.2.all (Q := fun x => lx key x (gt L1 j')) (fun i' e1 e2 => cross i' j' e1 e2 g1 g2) i h1 h2
end

/-! ### The whole sort -/

section
variable (key : Nat → Int)

def stI (n : Nat) : Nat → List Nat → Nat → List Nat
  | 0, L, _ => L
  | f + 1, L, a => if a + 20 ≤ n then stI n f (insS key L a (a + 20)) (a + 20) else insS key L a n

def stM (s n : Nat) : Nat → List Nat → Nat → List Nat
  | 0, L, _ => L
  | f + 1, L, a => if a + 2 * s ≤ n then stM s n f (sym key n L a (a + s) (a + 2 * s)) (a + 2 * s) else if a + s < n then sym key n L a (a + s) n else L

def stP (n : Nat) : Nat → List Nat → Nat → List Nat
  | 0, L, _ => L
  | f + 1, L, s => if s < n then stP n f (stM key s n (n + 1) L 0) (2 * s) else L

def stab (n : Nat) (L : List Nat) : List Nat := stP key n (n + 1) (stI key n (n + 1) L 0) 20

theorem insS_len (L : List Nat) (a b : Nat) : (insS key L a b).length = L.length := insOut_len ..

theorem stI_len (n : Nat) : ∀ (f : Nat) (L : List Nat) (a : Nat), (stI key n f L a).length = L.length
  | 0, _, _ => rfl
  | f + 1, L, a => by
    rw [stI]
    split
    · rw [stI_len n f, insS_len]
    · rw [insS_len]

theorem stM_len (s n : Nat) : ∀ (f : Nat) (L : List Nat) (a : Nat), (stM key s n f L a).length = L.length
  | 0, _, _ => rfl
  | f + 1, L, a => by
    rw [stM]
    split
    · rw [stM_len s n f, sym_len]
    · split
      · rw [sym_len]
      · rfl

theorem stP_len (n : Nat) : ∀ (f : Nat) (L : List Nat) (s : Nat), (stP key n f L s).length = L.length
  | 0, _, _ => rfl
  | f + 1, L, s => by
    rw [stP]
    split
    · rw [stP_len n f, stM_len]
    · rfl

theorem stab_len (n : Nat) (L : List Nat) : (stab key n L).length = L.length := by rw [stab, stP_len, stI_len]

variable {key}

/-- The same elements from a to b. -/
structure Ib (f g : Nat → Nat) (a b : Nat) : Prop where
  fwd : ∀ k, a ≤ k → k < b → ∃ j, a ≤ j ∧ j < b ∧ g k = f j
  bwd : ∀ k, a ≤ k → k < b → ∃ j, a ≤ j ∧ j < b ∧ f k = g j

theorem Sm.ib {f g : Nat → Nat} {a b : Nat} (h : Sm f g a b) : Ib f g a b := ⟨h.fwd, h.bwd⟩

theorem Ib.trans {f g h : Nat → Nat} {a b : Nat} (p : Ib f g a b) (q : Ib g h a b) : Ib f h a b where
  fwd k h1 h2 := by
    obtain ⟨j, j1, j2, e⟩ := q.fwd k h1 h2
    obtain ⟨i, i1, i2, e'⟩ := p.fwd j j1 j2
    exact ⟨i, i1, i2, e.trans e'⟩
  bwd k h1 h2 := by
    obtain ⟨j, j1, j2, e⟩ := p.bwd k h1 h2
    obtain ⟨i, i1, i2, e'⟩ := q.bwd j j1 j2
    exact ⟨i, i1, i2, e.trans e'⟩

theorem Ib.join {f g : Nat → Nat} {a m b : Nat} (p : Ib f g a m) (q : Ib f g m b) (h1 : a ≤ m) (h2 : m ≤ b) : Ib f g a b where
  fwd k k1 k2 := by
    by_cases c : k < m
    · obtain ⟨j, j1, j2, e⟩ := p.fwd k k1 c
      exact ⟨j, j1, by omega, e⟩
    · obtain ⟨j, j1, j2, e⟩ := q.fwd k (by omega) k2
      exact ⟨j, by omega, j2, e⟩
  bwd k k1 k2 := by
    by_cases c : k < m
    · obtain ⟨j, j1, j2, e⟩ := p.bwd k k1 c
      exact ⟨j, j1, by omega, e⟩
    · obtain ⟨j, j1, j2, e⟩ := q.bwd k (by omega) k2
      exact ⟨j, by omega, j2, e⟩

theorem Ib.cong {f g h : Nat → Nat} {a b : Nat} (p : Ib f g a b) (e : ∀ k, a ≤ k → k < b → h k = g k) : Ib f h a b where
  fwd k k1 k2 := by rw [e k k1 k2]; exact p.fwd k k1 k2
  bwd k k1 k2 := by
    obtain ⟨j, j1, j2, e'⟩ := p.bwd k k1 k2
    exact ⟨j, j1, j2, by rw [e j j1 j2]; exact e'⟩

/-- A block that is in order. -/
def Bk (key : Nat → Int) (f g : Nat → Nat) (s n a : Nat) : Prop := Srt key g a (min (a + s) n) ∧ Ib f g a (min (a + s) n)

theorem Bk.cong {f g h : Nat → Nat} {s n a : Nat} (p : Bk key f g s n a) (e : ∀ k, a ≤ k → k < a + s → h k = g k) : Bk key f h s n a :=
  ⟨p.1.cong fun k h1 h2 => e k h1 (by omega), p.2.cong fun k h1 h2 => e k h1 (by omega)⟩

theorem dvd_next {s a c : Nat} (h1 : s ∣ a) (h2 : s ∣ c) (h : c < a) : c + s ≤ a := by
  have := Nat.le_of_dvd (by omega) (Nat.dvd_sub h1 h2)
  omega

theorem stI_bk {n : Nat} {f0 : Nat → Nat} (hu : ∀ k l, k < l → l < n → f0 k < f0 l) : ∀ (f : Nat) (L : List Nat) (a : Nat), n < f + a → a ≤ n → L.length = n → 20 ∣ a → (∀ c, 20 ∣ c → c < a → Bk key f0 (gt L) 20 n c) → (∀ k, a ≤ k → gt L k = f0 k) → ∀ c, 20 ∣ c → c < n → Bk key f0 (gt (stI key n f L a)) 20 n c
  | 0, L, a, h, h2, _, _, _, _, _, _, _ => by omega
  | f + 1, L, a, h, h2, hl, hd, hb, hr, c, c1, c2 => by
    rw [stI]
    by_cases d : a + 20 ≤ n
    · rw [if_pos d]
      obtain ⟨r1, r2⟩ := insS_srt (key := key) (a := a) (b := a + 20) (L := L) (by omega) (by omega) (fun k l g1 g2 g3 => by rw [hr k g1, hr l (by omega)]; exact hu k l g2 (by omega))
      refine stI_bk hu f _ (a + 20) (by omega) d (by rw [insS_len]; exact hl) ((Nat.dvd_add_right hd).2 (Nat.dvd_refl _)) (fun e e1 e2 => ?_) (fun k hk => by rw [r2.out k (.inr hk)]; exact hr k (by omega)) c c1 c2
      by_cases he : e < a
      · refine (hb e e1 he).cong fun k g1 g2 => r2.out k (.inl ?_)
        have := dvd_next hd e1 he
        omega
      · have : e = a := by
          by_cases hea : e = a
          · exact hea
          · have := dvd_next e1 hd (by omega)
            omega
        subst this
        have em : min (e + 20) n = e + 20 := by omega
        refine ⟨by rw [em]; exact r1, ?_⟩
        rw [em]
        exact Ib.trans ⟨fun k g1 g2 => ⟨k, g1, g2, hr k g1⟩, fun k g1 g2 => ⟨k, g1, g2, (hr k g1).symm⟩⟩ r2.ib
    · rw [if_neg d]
      obtain ⟨r1, r2⟩ := insS_srt (key := key) (a := a) (b := n) (L := L) (by omega) (by omega) (fun k l g1 g2 g3 => by rw [hr k g1, hr l (by omega)]; exact hu k l g2 (by omega))
      by_cases he : c < a
      · refine (hb c c1 he).cong fun k g1 g2 => r2.out k (.inl ?_)
        have := dvd_next hd c1 he
        omega
      · have : c = a := by
          by_cases hea : c = a
          · exact hea
          · have := dvd_next c1 hd (by omega)
            omega
        subst this
        have em : min (c + 20) n = n := by omega
        refine ⟨by rw [em]; exact r1, ?_⟩
        rw [em]
        exact Ib.trans ⟨fun k g1 g2 => ⟨k, g1, g2, hr k g1⟩, fun k g1 g2 => ⟨k, g1, g2, (hr k g1).symm⟩⟩ r2.ib

/-- Two blocks become one. -/
theorem bk_merge {n s a b : Nat} {f0 : Nat → Nat} (hu : ∀ k l, k < l → l < n → f0 k < f0 l) {L : List Nat} (hl : L.length = n) (hs : 0 < s) (h1 : Bk key f0 (gt L) s n a) (h2 : Bk key f0 (gt L) s n (a + s)) (hb : b = min (a + 2 * s) n) (hm : a + s < b) :
    Bk key f0 (gt (sym key n L a (a + s) b)) (2 * s) n a ∧ ∀ k, (k < a ∨ b ≤ k) → gt (sym key n L a (a + s) b) k = gt L k := by
  have e1 : min (a + s) n = a + s := by omega
  have e2 : min (a + s + s) n = b := by omega
  rw [Bk, e1] at h1
  rw [Bk, e2] at h2
  have hp : SymPre (key := key) (gt L) a (a + s) b := by
    refine ⟨by omega, hm, h1.1, h2.1, fun i j i1 i2 i3 i4 _ => ?_⟩
    obtain ⟨i', g1, g2, ei⟩ := h1.2.fwd i i1 i2
    obtain ⟨j', g3, g4, ej⟩ := h2.2.fwd j i3 i4
    rw [ei, ej]
    exact hu _ _ (by omega) (by omega)
  obtain ⟨r1, r2⟩ := sym_srt (key := key) n L a (a + s) b (by omega) (by omega) hp
  refine ⟨⟨by rw [← hb]; exact r1, ?_⟩, r2.out⟩
  rw [← hb]
  exact (Ib.join h1.2 h2.2 (by omega) (by omega)).trans r2.ib

theorem stM_bk {n s : Nat} {f0 : Nat → Nat} (hs : 0 < s) (hu : ∀ k l, k < l → l < n → f0 k < f0 l) : ∀ (f : Nat) (L : List Nat) (a : Nat), n < f + a → a ≤ n → L.length = n → 2 * s ∣ a → (∀ c, 2 * s ∣ c → c < a → Bk key f0 (gt L) (2 * s) n c) → (∀ c, s ∣ c → a ≤ c → c < n → Bk key f0 (gt L) s n c) → ∀ c, 2 * s ∣ c → c < n → Bk key f0 (gt (stM key s n f L a)) (2 * s) n c
  | 0, L, a, h, h2, _, _, _, _, _, _, _ => by omega
  | f + 1, L, a, h, h2, hl, hd, hb, hr, c, c1, c2 => by
    rw [stM]
    have hsa : s ∣ a := Nat.dvd_trans (Nat.dvd_mul_left s 2) hd
    have hsa2 : s ∣ a + s := (Nat.dvd_add_right hsa).2 (Nat.dvd_refl _)
    by_cases d : a + 2 * s ≤ n
    · rw [if_pos d]
      obtain ⟨r1, r2⟩ := bk_merge (b := a + 2 * s) hu hl hs (hr a hsa (Nat.le_refl _) (by omega)) (hr _ hsa2 (by omega) (by omega)) (by omega) (by omega)
      have hda : 2 * s ∣ a + 2 * s := (Nat.dvd_add_right hd).2 (Nat.dvd_refl _)
      refine stM_bk hs hu f _ (a + 2 * s) (by omega) d (by rw [sym_len]; exact hl) hda (fun e e1 e2 => ?_) (fun e e1 e2 e3 => (hr e e1 (by omega) e3).cong fun k g1 g2 => r2 k (.inr (by omega))) c c1 c2
      by_cases he : e < a
      · refine (hb e e1 he).cong fun k g1 g2 => r2 k (.inl ?_)
        have := dvd_next hd e1 he
        omega
      · have : e = a := by
          by_cases hea : e = a
          · exact hea
          · have := dvd_next e1 hd (by omega)
            omega
        subst this
        exact r1
    · rw [if_neg d]
      have hca : ¬ c < a → c = a := fun he => by
        by_cases hea : c = a
        · exact hea
        · have := dvd_next c1 hd (by omega)
          omega
      by_cases d2 : a + s < n
      · rw [if_pos d2]
        obtain ⟨r1, r2⟩ := bk_merge (b := n) hu hl hs (hr a hsa (Nat.le_refl _) (by omega)) (hr _ hsa2 (by omega) (by omega)) (by omega) (by omega)
        by_cases he : c < a
        · refine (hb c c1 he).cong fun k g1 g2 => r2 k (.inl ?_)
          have := dvd_next hd c1 he
          omega
        · obtain rfl := hca he
          exact r1
      · rw [if_neg d2]
        by_cases he : c < a
        · exact hb c c1 he
        · obtain rfl := hca he
          have := hr c hsa (Nat.le_refl _) c2
          have e1 : min (c + s) n = n := by omega
          have e2 : min (c + 2 * s) n = n := by omega
          rw [Bk, e1] at this
          rw [Bk, e2]
          exact this

theorem stP_bk {n : Nat} {f0 : Nat → Nat} (hu : ∀ k l, k < l → l < n → f0 k < f0 l) : ∀ (f : Nat) (L : List Nat) (s : Nat), 0 < s → n < f + s → L.length = n → (∀ c, s ∣ c → c < n → Bk key f0 (gt L) s n c) → Srt key (gt (stP key n f L s)) 0 n ∧ Ib f0 (gt (stP key n f L s)) 0 n
  | 0, L, s, h1, h2, hl, hb => by
    by_cases hn : n = 0
    · subst hn
      exact ⟨fun i j h1 h2 h3 => by omega, ⟨fun k h1 h2 => by omega, fun k h1 h2 => by omega⟩⟩
    · have := hb 0 (Nat.dvd_zero _) (by omega)
      rw [Bk, show min (0 + s) n = n by omega] at this
      exact this
  | f + 1, L, s, h1, h2, hl, hb => by
    rw [stP]
    by_cases c : s < n
    · rw [if_pos c]
      exact stP_bk hu f _ (2 * s) (by omega) (by omega) (by rw [stM_len]; exact hl) (stM_bk h1 hu (n + 1) L 0 (by omega) (by omega) hl (Nat.dvd_zero _) (fun c _ h => by omega) (fun c h1 _ h3 => hb c h1 h3))
    · rw [if_neg c]
      by_cases hn : n = 0
      · subst hn
        exact ⟨fun i j h1 h2 h3 => by omega, ⟨fun k h1 h2 => by omega, fun k h1 h2 => by omega⟩⟩
      · have := hb 0 (Nat.dvd_zero _) (by omega)
        rw [Bk, show min (0 + s) n = n by omega] at this
        exact this

/-- A list that rises is in order then, and has the same elements. -/
theorem stab_srt {n : Nat} {L : List Nat} (hl : L.length = n) (hu : ∀ k l, k < l → l < n → gt L k < gt L l) : Srt key (gt (stab key n L)) 0 n ∧ Ib (gt L) (gt (stab key n L)) 0 n :=
  stP_bk hu (n + 1) _ 20 (by omega) (by omega) (by rw [stI_len]; exact hl) (stI_bk hu (n + 1) L 0 (by omega) (by omega) hl (Nat.dvd_zero _) (fun c _ h => by omega) (fun _ _ => rfl))
end

end Go.Ab
/-
  The sort of a list of sets: ranges that change places, and rotations, walked.
-/
namespace Go.Ab
open Go.Proofs
set_option linter.unusedSimpArgs false
set_option linter.unusedVariables false
set_option maxRecDepth 100000

variable {H : Heap}

theorem swR_loop {p : Nat} (hp : p < H.length) (a b c : Nat) (n : Nat) (hn : n ≤ 100000) (hab : a + c ≤ n ∧ b + c ≤ n) (R0 : List Nat) :
    ∀ (q j : Nat), j + q = c → ∀ (L : List Nat), L.length = n → swR a b L j q = R0 → ∀ E : Env, E.get 0 = .gsl p n → E.get 1 = I a → E.get 2 = I b → E.get 3 = I c → E.get 10 = I j →
    Option.map (finishC H.length) (execL cfg0 prog0 ⟨96, none, false, H.length⟩ (todoAt Tryd.f96 1) ⟨E, [], GH H p L, none⟩) = some ⟨.ret (.tup []), GH H p R0, none⟩ := by
  intro q
  skip
  induction q with
  | zero =>
    intro j hj L hL hr E g0 g1 g2 g3 g10
    have hk' : ¬ (j : Int) < ((c : Nat) : Int) := by omega
    simp only [swR] at hr
    subst hr
    simp only [loopIt, todoPast, todoAt, todoOf, firstReg, ↓reduceIte, Option.some.injEq, Nat.reduceEqDiff, reduceCtorEq, Tryd.f96]
    rw [execL_inLoop]
    simp (maxSteps := 1000000) (implicitDefEqProofs := false) (disch := first | rfl | omega | assumption) only [go_sem, ↓reduceIte, Nat.reduceEqDiff, Nat.reduceAdd, Nat.reduceLeDiff, Nat.reduceBEq, Nat.reduceMul, Nat.reduceLT, Int.reduceLT, Int.reduceLE, Int.reduceToNat, Int.reduceNeg, Int.reduceEq, Int.reduceMul, reduceCtorEq, Int.reduceBEq, Int.reduceBNe, Int.reduceAdd, Int.reduceSub, g0, g1, g2, g3, g10, ltT, ltF, leT, leF, hk']
  | succ q ih =>
    intro j hj L hL hr E g0 g1 g2 g3 g10
    have hk' : (j : Int) < ((c : Nat) : Int) := by omega
    have hk2 : j < c := by omega
    simp only [swR] at hr
    have f1 := @GH_idx H p n hp
    have f2 := @GH_load H p n hp
    have f3 := @GH_store H p n H.length hp
    have e1 : (a : Int) + j = ((a + j : Nat) : Int) := rfl
    have e2 : (b : Int) + j = ((b + j : Nat) : Int) := rfl
    have hL2 : (L.set (a + j) (L.getD (b + j) 0)).length = n := by rw [List.length_set]; exact hL
    simp only [loopIt, todoPast, todoAt, todoOf, firstReg, ↓reduceIte, Option.some.injEq, Nat.reduceEqDiff, reduceCtorEq, Tryd.f96]
    rw [execL_inLoop]
    simp (maxSteps := 1000000) (implicitDefEqProofs := false) (disch := first | rfl | omega | assumption) only [go_sem, ↓reduceIte, Nat.reduceEqDiff, Nat.reduceAdd, Nat.reduceLeDiff, Nat.reduceBEq, Nat.reduceMul, Nat.reduceLT, Int.reduceLT, Int.reduceLE, Int.reduceToNat, Int.reduceNeg, Int.reduceEq, Int.reduceMul, reduceCtorEq, Int.reduceBEq, Int.reduceBNe, Int.reduceAdd, Int.reduceSub, g0, g1, g2, g3, g10, ltT, ltF, leT, leF, hk']
    rw [chkK_of]; rotate_left; kernel_rfl
    simp (maxSteps := 1000000) (implicitDefEqProofs := false) (disch := first | rfl | omega | assumption) only [go_sem, ↓reduceIte, Nat.reduceEqDiff, Nat.reduceAdd, Nat.reduceLeDiff, Nat.reduceBEq, Nat.reduceMul, Nat.reduceLT, Int.reduceLT, Int.reduceLE, Int.reduceToNat, Int.reduceNeg, Int.reduceEq, Int.reduceMul, reduceCtorEq, Int.reduceBEq, Int.reduceBNe, Int.reduceAdd, Int.reduceSub, g0, g1, g2, g3, g10, ltT, ltF, leT, leF, hk', f1, f2, f3, e1, e2]
    exact ih (j + 1) (by omega) (swp L (a + j) (b + j)) (by rw [swp_len]; exact hL) hr _ (by exact g0) (by exact g1) (by exact g2) (by exact g3) (by rfl)

theorem so_swR {fn : Fn} {cap : List AV} {p : Nat} (hp : p < H.length) {a b c n : Nat} (hn : n ≤ 100000) (hab : a + c ≤ n ∧ b + c ≤ n) {L : List Nat} (hL : L.length = n) :
    callFL cfg0 prog0 false 96 [.gsl p n, I a, I b, I c, .func fn [] cap] (GH H p L) none = some ⟨.ret (.tup []), GH H p (swR a b L 0 c), none⟩ := by
  have hlen : (GH H p L).length = H.length := by simp [GH]
  have h1 := swR_loop hp a b c n hn hab (swR a b L 0 c) c 0 (by omega) L hL rfl
  refine (callFL_eq fn96 rfl (by simp [Tryd.f96])).trans ?_
  simp (maxSteps := 1000000) (implicitDefEqProofs := false) (disch := first | rfl | omega | assumption) only [go_sem, ↓reduceIte, Nat.reduceEqDiff, Nat.reduceAdd, Nat.reduceLeDiff, Nat.reduceBEq, Nat.reduceMul, Nat.reduceLT, Int.reduceLT, Int.reduceLE, Int.reduceToNat, Int.reduceNeg, Int.reduceEq, Int.reduceMul, reduceCtorEq, Int.reduceBEq, Int.reduceBNe, Int.reduceAdd, Int.reduceSub, ltT, ltF, leT, leF, hlen]
  exact h1 _ (by rfl) (by rfl) (by rfl) (by rfl) (by rfl)

theorem rot_loop {fn : Fn} {cap : List AV} {p : Nat} (hp : p < H.length) (m : Nat) (n : Nat) (hn : n ≤ 100000) (N : Nat) (R0 : List Nat) :
    ∀ (q j : Nat), j + q = N → ∀ (L : List Nat), ∀ (x y : Nat), L.length = n → 0 < x → 0 < y → x ≤ m → m + y ≤ n → x + y ≤ q → rot m q L x y = R0 → ∀ E : Env, E.get 0 = .gsl p n → E.get 2 = I m → E.get 4 = .func fn [] cap → E.get 10 = I x → E.get 11 = I y →
    Option.map (finishC H.length) (execL cfg0 prog0 ⟨95, none, false, H.length⟩ (todoAt Tryd.f95 2) ⟨E, [], GH H p L, none⟩) = some ⟨.ret (.tup []), GH H p R0, none⟩ := by
  intro q
  skip
  induction q with
  | zero =>
    intro j hj L x y hL hx hy hxm hym hq hr E g0 g2 g4 g10 g11
    have hk' : ¬ (j : Int) < ((N : Nat) : Int) := by omega
    simp only [loopIt, todoPast, todoAt, todoOf, firstReg, ↓reduceIte, Option.some.injEq, Nat.reduceEqDiff, reduceCtorEq, Tryd.f95]
    rw [execL_inLoop]
    exfalso
    omega
  | succ q ih =>
    intro j hj L x y hL hx hy hxm hym hq hr E g0 g2 g4 g10 g11
    have hk' : (j : Int) < ((N : Nat) : Int) := by omega
    have hk2 : j < N := by omega
    rw [rot] at hr
    have e1 : (m : Int) - x = ((m - x : Nat) : Int) := by omega
    have e2 : (m : Int) + y - x = ((m + y - x : Nat) : Int) := by omega
    by_cases c : x = y
    · subst c
      rw [if_pos rfl] at hr
      subst hr
      have h1 := @so_swR H fn cap p hp (m - x) m x n hn (by omega) L hL
      have z : ((x : Int) != x) = false := by simp
      simp only [loopIt, todoPast, todoAt, todoOf, firstReg, ↓reduceIte, Option.some.injEq, Nat.reduceEqDiff, reduceCtorEq, Tryd.f95]
      rw [execL_inLoop]
      simp (maxSteps := 1000000) (implicitDefEqProofs := false) (disch := first | rfl | omega | assumption) only [go_sem, ↓reduceIte, Nat.reduceEqDiff, Nat.reduceAdd, Nat.reduceLeDiff, Nat.reduceBEq, Nat.reduceMul, Nat.reduceLT, Int.reduceLT, Int.reduceLE, Int.reduceToNat, Int.reduceNeg, Int.reduceEq, Int.reduceMul, reduceCtorEq, Int.reduceBEq, Int.reduceBNe, Int.reduceAdd, Int.reduceSub, g0, g2, g4, g10, g11, ltT, ltF, leT, leF, hk', z, e1, h1]
      done
    · rw [if_neg c] at hr
      have z : ((x : Int) != y) = true := by simp; omega
      by_cases d : y < x
      · rw [if_pos d] at hr
        have h1 := @so_swR H fn cap p hp (m - x) m y n hn (by omega) L hL
        have e3 : (x : Int) - y = ((x - y : Nat) : Int) := by omega
        simp only [loopIt, todoPast, todoAt, todoOf, firstReg, ↓reduceIte, Option.some.injEq, Nat.reduceEqDiff, reduceCtorEq, Tryd.f95]
        rw [execL_inLoop]
        simp (maxSteps := 1000000) (implicitDefEqProofs := false) (disch := first | rfl | omega | assumption) only [go_sem, ↓reduceIte, Nat.reduceEqDiff, Nat.reduceAdd, Nat.reduceLeDiff, Nat.reduceBEq, Nat.reduceMul, Nat.reduceLT, Int.reduceLT, Int.reduceLE, Int.reduceToNat, Int.reduceNeg, Int.reduceEq, Int.reduceMul, reduceCtorEq, Int.reduceBEq, Int.reduceBNe, Int.reduceAdd, Int.reduceSub, g0, g2, g4, g10, g11, ltT, ltF, leT, leF, hk', z, e1, h1, e3]
        exact ih (j + 1) (by omega) _ (x - y) y (by rw [swR_len]; exact hL) (by omega) hy (by omega) hym (by omega) hr _ (by exact g0) (by exact g2) (by exact g4) (by rfl) (by exact g11)
      · rw [if_neg d] at hr
        have h1 := @so_swR H fn cap p hp (m - x) (m + y - x) x n hn (by omega) L hL
        have e3 : (y : Int) - x = ((y - x : Nat) : Int) := by omega
        simp only [loopIt, todoPast, todoAt, todoOf, firstReg, ↓reduceIte, Option.some.injEq, Nat.reduceEqDiff, reduceCtorEq, Tryd.f95]
        rw [execL_inLoop]
        simp (maxSteps := 1000000) (implicitDefEqProofs := false) (disch := first | rfl | omega | assumption) only [go_sem, ↓reduceIte, Nat.reduceEqDiff, Nat.reduceAdd, Nat.reduceLeDiff, Nat.reduceBEq, Nat.reduceMul, Nat.reduceLT, Int.reduceLT, Int.reduceLE, Int.reduceToNat, Int.reduceNeg, Int.reduceEq, Int.reduceMul, reduceCtorEq, Int.reduceBEq, Int.reduceBNe, Int.reduceAdd, Int.reduceSub, g0, g2, g4, g10, g11, ltT, ltF, leT, leF, hk', z, e1, e2, h1, e3]
        exact ih (j + 1) (by omega) _ x (y - x) (by rw [swR_len]; exact hL) hx (by omega) hxm (by omega) (by omega) hr _ (by exact g0) (by exact g2) (by exact g4) (by exact g10) (by rfl)

theorem so_rot {fn : Fn} {cap : List AV} {p : Nat} (hp : p < H.length) {a m b n : Nat} (hn : n ≤ 100000) (h1 : a < m) (h2 : m < b) (h3 : b ≤ n) {L : List Nat} (hL : L.length = n) :
    callFL cfg0 prog0 false 95 [.gsl p n, I a, I m, I b, .func fn [] cap] (GH H p L) none = some ⟨.ret (.tup []), GH H p (rot m (b - a) L (m - a) (b - m)), none⟩ := by
  have hlen : (GH H p L).length = H.length := by simp [GH]
  have e1 : (m : Int) - a = ((m - a : Nat) : Int) := by omega
  have e2 : (b : Int) - m = ((b - m : Nat) : Int) := by omega
  have h := @rot_loop H fn cap p hp m n hn (b - a) _ (b - a) 0 (by omega) L (m - a) (b - m) hL (by omega) (by omega) (by omega) (by omega) (by omega) rfl
  refine (callFL_eq fn95 rfl (by simp [Tryd.f95])).trans ?_
  simp (maxSteps := 1000000) (implicitDefEqProofs := false) (disch := first | rfl | omega | assumption) only [go_sem, ↓reduceIte, Nat.reduceEqDiff, Nat.reduceAdd, Nat.reduceLeDiff, Nat.reduceBEq, Nat.reduceMul, Nat.reduceLT, Int.reduceLT, Int.reduceLE, Int.reduceToNat, Int.reduceNeg, Int.reduceEq, Int.reduceMul, reduceCtorEq, Int.reduceBEq, Int.reduceBNe, Int.reduceAdd, Int.reduceSub, ltT, ltF, leT, leF, hlen, e1, e2]
  exact h _ (by rfl) (by rfl) (by rfl) (by rfl) (by rfl)

end Go.Ab
/-
  The sort of a list of sets: two lists become one, walked.
-/
namespace Go.Ab
open Go.Proofs
set_option linter.unusedSimpArgs false
set_option linter.unusedVariables false
set_option maxRecDepth 100000

variable {H : Heap}

theorem bs_bd (P : Nat → Bool) : ∀ (f i j : Nat), i ≤ j → i ≤ bs P f i j ∧ bs P f i j ≤ j
  | 0, i, j, h => ⟨Nat.le_refl _, h⟩
  | f + 1, i, j, h => by
    rw [bs]
    split
    · split
      · have := bs_bd P f ((i + j) / 2 + 1) j (by omega)
        omega
      · have := bs_bd P f i ((i + j) / 2) (by omega)
        omega
    · exact ⟨Nat.le_refl _, h⟩

theorem small_swR {B : Nat} (a b : Nat) : ∀ (q i : Nat) (L : List Nat), a + i + q ≤ L.length → b + i + q ≤ L.length → Small B L → Small B (swR a b L i q)
  | 0, _, _, _, _, h => h
  | q + 1, i, L, h1, h2, h => by
    rw [swR]
    exact small_swR a b q (i + 1) _ (by rw [swp_len]; omega) (by rw [swp_len]; omega) (swp_mem h (by omega) (by omega))

theorem small_rot {B : Nat} (m : Nat) : ∀ (f : Nat) (L : List Nat) (i j : Nat), i ≤ m → m + j ≤ L.length → Small B L → Small B (rot m f L i j)
  | 0, _, _, _, _, _, h => h
  | f + 1, L, i, j, h1, h2, h => by
    rw [rot]
    split
    · exact small_swR _ _ _ _ _ (by omega) (by omega) h
    · split
      · exact small_rot m f _ _ _ (by omega) (by rw [swR_len]; omega) (small_swR _ _ _ _ _ (by omega) (by omega) h)
      · exact small_rot m f _ _ _ (by omega) (by rw [swR_len]; omega) (small_swR _ _ _ _ _ (by omega) (by omega) h)

theorem small_upS {B : Nat} : ∀ (q k : Nat) (L : List Nat), k + q < L.length → Small B L → Small B (upS L k q)
  | 0, _, _, _, h => h
  | q + 1, k, L, h1, h => by
    rw [upS]
    exact small_upS q (k + 1) _ (by rw [swp_len]; omega) (swp_mem h (by omega) (by omega))

theorem small_dnS {B : Nat} : ∀ (q k : Nat) (L : List Nat), k + q < L.length → Small B L → Small B (dnS L k q)
  | 0, _, _, _, h => h
  | q + 1, k, L, h1, h => by
    rw [dnS]
    exact small_dnS q k _ (by rw [swp_len]; omega) (swp_mem h (by omega) (by omega))

/-- Where the cut is. -/
theorem symS_bd (key : Nat → Int) (L : List Nat) {a m b : Nat} (h1 : a < m) (h2 : m < b) : a ≤ symS key L a m b ∧ symS key L a m b ≤ m ∧ symS key L a m b ≤ (a + b) / 2 ∧ m ≤ (a + b) / 2 + m - symS key L a m b ∧ (a + b) / 2 + m - symS key L a m b ≤ b := by
  simp only [symS]
  have := bs_bd (fun c => !decide (key (gt L ((a + b) / 2 + m - 1 - c)) - key (gt L c) < 0)) ((if (a + b) / 2 < m then (a + b) / 2 else m) - (if (a + b) / 2 < m then (a + b) / 2 + m - b else a) + 1) (if (a + b) / 2 < m then (a + b) / 2 + m - b else a) (if (a + b) / 2 < m then (a + b) / 2 else m) (by split <;> omega)
  generalize bs _ _ _ _ = t at this ⊢
  split at this <;> omega

theorem small_sym {B : Nat} (key : Nat → Int) : ∀ (f : Nat) (L : List Nat) (a m b : Nat), a < m → m < b → b ≤ L.length → Small B L → Small B (sym key f L a m b)
  | 0, _, _, _, _, _, _, _, h => h
  | f + 1, L, a, m, b, h1, h2, h3, h => by
    rw [sym]
    split
    · rw [symA]
      have := bs_bd (fun h => decide (key (gt L h) - key (gt L a) < 0)) (b - m + 1) m b (by omega)
      exact small_upS _ _ _ (by omega) h
    · split
      · rw [symB]
        have := bs_bd (fun h => !decide (key (gt L m) - key (gt L h) < 0)) (m - a + 1) a m (by omega)
        exact small_dnS _ _ _ (by omega) h
      · obtain ⟨s1, s2, s3, s4, s5⟩ := symS_bd key L h1 h2
        dsimp only
        generalize symS key L a m b = s at *
        generalize (a + b) / 2 = mid at *
        have g1 : Small B (if s < m ∧ m < mid + m - s then rot m (mid + m - s - s) L (m - s) (mid + m - s - m) else L) := by
          split
          · exact small_rot _ _ _ _ _ (by omega) (by omega) h
          · exact h
        have l1 : (if s < m ∧ m < mid + m - s then rot m (mid + m - s - s) L (m - s) (mid + m - s - m) else L).length = L.length := by
          split
          · rw [rot_len]
          · rfl
        generalize (if s < m ∧ m < mid + m - s then rot m (mid + m - s - s) L (m - s) (mid + m - s - m) else L) = L1 at *
        have g2 : Small B (if a < s ∧ s < mid then sym key f L1 a s mid else L1) := by
          split
          · exact small_sym key f _ _ _ _ (by omega) (by omega) (by omega) g1
          · exact g1
        have l2 : (if a < s ∧ s < mid then sym key f L1 a s mid else L1).length = L.length := by
          split
          · rw [sym_len, l1]
          · exact l1
        generalize (if a < s ∧ s < mid then sym key f L1 a s mid else L1) = L2 at *
        split
        · exact small_sym key f _ _ _ _ (by omega) (by omega) (by omega) g2
        · exact g2

theorem half (x y : Nat) : ((x : Int) + y).fdiv (2 ^ min 1 64) = (((x + y) / 2 : Nat) : Int) := fdivN (x + y) 2
theorem halfw {x y : Nat} (h : x + y ≤ 1000000) : IntKind.u64.wrap ((x : Int) + y) = (x : Int) + y := wrapU (n := x + y) (by omega)

theorem bsA_loop {fn : Fn} {cap : List AV} {key : Nat → Int} {B : Nat} (hc : Cmp fn cap key B) {p : Nat} (hp : p < H.length) (a m b n : Nat) (hn : n ≤ 100000) (han : a < n) (L : List Nat) (hL : L.length = n) (hB : Small B L) (N R0 : Nat) (K : List Item) (R : Option Done) (hK : ∀ E : Env, E.get 0 = .gsl p n → E.get 1 = I a → E.get 2 = I m → E.get 3 = I b → E.get 4 = .func fn [] cap → E.get 10 = I R0 → Option.map (finishC H.length) (execL cfg0 prog0 ⟨94, none, false, H.length⟩ K ⟨E, [], GH H p L, none⟩) = R)  :
    ∀ (q j : Nat), j + q = N → ∀ (x y : Nat), y ≤ n → x ≤ y → y - x < q → bs (fun h => decide (key (gt L h) - key (gt L a) < 0)) q x y = R0 → ∀ E : Env, E.get 0 = .gsl p n → E.get 1 = I a → E.get 2 = I m → E.get 3 = I b → E.get 4 = .func fn [] cap → E.get 10 = I x → E.get 11 = I y →
    Option.map (finishC H.length) (execL cfg0 prog0 ⟨94, none, false, H.length⟩ (loopIt Tryd.f94 3 :: .inBlock 0 :: K) ⟨E, [], GH H p L, none⟩) = R := by
  intro q
  have f1 := @GH_idx H p n hp
  have f2 := @GH_load H p n hp
  have x1 := hB a (by omega)
  induction q with
  | zero =>
    intro j hj x y hyb hxy hq hr E g0 g1 g2 g3 g4 g10 g11
    have hk' : ¬ (j : Int) < ((N : Nat) : Int) := by omega
    simp only [loopIt, todoPast, todoAt, todoOf, firstReg, ↓reduceIte, Option.some.injEq, Nat.reduceEqDiff, reduceCtorEq, Tryd.f94]
    rw [execL_inLoop]
    exfalso
    omega
  | succ q ih =>
    intro j hj x y hyb hxy hq hr E g0 g1 g2 g3 g4 g10 g11
    have hk' : (j : Int) < ((N : Nat) : Int) := by omega
    have hk2 : j < N := by omega
    rw [bs] at hr
    by_cases c : x < y
    · rw [if_pos c] at hr
      obtain ⟨h, hh⟩ : ∃ h, (x + y) / 2 = h := ⟨_, rfl⟩
      have e1 := half x y
      have e2 := halfw (x := x) (y := y) (by omega)
      rw [hh] at hr e1
      have e3 : IntKind.i64.wrap (h : Int) = h := w64 (by omega) (by omega)
      have x2 := hB h (by omega)
      have hcc := fun G => hc.call _ _ G x2 x1
      have k1 := hc.bd (L.getD a 0)
      have k2 := hc.bd (L.getD h 0)
      have c' : (x : Int) < y := by omega
      by_cases d : key (L.getD h 0) - key (L.getD a 0) < 0
      · have d' : decide (key (gt L h) - key (gt L a) < 0) = true := by simpa [gt] using d
        rw [if_pos d'] at hr
        simp only [loopIt, todoPast, todoAt, todoOf, firstReg, ↓reduceIte, Option.some.injEq, Nat.reduceEqDiff, reduceCtorEq, Tryd.f94]
        rw [execL_inLoop]
        simp (maxSteps := 1000000) (implicitDefEqProofs := false) (disch := first | rfl | omega | assumption) only [go_sem, ↓reduceIte, Nat.reduceEqDiff, Nat.reduceAdd, Nat.reduceLeDiff, Nat.reduceBEq, Nat.reduceMul, Nat.reduceLT, Int.reduceLT, Int.reduceLE, Int.reduceToNat, Int.reduceNeg, Int.reduceEq, Int.reduceMul, reduceCtorEq, Int.reduceBEq, Int.reduceBNe, Int.reduceAdd, Int.reduceSub, g0, g1, g2, g3, g4, g10, g11, ltT, ltF, leT, leF, hk', c', e1, e2, e3]
        rw [chkK_of]; rotate_left; kernel_rfl
        simp (maxSteps := 1000000) (implicitDefEqProofs := false) (disch := first | rfl | omega | assumption) only [go_sem, ↓reduceIte, Nat.reduceEqDiff, Nat.reduceAdd, Nat.reduceLeDiff, Nat.reduceBEq, Nat.reduceMul, Nat.reduceLT, Int.reduceLT, Int.reduceLE, Int.reduceToNat, Int.reduceNeg, Int.reduceEq, Int.reduceMul, reduceCtorEq, Int.reduceBEq, Int.reduceBNe, Int.reduceAdd, Int.reduceSub, g0, g1, g2, g3, g4, g10, g11, ltT, ltF, leT, leF, hk', f1, f2, hcc, d]
        exact ih (j + 1) (by omega) (h + 1) y hyb (by omega) (by omega) hr _ (by exact g0) (by exact g1) (by exact g2) (by exact g3) (by exact g4) (by rfl) (by exact g11)
      · have d' : ¬ decide (key (gt L h) - key (gt L a) < 0) = true := by simpa [gt] using d
        rw [if_neg d'] at hr
        simp only [loopIt, todoPast, todoAt, todoOf, firstReg, ↓reduceIte, Option.some.injEq, Nat.reduceEqDiff, reduceCtorEq, Tryd.f94]
        rw [execL_inLoop]
        simp (maxSteps := 1000000) (implicitDefEqProofs := false) (disch := first | rfl | omega | assumption) only [go_sem, ↓reduceIte, Nat.reduceEqDiff, Nat.reduceAdd, Nat.reduceLeDiff, Nat.reduceBEq, Nat.reduceMul, Nat.reduceLT, Int.reduceLT, Int.reduceLE, Int.reduceToNat, Int.reduceNeg, Int.reduceEq, Int.reduceMul, reduceCtorEq, Int.reduceBEq, Int.reduceBNe, Int.reduceAdd, Int.reduceSub, g0, g1, g2, g3, g4, g10, g11, ltT, ltF, leT, leF, hk', c', e1, e2, e3]
        rw [chkK_of]; rotate_left; kernel_rfl
        simp (maxSteps := 1000000) (implicitDefEqProofs := false) (disch := first | rfl | omega | assumption) only [go_sem, ↓reduceIte, Nat.reduceEqDiff, Nat.reduceAdd, Nat.reduceLeDiff, Nat.reduceBEq, Nat.reduceMul, Nat.reduceLT, Int.reduceLT, Int.reduceLE, Int.reduceToNat, Int.reduceNeg, Int.reduceEq, Int.reduceMul, reduceCtorEq, Int.reduceBEq, Int.reduceBNe, Int.reduceAdd, Int.reduceSub, g0, g1, g2, g3, g4, g10, g11, ltT, ltF, leT, leF, hk', f1, f2, hcc, d]
        exact ih (j + 1) (by omega) x h (by omega) (by omega) (by omega) hr _ (by exact g0) (by exact g1) (by exact g2) (by exact g3) (by exact g4) (by exact g10) (by rfl)
    · rw [if_neg c] at hr
      subst hr
      have c' : ¬ (x : Int) < y := by omega
      simp only [loopIt, todoPast, todoAt, todoOf, firstReg, ↓reduceIte, Option.some.injEq, Nat.reduceEqDiff, reduceCtorEq, Tryd.f94]
      rw [execL_inLoop]
      simp (maxSteps := 1000000) (implicitDefEqProofs := false) (disch := first | rfl | omega | assumption) only [go_sem, ↓reduceIte, Nat.reduceEqDiff, Nat.reduceAdd, Nat.reduceLeDiff, Nat.reduceBEq, Nat.reduceMul, Nat.reduceLT, Int.reduceLT, Int.reduceLE, Int.reduceToNat, Int.reduceNeg, Int.reduceEq, Int.reduceMul, reduceCtorEq, Int.reduceBEq, Int.reduceBNe, Int.reduceAdd, Int.reduceSub, g0, g1, g2, g3, g4, g10, g11, ltT, ltF, leT, leF, hk', c']
      exact hK _ (by exact g0) (by exact g1) (by exact g2) (by exact g3) (by exact g4) (by exact g10)

theorem up_loop {p : Nat} (hp : p < H.length) (a i n : Nat) (hn : n ≤ 100000) (hai : a < i ∧ i ≤ n) (R0 : List Nat) :
    ∀ (q j : Nat), j + q = i - 1 - a → ∀ (L : List Nat), L.length = n → upS L (a + j) q = R0 → ∀ E : Env, E.get 0 = .gsl p n → E.get 10 = I i → E.get 13 = I ((a + j : Nat) : Int) →
    Option.map (finishC H.length) (execL cfg0 prog0 ⟨94, none, false, H.length⟩ (todoAt Tryd.f94 9) ⟨E, [], GH H p L, none⟩) = some ⟨.ret (.tup []), GH H p R0, none⟩ := by
  intro q
  skip
  induction q with
  | zero =>
    intro j hj L hL hr E g0 g10 g13
    have hk' : ¬ (j : Int) < ((i - 1 - a : Nat) : Int) := by omega
    simp only [upS] at hr
    subst hr
    simp only [loopIt, todoPast, todoAt, todoOf, firstReg, ↓reduceIte, Option.some.injEq, Nat.reduceEqDiff, reduceCtorEq, Tryd.f94]
    rw [execL_inLoop]
    have c' : ¬ ((a + j : Nat) : Int) < (i : Int) - 1 := by omega
    simp (maxSteps := 1000000) (implicitDefEqProofs := false) (disch := first | rfl | omega | assumption) only [go_sem, ↓reduceIte, Nat.reduceEqDiff, Nat.reduceAdd, Nat.reduceLeDiff, Nat.reduceBEq, Nat.reduceMul, Nat.reduceLT, Int.reduceLT, Int.reduceLE, Int.reduceToNat, Int.reduceNeg, Int.reduceEq, Int.reduceMul, reduceCtorEq, Int.reduceBEq, Int.reduceBNe, Int.reduceAdd, Int.reduceSub, g0, g10, g13, ltT, ltF, leT, leF, hk', c']
  | succ q ih =>
    intro j hj L hL hr E g0 g10 g13
    have hk' : (j : Int) < ((i - 1 - a : Nat) : Int) := by omega
    have hk2 : j < i - 1 - a := by omega
    simp only [upS] at hr
    have f1 := @GH_idx H p n hp
    have f2 := @GH_load H p n hp
    have f3 := @GH_store H p n H.length hp
    have c' : ((a + j : Nat) : Int) < (i : Int) - 1 := by omega
    have e1 : ((a + j : Nat) : Int) + 1 = ((a + j + 1 : Nat) : Int) := rfl
    have hL2 : (L.set (a + j) (L.getD (a + j + 1) 0)).length = n := by rw [List.length_set]; exact hL
    simp only [loopIt, todoPast, todoAt, todoOf, firstReg, ↓reduceIte, Option.some.injEq, Nat.reduceEqDiff, reduceCtorEq, Tryd.f94]
    rw [execL_inLoop]
    simp (maxSteps := 1000000) (implicitDefEqProofs := false) (disch := first | rfl | omega | assumption) only [go_sem, ↓reduceIte, Nat.reduceEqDiff, Nat.reduceAdd, Nat.reduceLeDiff, Nat.reduceBEq, Nat.reduceMul, Nat.reduceLT, Int.reduceLT, Int.reduceLE, Int.reduceToNat, Int.reduceNeg, Int.reduceEq, Int.reduceMul, reduceCtorEq, Int.reduceBEq, Int.reduceBNe, Int.reduceAdd, Int.reduceSub, g0, g10, g13, ltT, ltF, leT, leF, hk', c']
    rw [chkK_of]; rotate_left; kernel_rfl
    simp (maxSteps := 1000000) (implicitDefEqProofs := false) (disch := first | rfl | omega | assumption) only [go_sem, ↓reduceIte, Nat.reduceEqDiff, Nat.reduceAdd, Nat.reduceLeDiff, Nat.reduceBEq, Nat.reduceMul, Nat.reduceLT, Int.reduceLT, Int.reduceLE, Int.reduceToNat, Int.reduceNeg, Int.reduceEq, Int.reduceMul, reduceCtorEq, Int.reduceBEq, Int.reduceBNe, Int.reduceAdd, Int.reduceSub, g0, g10, g13, ltT, ltF, leT, leF, hk', f1, f2, f3, e1]
    exact ih (j + 1) (by omega) (swp L (a + j) (a + j + 1)) (by rw [swp_len]; exact hL) hr _ (by exact g0) (by exact g10) (by rfl)

theorem bsB_loop {fn : Fn} {cap : List AV} {key : Nat → Int} {B : Nat} (hc : Cmp fn cap key B) {p : Nat} (hp : p < H.length) (a m b n : Nat) (hn : n ≤ 100000) (han : m < n) (L : List Nat) (hL : L.length = n) (hB : Small B L) (N R0 : Nat) (K : List Item) (R : Option Done) (hK : ∀ E : Env, E.get 0 = .gsl p n → E.get 1 = I a → E.get 2 = I m → E.get 3 = I b → E.get 4 = .func fn [] cap → E.get 14 = I R0 → Option.map (finishC H.length) (execL cfg0 prog0 ⟨94, none, false, H.length⟩ K ⟨E, [], GH H p L, none⟩) = R)  :
    ∀ (q j : Nat), j + q = N → ∀ (x y : Nat), y ≤ n → x ≤ y → y - x < q → bs (fun h => !decide (key (gt L m) - key (gt L h) < 0)) q x y = R0 → ∀ E : Env, E.get 0 = .gsl p n → E.get 1 = I a → E.get 2 = I m → E.get 3 = I b → E.get 4 = .func fn [] cap → E.get 14 = I x → E.get 15 = I y →
    Option.map (finishC H.length) (execL cfg0 prog0 ⟨94, none, false, H.length⟩ (loopIt Tryd.f94 15 :: .inBlock 4 :: K) ⟨E, [], GH H p L, none⟩) = R := by
  intro q
  have f1 := @GH_idx H p n hp
  have f2 := @GH_load H p n hp
  have x1 := hB m (by omega)
  induction q with
  | zero =>
    intro j hj x y hyb hxy hq hr E g0 g1 g2 g3 g4 g14 g15
    have hk' : ¬ (j : Int) < ((N : Nat) : Int) := by omega
    simp only [loopIt, todoPast, todoAt, todoOf, firstReg, ↓reduceIte, Option.some.injEq, Nat.reduceEqDiff, reduceCtorEq, Tryd.f94]
    rw [execL_inLoop]
    exfalso
    omega
  | succ q ih =>
    intro j hj x y hyb hxy hq hr E g0 g1 g2 g3 g4 g14 g15
    have hk' : (j : Int) < ((N : Nat) : Int) := by omega
    have hk2 : j < N := by omega
    rw [bs] at hr
    by_cases c : x < y
    · rw [if_pos c] at hr
      obtain ⟨h, hh⟩ : ∃ h, (x + y) / 2 = h := ⟨_, rfl⟩
      have e1 := half x y
      have e2 := halfw (x := x) (y := y) (by omega)
      rw [hh] at hr e1
      have e3 : IntKind.i64.wrap (h : Int) = h := w64 (by omega) (by omega)
      have x2 := hB h (by omega)
      have hcc := fun G => hc.call _ _ G x1 x2
      have k1 := hc.bd (L.getD m 0)
      have k2 := hc.bd (L.getD h 0)
      have c' : (x : Int) < y := by omega
      by_cases d : key (L.getD m 0) - key (L.getD h 0) < 0
      · have d' : ¬ (!decide (key (gt L m) - key (gt L h) < 0)) = true := by
          simp only [Bool.not_eq_true', decide_eq_false_iff_not, Decidable.not_not]
          exact d
        rw [if_neg d'] at hr
        simp only [loopIt, todoPast, todoAt, todoOf, firstReg, ↓reduceIte, Option.some.injEq, Nat.reduceEqDiff, reduceCtorEq, Tryd.f94]
        rw [execL_inLoop]
        simp (maxSteps := 1000000) (implicitDefEqProofs := false) (disch := first | rfl | omega | assumption) only [go_sem, ↓reduceIte, Nat.reduceEqDiff, Nat.reduceAdd, Nat.reduceLeDiff, Nat.reduceBEq, Nat.reduceMul, Nat.reduceLT, Int.reduceLT, Int.reduceLE, Int.reduceToNat, Int.reduceNeg, Int.reduceEq, Int.reduceMul, reduceCtorEq, Int.reduceBEq, Int.reduceBNe, Int.reduceAdd, Int.reduceSub, g0, g1, g2, g3, g4, g14, g15, ltT, ltF, leT, leF, hk', c', e1, e2, e3]
        rw [chkK_of]; rotate_left; kernel_rfl
        simp (maxSteps := 1000000) (implicitDefEqProofs := false) (disch := first | rfl | omega | assumption) only [go_sem, ↓reduceIte, Nat.reduceEqDiff, Nat.reduceAdd, Nat.reduceLeDiff, Nat.reduceBEq, Nat.reduceMul, Nat.reduceLT, Int.reduceLT, Int.reduceLE, Int.reduceToNat, Int.reduceNeg, Int.reduceEq, Int.reduceMul, reduceCtorEq, Int.reduceBEq, Int.reduceBNe, Int.reduceAdd, Int.reduceSub, g0, g1, g2, g3, g4, g14, g15, ltT, ltF, leT, leF, hk', f1, f2, hcc, d]
        exact ih (j + 1) (by omega) x h (by omega) (by omega) (by omega) hr _ (by exact g0) (by exact g1) (by exact g2) (by exact g3) (by exact g4) (by exact g14) (by rfl)
      · have d' : (!decide (key (gt L m) - key (gt L h) < 0)) = true := by
          simp only [Bool.not_eq_true', decide_eq_false_iff_not]
          exact d
        rw [if_pos d'] at hr
        simp only [loopIt, todoPast, todoAt, todoOf, firstReg, ↓reduceIte, Option.some.injEq, Nat.reduceEqDiff, reduceCtorEq, Tryd.f94]
        rw [execL_inLoop]
        simp (maxSteps := 1000000) (implicitDefEqProofs := false) (disch := first | rfl | omega | assumption) only [go_sem, ↓reduceIte, Nat.reduceEqDiff, Nat.reduceAdd, Nat.reduceLeDiff, Nat.reduceBEq, Nat.reduceMul, Nat.reduceLT, Int.reduceLT, Int.reduceLE, Int.reduceToNat, Int.reduceNeg, Int.reduceEq, Int.reduceMul, reduceCtorEq, Int.reduceBEq, Int.reduceBNe, Int.reduceAdd, Int.reduceSub, g0, g1, g2, g3, g4, g14, g15, ltT, ltF, leT, leF, hk', c', e1, e2, e3]
        rw [chkK_of]; rotate_left; kernel_rfl
        simp (maxSteps := 1000000) (implicitDefEqProofs := false) (disch := first | rfl | omega | assumption) only [go_sem, ↓reduceIte, Nat.reduceEqDiff, Nat.reduceAdd, Nat.reduceLeDiff, Nat.reduceBEq, Nat.reduceMul, Nat.reduceLT, Int.reduceLT, Int.reduceLE, Int.reduceToNat, Int.reduceNeg, Int.reduceEq, Int.reduceMul, reduceCtorEq, Int.reduceBEq, Int.reduceBNe, Int.reduceAdd, Int.reduceSub, g0, g1, g2, g3, g4, g14, g15, ltT, ltF, leT, leF, hk', f1, f2, hcc, d]
        exact ih (j + 1) (by omega) (h + 1) y hyb (by omega) (by omega) hr _ (by exact g0) (by exact g1) (by exact g2) (by exact g3) (by exact g4) (by rfl) (by exact g15)
    · rw [if_neg c] at hr
      subst hr
      have c' : ¬ (x : Int) < y := by omega
      simp only [loopIt, todoPast, todoAt, todoOf, firstReg, ↓reduceIte, Option.some.injEq, Nat.reduceEqDiff, reduceCtorEq, Tryd.f94]
      rw [execL_inLoop]
      simp (maxSteps := 1000000) (implicitDefEqProofs := false) (disch := first | rfl | omega | assumption) only [go_sem, ↓reduceIte, Nat.reduceEqDiff, Nat.reduceAdd, Nat.reduceLeDiff, Nat.reduceBEq, Nat.reduceMul, Nat.reduceLT, Int.reduceLT, Int.reduceLE, Int.reduceToNat, Int.reduceNeg, Int.reduceEq, Int.reduceMul, reduceCtorEq, Int.reduceBEq, Int.reduceBNe, Int.reduceAdd, Int.reduceSub, g0, g1, g2, g3, g4, g14, g15, ltT, ltF, leT, leF, hk', c']
      exact hK _ (by exact g0) (by exact g1) (by exact g2) (by exact g3) (by exact g4) (by exact g14)

theorem dn_loop {p : Nat} (hp : p < H.length) (i m n : Nat) (hn : n ≤ 100000) (hai : i ≤ m ∧ m < n) (R0 : List Nat) :
    ∀ (q j : Nat), j + q = m - i → ∀ (L : List Nat), L.length = n → dnS L i q = R0 → ∀ E : Env, E.get 0 = .gsl p n → E.get 14 = I i → E.get 17 = I ((i + q : Nat) : Int) →
    Option.map (finishC H.length) (execL cfg0 prog0 ⟨94, none, false, H.length⟩ (todoAt Tryd.f94 21) ⟨E, [], GH H p L, none⟩) = some ⟨.ret (.tup []), GH H p R0, none⟩ := by
  intro q
  skip
  induction q with
  | zero =>
    intro j hj L hL hr E g0 g14 g17
    have hk' : ¬ (j : Int) < ((m - i : Nat) : Int) := by omega
    simp only [dnS] at hr
    subst hr
    simp only [loopIt, todoPast, todoAt, todoOf, firstReg, ↓reduceIte, Option.some.injEq, Nat.reduceEqDiff, reduceCtorEq, Tryd.f94]
    rw [execL_inLoop]
    have c' : ¬ (i : Int) < ((i + 0 : Nat) : Int) := by omega
    simp (maxSteps := 1000000) (implicitDefEqProofs := false) (disch := first | rfl | omega | assumption) only [go_sem, ↓reduceIte, Nat.reduceEqDiff, Nat.reduceAdd, Nat.reduceLeDiff, Nat.reduceBEq, Nat.reduceMul, Nat.reduceLT, Int.reduceLT, Int.reduceLE, Int.reduceToNat, Int.reduceNeg, Int.reduceEq, Int.reduceMul, reduceCtorEq, Int.reduceBEq, Int.reduceBNe, Int.reduceAdd, Int.reduceSub, g0, g14, g17, ltT, ltF, leT, leF, hk', c']
  | succ q ih =>
    intro j hj L hL hr E g0 g14 g17
    have hk' : (j : Int) < ((m - i : Nat) : Int) := by omega
    have hk2 : j < m - i := by omega
    simp only [dnS] at hr
    have f1 := @GH_idx H p n hp
    have f2 := @GH_load H p n hp
    have f3 := @GH_store H p n H.length hp
    have c' : (i : Int) < ((i + (q + 1) : Nat) : Int) := by omega
    have e1 : ((i + (q + 1) : Nat) : Int) - 1 = ((i + q : Nat) : Int) := by omega
    have hL2 : (L.set (i + (q + 1)) (L.getD (i + q) 0)).length = n := by rw [List.length_set]; exact hL
    simp only [loopIt, todoPast, todoAt, todoOf, firstReg, ↓reduceIte, Option.some.injEq, Nat.reduceEqDiff, reduceCtorEq, Tryd.f94]
    rw [execL_inLoop]
    simp (maxSteps := 1000000) (implicitDefEqProofs := false) (disch := first | rfl | omega | assumption) only [go_sem, ↓reduceIte, Nat.reduceEqDiff, Nat.reduceAdd, Nat.reduceLeDiff, Nat.reduceBEq, Nat.reduceMul, Nat.reduceLT, Int.reduceLT, Int.reduceLE, Int.reduceToNat, Int.reduceNeg, Int.reduceEq, Int.reduceMul, reduceCtorEq, Int.reduceBEq, Int.reduceBNe, Int.reduceAdd, Int.reduceSub, g0, g14, g17, ltT, ltF, leT, leF, hk', c']
    rw [chkK_of]; rotate_left; kernel_rfl
    simp (maxSteps := 1000000) (implicitDefEqProofs := false) (disch := first | rfl | omega | assumption) only [go_sem, ↓reduceIte, Nat.reduceEqDiff, Nat.reduceAdd, Nat.reduceLeDiff, Nat.reduceBEq, Nat.reduceMul, Nat.reduceLT, Int.reduceLT, Int.reduceLE, Int.reduceToNat, Int.reduceNeg, Int.reduceEq, Int.reduceMul, reduceCtorEq, Int.reduceBEq, Int.reduceBNe, Int.reduceAdd, Int.reduceSub, g0, g14, g17, ltT, ltF, leT, leF, hk', f1, f2, f3, e1]
    exact ih (j + 1) (by omega) (swp L (i + q + 1) (i + q)) (by rw [swp_len]; exact hL) hr _ (by exact g0) (by exact g14) (by rfl)

theorem bsC_loop {fn : Fn} {cap : List AV} {key : Nat → Int} {B : Nat} (hc : Cmp fn cap key B) {p : Nat} (hp : p < H.length) (a m b n w pp mid : Nat) (hn : n ≤ 100000) (hw : w ≤ 1000000) (L : List Nat) (hL : L.length = n) (hB : Small B L) (N R0 : Nat) (K : List Item) (R : Option Done) (hK : ∀ E : Env, E.get 0 = .gsl p n → E.get 1 = I a → E.get 2 = I m → E.get 3 = I b → E.get 4 = .func fn [] cap → E.get 18 = I mid → E.get 19 = I w → E.get 20 = I R0 → Option.map (finishC H.length) (execL cfg0 prog0 ⟨94, none, false, H.length⟩ K ⟨E, [], GH H p L, none⟩) = R)  :
    ∀ (q j : Nat), j + q = N → ∀ (x y : Nat), y ≤ pp + 1 → y ≤ n → (x < y → pp - x < n) → x ≤ y → y - x < q → bs (fun c => !decide (key (gt L (pp - c)) - key (gt L c) < 0)) q x y = R0 → ∀ E : Env, E.get 0 = .gsl p n → E.get 1 = I a → E.get 2 = I m → E.get 3 = I b → E.get 4 = .func fn [] cap → E.get 18 = I mid → E.get 19 = I w → E.get 20 = I x → E.get 21 = I y → E.get 22 = I pp →
    Option.map (finishC H.length) (execL cfg0 prog0 ⟨94, none, false, H.length⟩ (loopIt Tryd.f94 33 :: .inBlock 8 :: K) ⟨E, [], GH H p L, none⟩) = R := by
  intro q
  have f1 := @GH_idx H p n hp
  have f2 := @GH_load H p n hp
  induction q with
  | zero =>
    intro j hj x y hyb hyb2 hpx hxy hq hr E g0 g1 g2 g3 g4 g18 g19 g20 g21 g22
    have hk' : ¬ (j : Int) < ((N : Nat) : Int) := by omega
    simp only [loopIt, todoPast, todoAt, todoOf, firstReg, ↓reduceIte, Option.some.injEq, Nat.reduceEqDiff, reduceCtorEq, Tryd.f94]
    rw [execL_inLoop]
    exfalso
    omega
  | succ q ih =>
    intro j hj x y hyb hyb2 hpx hxy hq hr E g0 g1 g2 g3 g4 g18 g19 g20 g21 g22
    have hk' : (j : Int) < ((N : Nat) : Int) := by omega
    have hk2 : j < N := by omega
    rw [bs] at hr
    by_cases c : x < y
    · rw [if_pos c] at hr
      have hpx' := hpx c
      obtain ⟨h, hh⟩ : ∃ h, (x + y) / 2 = h := ⟨_, rfl⟩
      have e1 := half x y
      have e2 := halfw (x := x) (y := y) (by omega)
      rw [hh] at hr e1
      have e3 : IntKind.i64.wrap (h : Int) = h := w64 (by omega) (by omega)
      have e4 : (pp : Int) - h = ((pp - h : Nat) : Int) := by omega
      have x1 := hB (pp - h) (by omega)
      have x2 := hB h (by omega)
      have hcc := fun G => hc.call _ _ G x1 x2
      have k1 := hc.bd (L.getD (pp - h) 0)
      have k2 := hc.bd (L.getD h 0)
      have c' : (x : Int) < y := by omega
      by_cases d : key (L.getD (pp - h) 0) - key (L.getD h 0) < 0
      · have d' : ¬ (!decide (key (gt L (pp - h)) - key (gt L h) < 0)) = true := by
          simp only [Bool.not_eq_true', decide_eq_false_iff_not, Decidable.not_not]
          exact d
        rw [if_neg d'] at hr
        simp only [loopIt, todoPast, todoAt, todoOf, firstReg, ↓reduceIte, Option.some.injEq, Nat.reduceEqDiff, reduceCtorEq, Tryd.f94]
        rw [execL_inLoop]
        simp (maxSteps := 1000000) (implicitDefEqProofs := false) (disch := first | rfl | omega | assumption) only [go_sem, ↓reduceIte, Nat.reduceEqDiff, Nat.reduceAdd, Nat.reduceLeDiff, Nat.reduceBEq, Nat.reduceMul, Nat.reduceLT, Int.reduceLT, Int.reduceLE, Int.reduceToNat, Int.reduceNeg, Int.reduceEq, Int.reduceMul, reduceCtorEq, Int.reduceBEq, Int.reduceBNe, Int.reduceAdd, Int.reduceSub, g0, g1, g2, g3, g4, g18, g19, g20, g21, g22, ltT, ltF, leT, leF, hk', c', e1, e2, e3]
        rw [chkK_of]; rotate_left; kernel_rfl
        simp (maxSteps := 1000000) (implicitDefEqProofs := false) (disch := first | rfl | omega | assumption) only [go_sem, ↓reduceIte, Nat.reduceEqDiff, Nat.reduceAdd, Nat.reduceLeDiff, Nat.reduceBEq, Nat.reduceMul, Nat.reduceLT, Int.reduceLT, Int.reduceLE, Int.reduceToNat, Int.reduceNeg, Int.reduceEq, Int.reduceMul, reduceCtorEq, Int.reduceBEq, Int.reduceBNe, Int.reduceAdd, Int.reduceSub, g0, g1, g2, g3, g4, g18, g19, g20, g21, g22, ltT, ltF, leT, leF, hk', f1, f2, hcc, d, e4]
        exact ih (j + 1) (by omega) x h (by omega) (by omega) (by omega) (by omega) (by omega) hr _ (by exact g0) (by exact g1) (by exact g2) (by exact g3) (by exact g4) (by exact g18) (by exact g19) (by exact g20) (by rfl) (by exact g22)
      · have d' : (!decide (key (gt L (pp - h)) - key (gt L h) < 0)) = true := by
          simp only [Bool.not_eq_true', decide_eq_false_iff_not]
          exact d
        rw [if_pos d'] at hr
        simp only [loopIt, todoPast, todoAt, todoOf, firstReg, ↓reduceIte, Option.some.injEq, Nat.reduceEqDiff, reduceCtorEq, Tryd.f94]
        rw [execL_inLoop]
        simp (maxSteps := 1000000) (implicitDefEqProofs := false) (disch := first | rfl | omega | assumption) only [go_sem, ↓reduceIte, Nat.reduceEqDiff, Nat.reduceAdd, Nat.reduceLeDiff, Nat.reduceBEq, Nat.reduceMul, Nat.reduceLT, Int.reduceLT, Int.reduceLE, Int.reduceToNat, Int.reduceNeg, Int.reduceEq, Int.reduceMul, reduceCtorEq, Int.reduceBEq, Int.reduceBNe, Int.reduceAdd, Int.reduceSub, g0, g1, g2, g3, g4, g18, g19, g20, g21, g22, ltT, ltF, leT, leF, hk', c', e1, e2, e3]
        rw [chkK_of]; rotate_left; kernel_rfl
        simp (maxSteps := 1000000) (implicitDefEqProofs := false) (disch := first | rfl | omega | assumption) only [go_sem, ↓reduceIte, Nat.reduceEqDiff, Nat.reduceAdd, Nat.reduceLeDiff, Nat.reduceBEq, Nat.reduceMul, Nat.reduceLT, Int.reduceLT, Int.reduceLE, Int.reduceToNat, Int.reduceNeg, Int.reduceEq, Int.reduceMul, reduceCtorEq, Int.reduceBEq, Int.reduceBNe, Int.reduceAdd, Int.reduceSub, g0, g1, g2, g3, g4, g18, g19, g20, g21, g22, ltT, ltF, leT, leF, hk', f1, f2, hcc, d, e4]
        exact ih (j + 1) (by omega) (h + 1) y hyb hyb2 (by omega) (by omega) (by omega) hr _ (by exact g0) (by exact g1) (by exact g2) (by exact g3) (by exact g4) (by exact g18) (by exact g19) (by rfl) (by exact g21) (by exact g22)
    · rw [if_neg c] at hr
      subst hr
      have c' : ¬ (x : Int) < y := by omega
      simp only [loopIt, todoPast, todoAt, todoOf, firstReg, ↓reduceIte, Option.some.injEq, Nat.reduceEqDiff, reduceCtorEq, Tryd.f94]
      rw [execL_inLoop]
      simp (maxSteps := 1000000) (implicitDefEqProofs := false) (disch := first | rfl | omega | assumption) only [go_sem, ↓reduceIte, Nat.reduceEqDiff, Nat.reduceAdd, Nat.reduceLeDiff, Nat.reduceBEq, Nat.reduceMul, Nat.reduceLT, Int.reduceLT, Int.reduceLE, Int.reduceToNat, Int.reduceNeg, Int.reduceEq, Int.reduceMul, reduceCtorEq, Int.reduceBEq, Int.reduceBNe, Int.reduceAdd, Int.reduceSub, g0, g1, g2, g3, g4, g18, g19, g20, g21, g22, ltT, ltF, leT, leF, hk', c']
      exact hK _ (by exact g0) (by exact g1) (by exact g2) (by exact g3) (by exact g4) (by exact g18) (by exact g19) (by exact g20)

end Go.Ab
