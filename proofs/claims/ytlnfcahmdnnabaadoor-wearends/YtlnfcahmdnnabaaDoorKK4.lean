/-
  The reference, walked: powers, sets, steps.
-/
import Derived.Test.YtlnfcahmdnnabaaDoorKK3
namespace Go.Ab
open Go.Proofs
set_option linter.unusedSimpArgs false
set_option linter.unusedVariables false
set_option maxRecDepth 100000

variable {H : Heap}

theorem ld_ne {k m : Nat} {o : Option Nat} {r : Lds} (h : m ≠ k) : getAt (addLd k o r) m = getAt r m := by
  cases o
  · rfl
  · simp only [addLd, getAt]; rw [if_neg (Ne.symm h)]

theorem ld_eq {k : Nat} {o : Option Nat} {r : Lds} : getAt (addLd k o r) k = o.or (getAt r k) := by
  cases o
  · simp [addLd]
  · simp [addLd, getAt]

/-- What lies at a slice that was there before has not turned by what is made later. -/
theorem SlOk.old {sz : Nat} {v : AV} {xs : List AV} (h : SlOk H sz v xs) (A B : Heap) : pairM (some (H ++ A, H ++ B)) (gslOf v) = true := by
  rcases h.obj with hg | ⟨l, hg, hlt, hget⟩
  · rw [hg]; rfl
  · rw [hg, pairM_some]
    have hs : ∀ l : List AV, sameL l l = true := fun l => by
      induction l with
      | nil => rfl
      | cons x r ih => simp [sameL, AV.same_refl, ih]
    simp only [sameAt, List.getElem?_append_left hlt, hget, AO.same, hs]
    simp

theorem or_none' (o : Option Nat) : o.or none = o := by cases o <;> rfl

theorem pow_le {j n : Nat} (h : j ≤ n) : (2 : Nat) ^ j ≤ 2 ^ n := Nat.pow_le_pow_right (by omega) h

theorem wN {m : Nat} (h : m < 2 ^ 62) : IntKind.i64.wrap (m : Int) = m := w64 (by omega) (by omega)

abbrev pw (n : Nat) : Int := ((2 ^ n : Nat) : Int)

theorem power_loop (n : Nat) (hn : n ≤ 60) :
    ∀ (q j : Nat), j + q = n → ∀ E : Env, E.get 0 = I n → E.get 3 = I (pw j) → E.get 4 = I j →
    Option.map (finishC H.length) (execL cfg0 prog0 ⟨54, none, false, H.length⟩ (todoAt Tryd.f54 3) ⟨E, [], H, none⟩) = some ⟨.ret (I (pw n)), H, none⟩ := by
  intro q
  skip
  induction q with
  | zero =>
    intro j hj  E g0 g3 g4
    have hk' : ¬ (j : Int) < ((n : Nat) : Int) := by omega
    have ej : j = n := by omega
    subst ej
    simp only [loopIt, todoPast, todoAt, todoOf, firstReg, ↓reduceIte, Option.some.injEq, Nat.reduceEqDiff, reduceCtorEq, Tryd.f54]
    rw [execL_inLoop]
    simp (maxSteps := 1000000) (implicitDefEqProofs := false) (disch := first | rfl | omega | assumption) only [go_sem, ↓reduceIte, Nat.reduceEqDiff, Nat.reduceAdd, Nat.reduceLeDiff, Nat.reduceBEq, Nat.reduceMul, Nat.reduceLT, Int.reduceLT, Int.reduceLE, Int.reduceToNat, Int.reduceNeg, Int.reduceEq, Int.reduceMul, reduceCtorEq, Int.reduceBEq, Int.reduceBNe, Int.reduceAdd, Int.reduceSub, g0, g3, g4, ltT, ltF, leT, leF, hk']
  | succ q ih =>
    intro j hj  E g0 g3 g4
    have hk' : (j : Int) < ((n : Nat) : Int) := by omega
    have hk2 : j < n := by omega
    have p1 := pow_le (show j + 1 ≤ 60 by omega)
    have e1 : (2 : Int) * ((2 ^ j : Nat) : Int) = ((2 ^ (j + 1) : Nat) : Int) := by rw [Nat.pow_succ]; omega
    have e2 := wN (m := 2 ^ (j + 1)) (by omega)
    simp only [loopIt, todoPast, todoAt, todoOf, firstReg, ↓reduceIte, Option.some.injEq, Nat.reduceEqDiff, reduceCtorEq, Tryd.f54]
    rw [execL_inLoop]
    simp (maxSteps := 1000000) (implicitDefEqProofs := false) (disch := first | rfl | omega | assumption) only [go_sem, ↓reduceIte, Nat.reduceEqDiff, Nat.reduceAdd, Nat.reduceLeDiff, Nat.reduceBEq, Nat.reduceMul, Nat.reduceLT, Int.reduceLT, Int.reduceLE, Int.reduceToNat, Int.reduceNeg, Int.reduceEq, Int.reduceMul, reduceCtorEq, Int.reduceBEq, Int.reduceBNe, Int.reduceAdd, Int.reduceSub, g0, g3, g4, ltT, ltF, leT, leF, hk', e1, e2]
    exact ih (j + 1) (by omega) _ (by exact g0) (by rfl) (by rfl)

theorem ref_power (n : Nat) (hn : n ≤ 60) (H : Heap) : callFL cfg0 prog0 false 54 [I n] H none = some ⟨.ret (I (pw n)), H, none⟩ := by
  refine (callFL_eq fn54 rfl (by simp [Tryd.f54])).trans ?_
  simp (maxSteps := 1000000) (implicitDefEqProofs := false) (disch := first | rfl | omega | assumption) only [go_sem, ↓reduceIte, Nat.reduceEqDiff, Nat.reduceAdd, Nat.reduceLeDiff, Nat.reduceBEq, Nat.reduceMul, Nat.reduceLT, Int.reduceLT, Int.reduceLE, Int.reduceToNat, Int.reduceNeg, Int.reduceEq, Int.reduceMul, reduceCtorEq, Int.reduceBEq, Int.reduceBNe, Int.reduceAdd, Int.reduceSub, ltT, ltF, leT, leF]
  exact power_loop n hn n 0 (by omega) _ (by rfl) (by rfl) (by rfl)

theorem ref_Has {s n : Nat} (hs : s < 2 ^ 60) (hn : n ≤ 60) (H : Heap) : callFL cfg0 prog0 false 74 [I s, I n] H none = some ⟨.ret (.bool (s.testBit n)), H, none⟩ := by
  have hp := fun G : Heap => ref_power n hn G
  have p1 := pow_le hn
  have p2 : 0 < (2 : Nat) ^ n := Nat.two_pow_pos n
  have e1 : ((s : Nat) : Int).tdiv ((2 ^ n : Nat) : Int) = ((s / 2 ^ n : Nat) : Int) := rfl
  have e2 : ((s / 2 ^ n : Nat) : Int).tmod 2 = ((s / 2 ^ n % 2 : Nat) : Int) := rfl
  have e3 : (((s / 2 ^ n % 2 : Nat) : Int) == 1) = s.testBit n := by
    rw [Nat.testBit_eq_decide_div_mod_eq]
    have : s / 2 ^ n % 2 = 0 ∨ s / 2 ^ n % 2 = 1 := by omega
    rcases this with h | h <;> rw [h] <;> rfl
  have z : ((2 ^ n : Nat) : Int) ≠ 0 := by omega
  have d := div_lt (j := n) hs
  have e4 : IntKind.i64.wrap ((s / 2 ^ n : Nat) : Int) = ((s / 2 ^ n : Nat) : Int) := wN (by omega)
  refine (callFL_eq fn74 rfl (by simp [Tryd.f74])).trans ?_
  simp (maxSteps := 1000000) (implicitDefEqProofs := false) (disch := first | rfl | omega | assumption) only [go_sem, ↓reduceIte, Nat.reduceEqDiff, Nat.reduceAdd, Nat.reduceLeDiff, Nat.reduceBEq, Nat.reduceMul, Nat.reduceLT, Int.reduceLT, Int.reduceLE, Int.reduceToNat, Int.reduceNeg, Int.reduceEq, Int.reduceMul, reduceCtorEq, Int.reduceBEq, Int.reduceBNe, Int.reduceAdd, Int.reduceSub, ltT, ltF, leT, leF, hp, e1, e2, e3, e4, z]

def takP (w : Wea) (e : Ev) : Int × Int := if e.k = 0 then (e.u * w.ulo, e.u * w.uhi) else if e.k = 2 then (e.lo, e.hi) else (0, 0)

theorem ref_takes {w : Wea} {ve : AV} (h : WeaAt H w ve) (ho : w.Ok) (e : Ev) (he : e.ok = true) : callFL cfg0 prog0 false 92 [w.av ve, e.av] H none = some ⟨.ret (KV (takP w e)), H, none⟩ := by
  have s1 := h.es.scal
  have hu := ho.use
  simp only [Wea.av, Ev.av, takP]
  rcases (Ev.ok_iff e).1 he with ⟨k0, k1⟩ | ⟨k0, k1⟩ | ⟨k0, k1⟩
  · have b1 := mul_bd k1 (show 0 ≤ w.ulo ∧ w.ulo ≤ 3 by omega)
    have b2 := mul_bd k1 (show 0 ≤ w.uhi ∧ w.uhi ≤ 3 by omega)
    refine (callFL_eq fn92 rfl (by simp [Tryd.f92])).trans ?_
    simp (maxSteps := 1000000) (implicitDefEqProofs := false) (disch := first | rfl | omega | assumption) only [go_sem, ↓reduceIte, Nat.reduceEqDiff, Nat.reduceAdd, Nat.reduceLeDiff, Nat.reduceBEq, Nat.reduceMul, Nat.reduceLT, Int.reduceLT, Int.reduceLE, Int.reduceToNat, Int.reduceNeg, Int.reduceEq, Int.reduceMul, reduceCtorEq, Int.reduceBEq, Int.reduceBNe, Int.reduceAdd, Int.reduceSub, ltT, ltF, leT, leF, s1, k0]
  · refine (callFL_eq fn92 rfl (by simp [Tryd.f92])).trans ?_
    simp (maxSteps := 1000000) (implicitDefEqProofs := false) (disch := first | rfl | omega | assumption) only [go_sem, ↓reduceIte, Nat.reduceEqDiff, Nat.reduceAdd, Nat.reduceLeDiff, Nat.reduceBEq, Nat.reduceMul, Nat.reduceLT, Int.reduceLT, Int.reduceLE, Int.reduceToNat, Int.reduceNeg, Int.reduceEq, Int.reduceMul, reduceCtorEq, Int.reduceBEq, Int.reduceBNe, Int.reduceAdd, Int.reduceSub, ltT, ltF, leT, leF, s1, k0]
  · refine (callFL_eq fn92 rfl (by simp [Tryd.f92])).trans ?_
    simp (maxSteps := 1000000) (implicitDefEqProofs := false) (disch := first | rfl | omega | assumption) only [go_sem, ↓reduceIte, Nat.reduceEqDiff, Nat.reduceAdd, Nat.reduceLeDiff, Nat.reduceBEq, Nat.reduceMul, Nat.reduceLT, Int.reduceLT, Int.reduceLE, Int.reduceToNat, Int.reduceNeg, Int.reduceEq, Int.reduceMul, reduceCtorEq, Int.reduceBEq, Int.reduceBNe, Int.reduceAdd, Int.reduceSub, ltT, ltF, leT, leF, s1, k0]

/-- One step of the reference. -/
def nxE (w : Wea) (e : Ev) (b : Bool) (l : Int × Int) : Int × Int :=
  if (decide (e.k = 1) && b) = true then (max (l.1 - (takP w e).2) e.lo, min (l.2 - (takP w e).1) e.hi) else (l.1 - (takP w e).2, l.2 - (takP w e).1)

theorem takP_bd {w : Wea} (ho : w.Ok) {e : Ev} (he : e.ok = true) : 0 ≤ (takP w e).1 ∧ (takP w e).1 ≤ (takP w e).2 ∧ (takP w e).2 ≤ 60 := by
  have hu := ho.use
  simp only [takP]
  rcases (Ev.ok_iff e).1 he with ⟨k0, k1⟩ | ⟨k0, k1⟩ | ⟨k0, k1⟩
  · have b1 := mul_bd k1 (show 0 ≤ w.ulo ∧ w.ulo ≤ 3 by omega)
    have b2 := mul_bd k1 (show 0 ≤ w.uhi ∧ w.uhi ≤ 3 by omega)
    have b3 : e.u * w.ulo ≤ e.u * w.uhi := Int.mul_le_mul_of_nonneg_left (by omega) (by omega)
    rw [if_pos k0]
    simp only
    omega
  · rw [if_neg (by omega), if_neg (by omega)]
    simp only
    omega
  · rw [if_neg (by omega), if_pos k0]
    simp only
    omega

theorem ref_next {w : Wea} {ve : AV} (h : WeaAt H w ve) (ho : w.Ok) (e : Ev) (he : e.ok = true) (l : Int × Int) (hb : bd 1000000 l) (b : Bool) :
    callFL cfg0 prog0 false 84 [w.av ve, KV l, e.av, .bool b] H none = some ⟨.ret (KV (nxE w e b l)), H, none⟩ := by
  have s1 := h.es.scal
  have hT := fun G : Heap => ref_takes (h.app G) ho e he
  obtain ⟨t1, t2, t3⟩ := takP_bd ho he
  simp only [bd] at hb
  have hmx : ∀ a c : Int, (if a < c then c else a) = max a c := by intro a c; split <;> omega
  have hmn : ∀ a c : Int, (if c < a then c else a) = min a c := by intro a c; split <;> omega
  simp only [Wea.av, Ev.av, nxE] at hT ⊢
  generalize takP w e = t at *
  by_cases hk : e.k = 1
  · have hk' : (e.k == 1) = true := beq_iff_eq.2 hk
    have dk : decide (e.k = 1) = true := decide_eq_true hk
    cases b
    · refine (callFL_eq fn84 rfl (by simp [Tryd.f84])).trans ?_
      simp (maxSteps := 1000000) (implicitDefEqProofs := false) (disch := first | rfl | omega | assumption) only [go_sem, ↓reduceIte, Nat.reduceEqDiff, Nat.reduceAdd, Nat.reduceLeDiff, Nat.reduceBEq, Nat.reduceMul, Nat.reduceLT, Int.reduceLT, Int.reduceLE, Int.reduceToNat, Int.reduceNeg, Int.reduceEq, Int.reduceMul, reduceCtorEq, Int.reduceBEq, Int.reduceBNe, Int.reduceAdd, Int.reduceSub, ltT, ltF, leT, leF, s1, hT, dk, hk', hmx, hmn, Bool.true_and, Bool.and_true]
      done
    · refine (callFL_eq fn84 rfl (by simp [Tryd.f84])).trans ?_
      simp (maxSteps := 1000000) (implicitDefEqProofs := false) (disch := first | rfl | omega | assumption) only [go_sem, ↓reduceIte, Nat.reduceEqDiff, Nat.reduceAdd, Nat.reduceLeDiff, Nat.reduceBEq, Nat.reduceMul, Nat.reduceLT, Int.reduceLT, Int.reduceLE, Int.reduceToNat, Int.reduceNeg, Int.reduceEq, Int.reduceMul, reduceCtorEq, Int.reduceBEq, Int.reduceBNe, Int.reduceAdd, Int.reduceSub, ltT, ltF, leT, leF, s1, hT, dk, hk', hmx, hmn, Bool.true_and, Bool.and_true]
      done
  · have hk' : (e.k == 1) = false := beq_eq_false_iff_ne.2 hk
    have dk : decide (e.k = 1) = false := decide_eq_false hk
    refine (callFL_eq fn84 rfl (by simp [Tryd.f84])).trans ?_
    simp (maxSteps := 1000000) (implicitDefEqProofs := false) (disch := first | rfl | omega | assumption) only [go_sem, ↓reduceIte, Nat.reduceEqDiff, Nat.reduceAdd, Nat.reduceLeDiff, Nat.reduceBEq, Nat.reduceMul, Nat.reduceLT, Int.reduceLT, Int.reduceLE, Int.reduceToNat, Int.reduceNeg, Int.reduceEq, Int.reduceMul, reduceCtorEq, Int.reduceBEq, Int.reduceBNe, Int.reduceAdd, Int.reduceSub, ltT, ltF, leT, leF, s1, hT, dk, hk', hmx, hmn, Bool.false_and]
    done

/-- The reference's run. -/
def Wea.runP (w : Wea) (s : Nat) (l : Int × Int) : Nat → Nat → Int × Int
  | _, 0 => l
  | i, q + 1 => if l.1 ≤ l.2 then w.runP s (nxE w (w.ev i) (s.testBit i) l) (i + 1) q else l

theorem nxE_bd {w : Wea} (ho : w.Ok) {e : Ev} (he : e.ok = true) (b : Bool) {l : Int × Int} {K : Int} (hK : 1000 ≤ K) (h : bd K l) : bd (K + 60) (nxE w e b l) := by
  obtain ⟨t1, t2, t3⟩ := takP_bd ho he
  simp only [bd, nxE] at h ⊢
  by_cases hk : e.k = 1
  · rcases (Ev.ok_iff e).1 he with ⟨k0, k1⟩ | ⟨k0, k1⟩ | ⟨k0, k1⟩
    · omega
    · split <;> simp only <;> omega
    · omega
  · simp only [hk, decide_false, Bool.false_and, Bool.false_eq_true, if_false]
    omega

theorem ok_ev {w : Wea} (ho : w.Ok) {i : Nat} (hi : i < w.es.length) : (w.ev i).ok = true := (Ev.ok_iff _).2 (ho.ev i hi)

theorem run_loop {w : Wea} {ve : AV} (h : WeaAt H w ve) (ho : w.Ok) (s : Nat) (hs : s < 2 ^ 60) (n : Nat) (hn : n ≤ w.es.length) :
    ∀ (q j : Nat), j + q = n → ∀ (l : Int × Int), bd (100000 + 60 * j) l → ∀ E : Env, E.get 3 = I n → E.get 4 = I s → E.get 5 = .ptr H.length 0 → E.get 6 = .ptr (H.length + 1) 0 → E.get 10 = .ptr (H.length + 2) 0 → E.get 11 = I j →
    Option.map (finishC H.length) (execL cfg0 prog0 ⟨50, none, false, H.length⟩ (todoAt Tryd.f50 2) ⟨E, [], H ++ [.box (w.av ve), .box (KV l), .box (KV (0, 0))], none⟩) = some ⟨.ret (KV (w.runP s l j q)), H, none⟩ := by
  intro q
  have h8 := ho.many
  have s1 := h.es.scal
  obtain ⟨a1, a2, a3, a4, a5⟩ := h.es.fA (d := ev0)
  simp only [Wea.av]
  induction q with
  | zero =>
    intro j hj l hl E g3 g4 g5 g6 g10 g11
    have hk' : ¬ (j : Int) < ((n : Nat) : Int) := by omega
    simp only [loopIt, todoPast, todoAt, todoOf, firstReg, ↓reduceIte, Option.some.injEq, Nat.reduceEqDiff, reduceCtorEq, Tryd.f50]
    rw [execL_inLoop]
    simp (maxSteps := 1000000) (implicitDefEqProofs := false) (disch := first | rfl | omega | assumption) only [go_sem, ↓reduceIte, Nat.reduceEqDiff, Nat.reduceAdd, Nat.reduceLeDiff, Nat.reduceBEq, Nat.reduceMul, Nat.reduceLT, Int.reduceLT, Int.reduceLE, Int.reduceToNat, Int.reduceNeg, Int.reduceEq, Int.reduceMul, reduceCtorEq, Int.reduceBEq, Int.reduceBNe, Int.reduceAdd, Int.reduceSub, g3, g4, g5, g6, g10, g11, ltT, ltF, leT, leF, hk', s1, Wea.runP]
    done
  | succ q ih =>
    intro j hj l hl E g3 g4 g5 g6 g10 g11
    have hk' : (j : Int) < ((n : Nat) : Int) := by omega
    have hk2 : j < n := by omega
    simp only [Wea.runP]
    have hj8 : j < w.es.length := by omega
    have hH := fun G : Heap => ref_Has hs (show j ≤ 60 by omega) G
    have hN := fun G : Heap => ref_next (h.app G) ho (w.es.getD j ev0) (ok_ev ho hj8) l (bd_mono (by omega) hl) (s.testBit j)
    have hr : readPart (w.es.getD j ev0).av.cells 0 ⟨.struct [(0, 3), (1, 3), (2, 23)], 4, 32, some (.agg #[.int .i64 0, .int .i64 0, .int .i64 0, .int .i64 0])⟩ = some (w.es.getD j ev0).av := rfl
    have hb' := nxE_bd ho (ok_ev ho hj8) (s.testBit j) (by omega) hl
    have o1 := h.es.old
    have o2 := fun (k : Int) (off : Nat) => ptrOf_elA (k := k) (off := off) h.es
    simp only [Wea.av] at hN
    by_cases hc : l.1 ≤ l.2
    · skip
      simp only [loopIt, todoPast, todoAt, todoOf, firstReg, ↓reduceIte, Option.some.injEq, Nat.reduceEqDiff, reduceCtorEq, Tryd.f50]
      rw [execL_inLoop]
      simp (maxSteps := 1000000) (implicitDefEqProofs := false) (disch := first | rfl | omega | assumption) only [go_sem, ↓reduceIte, Nat.reduceEqDiff, Nat.reduceAdd, Nat.reduceLeDiff, Nat.reduceBEq, Nat.reduceMul, Nat.reduceLT, Int.reduceLT, Int.reduceLE, Int.reduceToNat, Int.reduceNeg, Int.reduceEq, Int.reduceMul, reduceCtorEq, Int.reduceBEq, Int.reduceBNe, Int.reduceAdd, Int.reduceSub, g3, g4, g5, g6, g10, g11, ltT, ltF, leT, leF, hk', s1, hc]
      rw [chkK_of]; rotate_left; kernel_rfl
      simp (maxSteps := 1000000) (implicitDefEqProofs := false) (disch := first | rfl | omega | assumption) only [go_sem, ↓reduceIte, Nat.reduceEqDiff, Nat.reduceAdd, Nat.reduceLeDiff, Nat.reduceBEq, Nat.reduceMul, Nat.reduceLT, Int.reduceLT, Int.reduceLE, Int.reduceToNat, Int.reduceNeg, Int.reduceEq, Int.reduceMul, reduceCtorEq, Int.reduceBEq, Int.reduceBNe, Int.reduceAdd, Int.reduceSub, g3, g4, g5, g6, g10, g11, ltT, ltF, leT, leF, hk', s1, hc, a1, a2, a3, a4, hr, hH, hN, o1, o2, ld_ne, ld_eq, or_none']
      exact ih (j + 1) (by omega) _ (bd_mono (by omega) hb') _ (by exact g3) (by exact g4) (by exact g5) (by exact g6) (by exact g10) (by rfl)
    · skip
      simp only [loopIt, todoPast, todoAt, todoOf, firstReg, ↓reduceIte, Option.some.injEq, Nat.reduceEqDiff, reduceCtorEq, Tryd.f50]
      rw [execL_inLoop]
      simp (maxSteps := 1000000) (implicitDefEqProofs := false) (disch := first | rfl | omega | assumption) only [go_sem, ↓reduceIte, Nat.reduceEqDiff, Nat.reduceAdd, Nat.reduceLeDiff, Nat.reduceBEq, Nat.reduceMul, Nat.reduceLT, Int.reduceLT, Int.reduceLE, Int.reduceToNat, Int.reduceNeg, Int.reduceEq, Int.reduceMul, reduceCtorEq, Int.reduceBEq, Int.reduceBNe, Int.reduceAdd, Int.reduceSub, g3, g4, g5, g6, g10, g11, ltT, ltF, leT, leF, hk', s1, hc]

end Go.Ab
/-
  What the reference's runs tell.
-/
namespace Go.Ab
open Go.Proofs
set_option linter.unusedSimpArgs false
set_option linter.unusedVariables false
set_option maxRecDepth 100000

variable {H : Heap}

theorem nx_tells {w : Wea} (ho : w.Ok) {S : Int → Prop} {l : Int × Int} (h : isSp S l) (s : Nat) {i : Nat} (hi : i < w.es.length) : tells (fun y => ∃ x, S x ∧ (w.evz s i).go x y) 0 (nxE w (w.ev i) (s.testBit i) l) := by
  have hle := h.1
  have hu := ho.use
  simp only [nxE, takP, Wea.evz, h.2]
  rcases ho.ev i hi with ⟨k0, k1⟩ | ⟨k0, k1⟩ | ⟨k0, k1⟩
  · have b3 : (w.ev i).u * w.ulo ≤ (w.ev i).u * w.uhi := Int.mul_le_mul_of_nonneg_left (by omega) (by omega)
    simp only [k0, if_true, (show ¬ (0 : Int) = 1 by decide), decide_false, Bool.false_and, Bool.false_eq_true, if_false, EvZ.go, inP]
    refine .inl ⟨by simp only; omega, fun y => ?_⟩
    simp only [inP]
    exact ⟨fun ⟨x, hx⟩ => by omega, fun hy => ⟨max l.1 (y + (w.ev i).u * w.ulo), by omega⟩⟩
  · cases hb : s.testBit i
    · simp only [k0, if_true, (show ¬ (1 : Int) = 0 by decide), (show ¬ (1 : Int) = 2 by decide), decide_true, Bool.and_false, Bool.false_eq_true, if_false, EvZ.go, inP]
      refine .inl ⟨by simp only; omega, fun y => ?_⟩
      simp only [inP]
      exact ⟨fun ⟨x, hx⟩ => by omega, fun hy => ⟨y, by omega⟩⟩
    · simp only [k0, if_true, (show ¬ (1 : Int) = 0 by decide), (show ¬ (1 : Int) = 2 by decide), decide_true, Bool.and_true, Bool.false_eq_true, if_false, EvZ.go, inP]
      by_cases hc : max (l.1 - 0) (w.ev i).lo ≤ min (l.2 - 0) (w.ev i).hi
      · refine .inl ⟨hc, fun y => ?_⟩
        simp only [inP]
        exact ⟨fun ⟨x, hx⟩ => by omega, fun hy => ⟨y, by omega⟩⟩
      · exact .inr ⟨fun y ⟨x, hx⟩ => by omega, by simp only; omega⟩
  · simp only [k0, if_true, (show ¬ (2 : Int) = 0 by decide), (show ¬ (2 : Int) = 1 by decide), decide_false, Bool.false_and, Bool.false_eq_true, if_false, EvZ.go, inP]
    refine .inl ⟨by simp only; omega, fun y => ?_⟩
    simp only [inP]
    exact ⟨fun ⟨x, hx⟩ => by omega, fun hy => ⟨max l.1 (y + (w.ev i).lo), by omega⟩⟩

/-- From some lengths on, through some events. -/
def Wea.rS (w : Wea) (s : Nat) (S : Int → Prop) (i q : Nat) (y : Int) : Prop := ∃ k : Nat → Int, S (k i) ∧ (∀ j, i ≤ j → j < i + q → (w.evz s j).go (k j) (k (j + 1))) ∧ k (i + q) = y

theorem run_tells {w : Wea} (ho : w.Ok) (s : Nat) : ∀ (q i : Nat) (S : Int → Prop) (l : Int × Int), i + q ≤ w.es.length → tells S 0 l → tells (w.rS s S i q) 0 (w.runP s l i q)
  | 0, i, S, l, _, h => by
    refine tells_cong (fun y => ?_) h
    exact ⟨fun hy => ⟨fun _ => y, hy, by omega, rfl⟩, fun ⟨k, h1, _, h3⟩ => h3 ▸ h1⟩
  | q + 1, i, S, l, hi, h => by
    simp only [Wea.runP]
    split
    · rename_i hc
      have hs : isSp S l := tells_sp h ((tells_some h (by omega)).1 hc)
      have ih := run_tells ho s q (i + 1) _ _ (by omega) (nx_tells ho hs s (show i < w.es.length by omega))
      refine tells_cong (fun y => ?_) ih
      constructor
      · rintro ⟨k, ⟨x, h1, h2⟩, h3, h4⟩
        refine ⟨fun j => if j ≤ i then x else k j, by simpa using h1, fun j h5 h6 => ?_, ?_⟩
        · by_cases hj : j = i
          · subst hj
            simpa [show ¬ j + 1 ≤ j by omega] using h2
          · have := h3 j (by omega) (by omega)
            simpa [show ¬ j ≤ i by omega, show ¬ j + 1 ≤ i by omega] using this
        · rw [← h4]
          simp [show ¬ i + (q + 1) ≤ i by omega, show i + 1 + q = i + (q + 1) by omega]
      · rintro ⟨k, h1, h2, h3⟩
        exact ⟨k, ⟨k i, h1, h2 i (by omega) (by omega)⟩, fun j h4 h5 => h2 j (by omega) (by omega), by rw [← h3, show i + 1 + q = i + (q + 1) by omega]⟩
    · rename_i hc
      have hn : ∀ x, ¬ S x := fun x hx => hc ((tells_some h (by omega)).2 ⟨x, hx⟩)
      exact .inr ⟨fun y ⟨k, h1, _⟩ => hn _ h1, by omega⟩

/-- The set of all events. -/
def Wea.ev1 (w : Wea) : Nat := 2 ^ w.es.length - 1

theorem ev1_bit (w : Wea) (i : Nat) : w.ev1.testBit i = decide (i < w.es.length) := Nat.testBit_two_pow_sub_one ..

theorem ev1_go {w : Wea} (ho : w.Ok) {i : Nat} (hi : i < w.es.length) (x y : Int) : (w.evz w.ev1 i).go x y ↔ (w.ev i).go w.U x y := by
  simp only [Wea.evz, Ev.go, ev1_bit, hi, decide_true]
  rcases ho.ev i hi with ⟨k0, k1⟩ | ⟨k0, k1⟩ | ⟨k0, k1⟩
  · simp only [k0, if_true, EvZ.go]
  · simp only [k0, if_true, if_false, EvZ.go, (show ¬ (1 : Int) = 0 by decide), (show ¬ (1 : Int) = 2 by decide)]
  · simp only [k0, if_true, if_false, EvZ.go, (show ¬ (2 : Int) = 0 by decide)]

/-- By all events. -/
def Wea.rT (w : Wea) (S : Int → Prop) (i q : Nat) (y : Int) : Prop := ∃ k : Nat → Int, S (k i) ∧ (∀ j, i ≤ j → j < i + q → (w.ev j).go w.U (k j) (k (j + 1))) ∧ k (i + q) = y

theorem runT {w : Wea} (ho : w.Ok) {q i : Nat} {l : Int × Int} (hl : l.1 ≤ l.2) (h : i + q ≤ w.es.length) : tells (w.rT (inP l) i q) 0 (w.runP w.ev1 l i q) := by
  refine tells_cong (fun y => ?_) (run_tells ho w.ev1 q i (inP l) l h (.inl ⟨hl, fun _ => Iff.rfl⟩))
  constructor
  · rintro ⟨k, h1, h2, h3⟩
    exact ⟨k, h1, fun j a b => (ev1_go ho (by omega) _ _).1 (h2 j a b), h3⟩
  · rintro ⟨k, h1, h2, h3⟩
    exact ⟨k, h1, fun j a b => (ev1_go ho (by omega) _ _).2 (h2 j a b), h3⟩

theorem canR {w : Wea} (ho : w.Ok) : decide ((w.runP w.ev1 w.L 0 w.es.length).1 ≤ (w.runP w.ev1 w.L 0 w.es.length).2) = w.can := by
  have h := tells_some (runT ho (i := 0) (q := w.es.length) (L_ok ho) (by omega)) (by omega)
  rw [Bool.eq_iff_iff, decide_eq_true_eq, canT ho, h]
  constructor
  · rintro ⟨x, k, h1, h2, h3⟩
    exact ⟨k, h1, fun i hi => h2 i (by omega) (by omega)⟩
  · rintro ⟨l, h1, h2⟩
    exact ⟨_, l, h1, fun i _ hi => h2 i (by omega), rfl⟩

/-- The lengths that can be, at some place. -/
def Wea.aT (w : Wea) (i : Nat) (x : Int) : Prop := ∃ l, w.T l ∧ l i = x

/-- A length there is that can be, if it can be up to there and from there on. -/
theorem aT_iff {w : Wea} {i : Nat} (hi : i ≤ w.es.length) (x : Int) : w.aT i x ↔ w.rT (inP w.L) 0 i x ∧ ∃ y, w.rT (inP (x, x)) i (w.es.length - i) y := by
  constructor
  · rintro ⟨l, h, rfl⟩
    exact ⟨⟨l, h.1, fun j _ hj => h.2 j (by omega), by rw [Nat.zero_add]⟩, _, l, ⟨Int.le_refl _, Int.le_refl _⟩, fun j _ hj => h.2 j (by omega), rfl⟩
  · rintro ⟨⟨k, h1, h2, h3⟩, y, k', g1, g2, -⟩
    simp only [inP] at g1
    rw [Nat.zero_add] at h3
    refine ⟨fun j => if j ≤ i then k j else k' j, ⟨by simpa using h1, fun j hj => ?_⟩, by simpa using h3⟩
    rcases Nat.lt_trichotomy j i with hji | hji | hji
    · have := h2 j (by omega) (by omega)
      simpa [show j ≤ i by omega, show j + 1 ≤ i by omega] using this
    · subst hji
      have := g2 j (by omega) (by omega)
      have e : k j = k' j := by omega
      simpa [show ¬ j + 1 ≤ j by omega, e] using this
    · have := g2 j (by omega) (by omega)
      simpa [show ¬ j ≤ i by omega, show ¬ j + 1 ≤ i by omega] using this

/-- The ends of what is told up to a number; none yet. -/
def hullTo (S : Int → Prop) (x : Int) (b : Bool) (p : Int × Int) : Prop := if b then hull (fun y => S y ∧ y < x) p else p = (0, 0) ∧ ∀ y, S y → ¬ y < x

theorem hullTo_step {S : Int → Prop} {x : Int} {b : Bool} {p : Int × Int} (h : hullTo S x b p) (hx : S x) : hullTo S (x + 1) true (if b then p.1 else x, x) := by
  simp only [hullTo, if_true]
  cases b
  · simp only [hullTo, Bool.false_eq_true, if_false] at h ⊢
    exact ⟨⟨hx, by omega⟩, ⟨hx, by omega⟩, fun y ⟨h1, h2⟩ => by have := h.2 y h1; simp only [inP]; omega⟩
  · simp only [hullTo, if_true] at h ⊢
    obtain ⟨h1, h2, h3⟩ := h
    refine ⟨⟨h1.1, by have := h1.2; simp only; omega⟩, ⟨hx, by omega⟩, fun y ⟨g1, g2⟩ => ?_⟩
    by_cases hy : y = x
    · have := h1.2
      simp only [inP]
      omega
    · have := h3 y ⟨g1, by omega⟩
      simp only [inP] at this ⊢
      omega

theorem hullTo_skip {S : Int → Prop} {x : Int} {b : Bool} {p : Int × Int} (h : hullTo S x b p) (hx : ¬ S x) : hullTo S (x + 1) b p := by
  have e : ∀ y, (S y ∧ y < x + 1) ↔ S y ∧ y < x := fun y => ⟨fun ⟨h1, h2⟩ => ⟨h1, by
    by_cases hy : y = x
    · subst hy; exact absurd h1 hx
    · omega⟩, fun ⟨h1, h2⟩ => ⟨h1, by omega⟩⟩
  cases b
  · simp only [hullTo, Bool.false_eq_true, if_false] at h ⊢
    refine ⟨h.1, fun y h1 h2 => h.2 y h1 ((e y).1 ⟨h1, h2⟩).2⟩
  · simp only [hullTo, if_true] at h ⊢
    exact hull_cong (fun y => (e y).symm) h

end Go.Ab
/-
  The reference, walked: runs, errors, lengths.
-/
namespace Go.Ab
open Go.Proofs
set_option linter.unusedSimpArgs false
set_option linter.unusedVariables false
set_option maxRecDepth 100000

variable {H : Heap}

theorem ref_run {w : Wea} {ve : AV} (h : WeaAt H w ve) (ho : w.Ok) (s : Nat) (hs : s < 2 ^ 60) {l : Int × Int} (hb : bd 100000 l) {i n : Nat} (hi : i ≤ n) (hn : n ≤ w.es.length) :
    callFL cfg0 prog0 false 50 [w.av ve, KV l, I i, I n, I s] H none = some ⟨.ret (KV (w.runP s l i (n - i))), H, none⟩ := by
  have s1 := h.es.scal
  have hr := run_loop h ho s hs n hn (n - i) i (by omega)
  simp only [Wea.av] at hr ⊢
  refine (callFL_eq fn50 rfl (by simp [Tryd.f50])).trans ?_
  simp (maxSteps := 1000000) (implicitDefEqProofs := false) (disch := first | rfl | omega | assumption) only [go_sem, ↓reduceIte, Nat.reduceEqDiff, Nat.reduceAdd, Nat.reduceLeDiff, Nat.reduceBEq, Nat.reduceMul, Nat.reduceLT, Int.reduceLT, Int.reduceLE, Int.reduceToNat, Int.reduceNeg, Int.reduceEq, Int.reduceMul, reduceCtorEq, Int.reduceBEq, Int.reduceBNe, Int.reduceAdd, Int.reduceSub, ltT, ltF, leT, leF, s1]
  exact hr l (bd_mono (by omega) hb) _ (by rfl) (by rfl) (by rfl) (by rfl) (by rfl) (by rfl)

theorem ev1_lt {w : Wea} (ho : w.Ok) : w.ev1 < 2 ^ 60 := by
  have h8 := ho.many
  have := pow_le h8
  simp only [Wea.ev1]
  omega

theorem ref_every {w : Wea} {ve : AV} (h : WeaAt H w ve) (ho : w.Ok) : callFL cfg0 prog0 false 51 [w.av ve] H none = some ⟨.ret (I w.ev1), H, none⟩ := by
  have s1 := h.es.scal
  have s2 := h.es.len
  rw [List.length_map] at s2
  have h8 := ho.many
  have hp := fun G : Heap => ref_power w.es.length (by omega) G
  have p1 := pow_le h8
  have p2 : 0 < (2 : Nat) ^ w.es.length := Nat.two_pow_pos _
  have e1 : pw w.es.length - 1 = (w.ev1 : Int) := by simp only [pw, Wea.ev1]; omega
  have e2 := wN (m := w.ev1) (by have := ev1_lt ho; omega)
  simp only [Wea.av]
  refine (callFL_eq fn51 rfl (by simp [Tryd.f51])).trans ?_
  simp (maxSteps := 1000000) (implicitDefEqProofs := false) (disch := first | rfl | omega | assumption) only [go_sem, ↓reduceIte, Nat.reduceEqDiff, Nat.reduceAdd, Nat.reduceLeDiff, Nat.reduceBEq, Nat.reduceMul, Nat.reduceLT, Int.reduceLT, Int.reduceLE, Int.reduceToNat, Int.reduceNeg, Int.reduceEq, Int.reduceMul, reduceCtorEq, Int.reduceBEq, Int.reduceBNe, Int.reduceAdd, Int.reduceSub, ltT, ltF, leT, leF, s1, s2, hp, e1, e2]
  done

theorem ref_can {w : Wea} {ve : AV} (h : WeaAt H w ve) (ho : w.Ok) (s : Nat) (hs : s < 2 ^ 60) {l : Int × Int} (hb : bd 100000 l) :
    callFL cfg0 prog0 false 73 [w.av ve, KV l, I s] H none = some ⟨.ret (.bool (decide ((w.runP s l 0 w.es.length).1 ≤ (w.runP s l 0 w.es.length).2))), H, none⟩ := by
  have s1 := h.es.scal
  have s2 := h.es.len
  rw [List.length_map] at s2
  have hR := fun G : Heap => ref_run (h.app G) ho s hs hb (Nat.zero_le w.es.length) (Nat.le_refl _)
  simp only [Wea.av, Nat.sub_zero, Int.natCast_zero] at hR ⊢
  refine (callFL_eq fn73 rfl (by simp [Tryd.f73])).trans ?_
  simp (maxSteps := 1000000) (implicitDefEqProofs := false) (disch := first | rfl | omega | assumption) only [go_sem, ↓reduceIte, Nat.reduceEqDiff, Nat.reduceAdd, Nat.reduceLeDiff, Nat.reduceBEq, Nat.reduceMul, Nat.reduceLT, Int.reduceLT, Int.reduceLE, Int.reduceToNat, Int.reduceNeg, Int.reduceEq, Int.reduceMul, reduceCtorEq, Int.reduceBEq, Int.reduceBNe, Int.reduceAdd, Int.reduceSub, ltT, ltF, leT, leF, s1, s2, hR]
  done

theorem L_bd5 {w : Wea} (ho : w.Ok) : bd 100000 w.L := by
  have := ho.len
  simp only [bd, Wea.L]
  omega

theorem ref_check {w : Wea} {ve : AV} (h : WeaAt H w ve) (many : Int) (b : Bool) :
    callFL cfg0 prog0 false 45 [w.av ve, I many, .bool b] H none = some ⟨.ret (I (w.gate many b)), H, none⟩ := by
  have s1 := h.es.scal
  have hV := fun G : Heap => ref_Wear (h.app G)
  have hav : w.av ve = .agg [I w.llo, I w.lhi, I w.ulo, I w.uhi, ve] := rfl
  simp only [Wea.gate, hav] at hV ⊢
  rcases Bool.eq_false_or_eq_true w.valid with hv | hv
  rotate_left
  · simp only [hv, Bool.false_eq_true, if_false] at hV ⊢
    refine (callFL_eq fn45 rfl (by simp [Tryd.f45])).trans ?_
    simp (maxSteps := 1000000) (implicitDefEqProofs := false) (disch := first | rfl | omega | assumption) only [go_sem, ↓reduceIte, Nat.reduceEqDiff, Nat.reduceAdd, Nat.reduceLeDiff, Nat.reduceBEq, Nat.reduceMul, Nat.reduceLT, Int.reduceLT, Int.reduceLE, Int.reduceToNat, Int.reduceNeg, Int.reduceEq, Int.reduceMul, reduceCtorEq, Int.reduceBEq, Int.reduceBNe, Int.reduceAdd, Int.reduceSub, ltT, ltF, leT, leF, s1, hV]
    done
  · have ho := w.valid_iff.1 hv
    have hE := fun G : Heap => ref_every (h.app G) ho
    have hC := fun G : Heap => ref_can (h.app G) ho w.ev1 (ev1_lt ho) (L_bd5 ho)
    rw [canR ho] at hC
    simp only [hv, if_true, hav, Wea.L] at hV hE hC ⊢
    by_cases hm : many ≤ 10
    · have hm' : ¬ 10 < many := by omega
      cases b
      · simp only [hm, if_true, Bool.false_eq_true, if_false]
        refine (callFL_eq fn45 rfl (by simp [Tryd.f45])).trans ?_
        simp (maxSteps := 1000000) (implicitDefEqProofs := false) (disch := first | rfl | omega | assumption) only [go_sem, ↓reduceIte, Nat.reduceEqDiff, Nat.reduceAdd, Nat.reduceLeDiff, Nat.reduceBEq, Nat.reduceMul, Nat.reduceLT, Int.reduceLT, Int.reduceLE, Int.reduceToNat, Int.reduceNeg, Int.reduceEq, Int.reduceMul, reduceCtorEq, Int.reduceBEq, Int.reduceBNe, Int.reduceAdd, Int.reduceSub, ltT, ltF, leT, leF, s1, hV, hm']
        done
      · simp only [hm, if_true]
        rcases Bool.eq_false_or_eq_true w.can with hc | hc
        · simp only [hc, if_true] at hC ⊢
          refine (callFL_eq fn45 rfl (by simp [Tryd.f45])).trans ?_
          simp (maxSteps := 1000000) (implicitDefEqProofs := false) (disch := first | rfl | omega | assumption) only [go_sem, ↓reduceIte, Nat.reduceEqDiff, Nat.reduceAdd, Nat.reduceLeDiff, Nat.reduceBEq, Nat.reduceMul, Nat.reduceLT, Int.reduceLT, Int.reduceLE, Int.reduceToNat, Int.reduceNeg, Int.reduceEq, Int.reduceMul, reduceCtorEq, Int.reduceBEq, Int.reduceBNe, Int.reduceAdd, Int.reduceSub, ltT, ltF, leT, leF, s1, hV, hm']
          rw [chkK_of]; rotate_left; kernel_rfl
          simp (maxSteps := 1000000) (implicitDefEqProofs := false) (disch := first | rfl | omega | assumption) only [go_sem, ↓reduceIte, Nat.reduceEqDiff, Nat.reduceAdd, Nat.reduceLeDiff, Nat.reduceBEq, Nat.reduceMul, Nat.reduceLT, Int.reduceLT, Int.reduceLE, Int.reduceToNat, Int.reduceNeg, Int.reduceEq, Int.reduceMul, reduceCtorEq, Int.reduceBEq, Int.reduceBNe, Int.reduceAdd, Int.reduceSub, ltT, ltF, leT, leF, s1, hV, hm', hE, hC]
          done
        · simp only [hc, Bool.false_eq_true, if_false] at hC ⊢
          refine (callFL_eq fn45 rfl (by simp [Tryd.f45])).trans ?_
          simp (maxSteps := 1000000) (implicitDefEqProofs := false) (disch := first | rfl | omega | assumption) only [go_sem, ↓reduceIte, Nat.reduceEqDiff, Nat.reduceAdd, Nat.reduceLeDiff, Nat.reduceBEq, Nat.reduceMul, Nat.reduceLT, Int.reduceLT, Int.reduceLE, Int.reduceToNat, Int.reduceNeg, Int.reduceEq, Int.reduceMul, reduceCtorEq, Int.reduceBEq, Int.reduceBNe, Int.reduceAdd, Int.reduceSub, ltT, ltF, leT, leF, s1, hV, hm']
          rw [chkK_of]; rotate_left; kernel_rfl
          simp (maxSteps := 1000000) (implicitDefEqProofs := false) (disch := first | rfl | omega | assumption) only [go_sem, ↓reduceIte, Nat.reduceEqDiff, Nat.reduceAdd, Nat.reduceLeDiff, Nat.reduceBEq, Nat.reduceMul, Nat.reduceLT, Int.reduceLT, Int.reduceLE, Int.reduceToNat, Int.reduceNeg, Int.reduceEq, Int.reduceMul, reduceCtorEq, Int.reduceBEq, Int.reduceBNe, Int.reduceAdd, Int.reduceSub, ltT, ltF, leT, leF, s1, hV, hm', hE, hC]
          done
    · have hm' : 10 < many := by omega
      simp only [hm, if_false]
      refine (callFL_eq fn45 rfl (by simp [Tryd.f45])).trans ?_
      simp (maxSteps := 1000000) (implicitDefEqProofs := false) (disch := first | rfl | omega | assumption) only [go_sem, ↓reduceIte, Nat.reduceEqDiff, Nat.reduceAdd, Nat.reduceLeDiff, Nat.reduceBEq, Nat.reduceMul, Nat.reduceLT, Int.reduceLT, Int.reduceLE, Int.reduceToNat, Int.reduceNeg, Int.reduceEq, Int.reduceMul, reduceCtorEq, Int.reduceBEq, Int.reduceBNe, Int.reduceAdd, Int.reduceSub, ltT, ltF, leT, leF, s1, hV, hm']
      done

end Go.Ab
/-
  The reference, walked: after.
-/
namespace Go.Ab
open Go.Proofs
set_option linter.unusedSimpArgs false
set_option linter.unusedVariables false
set_option maxRecDepth 100000

variable {H : Heap}

theorem runP_bd {w : Wea} (ho : w.Ok) (s : Nat) : ∀ (q i : Nat) {l : Int × Int} {K : Int}, i + q ≤ w.es.length → 1000 ≤ K → bd K l → bd (K + 60 * q) (w.runP s l i q)
  | 0, i, l, K, _, _, h => bd_mono (by omega) h
  | q + 1, i, l, K, hi, hK, h => by
    simp only [Wea.runP]
    split
    · exact bd_mono (by omega) (runP_bd ho s q (i + 1) (by omega) (by omega) (nxE_bd ho (ok_ev ho (by omega)) (s.testBit i) hK h))
    · exact bd_mono (by omega) h

/-- All has been gone through: what is told is what can be. -/
theorem hullTo_end {w : Wea} (ho : w.Ok) (hc : w.can = true) {m : Nat} (hm : m ≤ w.es.length) {x : Int} (hx : ∀ y, w.aT m y → y < x) {b : Bool} {p : Int × Int} (h : hullTo (w.aT m) x b p) : p = w.at w.rd w.L m := by
  have hs := atT ho hc hm
  have h1 : w.aT m (w.at w.rd w.L m).1 := (hs.2 _).2 ⟨Int.le_refl _, hs.1⟩
  have h2 : w.aT m (w.at w.rd w.L m).2 := (hs.2 _).2 ⟨hs.1, Int.le_refl _⟩
  cases b
  · simp only [hullTo, Bool.false_eq_true, if_false] at h
    exact absurd (hx _ h1) (h.2 _ h1)
  · simp only [hullTo, if_true] at h
    exact hull_uniq h ⟨⟨h1, hx _ h1⟩, ⟨h2, hx _ h2⟩, fun y hy => (hs.2 y).1 hy.1⟩

theorem after_loop {w : Wea} {ve : AV} (h : WeaAt H w ve) (ho : w.Ok) (hcan : w.can = true) (m : Nat) (hm : m ≤ w.es.length) (s : Int × Int) (hs : isSp (w.rT (inP w.L) 0 m) s) (hsb : bd 2000 s) :
    ∀ (q j : Nat), j + q = (s.2 - s.1 + 1).toNat → ∀ (out : Int × Int), ∀ (b : Bool), ∀ (G : Heap), hullTo (w.aT m) (s.1 + j) b out → ∀ E : Env, E.get 1 = I m → E.get 2 = .ptr H.length 0 → E.get 4 = .ptr (H.length + 1) 0 → E.get 5 = .ptr (H.length + 2) 0 → E.get 6 = .ptr (H.length + 3) 0 → E.get 7 = .bool b → E.get 8 = I (s.1 + j) →
    Option.map (finishC H.length) (execL cfg0 prog0 ⟨47, none, false, H.length⟩ (todoAt Tryd.f47 4) ⟨E, [], H ++ (.box (.agg [I w.llo, I w.lhi, I w.ulo, I w.uhi, ve]) :: .box (KV (0, 0)) :: .box (KV s) :: .box (KV out) :: G), none⟩) = some ⟨.ret (KV (w.at w.rd w.L m)), H, none⟩ := by
  intro q
  have h8 := ho.many
  have s1 := h.es.scal
  have s2 := h.es.len
  rw [List.length_map] at s2
  have t1 := h.es.ltn 4
  have t2 := h.es.lt0
  have hle := hs.1
  induction q with
  | zero =>
    intro j hj out b G hI E g1 g2 g4 g5 g6 g7 g8
    have hk' : ¬ (j : Int) < (((s.2 - s.1 + 1).toNat : Nat) : Int) := by omega
    have ej : s.1 + (j : Int) = s.2 + 1 := by omega
    rw [ej] at hI g8
    simp only [loopIt, todoPast, todoAt, todoOf, firstReg, ↓reduceIte, Option.some.injEq, Nat.reduceEqDiff, reduceCtorEq, Tryd.f47]
    rw [execL_inLoop]
    have hk2 : ¬ s.2 + 1 ≤ s.2 := by omega
    have he := hullTo_end ho hcan hm (fun y hy => by have := (hs.2 y).1 ((aT_iff hm y).1 hy).1; simp only [inP] at this; omega) hI
    subst he
    simp (maxSteps := 1000000) (implicitDefEqProofs := false) (disch := first | rfl | omega | assumption) only [go_sem, ↓reduceIte, Nat.reduceEqDiff, Nat.reduceAdd, Nat.reduceLeDiff, Nat.reduceBEq, Nat.reduceMul, Nat.reduceLT, Int.reduceLT, Int.reduceLE, Int.reduceToNat, Int.reduceNeg, Int.reduceEq, Int.reduceMul, reduceCtorEq, Int.reduceBEq, Int.reduceBNe, Int.reduceAdd, Int.reduceSub, g1, g2, g4, g5, g6, g7, g8, ltT, ltF, leT, leF, hk', s1, s2, t1, hk2]
    done
  | succ q ih =>
    intro j hj out b G hI E g1 g2 g4 g5 g6 g7 g8
    have hk' : (j : Int) < (((s.2 - s.1 + 1).toNat : Nat) : Int) := by omega
    have hk2 : j < (s.2 - s.1 + 1).toNat := by omega
    obtain ⟨x, hx⟩ : ∃ x, s.1 + (j : Int) = x := ⟨_, rfl⟩
    have hx2 : s.1 + ((j + 1 : Nat) : Int) = x + 1 := by omega
    have hxs : s.1 ≤ x ∧ x ≤ s.2 := by omega
    have hsb' := hsb
    simp only [bd] at hsb'
    rw [hx] at hI g8
    have hin : inP s x := hxs
    have hE := fun G : Heap => ref_every (h.app G) ho
    have hR := fun G : Heap => ref_run (h.app G) ho w.ev1 (ev1_lt ho) (l := (x, x)) (by simp only [bd]; omega) hm (Nat.le_refl _)
    have hT := tells_some (runT ho (l := (x, x)) (i := m) (q := w.es.length - m) (Int.le_refl _) (by omega)) (by omega)
    have hA : w.aT m x ↔ (w.runP w.ev1 (x, x) m (w.es.length - m)).1 ≤ (w.runP w.ev1 (x, x) m (w.es.length - m)).2 := by
      rw [hT, aT_iff hm]
      exact ⟨fun h => h.2, fun h => ⟨(hs.2 x).2 hin, h⟩⟩
    simp only [Wea.av] at hE hR
    generalize w.runP w.ev1 (x, x) m (w.es.length - m) = X at hR hA
    by_cases hc : X.1 ≤ X.2
    · have hc' : ¬ X.2 < X.1 := by omega
      have hst := hullTo_step hI (hA.2 hc)
      cases b
      · skip
        simp only [loopIt, todoPast, todoAt, todoOf, firstReg, ↓reduceIte, Option.some.injEq, Nat.reduceEqDiff, reduceCtorEq, Tryd.f47]
        rw [execL_inLoop]
        simp (maxSteps := 1000000) (implicitDefEqProofs := false) (disch := first | rfl | omega | assumption) only [go_sem, ↓reduceIte, Nat.reduceEqDiff, Nat.reduceAdd, Nat.reduceLeDiff, Nat.reduceBEq, Nat.reduceMul, Nat.reduceLT, Int.reduceLT, Int.reduceLE, Int.reduceToNat, Int.reduceNeg, Int.reduceEq, Int.reduceMul, reduceCtorEq, Int.reduceBEq, Int.reduceBNe, Int.reduceAdd, Int.reduceSub, g1, g2, g4, g5, g6, g7, g8, ltT, ltF, leT, leF, hk', s1, s2, t1, hE, hR, hc, hc', hxs.2]
        rw [chkK_of]; rotate_left; kernel_rfl
        simp (maxSteps := 1000000) (implicitDefEqProofs := false) (disch := first | rfl | omega | assumption) only [go_sem, ↓reduceIte, Nat.reduceEqDiff, Nat.reduceAdd, Nat.reduceLeDiff, Nat.reduceBEq, Nat.reduceMul, Nat.reduceLT, Int.reduceLT, Int.reduceLE, Int.reduceToNat, Int.reduceNeg, Int.reduceEq, Int.reduceMul, reduceCtorEq, Int.reduceBEq, Int.reduceBNe, Int.reduceAdd, Int.reduceSub, g1, g2, g4, g5, g6, g7, g8, ltT, ltF, leT, leF, hk', s1, s2, t1, hE, hR, hc, hc', hxs.2]
        exact ih (j + 1) (by omega) (x, x) true [.box (KV X)] (by rw [hx2]; exact hst) _ (by rfl) (by rfl) (by rfl) (by rfl) (by rfl) (by rfl) (by rw [hx2]; rfl)
      · skip
        simp only [loopIt, todoPast, todoAt, todoOf, firstReg, ↓reduceIte, Option.some.injEq, Nat.reduceEqDiff, reduceCtorEq, Tryd.f47]
        rw [execL_inLoop]
        simp (maxSteps := 1000000) (implicitDefEqProofs := false) (disch := first | rfl | omega | assumption) only [go_sem, ↓reduceIte, Nat.reduceEqDiff, Nat.reduceAdd, Nat.reduceLeDiff, Nat.reduceBEq, Nat.reduceMul, Nat.reduceLT, Int.reduceLT, Int.reduceLE, Int.reduceToNat, Int.reduceNeg, Int.reduceEq, Int.reduceMul, reduceCtorEq, Int.reduceBEq, Int.reduceBNe, Int.reduceAdd, Int.reduceSub, g1, g2, g4, g5, g6, g7, g8, ltT, ltF, leT, leF, hk', s1, s2, t1, hE, hR, hc, hc', hxs.2]
        rw [chkK_of]; rotate_left; kernel_rfl
        simp (maxSteps := 1000000) (implicitDefEqProofs := false) (disch := first | rfl | omega | assumption) only [go_sem, ↓reduceIte, Nat.reduceEqDiff, Nat.reduceAdd, Nat.reduceLeDiff, Nat.reduceBEq, Nat.reduceMul, Nat.reduceLT, Int.reduceLT, Int.reduceLE, Int.reduceToNat, Int.reduceNeg, Int.reduceEq, Int.reduceMul, reduceCtorEq, Int.reduceBEq, Int.reduceBNe, Int.reduceAdd, Int.reduceSub, g1, g2, g4, g5, g6, g7, g8, ltT, ltF, leT, leF, hk', s1, s2, t1, hE, hR, hc, hc', hxs.2]
        exact ih (j + 1) (by omega) (out.1, x) true [.box (KV X)] (by rw [hx2]; exact hst) _ (by rfl) (by rfl) (by rfl) (by rfl) (by rfl) (by rfl) (by rw [hx2]; rfl)
    · have hc' : X.2 < X.1 := by omega
      have hst := hullTo_skip hI (fun h => hc (hA.1 h))
      simp only [loopIt, todoPast, todoAt, todoOf, firstReg, ↓reduceIte, Option.some.injEq, Nat.reduceEqDiff, reduceCtorEq, Tryd.f47]
      rw [execL_inLoop]
      simp (maxSteps := 1000000) (implicitDefEqProofs := false) (disch := first | rfl | omega | assumption) only [go_sem, ↓reduceIte, Nat.reduceEqDiff, Nat.reduceAdd, Nat.reduceLeDiff, Nat.reduceBEq, Nat.reduceMul, Nat.reduceLT, Int.reduceLT, Int.reduceLE, Int.reduceToNat, Int.reduceNeg, Int.reduceEq, Int.reduceMul, reduceCtorEq, Int.reduceBEq, Int.reduceBNe, Int.reduceAdd, Int.reduceSub, g1, g2, g4, g5, g6, g7, g8, ltT, ltF, leT, leF, hk', s1, s2, t1, hE, hR, hc, hc', hxs.2]
      rw [chkK_of]; rotate_left; kernel_rfl
      simp (maxSteps := 1000000) (implicitDefEqProofs := false) (disch := first | rfl | omega | assumption) only [go_sem, ↓reduceIte, Nat.reduceEqDiff, Nat.reduceAdd, Nat.reduceLeDiff, Nat.reduceBEq, Nat.reduceMul, Nat.reduceLT, Int.reduceLT, Int.reduceLE, Int.reduceToNat, Int.reduceNeg, Int.reduceEq, Int.reduceMul, reduceCtorEq, Int.reduceBEq, Int.reduceBNe, Int.reduceAdd, Int.reduceSub, g1, g2, g4, g5, g6, g7, g8, ltT, ltF, leT, leF, hk', s1, s2, t1, hE, hR, hc, hc', hxs.2]
      exact ih (j + 1) (by omega) out b [.box (KV X)] (by rw [hx2]; exact hst) _ (by rfl) (by rfl) (by rfl) (by rfl) (by rfl) (by rfl) (by rw [hx2]; rfl)

end Go.Ab
/-
  The reference, walked: its answers on lengths.
-/
namespace Go.Ab
open Go.Proofs
set_option linter.unusedSimpArgs false
set_option linter.unusedVariables false
set_option maxRecDepth 100000

variable {H : Heap}

theorem ref_after {w : Wea} {ve : AV} (h : WeaAt H w ve) (ho : w.Ok) (hcan : w.can = true) {m : Nat} (hm : m ≤ w.es.length) :
    callFL cfg0 prog0 false 47 [w.av ve, I m] H none = some ⟨.ret (KV (w.at w.rd w.L m)), H, none⟩ := by
  have s1 := h.es.scal
  have h8 := ho.many
  have hE := fun G : Heap => ref_every (h.app G) ho
  have hR := fun G : Heap => ref_run (h.app G) ho w.ev1 (ev1_lt ho) (L_bd5 ho) (Nat.zero_le m) hm
  have hlen := ho.len
  have hb := runP_bd ho w.ev1 m 0 (by omega) (Int.le_refl _) (show bd 1000 w.L by simp only [bd, Wea.L]; omega)
  have hT := runT ho (i := 0) (q := m) (L_ok ho) (by omega)
  have hs : isSp (w.rT (inP w.L) 0 m) (w.runP w.ev1 w.L 0 m) := by
    obtain ⟨l, h1⟩ := (canT ho).1 hcan
    exact tells_sp hT ⟨l m, l, h1.1, fun j _ hj => h1.2 j (by omega), by rw [Nat.zero_add]⟩
  simp only [Wea.av, Nat.sub_zero, Int.natCast_zero, Wea.L] at hE hR ⊢
  change isSp _ (w.runP w.ev1 (w.llo, w.lhi) 0 m) at hs
  change bd _ (w.runP w.ev1 (w.llo, w.lhi) 0 m) at hb
  have hlp := fun s hs hb => after_loop h ho hcan m hm s hs hb (s.2 - s.1 + 1).toNat 0 (by omega)
  generalize w.runP w.ev1 (w.llo, w.lhi) 0 m = s at hR hs hb
  have hsl := hs.1
  have e0 : s.1 + ((0 : Nat) : Int) = s.1 := by omega
  refine (callFL_eq fn47 rfl (by simp [Tryd.f47])).trans ?_
  simp (maxSteps := 1000000) (implicitDefEqProofs := false) (disch := first | rfl | omega | assumption) only [go_sem, ↓reduceIte, Nat.reduceEqDiff, Nat.reduceAdd, Nat.reduceLeDiff, Nat.reduceBEq, Nat.reduceMul, Nat.reduceLT, Int.reduceLT, Int.reduceLE, Int.reduceToNat, Int.reduceNeg, Int.reduceEq, Int.reduceMul, reduceCtorEq, Int.reduceBEq, Int.reduceBNe, Int.reduceAdd, Int.reduceSub, ltT, ltF, leT, leF, s1]
  rw [chkK_of]; rotate_left; kernel_rfl
  simp (maxSteps := 1000000) (implicitDefEqProofs := false) (disch := first | rfl | omega | assumption) only [go_sem, ↓reduceIte, Nat.reduceEqDiff, Nat.reduceAdd, Nat.reduceLeDiff, Nat.reduceBEq, Nat.reduceMul, Nat.reduceLT, Int.reduceLT, Int.reduceLE, Int.reduceToNat, Int.reduceNeg, Int.reduceEq, Int.reduceMul, reduceCtorEq, Int.reduceBEq, Int.reduceBNe, Int.reduceAdd, Int.reduceSub, ltT, ltF, leT, leF, s1, hE, hR]
  have hlp' := hlp s hs (bd_mono (by omega) hb) (0, 0) false []
  rw [e0] at hlp'
  refine hlp' ?_ _ (by rfl) (by rfl) (by rfl) (by rfl) (by rfl) (by rfl) (by rfl)
  simp only [hullTo, Bool.false_eq_true, if_false]
  refine ⟨trivial, fun y hy => ?_⟩
  have := (hs.2 y).1 ((aT_iff hm y).1 hy).1
  simp only [inP] at this
  omega

theorem ref_Event {w : Wea} {ve : AV} (h : WeaAt H w ve) (hl : w.es.length ≤ 1000) (n : Int) : callFL cfg0 prog0 false 46 [w.av ve, I n] H none = some ⟨.ret (.bool (wi n 0 (w.es.length - 1))), H, none⟩ := by
  have s1 := h.es.scal
  have s2 := h.es.len
  rw [List.length_map] at s2
  have hI := fun (n lo hi : Int) (G : Heap) => ref_in n lo hi G
  simp only [Wea.av]
  refine (callFL_eq fn46 rfl (by simp [Tryd.f46])).trans ?_
  simp (maxSteps := 1000000) (implicitDefEqProofs := false) (disch := first | rfl | omega | assumption) only [go_sem, ↓reduceIte, Nat.reduceEqDiff, Nat.reduceAdd, Nat.reduceLeDiff, Nat.reduceBEq, Nat.reduceMul, Nat.reduceLT, Int.reduceLT, Int.reduceLE, Int.reduceToNat, Int.reduceNeg, Int.reduceEq, Int.reduceMul, reduceCtorEq, Int.reduceBEq, Int.reduceBNe, Int.reduceAdd, Int.reduceSub, ltT, ltF, leT, leF, s1, s2, hI]

theorem gate_ok {w : Wea} {d : Int} {b : Bool} (h : w.gate d b = 0) : w.valid = true ∧ d ≤ 10 ∧ b = true ∧ w.can = true := by
  simp only [Wea.gate] at h
  cases hv : w.valid <;> simp [hv] at h
  by_cases hd : d ≤ 10 <;> simp [hd] at h
  cases b <;> simp at h
  cases hc : w.can <;> simp [hc] at h
  exact ⟨rfl, hd, rfl, rfl⟩

theorem ref_After {w : Wea} {ve : AV} (h : WeaAt H w ve) (hl : w.es.length ≤ 1000) (n : Int) :
    callFL cfg0 prog0 false 15 [w.av ve, I n] H none = some ⟨.ret (.tup [KV (w.afterP n), I (w.gate 0 (wi n 0 (w.es.length - 1)))]), H, none⟩ := by
  have s1 := h.es.scal
  have hE := fun G : Heap => ref_Event (h.app G) hl n
  have hC := fun (G : Heap) => ref_check (h.app G) 0 (wi n 0 (w.es.length - 1))
  simp only [Wea.av, Wea.afterP] at hE hC ⊢
  by_cases hg : w.gate 0 (wi n 0 (w.es.length - 1)) = 0
  · obtain ⟨hv, -, hi, hc⟩ := gate_ok hg
    have ho := w.valid_iff.1 hv
    have hi' := wi_iff.1 hi
    have hA := fun G : Heap => ref_after (h.app G) ho hc (m := n.toNat + 1) (by omega)
    have e1 : ((n.toNat + 1 : Nat) : Int) = n + 1 := by omega
    rw [e1] at hA
    simp only [Wea.av] at hA
    simp only [hg, if_true] at hC ⊢
    refine (callFL_eq fn15 rfl (by simp [Tryd.f15])).trans ?_
    simp (maxSteps := 1000000) (implicitDefEqProofs := false) (disch := first | rfl | omega | assumption) only [go_sem, ↓reduceIte, Nat.reduceEqDiff, Nat.reduceAdd, Nat.reduceLeDiff, Nat.reduceBEq, Nat.reduceMul, Nat.reduceLT, Int.reduceLT, Int.reduceLE, Int.reduceToNat, Int.reduceNeg, Int.reduceEq, Int.reduceMul, reduceCtorEq, Int.reduceBEq, Int.reduceBNe, Int.reduceAdd, Int.reduceSub, ltT, ltF, leT, leF, s1]
    rw [chkK_of]; rotate_left; kernel_rfl
    simp (maxSteps := 1000000) (implicitDefEqProofs := false) (disch := first | rfl | omega | assumption) only [go_sem, ↓reduceIte, Nat.reduceEqDiff, Nat.reduceAdd, Nat.reduceLeDiff, Nat.reduceBEq, Nat.reduceMul, Nat.reduceLT, Int.reduceLT, Int.reduceLE, Int.reduceToNat, Int.reduceNeg, Int.reduceEq, Int.reduceMul, reduceCtorEq, Int.reduceBEq, Int.reduceBNe, Int.reduceAdd, Int.reduceSub, ltT, ltF, leT, leF, s1, hE, hC, hA]
    done
  · have hg' : ((w.gate 0 (wi n 0 (w.es.length - 1))) != 0) = true := bne_iff_ne.2 hg
    simp only [hg, if_false]
    refine (callFL_eq fn15 rfl (by simp [Tryd.f15])).trans ?_
    simp (maxSteps := 1000000) (implicitDefEqProofs := false) (disch := first | rfl | omega | assumption) only [go_sem, ↓reduceIte, Nat.reduceEqDiff, Nat.reduceAdd, Nat.reduceLeDiff, Nat.reduceBEq, Nat.reduceMul, Nat.reduceLT, Int.reduceLT, Int.reduceLE, Int.reduceToNat, Int.reduceNeg, Int.reduceEq, Int.reduceMul, reduceCtorEq, Int.reduceBEq, Int.reduceBNe, Int.reduceAdd, Int.reduceSub, ltT, ltF, leT, leF, s1]
    rw [chkK_of]; rotate_left; kernel_rfl
    simp (maxSteps := 1000000) (implicitDefEqProofs := false) (disch := first | rfl | omega | assumption) only [go_sem, ↓reduceIte, Nat.reduceEqDiff, Nat.reduceAdd, Nat.reduceLeDiff, Nat.reduceBEq, Nat.reduceMul, Nat.reduceLT, Int.reduceLT, Int.reduceLE, Int.reduceToNat, Int.reduceNeg, Int.reduceEq, Int.reduceMul, reduceCtorEq, Int.reduceBEq, Int.reduceBNe, Int.reduceAdd, Int.reduceSub, ltT, ltF, leT, leF, s1, hE, hC, hg']
    done

theorem ref_Fits {w : Wea} {ve : AV} (h : WeaAt H w ve) (hl : w.es.length ≤ 1000) (p : Int × Int) :
    callFL cfg0 prog0 false 21 [w.av ve, KV p] H none = some ⟨.ret (.tup [I (w.fitsP p), I (w.gate 0 (spB p (-1000) 1000))]), H, none⟩ := by
  have s1 := h.es.scal
  have s2 := h.es.len
  rw [List.length_map] at s2
  have hE := fun G : Heap => ref_Shows p.1 p.2 G
  have hC := fun (G : Heap) => ref_check (h.app G) 0 (spB p (-1000) 1000)
  simp only [Wea.av, Wea.fitsP] at hE hC ⊢
  by_cases hg : w.gate 0 (spB p (-1000) 1000) = 0
  · obtain ⟨hv, -, hi, hc⟩ := gate_ok hg
    have ho := w.valid_iff.1 hv
    have hi' := spB_iff.1 hi
    have hA := fun G : Heap => ref_after (h.app G) ho hc (Nat.le_refl w.es.length)
    have hab := at_bd ho (Nat.le_refl w.es.length)
    have hle := at_le ho hc (Nat.le_refl w.es.length)
    simp only [Wea.av] at hA
    simp only [hg, if_true, Wea.lastP, bothP_eq] at hC ⊢
    generalize w.at w.rd w.L w.es.length = q at *
    obtain ⟨a, b⟩ := q
    obtain ⟨c, d⟩ := p
    simp only [bd] at *
    by_cases h1 : c ≤ a ∧ b ≤ d
    · have r1 : (if (if max a c ≤ min b d then (max a c, min b d) else (1048576, -1048576)) = (a, b) then (2 : Int) else if (if max a c ≤ min b d then (max a c, min b d) else (1048576, -1048576)).1 ≤ (if max a c ≤ min b d then (max a c, min b d) else (1048576, -1048576)).2 then 1 else 0) = 2 := by
        rw [if_pos]
        rw [if_pos (by omega), Prod.mk.injEq]
        omega
      rw [r1]
      refine (callFL_eq fn21 rfl (by simp [Tryd.f21])).trans ?_
      simp (maxSteps := 1000000) (implicitDefEqProofs := false) (disch := first | rfl | omega | assumption) only [go_sem, ↓reduceIte, Nat.reduceEqDiff, Nat.reduceAdd, Nat.reduceLeDiff, Nat.reduceBEq, Nat.reduceMul, Nat.reduceLT, Int.reduceLT, Int.reduceLE, Int.reduceToNat, Int.reduceNeg, Int.reduceEq, Int.reduceMul, reduceCtorEq, Int.reduceBEq, Int.reduceBNe, Int.reduceAdd, Int.reduceSub, ltT, ltF, leT, leF, s1, s2]
      rw [chkK_of]; rotate_left; kernel_rfl
      simp (maxSteps := 1000000) (implicitDefEqProofs := false) (disch := first | rfl | omega | assumption) only [go_sem, ↓reduceIte, Nat.reduceEqDiff, Nat.reduceAdd, Nat.reduceLeDiff, Nat.reduceBEq, Nat.reduceMul, Nat.reduceLT, Int.reduceLT, Int.reduceLE, Int.reduceToNat, Int.reduceNeg, Int.reduceEq, Int.reduceMul, reduceCtorEq, Int.reduceBEq, Int.reduceBNe, Int.reduceAdd, Int.reduceSub, ltT, ltF, leT, leF, s1, s2, hE, hC, hA, h1.1, h1.2]
      done
    · have hne : ¬ (max a c = a ∧ min b d = b) := by omega
      by_cases h2 : b < c ∨ d < a
      · have r1 : (if (if max a c ≤ min b d then (max a c, min b d) else (1048576, -1048576)) = (a, b) then (2 : Int) else if (if max a c ≤ min b d then (max a c, min b d) else (1048576, -1048576)).1 ≤ (if max a c ≤ min b d then (max a c, min b d) else (1048576, -1048576)).2 then 1 else 0) = 0 := by
          rw [if_neg (show ¬ max a c ≤ min b d by omega), if_neg, if_neg (by simp)]
          rw [Prod.mk.injEq]
          omega
        rw [r1]
        by_cases h3 : c ≤ a
        · have h4 : ¬ b ≤ d := by omega
          have h5 : ¬ b < c := by omega
          have h6 : d < a := by omega
          refine (callFL_eq fn21 rfl (by simp [Tryd.f21])).trans ?_
          simp (maxSteps := 1000000) (implicitDefEqProofs := false) (disch := first | rfl | omega | assumption) only [go_sem, ↓reduceIte, Nat.reduceEqDiff, Nat.reduceAdd, Nat.reduceLeDiff, Nat.reduceBEq, Nat.reduceMul, Nat.reduceLT, Int.reduceLT, Int.reduceLE, Int.reduceToNat, Int.reduceNeg, Int.reduceEq, Int.reduceMul, reduceCtorEq, Int.reduceBEq, Int.reduceBNe, Int.reduceAdd, Int.reduceSub, ltT, ltF, leT, leF, s1, s2]
          rw [chkK_of]; rotate_left; kernel_rfl
          simp (maxSteps := 1000000) (implicitDefEqProofs := false) (disch := first | rfl | omega | assumption) only [go_sem, ↓reduceIte, Nat.reduceEqDiff, Nat.reduceAdd, Nat.reduceLeDiff, Nat.reduceBEq, Nat.reduceMul, Nat.reduceLT, Int.reduceLT, Int.reduceLE, Int.reduceToNat, Int.reduceNeg, Int.reduceEq, Int.reduceMul, reduceCtorEq, Int.reduceBEq, Int.reduceBNe, Int.reduceAdd, Int.reduceSub, ltT, ltF, leT, leF, s1, s2, hE, hC, hA, h3, h4, h5, h6]
          done
        · by_cases h5 : b < c
          · refine (callFL_eq fn21 rfl (by simp [Tryd.f21])).trans ?_
            simp (maxSteps := 1000000) (implicitDefEqProofs := false) (disch := first | rfl | omega | assumption) only [go_sem, ↓reduceIte, Nat.reduceEqDiff, Nat.reduceAdd, Nat.reduceLeDiff, Nat.reduceBEq, Nat.reduceMul, Nat.reduceLT, Int.reduceLT, Int.reduceLE, Int.reduceToNat, Int.reduceNeg, Int.reduceEq, Int.reduceMul, reduceCtorEq, Int.reduceBEq, Int.reduceBNe, Int.reduceAdd, Int.reduceSub, ltT, ltF, leT, leF, s1, s2]
            rw [chkK_of]; rotate_left; kernel_rfl
            simp (maxSteps := 1000000) (implicitDefEqProofs := false) (disch := first | rfl | omega | assumption) only [go_sem, ↓reduceIte, Nat.reduceEqDiff, Nat.reduceAdd, Nat.reduceLeDiff, Nat.reduceBEq, Nat.reduceMul, Nat.reduceLT, Int.reduceLT, Int.reduceLE, Int.reduceToNat, Int.reduceNeg, Int.reduceEq, Int.reduceMul, reduceCtorEq, Int.reduceBEq, Int.reduceBNe, Int.reduceAdd, Int.reduceSub, ltT, ltF, leT, leF, s1, s2, hE, hC, hA, h3, h5]
            done
          · have h6 : d < a := by omega
            refine (callFL_eq fn21 rfl (by simp [Tryd.f21])).trans ?_
            simp (maxSteps := 1000000) (implicitDefEqProofs := false) (disch := first | rfl | omega | assumption) only [go_sem, ↓reduceIte, Nat.reduceEqDiff, Nat.reduceAdd, Nat.reduceLeDiff, Nat.reduceBEq, Nat.reduceMul, Nat.reduceLT, Int.reduceLT, Int.reduceLE, Int.reduceToNat, Int.reduceNeg, Int.reduceEq, Int.reduceMul, reduceCtorEq, Int.reduceBEq, Int.reduceBNe, Int.reduceAdd, Int.reduceSub, ltT, ltF, leT, leF, s1, s2]
            rw [chkK_of]; rotate_left; kernel_rfl
            simp (maxSteps := 1000000) (implicitDefEqProofs := false) (disch := first | rfl | omega | assumption) only [go_sem, ↓reduceIte, Nat.reduceEqDiff, Nat.reduceAdd, Nat.reduceLeDiff, Nat.reduceBEq, Nat.reduceMul, Nat.reduceLT, Int.reduceLT, Int.reduceLE, Int.reduceToNat, Int.reduceNeg, Int.reduceEq, Int.reduceMul, reduceCtorEq, Int.reduceBEq, Int.reduceBNe, Int.reduceAdd, Int.reduceSub, ltT, ltF, leT, leF, s1, s2, hE, hC, hA, h3, h5, h6]
            done
      · have r1 : (if (if max a c ≤ min b d then (max a c, min b d) else (1048576, -1048576)) = (a, b) then (2 : Int) else if (if max a c ≤ min b d then (max a c, min b d) else (1048576, -1048576)).1 ≤ (if max a c ≤ min b d then (max a c, min b d) else (1048576, -1048576)).2 then 1 else 0) = 1 := by
          have hm : max a c ≤ min b d := by omega
          simp only [hm, if_true, Prod.mk.injEq, hne, if_false]
        rw [r1]
        have h5 : ¬ b < c := by omega
        have h6 : ¬ d < a := by omega
        by_cases h3 : c ≤ a
        · have h4 : ¬ b ≤ d := by omega
          refine (callFL_eq fn21 rfl (by simp [Tryd.f21])).trans ?_
          simp (maxSteps := 1000000) (implicitDefEqProofs := false) (disch := first | rfl | omega | assumption) only [go_sem, ↓reduceIte, Nat.reduceEqDiff, Nat.reduceAdd, Nat.reduceLeDiff, Nat.reduceBEq, Nat.reduceMul, Nat.reduceLT, Int.reduceLT, Int.reduceLE, Int.reduceToNat, Int.reduceNeg, Int.reduceEq, Int.reduceMul, reduceCtorEq, Int.reduceBEq, Int.reduceBNe, Int.reduceAdd, Int.reduceSub, ltT, ltF, leT, leF, s1, s2]
          rw [chkK_of]; rotate_left; kernel_rfl
          simp (maxSteps := 1000000) (implicitDefEqProofs := false) (disch := first | rfl | omega | assumption) only [go_sem, ↓reduceIte, Nat.reduceEqDiff, Nat.reduceAdd, Nat.reduceLeDiff, Nat.reduceBEq, Nat.reduceMul, Nat.reduceLT, Int.reduceLT, Int.reduceLE, Int.reduceToNat, Int.reduceNeg, Int.reduceEq, Int.reduceMul, reduceCtorEq, Int.reduceBEq, Int.reduceBNe, Int.reduceAdd, Int.reduceSub, ltT, ltF, leT, leF, s1, s2, hE, hC, hA, h3, h4, h5, h6]
          done
        · refine (callFL_eq fn21 rfl (by simp [Tryd.f21])).trans ?_
          simp (maxSteps := 1000000) (implicitDefEqProofs := false) (disch := first | rfl | omega | assumption) only [go_sem, ↓reduceIte, Nat.reduceEqDiff, Nat.reduceAdd, Nat.reduceLeDiff, Nat.reduceBEq, Nat.reduceMul, Nat.reduceLT, Int.reduceLT, Int.reduceLE, Int.reduceToNat, Int.reduceNeg, Int.reduceEq, Int.reduceMul, reduceCtorEq, Int.reduceBEq, Int.reduceBNe, Int.reduceAdd, Int.reduceSub, ltT, ltF, leT, leF, s1, s2]
          rw [chkK_of]; rotate_left; kernel_rfl
          simp (maxSteps := 1000000) (implicitDefEqProofs := false) (disch := first | rfl | omega | assumption) only [go_sem, ↓reduceIte, Nat.reduceEqDiff, Nat.reduceAdd, Nat.reduceLeDiff, Nat.reduceBEq, Nat.reduceMul, Nat.reduceLT, Int.reduceLT, Int.reduceLE, Int.reduceToNat, Int.reduceNeg, Int.reduceEq, Int.reduceMul, reduceCtorEq, Int.reduceBEq, Int.reduceBNe, Int.reduceAdd, Int.reduceSub, ltT, ltF, leT, leF, s1, s2, hE, hC, hA, h3, h5, h6]
          done
  · have hg' : ((w.gate 0 (spB p (-1000) 1000)) != 0) = true := bne_iff_ne.2 hg
    simp only [hg, if_false]
    refine (callFL_eq fn21 rfl (by simp [Tryd.f21])).trans ?_
    simp (maxSteps := 1000000) (implicitDefEqProofs := false) (disch := first | rfl | omega | assumption) only [go_sem, ↓reduceIte, Nat.reduceEqDiff, Nat.reduceAdd, Nat.reduceLeDiff, Nat.reduceBEq, Nat.reduceMul, Nat.reduceLT, Int.reduceLT, Int.reduceLE, Int.reduceToNat, Int.reduceNeg, Int.reduceEq, Int.reduceMul, reduceCtorEq, Int.reduceBEq, Int.reduceBNe, Int.reduceAdd, Int.reduceSub, ltT, ltF, leT, leF, s1]
    rw [chkK_of]; rotate_left; kernel_rfl
    simp (maxSteps := 1000000) (implicitDefEqProofs := false) (disch := first | rfl | omega | assumption) only [go_sem, ↓reduceIte, Nat.reduceEqDiff, Nat.reduceAdd, Nat.reduceLeDiff, Nat.reduceBEq, Nat.reduceMul, Nat.reduceLT, Int.reduceLT, Int.reduceLE, Int.reduceToNat, Int.reduceNeg, Int.reduceEq, Int.reduceMul, reduceCtorEq, Int.reduceBEq, Int.reduceBNe, Int.reduceAdd, Int.reduceSub, ltT, ltF, leT, leF, s1, hE, hC, hg']
    done

end Go.Ab
/-
  The reference, walked: Below, Lost.
-/
namespace Go.Ab
open Go.Proofs
set_option linter.unusedSimpArgs false
set_option linter.unusedVariables false
set_option maxRecDepth 100000

variable {H : Heap}

theorem maskN_add (f : Nat → Bool) (j : Nat) : maskN f (j + 1) = if f j then maskN f j + 2 ^ j else maskN f j := by
  rw [maskN_succ]
  split
  · have h := Nat.two_pow_add_eq_or_of_lt (maskN_lt f j) 1
    rw [Nat.mul_one] at h
    rw [Nat.or_comm, ← h, Nat.add_comm]
  · rfl

theorem rbelow_loop {w : Wea} {ve : AV} (h : WeaAt H w ve) (ho : w.Ok) (hcan : w.can = true) (lim : Int) :
    ∀ (q j : Nat), j + q = w.es.length → ∀ (G : Heap), ∀ E : Env, E.get 1 = I lim → E.get 2 = .ptr H.length 0 → E.get 8 = I (maskN (sureF (w.at w.rd w.L) lim) j) → E.get 9 = I (maskN (perF (w.at w.rd w.L) lim) j) → E.get 10 = I j →
    Option.map (finishC H.length) (execL cfg0 prog0 ⟨19, none, false, H.length⟩ (todoAt Tryd.f19 6) ⟨E, [], H ++ (.box (.agg [I w.llo, I w.lhi, I w.ulo, I w.uhi, ve]) :: G), none⟩) = some ⟨.ret (.tup [I (maskN (sureF (w.at w.rd w.L) lim) w.es.length), I (maskN (perF (w.at w.rd w.L) lim) w.es.length), I 0]), H, none⟩ := by
  intro q
  have h8 := ho.many
  have s1 := h.es.scal
  have s2 := h.es.len
  rw [List.length_map] at s2
  have t1 := h.es.ltn 1
  have t2 := h.es.lt0
  induction q with
  | zero =>
    intro j hj G E g1 g2 g8 g9 g10
    have hk' : ¬ (j : Int) < ((w.es.length : Nat) : Int) := by omega
    have ej : j = w.es.length := by omega
    subst ej
    simp only [loopIt, todoPast, todoAt, todoOf, firstReg, ↓reduceIte, Option.some.injEq, Nat.reduceEqDiff, reduceCtorEq, Tryd.f19]
    rw [execL_inLoop]
    simp (maxSteps := 1000000) (implicitDefEqProofs := false) (disch := first | rfl | omega | assumption) only [go_sem, ↓reduceIte, Nat.reduceEqDiff, Nat.reduceAdd, Nat.reduceLeDiff, Nat.reduceBEq, Nat.reduceMul, Nat.reduceLT, Int.reduceLT, Int.reduceLE, Int.reduceToNat, Int.reduceNeg, Int.reduceEq, Int.reduceMul, reduceCtorEq, Int.reduceBEq, Int.reduceBNe, Int.reduceAdd, Int.reduceSub, g1, g2, g8, g9, g10, ltT, ltF, leT, leF, hk', s1, s2, t1]
    done
  | succ q ih =>
    intro j hj G E g1 g2 g8 g9 g10
    have hk' : (j : Int) < ((w.es.length : Nat) : Int) := by omega
    have hk2 : j < w.es.length := by omega
    have hA := fun G : Heap => ref_after (h.app G) ho hcan (m := j + 1) (by omega)
    have hP := fun G : Heap => ref_power j (by omega) G
    have e0 : ((j + 1 : Nat) : Int) = (j : Int) + 1 := by omega
    have m1 := maskN_add (sureF (w.at w.rd w.L) lim) j
    have m2 := maskN_add (perF (w.at w.rd w.L) lim) j
    have b1 := maskN_lt (sureF (w.at w.rd w.L) lim) j
    have b2 := maskN_lt (perF (w.at w.rd w.L) lim) j
    have p1 := pow_le (show j ≤ 8 by omega)
    have c1 : sureF (w.at w.rd w.L) lim j = decide ((w.at w.rd w.L (j + 1)).2 < lim) := rfl
    have c2 : perF (w.at w.rd w.L) lim j = decide ((w.at w.rd w.L (j + 1)).1 < lim) := rfl
    have hi := ih (j + 1) (by omega)
    rw [c1] at m1
    rw [c2] at m2
    rw [m1, m2] at hi
    rw [e0] at hA
    simp only [Wea.av] at hA
    generalize w.at w.rd w.L (j + 1) = p at hA hi
    generalize maskN (sureF (w.at w.rd w.L) lim) j = x at *
    generalize maskN (perF (w.at w.rd w.L) lim) j = y at *
    have w1 : (x : Int) + pw j = ((x + 2 ^ j : Nat) : Int) := by simp only [pw]; omega
    have w2 : (y : Int) + pw j = ((y + 2 ^ j : Nat) : Int) := by simp only [pw]; omega
    have w3 := wN (m := x + 2 ^ j) (by omega)
    have w4 := wN (m := y + 2 ^ j) (by omega)
    by_cases d1 : p.2 < lim <;> by_cases d2 : p.1 < lim
    all_goals simp only [d1, d2, decide_true, decide_false, if_true, if_false, Bool.false_eq_true] at hi
    · skip
      simp only [loopIt, todoPast, todoAt, todoOf, firstReg, ↓reduceIte, Option.some.injEq, Nat.reduceEqDiff, reduceCtorEq, Tryd.f19]
      rw [execL_inLoop]
      simp (maxSteps := 1000000) (implicitDefEqProofs := false) (disch := first | rfl | omega | assumption) only [go_sem, ↓reduceIte, Nat.reduceEqDiff, Nat.reduceAdd, Nat.reduceLeDiff, Nat.reduceBEq, Nat.reduceMul, Nat.reduceLT, Int.reduceLT, Int.reduceLE, Int.reduceToNat, Int.reduceNeg, Int.reduceEq, Int.reduceMul, reduceCtorEq, Int.reduceBEq, Int.reduceBNe, Int.reduceAdd, Int.reduceSub, g1, g2, g8, g9, g10, ltT, ltF, leT, leF, hk', s1, s2, t1, hA, hP, d1, d2, w1, w2, w3, w4]
      exact hi [.box (KV p)] _ (by rfl) (by rfl) (by rfl) (by rfl) (by rfl)
    · skip
      simp only [loopIt, todoPast, todoAt, todoOf, firstReg, ↓reduceIte, Option.some.injEq, Nat.reduceEqDiff, reduceCtorEq, Tryd.f19]
      rw [execL_inLoop]
      simp (maxSteps := 1000000) (implicitDefEqProofs := false) (disch := first | rfl | omega | assumption) only [go_sem, ↓reduceIte, Nat.reduceEqDiff, Nat.reduceAdd, Nat.reduceLeDiff, Nat.reduceBEq, Nat.reduceMul, Nat.reduceLT, Int.reduceLT, Int.reduceLE, Int.reduceToNat, Int.reduceNeg, Int.reduceEq, Int.reduceMul, reduceCtorEq, Int.reduceBEq, Int.reduceBNe, Int.reduceAdd, Int.reduceSub, g1, g2, g8, g9, g10, ltT, ltF, leT, leF, hk', s1, s2, t1, hA, hP, d1, d2, w1, w2, w3, w4]
      exact hi [.box (KV p)] _ (by rfl) (by rfl) (by rfl) (by rfl) (by rfl)
    · skip
      simp only [loopIt, todoPast, todoAt, todoOf, firstReg, ↓reduceIte, Option.some.injEq, Nat.reduceEqDiff, reduceCtorEq, Tryd.f19]
      rw [execL_inLoop]
      simp (maxSteps := 1000000) (implicitDefEqProofs := false) (disch := first | rfl | omega | assumption) only [go_sem, ↓reduceIte, Nat.reduceEqDiff, Nat.reduceAdd, Nat.reduceLeDiff, Nat.reduceBEq, Nat.reduceMul, Nat.reduceLT, Int.reduceLT, Int.reduceLE, Int.reduceToNat, Int.reduceNeg, Int.reduceEq, Int.reduceMul, reduceCtorEq, Int.reduceBEq, Int.reduceBNe, Int.reduceAdd, Int.reduceSub, g1, g2, g8, g9, g10, ltT, ltF, leT, leF, hk', s1, s2, t1, hA, hP, d1, d2, w1, w2, w3, w4]
      exact hi [.box (KV p)] _ (by rfl) (by rfl) (by rfl) (by rfl) (by rfl)
    · skip
      simp only [loopIt, todoPast, todoAt, todoOf, firstReg, ↓reduceIte, Option.some.injEq, Nat.reduceEqDiff, reduceCtorEq, Tryd.f19]
      rw [execL_inLoop]
      simp (maxSteps := 1000000) (implicitDefEqProofs := false) (disch := first | rfl | omega | assumption) only [go_sem, ↓reduceIte, Nat.reduceEqDiff, Nat.reduceAdd, Nat.reduceLeDiff, Nat.reduceBEq, Nat.reduceMul, Nat.reduceLT, Int.reduceLT, Int.reduceLE, Int.reduceToNat, Int.reduceNeg, Int.reduceEq, Int.reduceMul, reduceCtorEq, Int.reduceBEq, Int.reduceBNe, Int.reduceAdd, Int.reduceSub, g1, g2, g8, g9, g10, ltT, ltF, leT, leF, hk', s1, s2, t1, hA, hP, d1, d2, w1, w2, w3, w4]
      exact hi [.box (KV p)] _ (by rfl) (by rfl) (by rfl) (by rfl) (by rfl)

theorem ref_Below {w : Wea} {ve : AV} (h : WeaAt H w ve) (hl : w.es.length ≤ 1000) (n : Int) :
    callFL cfg0 prog0 false 19 [w.av ve, I n] H none = some ⟨.ret (.tup [I (w.sureP n), I (w.perP n), I (w.gate 0 (wi n (-1000) 1000))]), H, none⟩ := by
  have s1 := h.es.scal
  have s2 := h.es.len
  rw [List.length_map] at s2
  have hE := fun G : Heap => ref_Limit n G
  have hC := fun (G : Heap) => ref_check (h.app G) 0 (wi n (-1000) 1000)
  simp only [Wea.av, Wea.sureP, Wea.perP] at hE hC ⊢
  by_cases hg : w.gate 0 (wi n (-1000) 1000) = 0
  · obtain ⟨hv, -, hi, hc⟩ := gate_ok hg
    have ho := w.valid_iff.1 hv
    simp only [hg, if_true] at hC ⊢
    refine (callFL_eq fn19 rfl (by simp [Tryd.f19])).trans ?_
    simp (maxSteps := 1000000) (implicitDefEqProofs := false) (disch := first | rfl | omega | assumption) only [go_sem, ↓reduceIte, Nat.reduceEqDiff, Nat.reduceAdd, Nat.reduceLeDiff, Nat.reduceBEq, Nat.reduceMul, Nat.reduceLT, Int.reduceLT, Int.reduceLE, Int.reduceToNat, Int.reduceNeg, Int.reduceEq, Int.reduceMul, reduceCtorEq, Int.reduceBEq, Int.reduceBNe, Int.reduceAdd, Int.reduceSub, ltT, ltF, leT, leF, s1]
    rw [chkK_of]; rotate_left; kernel_rfl
    simp (maxSteps := 1000000) (implicitDefEqProofs := false) (disch := first | rfl | omega | assumption) only [go_sem, ↓reduceIte, Nat.reduceEqDiff, Nat.reduceAdd, Nat.reduceLeDiff, Nat.reduceBEq, Nat.reduceMul, Nat.reduceLT, Int.reduceLT, Int.reduceLE, Int.reduceToNat, Int.reduceNeg, Int.reduceEq, Int.reduceMul, reduceCtorEq, Int.reduceBEq, Int.reduceBNe, Int.reduceAdd, Int.reduceSub, ltT, ltF, leT, leF, s1, hE, hC]
    exact rbelow_loop h ho hc n w.es.length 0 (by omega) [] _ (by rfl) (by rfl) (by rfl) (by rfl) (by rfl)
  · have hg' : ((w.gate 0 (wi n (-1000) 1000)) != 0) = true := bne_iff_ne.2 hg
    simp only [hg, if_false]
    refine (callFL_eq fn19 rfl (by simp [Tryd.f19])).trans ?_
    simp (maxSteps := 1000000) (implicitDefEqProofs := false) (disch := first | rfl | omega | assumption) only [go_sem, ↓reduceIte, Nat.reduceEqDiff, Nat.reduceAdd, Nat.reduceLeDiff, Nat.reduceBEq, Nat.reduceMul, Nat.reduceLT, Int.reduceLT, Int.reduceLE, Int.reduceToNat, Int.reduceNeg, Int.reduceEq, Int.reduceMul, reduceCtorEq, Int.reduceBEq, Int.reduceBNe, Int.reduceAdd, Int.reduceSub, ltT, ltF, leT, leF, s1]
    rw [chkK_of]; rotate_left; kernel_rfl
    simp (maxSteps := 1000000) (implicitDefEqProofs := false) (disch := first | rfl | omega | assumption) only [go_sem, ↓reduceIte, Nat.reduceEqDiff, Nat.reduceAdd, Nat.reduceLeDiff, Nat.reduceBEq, Nat.reduceMul, Nat.reduceLT, Int.reduceLT, Int.reduceLE, Int.reduceToNat, Int.reduceNeg, Int.reduceEq, Int.reduceMul, reduceCtorEq, Int.reduceBEq, Int.reduceBNe, Int.reduceAdd, Int.reduceSub, ltT, ltF, leT, leF, s1, hE, hC, hg']

end Go.Ab
/-
  The reference, walked: Lost.
-/
namespace Go.Ab
open Go.Proofs
set_option linter.unusedSimpArgs false
set_option linter.unusedVariables false
set_option maxRecDepth 100000

variable {H : Heap}

theorem rT0 {w : Wea} {x : Int} (hx : inP w.L x) (y : Int) : w.rT (inP (x, x)) 0 w.es.length y ↔ ∃ l, w.T l ∧ l 0 = x ∧ l w.es.length = y := by
  constructor
  · rintro ⟨k, h1, h2, h3⟩
    have e : k 0 = x := by simp only [inP] at h1; omega
    exact ⟨k, ⟨by rw [e]; exact hx, fun i hi => h2 i (by omega) (by omega)⟩, e, by rw [← h3, Nat.zero_add]⟩
  · rintro ⟨l, h, rfl, rfl⟩
    exact ⟨l, ⟨Int.le_refl _, Int.le_refl _⟩, fun j _ hj => h.2 j (by omega), by rw [Nat.zero_add]⟩

/-- What can be lost of those that are less at first than a number. -/
def Wea.lostTo (w : Wea) (x : Int) (b : Bool) (p : Int × Int) : Prop :=
  if b then hull (fun d => ∃ l, w.T l ∧ l 0 < x ∧ l 0 - l w.es.length = d) p else p = (0, 0) ∧ ∀ l, w.T l → ¬ l 0 < x

theorem lost_skip {w : Wea} {x : Int} {b : Bool} {p : Int × Int} (h : w.lostTo x b p) (hx : ∀ l, w.T l → l 0 ≠ x) : w.lostTo (x + 1) b p := by
  cases b
  · simp only [Wea.lostTo, Bool.false_eq_true, if_false] at h ⊢
    exact ⟨h.1, fun l hl => by have := h.2 l hl; have := hx l hl; omega⟩
  · simp only [Wea.lostTo, if_true] at h ⊢
    refine hull_cong (fun d => ?_) h
    exact ⟨fun ⟨l, h1, h2, h3⟩ => ⟨l, h1, by omega, h3⟩, fun ⟨l, h1, h2, h3⟩ => ⟨l, h1, by have := hx l h1; omega, h3⟩⟩

theorem lost_step {w : Wea} {x : Int} {b : Bool} {p X : Int × Int} (h : w.lostTo x b p) (hX : isSp (fun y => ∃ l, w.T l ∧ l 0 = x ∧ l w.es.length = y) X) :
    w.lostTo (x + 1) true (if b then (min p.1 (x - X.2), max p.2 (x - X.1)) else (x - X.2, x - X.1)) := by
  obtain ⟨la, a1, a2, a3⟩ := (hX.2 X.2).2 ⟨hX.1, Int.le_refl _⟩
  obtain ⟨lb, b1, b2, b3⟩ := (hX.2 X.1).2 ⟨Int.le_refl _, hX.1⟩
  have hin : ∀ l, w.T l → l 0 = x → X.1 ≤ l w.es.length ∧ l w.es.length ≤ X.2 := fun l h1 h2 => (hX.2 _).1 ⟨l, h1, h2, rfl⟩
  cases b
  · simp only [Wea.lostTo, Bool.false_eq_true, if_false, if_true] at h ⊢
    refine ⟨⟨la, a1, by omega, by simp only; omega⟩, ⟨lb, b1, by omega, by simp only; omega⟩, ?_⟩
    rintro d ⟨l, h1, h2, rfl⟩
    have := h.2 l h1
    have := hin l h1 (by omega)
    simp only [inP]
    omega
  · simp only [Wea.lostTo, if_true] at h ⊢
    obtain ⟨⟨lc, c1, c2, c3⟩, ⟨ld, d1, d2, d3⟩, h3⟩ := h
    refine ⟨?_, ?_, ?_⟩
    · by_cases hc : p.1 ≤ x - X.2
      · exact ⟨lc, c1, by omega, by simp only; omega⟩
      · exact ⟨la, a1, by omega, by simp only; omega⟩
    · by_cases hc : x - X.1 ≤ p.2
      · exact ⟨ld, d1, by omega, by simp only; omega⟩
      · exact ⟨lb, b1, by omega, by simp only; omega⟩
    · rintro d ⟨l, h1, h2, rfl⟩
      simp only [inP]
      by_cases hl : l 0 = x
      · have := hin l h1 hl
        omega
      · have := h3 _ ⟨l, h1, by omega, rfl⟩
        simp only [inP] at this
        omega

theorem lost_end {w : Wea} (hv : w.valid = true) (hc : w.can = true) {x : Int} (hx : w.lhi < x) {b : Bool} {p : Int × Int} (h : w.lostTo x b p) : p = w.lostP := by
  have hall : ∀ l, w.T l → l 0 < x := fun l hl => by have := hl.1; simp only [inP, Wea.L] at this; omega
  have hT := lostT hv hc
  cases b
  · simp only [Wea.lostTo, Bool.false_eq_true, if_false] at h
    obtain ⟨l, h1, -⟩ := hT.1
    exact absurd (hall l h1) (h.2 l h1)
  · simp only [Wea.lostTo, if_true] at h
    refine hull_uniq h (hull_cong (fun d => ?_) hT)
    exact ⟨fun ⟨l, h1, h2⟩ => ⟨l, h1, hall l h1, h2⟩, fun ⟨l, h1, _, h2⟩ => ⟨l, h1, h2⟩⟩

theorem rlost_loop {w : Wea} {ve : AV} (h : WeaAt H w ve) (hv : w.valid = true) (hcan : w.can = true) :
    ∀ (q j : Nat), j + q = (w.lhi - w.llo + 1).toNat → ∀ (out : Int × Int), ∀ (b : Bool), ∀ (G : Heap), w.lostTo (w.llo + j) b out → bd 100000 out → ∀ E : Env, E.get 1 = .ptr H.length 0 → E.get 2 = .ptr (H.length + 1) 0 → E.get 5 = .ptr (H.length + 2) 0 → E.get 6 = .bool b → E.get 7 = I (w.llo + j) →
    Option.map (finishC H.length) (execL cfg0 prog0 ⟨17, none, false, H.length⟩ (todoAt Tryd.f17 6) ⟨E, [], H ++ (.box (.agg [I w.llo, I w.lhi, I w.ulo, I w.uhi, ve]) :: .box (KV (0, 0)) :: .box (KV out) :: G), none⟩) = some ⟨.ret (.tup [KV w.lostP, I 0]), H, none⟩ := by
  intro q
  have ho := w.valid_iff.1 hv
  have h8 := ho.many
  have hlen := ho.len
  have s1 := h.es.scal
  have s2 := h.es.len
  rw [List.length_map] at s2
  have t1 := h.es.ltn 3
  have t2 := h.es.lt0
  have hmx : ∀ a c : Int, (if a < c then c else a) = max a c := by intro a c; split <;> omega
  have hmn : ∀ a c : Int, (if c < a then c else a) = min a c := by intro a c; split <;> omega
  induction q with
  | zero =>
    intro j hj out b G hI hob E g1 g2 g5 g6 g7
    have hk' : ¬ (j : Int) < (((w.lhi - w.llo + 1).toNat : Nat) : Int) := by omega
    have ej : w.llo + (j : Int) = w.lhi + 1 := by omega
    rw [ej] at hI g7
    simp only [loopIt, todoPast, todoAt, todoOf, firstReg, ↓reduceIte, Option.some.injEq, Nat.reduceEqDiff, reduceCtorEq, Tryd.f17]
    rw [execL_inLoop]
    have hk2 : ¬ w.lhi + 1 ≤ w.lhi := by omega
    have he := lost_end hv hcan (by omega) hI
    subst he
    simp (maxSteps := 1000000) (implicitDefEqProofs := false) (disch := first | rfl | omega | assumption) only [go_sem, ↓reduceIte, Nat.reduceEqDiff, Nat.reduceAdd, Nat.reduceLeDiff, Nat.reduceBEq, Nat.reduceMul, Nat.reduceLT, Int.reduceLT, Int.reduceLE, Int.reduceToNat, Int.reduceNeg, Int.reduceEq, Int.reduceMul, reduceCtorEq, Int.reduceBEq, Int.reduceBNe, Int.reduceAdd, Int.reduceSub, g1, g2, g5, g6, g7, ltT, ltF, leT, leF, hk', s1, s2, t1, hk2]
    done
  | succ q ih =>
    intro j hj out b G hI hob E g1 g2 g5 g6 g7
    have hk' : (j : Int) < (((w.lhi - w.llo + 1).toNat : Nat) : Int) := by omega
    have hk2 : j < (w.lhi - w.llo + 1).toNat := by omega
    obtain ⟨x, hx⟩ : ∃ x, w.llo + (j : Int) = x := ⟨_, rfl⟩
    have hx2 : w.llo + ((j + 1 : Nat) : Int) = x + 1 := by omega
    have hxs : w.llo ≤ x ∧ x ≤ w.lhi := by omega
    rw [hx] at hI g7
    have hin : inP w.L x := hxs
    have hE := fun G : Heap => ref_every (h.app G) ho
    have hR := fun G : Heap => ref_run (h.app G) ho w.ev1 (ev1_lt ho) (l := (x, x)) (by simp only [bd]; omega) (Nat.zero_le w.es.length) (Nat.le_refl _)
    have hT := tells_cong (rT0 hin) (runT ho (l := (x, x)) (i := 0) (q := w.es.length) (Int.le_refl _) (by omega))
    have hXb := runP_bd ho w.ev1 w.es.length 0 (by omega) (Int.le_refl _) (show bd 1000 (x, x) by simp only [bd]; omega)
    have hoo := hob
    simp only [Wea.av, Nat.sub_zero, Int.natCast_zero] at hE hR
    generalize w.runP w.ev1 (x, x) 0 w.es.length = X at hR hT hXb
    simp only [bd] at hXb hoo
    by_cases hc : X.1 ≤ X.2
    · have hc' : ¬ X.2 < X.1 := by omega
      have hst := lost_step hI (tells_sp hT ((tells_some hT (by omega)).1 hc))
      cases b
      · skip
        simp only [loopIt, todoPast, todoAt, todoOf, firstReg, ↓reduceIte, Option.some.injEq, Nat.reduceEqDiff, reduceCtorEq, Tryd.f17]
        rw [execL_inLoop]
        simp (maxSteps := 1000000) (implicitDefEqProofs := false) (disch := first | rfl | omega | assumption) only [go_sem, ↓reduceIte, Nat.reduceEqDiff, Nat.reduceAdd, Nat.reduceLeDiff, Nat.reduceBEq, Nat.reduceMul, Nat.reduceLT, Int.reduceLT, Int.reduceLE, Int.reduceToNat, Int.reduceNeg, Int.reduceEq, Int.reduceMul, reduceCtorEq, Int.reduceBEq, Int.reduceBNe, Int.reduceAdd, Int.reduceSub, g1, g2, g5, g6, g7, ltT, ltF, leT, leF, hk', s1, s2, t1, hE, hR, hc, hc', hxs.2]
        rw [chkK_of]; rotate_left; kernel_rfl
        simp (maxSteps := 1000000) (implicitDefEqProofs := false) (disch := first | rfl | omega | assumption) only [go_sem, ↓reduceIte, Nat.reduceEqDiff, Nat.reduceAdd, Nat.reduceLeDiff, Nat.reduceBEq, Nat.reduceMul, Nat.reduceLT, Int.reduceLT, Int.reduceLE, Int.reduceToNat, Int.reduceNeg, Int.reduceEq, Int.reduceMul, reduceCtorEq, Int.reduceBEq, Int.reduceBNe, Int.reduceAdd, Int.reduceSub, g1, g2, g5, g6, g7, ltT, ltF, leT, leF, hk', s1, s2, t1, hE, hR, hc, hc', hxs.2]
        exact ih (j + 1) (by omega) (x - X.2, x - X.1) true [.box (KV X), .box (KV (x - X.2, x - X.1))] (by rw [hx2]; exact hst) (by simp only [bd]; omega) _ (by rfl) (by rfl) (by rfl) (by rfl) (by rw [hx2]; rfl)
      · skip
        simp only [loopIt, todoPast, todoAt, todoOf, firstReg, ↓reduceIte, Option.some.injEq, Nat.reduceEqDiff, reduceCtorEq, Tryd.f17]
        rw [execL_inLoop]
        simp (maxSteps := 1000000) (implicitDefEqProofs := false) (disch := first | rfl | omega | assumption) only [go_sem, ↓reduceIte, Nat.reduceEqDiff, Nat.reduceAdd, Nat.reduceLeDiff, Nat.reduceBEq, Nat.reduceMul, Nat.reduceLT, Int.reduceLT, Int.reduceLE, Int.reduceToNat, Int.reduceNeg, Int.reduceEq, Int.reduceMul, reduceCtorEq, Int.reduceBEq, Int.reduceBNe, Int.reduceAdd, Int.reduceSub, g1, g2, g5, g6, g7, ltT, ltF, leT, leF, hk', s1, s2, t1, hE, hR, hc, hc', hxs.2, hmx, hmn]
        rw [chkK_of]; rotate_left; kernel_rfl
        simp (maxSteps := 1000000) (implicitDefEqProofs := false) (disch := first | rfl | omega | assumption) only [go_sem, ↓reduceIte, Nat.reduceEqDiff, Nat.reduceAdd, Nat.reduceLeDiff, Nat.reduceBEq, Nat.reduceMul, Nat.reduceLT, Int.reduceLT, Int.reduceLE, Int.reduceToNat, Int.reduceNeg, Int.reduceEq, Int.reduceMul, reduceCtorEq, Int.reduceBEq, Int.reduceBNe, Int.reduceAdd, Int.reduceSub, g1, g2, g5, g6, g7, ltT, ltF, leT, leF, hk', s1, s2, t1, hE, hR, hc, hc', hxs.2, hmx, hmn]
        exact ih (j + 1) (by omega) (min out.1 (x - X.2), max out.2 (x - X.1)) true [.box (KV X), .box (KV (min out.1 (x - X.2), max out.2 (x - X.1)))] (by rw [hx2]; exact hst) (by simp only [bd]; omega) _ (by rfl) (by rfl) (by rfl) (by rfl) (by rw [hx2]; rfl)
    · have hc' : X.2 < X.1 := by omega
      have hst := lost_skip hI (fun l h1 h2 => hc ((tells_some hT (by omega)).2 ⟨_, l, h1, h2, rfl⟩))
      simp only [loopIt, todoPast, todoAt, todoOf, firstReg, ↓reduceIte, Option.some.injEq, Nat.reduceEqDiff, reduceCtorEq, Tryd.f17]
      rw [execL_inLoop]
      simp (maxSteps := 1000000) (implicitDefEqProofs := false) (disch := first | rfl | omega | assumption) only [go_sem, ↓reduceIte, Nat.reduceEqDiff, Nat.reduceAdd, Nat.reduceLeDiff, Nat.reduceBEq, Nat.reduceMul, Nat.reduceLT, Int.reduceLT, Int.reduceLE, Int.reduceToNat, Int.reduceNeg, Int.reduceEq, Int.reduceMul, reduceCtorEq, Int.reduceBEq, Int.reduceBNe, Int.reduceAdd, Int.reduceSub, g1, g2, g5, g6, g7, ltT, ltF, leT, leF, hk', s1, s2, t1, hE, hR, hc, hc', hxs.2]
      rw [chkK_of]; rotate_left; kernel_rfl
      simp (maxSteps := 1000000) (implicitDefEqProofs := false) (disch := first | rfl | omega | assumption) only [go_sem, ↓reduceIte, Nat.reduceEqDiff, Nat.reduceAdd, Nat.reduceLeDiff, Nat.reduceBEq, Nat.reduceMul, Nat.reduceLT, Int.reduceLT, Int.reduceLE, Int.reduceToNat, Int.reduceNeg, Int.reduceEq, Int.reduceMul, reduceCtorEq, Int.reduceBEq, Int.reduceBNe, Int.reduceAdd, Int.reduceSub, g1, g2, g5, g6, g7, ltT, ltF, leT, leF, hk', s1, s2, t1, hE, hR, hc, hc', hxs.2]
      exact ih (j + 1) (by omega) out b [.box (KV X)] (by rw [hx2]; exact hst) hob _ (by rfl) (by rfl) (by rfl) (by rfl) (by rw [hx2]; rfl)

theorem ref_Lost {w : Wea} {ve : AV} (h : WeaAt H w ve) :
    callFL cfg0 prog0 false 17 [w.av ve] H none = some ⟨.ret (.tup [KV w.lostP, I (w.gate 0 true)]), H, none⟩ := by
  have s1 := h.es.scal
  have hC := fun (G : Heap) => ref_check (h.app G) 0 true
  have hav : w.av ve = .agg [I w.llo, I w.lhi, I w.ulo, I w.uhi, ve] := rfl
  simp only [hav] at hC ⊢
  by_cases hg : w.gate 0 true = 0
  · obtain ⟨hv, -, hi, hc⟩ := gate_ok hg
    have hlp := rlost_loop h hv hc (w.lhi - w.llo + 1).toNat 0 (by omega) (0, 0) false [] (by
      simp only [Wea.lostTo, Bool.false_eq_true, if_false]
      refine ⟨trivial, fun l hl => ?_⟩
      have := hl.1
      simp only [inP, Wea.L] at this
      omega) (by simp [bd])
    have e0 : w.llo + ((0 : Nat) : Int) = w.llo := by omega
    rw [e0] at hlp
    simp only [hg] at hC ⊢
    refine (callFL_eq fn17 rfl (by simp [Tryd.f17])).trans ?_
    simp (maxSteps := 1000000) (implicitDefEqProofs := false) (disch := first | rfl | omega | assumption) only [go_sem, ↓reduceIte, Nat.reduceEqDiff, Nat.reduceAdd, Nat.reduceLeDiff, Nat.reduceBEq, Nat.reduceMul, Nat.reduceLT, Int.reduceLT, Int.reduceLE, Int.reduceToNat, Int.reduceNeg, Int.reduceEq, Int.reduceMul, reduceCtorEq, Int.reduceBEq, Int.reduceBNe, Int.reduceAdd, Int.reduceSub, ltT, ltF, leT, leF, s1, hC]
    exact hlp _ (by rfl) (by rfl) (by rfl) (by rfl) (by rfl)
  · have hg' : ((w.gate 0 true) != 0) = true := bne_iff_ne.2 hg
    have hz : w.lostP = (0, 0) := by simp only [Wea.lostP, hg, if_false]
    rw [hz]
    refine (callFL_eq fn17 rfl (by simp [Tryd.f17])).trans ?_
    simp (maxSteps := 1000000) (implicitDefEqProofs := false) (disch := first | rfl | omega | assumption) only [go_sem, ↓reduceIte, Nat.reduceEqDiff, Nat.reduceAdd, Nat.reduceLeDiff, Nat.reduceBEq, Nat.reduceMul, Nat.reduceLT, Int.reduceLT, Int.reduceLE, Int.reduceToNat, Int.reduceNeg, Int.reduceEq, Int.reduceMul, reduceCtorEq, Int.reduceBEq, Int.reduceBNe, Int.reduceAdd, Int.reduceSub, ltT, ltF, leT, leF, s1, hC, hg']

end Go.Ab
