/-
  ColourApart, walked.
-/
import Derived.Test.YtlhnmpclnbpnhaaKK4
namespace Go.Ab
open Go.Proofs
set_option linter.unusedSimpArgs false
set_option linter.unusedVariables false
set_option maxRecDepth 100000
set_option maxHeartbeats 2000000

variable {H : Heap}

/-- The set that bits are. -/
def Col.sOf (c : Col) (b : Nat) : Nat := b % 2 ^ c.ws.length

theorem Col.sOf_lt {c : Col} (ho : c.Ok) (b : Nat) : c.sOf b < 64 ∧ c.sOf b < 2 ^ c.ws.length := by
  have h2 : (2 : Nat) ^ c.ws.length ≤ 2 ^ 6 := Nat.pow_le_pow_right (by omega) ho.len.2
  have h3 := Nat.pow_pos (n := c.ws.length) (show 0 < 2 by omega)
  have := Nat.mod_lt b h3
  simp only [Col.sOf]
  omega

theorem Col.sOf_isSet {c : Col} (ho : c.Ok) (b : Nat) : c.isSet (c.sOf b) = true := by
  have := c.sOf_lt ho b
  exact wi_iff.2 ⟨by omega, by omega⟩

theorem sOf_bits {c : Col} (ho : c.Ok) {b : Nat} (hb : b < 256) : bitsOp .and .i64 (b : Int) (((2 ^ c.ws.length : Nat) : Int) - 1) = some (c.sOf b : Int) := by
  have h2 : (2 : Nat) ^ c.ws.length ≤ 2 ^ 6 := Nat.pow_le_pow_right (by omega) ho.len.2
  have h3 := Nat.pow_pos (n := c.ws.length) (show 0 < 2 by omega)
  have e : (((2 ^ c.ws.length : Nat) : Int) - 1) = ((2 ^ c.ws.length - 1 : Nat) : Int) := by omega
  rw [e, bitsAndI (by omega) (by omega), Nat.and_two_pow_sub_one_eq_mod]
  rfl

theorem shlI {c : Col} (ho : c.Ok) : IntKind.i64.wrap (1 * 2 ^ min c.ws.length 64) = ((2 ^ c.ws.length : Nat) : Int) := by
  have : ∀ k : Nat, k ≤ 6 → IntKind.i64.wrap (1 * 2 ^ min k 64) = ((2 ^ k : Nat) : Int) := by
    intro k hk
    have : k = 0 ∨ k = 1 ∨ k = 2 ∨ k = 3 ∨ k = 4 ∨ k = 5 ∨ k = 6 := by omega
    rcases this with rfl | rfl | rfl | rfl | rfl | rfl | rfl <;> decide
  exact this _ ho.len.2

theorem apart_ok {c : Col} (hv : c.valid = true) {k : Nat} (hk : k < c.ws.length) {a b : Int} (ha : 0 ≤ a ∧ a ≤ 2000) (hb : 0 ≤ b ∧ b ≤ 2000) : c.apart k a b = (apartZ (ptZ (c.ws.getD k 0) a) (ptZ (c.ws.getD k 0) b), 0) := by
  have e1 : wi k 0 (c.ws.length - 1) = true := wi_iff.2 (by omega)
  simp only [Col.apart, hv, e1, wi_iff.2 ha, wi_iff.2 hb, Bool.and_self, if_true, Int.toNat_natCast]

theorem apart_self (p : Int) : apartZ p p = 0 := by
  simp only [apartZ, lessZ, Int.lt_irrefl, if_false]
  omega

theorem apartZ_bd (p o : Int) : 0 ≤ apartZ p o ∧ apartZ p o ≤ 20 := by
  have h1 := lessZ_bd p o
  have h2 := lessZ_bd o p
  simp only [apartZ]
  split <;> omega

theorem apartZ_min {p o : Int} (hp : 0 ≤ p ∧ p < 20) (ho : 0 ≤ o ∧ o < 20) : (let d := if p - o < o - p then o - p else p - o; 0 ≤ d ∧ d ≤ 20 ∧ (if 20 - d < d then 20 - d else d) = apartZ p o) := by
  simp only [apartZ, lessZ]
  refine ⟨?_, ?_, ?_⟩ <;> repeat' split
  all_goals omega

theorem apart_loop {c : Col} {vw vp : AV} (h : ColAt H c vw vp) (ho : c.Ok) (hv : c.valid = true) {a b : Int} (ha : 0 ≤ a ∧ a ≤ 2000) (hb : 0 ≤ b ∧ b ≤ 2000) {s : Nat} (hs : s < 64) (r : Bool) (K : List Item) (R : Option Done) (hK : ∀ E : Env, E.get 4 = .ptr H.length 0 → E.get 13 = I a → E.get 14 = I b → E.get 15 = I s → E.get 16 = .bool r → Option.map (finishC H.length) (execL cfg0 prog0 ⟨6, none, false, H.length⟩ K ⟨E, [], H ++ [.box (c.av vw vp)], none⟩) = R)  :
    ∀ (q j : Nat), j + q = c.ws.length → ∀ (pt : Bool), (pt || anyF (fun i => s.testBit i && c.sep a b i) j q) = r → ∀ E : Env, E.get 4 = .ptr H.length 0 → E.get 13 = I a → E.get 14 = I b → E.get 15 = I s → E.get 16 = .bool pt → E.get 94 = vw → E.get 95 = I c.ws.length → E.get 96 = I j →
    Option.map (finishC H.length) (execL cfg0 prog0 ⟨6, none, false, H.length⟩ (loopIt Try.f6 10 :: .inBlock 0 :: K) ⟨E, [], H ++ [.box (c.av vw vp)], none⟩) = R := by
  intro q
  have hl := ho.len
  have hlp := ho.plen
  obtain ⟨a1, a2, a3, a4⟩ := h.ws.fI
  have her := ho.er
  simp only [Col.av] at hK ⊢
  induction q with
  | zero =>
    intro j hj pt hr E g4 g13 g14 g15 g16 g94 g95 g96
    have hk' : ¬ (j : Int) < ((c.ws.length : Nat) : Int) := by omega
    simp only [anyF, Bool.or_false] at hr
    subst hr
    simp only [loopIt, todoPast, todoAt, todoOf, firstReg, ↓reduceIte, Option.some.injEq, Nat.reduceEqDiff, reduceCtorEq, Try.f6]
    rw [execL_inLoop]
    simp (maxSteps := 1000000) (implicitDefEqProofs := false) (disch := first | rfl | omega | assumption) only [go_sem, ↓reduceIte, Nat.reduceEqDiff, Nat.reduceAdd, Nat.reduceLeDiff, Nat.reduceBEq, Nat.reduceMul, Nat.reduceLT, Int.reduceLT, Int.reduceLE, Int.reduceToNat, Int.reduceNeg, Int.reduceEq, Int.reduceMul, reduceCtorEq, Int.reduceBEq, Int.reduceBNe, Int.reduceAdd, Int.reduceSub, g4, g13, g14, g15, g16, g94, g95, g96, ltT, ltF, leT, leF, hk']
    exact hK _ (by exact g4) (by exact g13) (by exact g14) (by exact g15) (by exact g16)
  | succ q ih =>
    intro j hj pt hr E g4 g13 g14 g15 g16 g94 g95 g96
    have hk' : (j : Int) < ((c.ws.length : Nat) : Int) := by omega
    have hk2 : j < c.ws.length := by omega
    have hw := ho.ws j hk2
    have hA := fun G : Heap => co_Apart (h.app G) (by omega) j a b
    have hB := fun G : Heap => co_Apart (h.app G) (by omega) j b a
    have hO := fun G : Heap => co_Apart (h.app G) (by omega) j a a
    simp only [apart_ok hv hk2 ha hb] at hA
    simp only [apart_ok hv hk2 hb ha, apartZ_comm (ptZ (c.ws.getD j 0) b)] at hB
    simp only [apart_ok hv hk2 ha ha, apart_self] at hO
    have hP := fun G : Heap => fr_Part1 (c.ws.getD j 0) a G
    have hQ := fun G : Heap => fr_Part1 (c.ws.getD j 0) b G
    simp only [oneW, wi_iff.2 hw, wi_iff.2 ha, wi_iff.2 hb, if_true] at hP hQ
    have p1 := ptZ_bd (w := c.ws.getD j 0) (n := a) (by omega)
    have p2 := ptZ_bd (w := c.ws.getD j 0) (n := b) (by omega)
    have hsep : c.sep a b j = decide (2 * c.er < apartZ (ptZ (c.ws.getD j 0) a) (ptZ (c.ws.getD j 0) b)) := rfl
    have bd := apartZ_bd (ptZ (c.ws.getD j 0) a) (ptZ (c.ws.getD j 0) b)
    have hmin := apartZ_min p1 p2
    simp only at hmin
    simp only [Col.av] at hA hB hO
    generalize apartZ (ptZ (c.ws.getD j 0) a) (ptZ (c.ws.getD j 0) b) = ap at *
    generalize ptZ (c.ws.getD j 0) a = pa at *
    generalize ptZ (c.ws.getD j 0) b = pb at *
    have e1 := shrI (s := s) (j := j) (by omega)
    have e2 : s / 2 ^ j ≤ s := Nat.div_le_self _ _
    have e3 : bitsOp .and .i64 ((s / 2 ^ j : Nat) : Int) 1 = some ((s / 2 ^ j &&& 1 : Nat) : Int) := bitsAndI (b := 1) (by omega) (by decide)
    have e4 := and_one (s := s) (j := j)
    have z : ¬ (j : Int) < 0 := by omega
    rw [anyF, hsep] at hr
    generalize hd : (if pa - pb < pb - pa then pb - pa else pa - pb) = d at *
    obtain ⟨m1, m2, m3⟩ := hmin
    simp only [loopIt, todoPast, todoAt, todoOf, firstReg, ↓reduceIte, Option.some.injEq, Nat.reduceEqDiff, reduceCtorEq, Try.f6]
    rw [execL_inLoop]
    cases pt with
    | true =>
      simp only [Bool.true_or] at hr
      simp (maxSteps := 1000000) (implicitDefEqProofs := false) (disch := first | rfl | omega | assumption) only [go_sem, ↓reduceIte, Nat.reduceEqDiff, Nat.reduceAdd, Nat.reduceLeDiff, Nat.reduceBEq, Nat.reduceMul, Nat.reduceLT, Int.reduceLT, Int.reduceLE, Int.reduceToNat, Int.reduceNeg, Int.reduceEq, Int.reduceMul, reduceCtorEq, Int.reduceBEq, Int.reduceBNe, Int.reduceAdd, Int.reduceSub, g4, g13, g14, g15, g16, g94, g95, g96, ltT, ltF, leT, leF, hk', a1, a2, a3, a4, hA, hB, hO, hP, hQ, hd, m3]
      exact ih (j + 1) (by omega) true (by rw [Bool.true_or]; exact hr) _ (by exact g4) (by exact g13) (by exact g14) (by exact g15) (by rfl) (by exact g94) (by exact g95) (by rfl)
    | false =>
      rcases Bool.eq_false_or_eq_true (s.testBit j) with ht | ht
      · by_cases hc : 2 * c.er < ap
        · simp only [ht, hc, decide_true, Bool.and_self, Bool.true_or, Bool.or_true] at hr
          simp (maxSteps := 1000000) (implicitDefEqProofs := false) (disch := first | rfl | omega | assumption) only [go_sem, ↓reduceIte, Nat.reduceEqDiff, Nat.reduceAdd, Nat.reduceLeDiff, Nat.reduceBEq, Nat.reduceMul, Nat.reduceLT, Int.reduceLT, Int.reduceLE, Int.reduceToNat, Int.reduceNeg, Int.reduceEq, Int.reduceMul, reduceCtorEq, Int.reduceBEq, Int.reduceBNe, Int.reduceAdd, Int.reduceSub, g4, g13, g14, g15, g16, g94, g95, g96, ltT, ltF, leT, leF, hk', a1, a2, a3, a4, hA, hB, hO, hP, hQ, hd, m3, e1, e3, e4, ht, z, hc]
          exact ih (j + 1) (by omega) true (by rw [Bool.true_or]; exact hr) _ (by exact g4) (by exact g13) (by exact g14) (by exact g15) (by rfl) (by exact g94) (by exact g95) (by rfl)
        · simp only [ht, hc, decide_false, Bool.and_false, Bool.false_or] at hr
          simp (maxSteps := 1000000) (implicitDefEqProofs := false) (disch := first | rfl | omega | assumption) only [go_sem, ↓reduceIte, Nat.reduceEqDiff, Nat.reduceAdd, Nat.reduceLeDiff, Nat.reduceBEq, Nat.reduceMul, Nat.reduceLT, Int.reduceLT, Int.reduceLE, Int.reduceToNat, Int.reduceNeg, Int.reduceEq, Int.reduceMul, reduceCtorEq, Int.reduceBEq, Int.reduceBNe, Int.reduceAdd, Int.reduceSub, g4, g13, g14, g15, g16, g94, g95, g96, ltT, ltF, leT, leF, hk', a1, a2, a3, a4, hA, hB, hO, hP, hQ, hd, m3, e1, e3, e4, ht, z, hc]
          exact ih (j + 1) (by omega) false (by rw [Bool.false_or]; exact hr) _ (by exact g4) (by exact g13) (by exact g14) (by exact g15) (by rfl) (by exact g94) (by exact g95) (by rfl)
      · simp only [ht, Bool.false_and, Bool.false_or] at hr
        simp (maxSteps := 1000000) (implicitDefEqProofs := false) (disch := first | rfl | omega | assumption) only [go_sem, ↓reduceIte, Nat.reduceEqDiff, Nat.reduceAdd, Nat.reduceLeDiff, Nat.reduceBEq, Nat.reduceMul, Nat.reduceLT, Int.reduceLT, Int.reduceLE, Int.reduceToNat, Int.reduceNeg, Int.reduceEq, Int.reduceMul, reduceCtorEq, Int.reduceBEq, Int.reduceBNe, Int.reduceAdd, Int.reduceSub, g4, g13, g14, g15, g16, g94, g95, g96, ltT, ltF, leT, leF, hk', a1, a2, a3, a4, hA, hB, hO, hP, hQ, hd, m3, e1, e3, e4, ht, z]
        exact ih (j + 1) (by omega) false (by rw [Bool.false_or]; exact hr) _ (by exact g4) (by exact g13) (by exact g14) (by exact g15) (by rfl) (by exact g94) (by exact g95) (by rfl)

theorem law_ColourApart {c : Col} {vw vp : AV} (h : ColAt H c vw vp) (at' other b8 : Int) (b1 : 0 ≤ at' ∧ at' ≤ 65535) (b2 : 0 ≤ other ∧ other ≤ 65535) (b3 : 0 ≤ b8 ∧ b8 ≤ 255) :
    callFL cfg0 prog0 false 6 [c.av vw vp, .int .u16 at', .int .u16 other, .int .u8 b8] H none = some ⟨.ret (.bool true), H, none⟩ := by
  have s1 := h.ws.scal
  have s2 := h.ps.scal
  have hL := fun G : Heap => law_long (h.app G)
  have hV := fun G : Heap => ref_Colour (h.app G)
  simp only [Col.av] at hL hV
  rcases Bool.eq_false_or_eq_true c.long with hl | hl
  · simp only [Col.av]
    refine (callFL_eq fn6 rfl (by simp [Try.f6])).trans ?_
    simp (maxSteps := 1000000) (implicitDefEqProofs := false) (disch := first | rfl | omega | assumption) only [go_sem, ↓reduceIte, Nat.reduceEqDiff, Nat.reduceAdd, Nat.reduceLeDiff, Nat.reduceBEq, Nat.reduceMul, Nat.reduceLT, Int.reduceLT, Int.reduceLE, Int.reduceToNat, Int.reduceNeg, Int.reduceEq, Int.reduceMul, reduceCtorEq, Int.reduceBEq, Int.reduceBNe, Int.reduceAdd, Int.reduceSub, s1, s2, hL, hl, law_alive]
  · obtain ⟨l1, l2⟩ := c.long_false hl
    rcases Bool.eq_false_or_eq_true c.valid with hv | hv
    · have ho := c.valid_iff.1 hv
      have hlen := ho.len
      obtain ⟨n1, rfl⟩ : ∃ n : Nat, at' = n := ⟨at'.toNat, by omega⟩
      obtain ⟨n2, rfl⟩ : ∃ n : Nat, other = n := ⟨other.toNat, by omega⟩
      obtain ⟨n3, rfl⟩ : ∃ n : Nat, b8 = n := ⟨b8.toNat, by omega⟩
      have t1 : ((n1 : Nat) : Int).tmod 2001 = ((n1 % 2001 : Nat) : Int) := by rw [Int.tmod_eq_emod_of_nonneg (Int.natCast_nonneg _)]; rfl
      have t2 : ((n2 : Nat) : Int).tmod 2001 = ((n2 % 2001 : Nat) : Int) := by rw [Int.tmod_eq_emod_of_nonneg (Int.natCast_nonneg _)]; rfl
      have t3 := shlI ho
      have t4 := sOf_bits ho (b := n3) (by omega)
      have hs := c.sOf_lt ho n3
      have hss := c.sOf_isSet ho n3
      have hp2 : (2 : Nat) ^ c.ws.length ≤ 2 ^ 6 := Nat.pow_le_pow_right (by omega) hlen.2
      have hp3 := Nat.pow_pos (n := c.ws.length) (show 0 < 2 by omega)
      have ba : 0 ≤ ((n1 % 2001 : Nat) : Int) ∧ ((n1 % 2001 : Nat) : Int) ≤ 2000 := by omega
      have bb : 0 ≤ ((n2 % 2001 : Nat) : Int) ∧ ((n2 % 2001 : Nat) : Int) ≤ 2000 := by omega
      generalize c.sOf n3 = s at *
      generalize ((n1 % 2001 : Nat) : Int) = a at *
      generalize ((n2 % 2001 : Nat) : Int) = b at *
      have h1 := fun G : Heap => co_Parts (h.app G) (by omega) s a b
      have h2 := fun G : Heap => co_Apart (h.app G) (by omega) c.ws.length a b
      have h3 := fun G : Heap => co_Apart (h.app G) (by omega) 0 a 2001
      have h4 := fun G : Heap => co_Parts (h.app G) (by omega) (2 ^ c.ws.length : Nat) a b
      have h5 := fun G : Heap => co_Alike (h.app G) (by omega) (-1)
      have h6 := fun G : Heap => co_Parts (h.app G) (by omega) 0 (-1) b
      have f1 : wi (c.ws.length : Int) 0 (c.ws.length - 1) = false := by simp [wi]; omega
      have f2 : wi (2001 : Int) 0 2000 = false := by decide
      have f3 : c.isSet (2 ^ c.ws.length : Nat) = false := by simp [Col.isSet, wi]; omega
      have f4 : c.isSet (-1) = false := by simp [Col.isSet, wi]
      have f5 : wi (-1 : Int) 0 2000 = false := by decide
      simp only [Col.parts, hv, hss, wi_iff.2 ba, wi_iff.2 bb, Bool.and_self, if_true, Int.toNat_natCast] at h1
      simp only [Col.apart, hv, f1, Bool.false_and, Bool.false_eq_true, if_true, if_false] at h2
      simp only [Col.apart, hv, f2, Bool.and_false, Bool.false_eq_true, if_true, if_false] at h3
      simp only [Col.parts, hv, f3, Bool.false_and, Bool.false_eq_true, if_true, if_false] at h4
      simp only [Col.alikeR, hv, f4, Bool.false_eq_true, if_true, if_false] at h5
      simp only [Col.parts, hv, f5, Bool.false_and, Bool.and_false, Bool.false_eq_true, if_true, if_false] at h6
      simp only [Col.av] at h1 h2 h3 h4 h5 h6 ⊢
      refine (callFL_eq fn6 rfl (by simp [Try.f6])).trans ?_
      simp (maxSteps := 1000000) (implicitDefEqProofs := false) (disch := first | rfl | omega | assumption) only [go_sem, ↓reduceIte, Nat.reduceEqDiff, Nat.reduceAdd, Nat.reduceLeDiff, Nat.reduceBEq, Nat.reduceMul, Nat.reduceLT, Int.reduceLT, Int.reduceLE, Int.reduceToNat, Int.reduceNeg, Int.reduceEq, Int.reduceMul, reduceCtorEq, Int.reduceBEq, Int.reduceBNe, Int.reduceAdd, Int.reduceSub, s1, s2, hL, hV, hl, hv]
      rw [chkK_of]; rotate_left; kernel_rfl
      have z : ¬ (c.ws.length : Int) < 0 := by omega
      simp (maxSteps := 1000000) (implicitDefEqProofs := false) (disch := first | rfl | omega | assumption) only [go_sem, ↓reduceIte, Nat.reduceEqDiff, Nat.reduceAdd, Nat.reduceLeDiff, Nat.reduceBEq, Nat.reduceMul, Nat.reduceLT, Int.reduceLT, Int.reduceLE, Int.reduceToNat, Int.reduceNeg, Int.reduceEq, Int.reduceMul, reduceCtorEq, Int.reduceBEq, Int.reduceBNe, Int.reduceAdd, Int.reduceSub, s1, s2, t1, t2, t3, t4, h.ws.len, z]
      refine apart_loop h ho hv ba bb hs.1 (c.partB s a b) _ _ (fun E g4 g13 g14 g15 g16 => ?_) c.ws.length 0 (by omega) false (by rw [Bool.false_or]; rfl) _ (by rfl) (by rfl) (by rfl) (by rfl) (by rfl) (by rfl) (by rfl) (by rfl)
      simp only [Col.av]
      simp (maxSteps := 1000000) (implicitDefEqProofs := false) (disch := first | rfl | omega | assumption) only [go_sem, ↓reduceIte, Nat.reduceEqDiff, Nat.reduceAdd, Nat.reduceLeDiff, Nat.reduceBEq, Nat.reduceMul, Nat.reduceLT, Int.reduceLT, Int.reduceLE, Int.reduceToNat, Int.reduceNeg, Int.reduceEq, Int.reduceMul, reduceCtorEq, Int.reduceBEq, Int.reduceBNe, Int.reduceAdd, Int.reduceSub, g4, g13, g14, g15, g16, s1, s2, h1, h2, h3, h.ws.len]
      rw [chkK_of]; rotate_left; kernel_rfl
      simp (maxSteps := 1000000) (implicitDefEqProofs := false) (disch := first | rfl | omega | assumption) only [go_sem, ↓reduceIte, Nat.reduceEqDiff, Nat.reduceAdd, Nat.reduceLeDiff, Nat.reduceBEq, Nat.reduceMul, Nat.reduceLT, Int.reduceLT, Int.reduceLE, Int.reduceToNat, Int.reduceNeg, Int.reduceEq, Int.reduceMul, reduceCtorEq, Int.reduceBEq, Int.reduceBNe, Int.reduceAdd, Int.reduceSub, g4, g13, g14, g15, g16, s1, s2, h.ws.len, z, t3, h4, h5, h6, law_alive]
    · have h1 := fun G : Heap => co_Apart (h.app G) (by omega) 0 0 0
      have h2 := fun G : Heap => co_Parts (h.app G) (by omega) 0 0 0
      simp only [Col.apart, hv, Bool.false_eq_true, if_false] at h1
      simp only [Col.parts, hv, Bool.false_eq_true, if_false] at h2
      simp only [Col.av] at h1 h2 ⊢
      refine (callFL_eq fn6 rfl (by simp [Try.f6])).trans ?_
      simp (maxSteps := 1000000) (implicitDefEqProofs := false) (disch := first | rfl | omega | assumption) only [go_sem, ↓reduceIte, Nat.reduceEqDiff, Nat.reduceAdd, Nat.reduceLeDiff, Nat.reduceBEq, Nat.reduceMul, Nat.reduceLT, Int.reduceLT, Int.reduceLE, Int.reduceToNat, Int.reduceNeg, Int.reduceEq, Int.reduceMul, reduceCtorEq, Int.reduceBEq, Int.reduceBNe, Int.reduceAdd, Int.reduceSub, s1, s2, hL, hV, hl, hv, h1, h2, law_alive]

end Go.Ab
/-
  ColourFewest, walked.
-/
namespace Go.Ab
open Go.Proofs
set_option linter.unusedSimpArgs false
set_option linter.unusedVariables false
set_option maxRecDepth 100000
set_option maxHeartbeats 2000000

variable {H : Heap}

theorem bestL_spec (cost : Nat → Int) : ∀ (l : List Nat) (b : Nat), (∀ x ∈ l, b ≤ x) → l.Pairwise (· ≤ ·) → (bestL cost b l = b ∨ bestL cost b l ∈ l) ∧ (∀ y, y = b ∨ y ∈ l → cost (bestL cost b l) < cost y ∨ (cost (bestL cost b l) = cost y ∧ bestL cost b l ≤ y))
  | [], b, _, _ => by
    refine ⟨.inl rfl, fun y hy => ?_⟩
    rcases hy with rfl | hy
    · exact .inr ⟨rfl, Nat.le_refl _⟩
    · cases hy
  | x :: r, b, hb, hp => by
    have hp' := List.pairwise_cons.1 hp
    have hbx := hb x (List.mem_cons_self ..)
    rw [bestL]
    by_cases h : cost x < cost b
    · rw [if_pos h]
      obtain ⟨h1, h2⟩ := bestL_spec cost r x (fun y hy => hp'.1 y hy) hp'.2
      refine ⟨.inr ?_, fun y hy => ?_⟩
      · rcases h1 with h1 | h1
        · rw [h1]; exact List.mem_cons_self ..
        · exact List.mem_cons_of_mem _ h1
      · rcases hy with rfl | hy
        · have := h2 x (.inl rfl)
          omega
        · rcases List.mem_cons.1 hy with rfl | hy
          · exact h2 _ (.inl rfl)
          · exact h2 y (.inr hy)
    · rw [if_neg h]
      obtain ⟨h1, h2⟩ := bestL_spec cost r b (fun y hy => hb y (List.mem_cons_of_mem _ hy)) hp'.2
      refine ⟨?_, fun y hy => ?_⟩
      · rcases h1 with h1 | h1
        · exact .inl h1
        · exact .inr (List.mem_cons_of_mem _ h1)
      · rcases hy with rfl | hy
        · exact h2 _ (.inl rfl)
        · rcases List.mem_cons.1 hy with rfl | hy
          · have := h2 b (.inl rfl)
            omega
          · exact h2 y (.inr hy)

theorem good_mem (c : Col) (s : Nat) : s ∈ c.good ↔ s < 2 ^ c.ws.length ∧ c.leftN s = 0 := by
  simp [Col.good]

theorem good_sorted (c : Col) : c.good.Pairwise (· ≤ ·) := by
  refine List.Pairwise.filter _ ?_
  exact List.Pairwise.imp Nat.le_of_lt List.pairwise_lt_range

theorem best_some (c : Col) (cost : Nat → Int) {b : Nat} (h : c.best cost = some b) : b ∈ c.good ∧ ∀ y ∈ c.good, cost b < cost y ∨ (cost b = cost y ∧ b ≤ y) := by
  have hs := good_sorted c
  simp only [Col.best] at h
  cases hg : c.good with
  | nil => rw [hg] at h; cases h
  | cons x r =>
    rw [hg] at h hs
    simp only [Option.some.injEq, bestL_self] at h
    obtain ⟨h1, h2⟩ := bestL_spec cost r x (List.pairwise_cons.1 hs).1 (List.pairwise_cons.1 hs).2
    rw [h] at h1 h2
    refine ⟨?_, fun y hy => h2 y (List.mem_cons.1 hy)⟩
    rcases h1 with h1 | h1
    · rw [h1]; exact List.mem_cons_self ..
    · exact List.mem_cons_of_mem _ h1

theorem best_none (c : Col) (cost : Nat → Int) : c.best cost = none ↔ c.good = [] := by
  simp only [Col.best]
  cases c.good <;> simp

/-- A set that is part of another one parts no more. -/
theorem partB_mono (c : Col) {s t : Nat} (h : ∀ i, i < c.ws.length → s.testBit i = true → t.testBit i = true) (a b : Int) (hp : c.partB s a b = true) : c.partB t a b = true := by
  rw [Col.partB, anyF_iff] at hp ⊢
  obtain ⟨i, h1, h2, h3⟩ := hp
  rw [Bool.and_eq_true] at h3
  exact ⟨i, h1, h2, by rw [Bool.and_eq_true]; exact ⟨h i (by omega) h3.1, h3.2⟩⟩

theorem left_zero (c : Col) (s : Nat) : c.leftN s = 0 ↔ ∀ a b, a < b → b < c.manyN → c.meet s a b = true := by
  rw [c.left_len, List.length_eq_zero_iff, List.eq_nil_iff_forall_not_mem]
  constructor
  · intro h a b h1 h2
    have := h (a, b)
    rw [c.prL_mem] at this
    simp only at this
    cases hm : c.meet s a b
    · exact absurd ⟨h1, h2, hm⟩ this
    · rfl
  · intro h p hp
    rw [c.prL_mem] at hp
    rw [h p.1 p.2 hp.1 hp.2.1] at hp
    cases hp.2.2

theorem left_mono (c : Col) {s t : Nat} (h : ∀ i, i < c.ws.length → s.testBit i = true → t.testBit i = true) (h0 : c.leftN s = 0) : c.leftN t = 0 := by
  rw [left_zero] at h0 ⊢
  intro a b h1 h2
  have := h0 a b h1 h2
  rw [c.meet_eq] at this ⊢
  exact partB_mono c h _ _ this

def Col.full (c : Col) : Nat := 2 ^ c.ws.length - 1

theorem full_bit (c : Col) (i : Nat) (h : i < c.ws.length) : c.full.testBit i = true := by
  rw [Col.full, Nat.testBit_two_pow_sub_one]
  simpa using h

theorem good_full (c : Col) : c.good = [] ↔ c.leftN c.full ≠ 0 := by
  have h3 := Nat.pow_pos (n := c.ws.length) (show 0 < 2 by omega)
  constructor
  · intro h h0
    have : c.full ∈ c.good := (good_mem c _).2 ⟨by simp only [Col.full]; omega, h0⟩
    rw [h] at this
    cases this
  · intro h
    rw [List.eq_nil_iff_forall_not_mem]
    intro s hs
    exact h (left_mono c (fun i hi _ => full_bit c i hi) ((good_mem c s).1 hs).2)

theorem alike_4 {c : Col} (hv : c.valid = true) (s : Nat) (hs : c.isSet s = true) : ((c.alikeR s).2.2 == 4) = (c.leftN s == 0) := by
  simp only [Col.alikeR, hv, hs, if_true, Int.toNat_natCast, c.alkR_eq, c.left_len]
  cases c.prL s <;> simp

theorem all_cl {p : Nat} {c : Col} {vw vp : AV} (h : ColAt H c vw vp) (hl : c.ws.length ≤ 1000 ∧ c.ps.length ≤ 1000) (hv : c.valid = true) (hp : H[p]? = some (.box (.agg [vw, vp, I c.lo, I c.hi, I c.ev, I c.er]))) (s : Nat) (hs : c.isSet s = true) :
    callVL cfg0 prog0 false (.func 37) [I s] [.ptr p 0] H none = some ⟨.ret (.bool (c.leftN s == 0)), H, none⟩ := by
  have h1 := co_Alike h hl s
  have h2 := alike_4 hv s hs
  simp only [Col.av] at h1
  rw [callVL_func]
  simp only [List.cons_append, List.nil_append]
  refine (callFL_eq fn37 rfl (by simp [Try.f37])).trans ?_
  simp (maxSteps := 1000000) (implicitDefEqProofs := false) (disch := first | rfl | omega | assumption) only [go_sem, ↓reduceIte, Nat.reduceEqDiff, Nat.reduceAdd, Nat.reduceLeDiff, Nat.reduceBEq, Nat.reduceMul, Nat.reduceLT, Int.reduceLT, Int.reduceLE, Int.reduceToNat, Int.reduceNeg, Int.reduceEq, Int.reduceMul, reduceCtorEq, Int.reduceBEq, Int.reduceBNe, Int.reduceAdd, Int.reduceSub, hp, h1, h2]

theorem lcost_loop {c : Col} {vw vp : AV} (h : ColAt H c vw vp) (ho : c.Ok) (s : Nat) (hs : s < 64) (r : Int) :
    ∀ (q j : Nat), j + q = c.ps.length → ∀ (n : Int), foldF (c.costA s) n j q = r → 0 ≤ n ∧ n ≤ 50 * j → ∀ E : Env, E.get 1 = I s → E.get 4 = I n → E.get 8 = vp → E.get 9 = I c.ps.length → E.get 10 = I j →
    Option.map (finishC H.length) (execL cfg0 prog0 ⟨39, none, false, H.length⟩ (todoAt Try.f39 2) ⟨E, [], H ++ [.box (c.av vw vp)], none⟩) = some ⟨.ret (I r), H, none⟩ := by
  intro q
  have l1 := ho.len
  have l2 := ho.plen
  obtain ⟨a1, a2, a3, a4⟩ := h.ps.fI
  simp only [Col.av]
  induction q with
  | zero =>
    intro j hj n hr hn E g1 g4 g8 g9 g10
    have hk' : ¬ (j : Int) < ((c.ps.length : Nat) : Int) := by omega
    simp only [foldF] at hr
    subst hr
    simp only [loopIt, todoPast, todoAt, todoOf, firstReg, ↓reduceIte, Option.some.injEq, Nat.reduceEqDiff, reduceCtorEq, Try.f39]
    rw [execL_inLoop]
    simp (maxSteps := 1000000) (implicitDefEqProofs := false) (disch := first | rfl | omega | assumption) only [go_sem, ↓reduceIte, Nat.reduceEqDiff, Nat.reduceAdd, Nat.reduceLeDiff, Nat.reduceBEq, Nat.reduceMul, Nat.reduceLT, Int.reduceLT, Int.reduceLE, Int.reduceToNat, Int.reduceNeg, Int.reduceEq, Int.reduceMul, reduceCtorEq, Int.reduceBEq, Int.reduceBNe, Int.reduceAdd, Int.reduceSub, g1, g4, g8, g9, g10, ltT, ltF, leT, leF, hk']
  | succ q ih =>
    intro j hj n hr hn E g1 g4 g8 g9 g10
    have hk' : (j : Int) < ((c.ps.length : Nat) : Int) := by omega
    have hk2 : j < c.ps.length := by omega
    have hp' := ho.ps j (by omega)
    have e1 := shrI (s := s) (j := j) (by omega)
    have e2 : s / 2 ^ j ≤ s := Nat.div_le_self _ _
    have e3 : bitsOp .and .i64 ((s / 2 ^ j : Nat) : Int) 1 = some ((s / 2 ^ j &&& 1 : Nat) : Int) := bitsAndI (b := 1) (by omega) (by decide)
    have e4 := and_one (s := s) (j := j)
    have z : ¬ (j : Int) < 0 := by omega
    simp only [foldF, Col.costA] at hr
    simp only [loopIt, todoPast, todoAt, todoOf, firstReg, ↓reduceIte, Option.some.injEq, Nat.reduceEqDiff, reduceCtorEq, Try.f39]
    rw [execL_inLoop]
    rcases Bool.eq_false_or_eq_true (s.testBit j) with hc | hc
    · rw [hc] at hr
      simp (maxSteps := 1000000) (implicitDefEqProofs := false) (disch := first | rfl | omega | assumption) only [go_sem, ↓reduceIte, Nat.reduceEqDiff, Nat.reduceAdd, Nat.reduceLeDiff, Nat.reduceBEq, Nat.reduceMul, Nat.reduceLT, Int.reduceLT, Int.reduceLE, Int.reduceToNat, Int.reduceNeg, Int.reduceEq, Int.reduceMul, reduceCtorEq, Int.reduceBEq, Int.reduceBNe, Int.reduceAdd, Int.reduceSub, g1, g4, g8, g9, g10, ltT, ltF, leT, leF, hk', a1, a2, a3, a4, e1, e3, e4, hc, z]
      exact ih (j + 1) (by omega) (n + c.ps.getD j 0) hr (by omega) _ (by exact g1) (by rfl) (by exact g8) (by exact g9) (by rfl)
    · rw [hc] at hr
      simp (maxSteps := 1000000) (implicitDefEqProofs := false) (disch := first | rfl | omega | assumption) only [go_sem, ↓reduceIte, Nat.reduceEqDiff, Nat.reduceAdd, Nat.reduceLeDiff, Nat.reduceBEq, Nat.reduceMul, Nat.reduceLT, Int.reduceLT, Int.reduceLE, Int.reduceToNat, Int.reduceNeg, Int.reduceEq, Int.reduceMul, reduceCtorEq, Int.reduceBEq, Int.reduceBNe, Int.reduceAdd, Int.reduceSub, g1, g4, g8, g9, g10, ltT, ltF, leT, leF, hk', a1, a2, a3, a4, e1, e3, e4, hc, z]
      exact ih (j + 1) (by omega) n hr (by omega) _ (by exact g1) (by exact g4) (by exact g8) (by exact g9) (by rfl)

theorem law_cost {c : Col} {vw vp : AV} (h : ColAt H c vw vp) (ho : c.Ok) (s : Nat) (hs : s < 64) : callFL cfg0 prog0 false 39 [c.av vw vp, I s] H none = some ⟨.ret (I (c.cost s)), H, none⟩ := by
  have s1 := h.ws.scal
  have s2 := h.ps.scal
  have h4 := lcost_loop h ho s hs (c.cost s) c.ps.length 0 (by omega) 0 rfl (by omega)
  simp only [Col.av] at h4 ⊢
  refine (callFL_eq fn39 rfl (by simp [Try.f39])).trans ?_
  simp (maxSteps := 1000000) (implicitDefEqProofs := false) (disch := first | rfl | omega | assumption) only [go_sem, ↓reduceIte, Nat.reduceEqDiff, Nat.reduceAdd, Nat.reduceLeDiff, Nat.reduceBEq, Nat.reduceMul, Nat.reduceLT, Int.reduceLT, Int.reduceLE, Int.reduceToNat, Int.reduceNeg, Int.reduceEq, Int.reduceMul, reduceCtorEq, Int.reduceBEq, Int.reduceBNe, Int.reduceAdd, Int.reduceSub, ltT, ltF, leT, leF, s1, s2, h.ps.len]
  exact h4 _ (by rfl) (by rfl) (by rfl) (by rfl) (by rfl)

end Go.Ab
/-
  ColourFewest, walked.
-/
namespace Go.Ab
open Go.Proofs
set_option linter.unusedSimpArgs false
set_option linter.unusedVariables false
set_option maxRecDepth 100000
set_option maxHeartbeats 4000000

variable {H : Heap}

theorem full_int {c : Col} : (((2 ^ c.ws.length : Nat) : Int) - 1) = (c.full : Int) := by
  have h3 := Nat.pow_pos (n := c.ws.length) (show 0 < 2 by omega)
  simp only [Col.full]
  omega

theorem full_set {c : Col} (ho : c.Ok) : c.isSet c.full = true ∧ c.full < 64 := by
  have h3 := Nat.pow_pos (n := c.ws.length) (show 0 < 2 by omega)
  have h2 : (2 : Nat) ^ c.ws.length ≤ 2 ^ 6 := Nat.pow_le_pow_right (by omega) ho.len.2
  constructor
  · rw [Col.isSet, full_int]
    exact wi_iff.2 ⟨by omega, by omega⟩
  · simp only [Col.full]; omega

theorem law_ColourFewest {c : Col} {vw vp : AV} (h : ColAt H c vw vp) (b8 : Int) (b3 : 0 ≤ b8 ∧ b8 ≤ 255) :
    callFL cfg0 prog0 false 8 [c.av vw vp, .int .u8 b8] H none = some ⟨.ret (.bool true), H, none⟩ := by
  have s1 := h.ws.scal
  have s2 := h.ps.scal
  have hH := fun G : Heap => law_heavy (h.app G) 30
  have hV := fun G : Heap => ref_Colour (h.app G)
  simp only [Col.av] at hH hV
  rcases Bool.eq_false_or_eq_true (c.heavy 30) with hh | hh
  · simp only [Col.av]
    refine (callFL_eq fn8 rfl (by simp [Try.f8])).trans ?_
    simp (maxSteps := 1000000) (implicitDefEqProofs := false) (disch := first | rfl | omega | assumption) only [go_sem, ↓reduceIte, Nat.reduceEqDiff, Nat.reduceAdd, Nat.reduceLeDiff, Nat.reduceBEq, Nat.reduceMul, Nat.reduceLT, Int.reduceLT, Int.reduceLE, Int.reduceToNat, Int.reduceNeg, Int.reduceEq, Int.reduceMul, reduceCtorEq, Int.reduceBEq, Int.reduceBNe, Int.reduceAdd, Int.reduceSub, s1, s2, hH, hh, law_alive]
  · have hlong : c.ws.length ≤ 40 ∧ c.ps.length ≤ 40 := by
      simp only [Col.heavy, Bool.or_eq_false_iff] at hh
      exact c.long_false hh.1
    rcases Bool.eq_false_or_eq_true c.valid with hv | hv
    · have ho := c.valid_iff.1 hv
      have hlen := ho.len
      obtain ⟨n3, rfl⟩ : ∃ n : Nat, b8 = n := ⟨b8.toNat, by omega⟩
      have t3 := shlI ho
      have t4 := sOf_bits ho (b := n3) (by omega)
      have hs := c.sOf_lt ho n3
      have hss := c.sOf_isSet ho n3
      have hfs := full_set ho
      have z : ¬ (c.ws.length : Int) < 0 := by omega
      have t5 : IntKind.i64.wrap ((2 ^ c.ws.length : Nat) - 1 : Int) = (c.full : Int) := by rw [full_int, w64 (by omega) (by omega)]
      rw [full_int] at t4
      have hcl := fun (G : Heap) (s : Nat) (hs : c.isSet s = true) => all_cl (H := H ++ .box (.agg [vw, vp, I c.lo, I c.hi, I c.ev, I c.er]) :: G) (p := H.length) (h.app _) (by omega) hv (by rw [get_at]; rfl) s hs
      simp only [callVL_func, List.cons_append, List.nil_append] at hcl
      have hfull := fun G : Heap => hcl G c.full hfs.1
      have hown := fun G : Heap => hcl G (c.sOf n3) hss
      have h1 := fun G : Heap => co_Fewest (h.app G) (by omega)
      have h2 := fun G : Heap => co_Cheapest (h.app G) (by omega)
      simp only [Col.few_eq, Col.bestR, hv, if_true] at h1 h2
      by_cases hg : c.good = []
      · have g1 : c.best (fun s => (pop s : Int)) = none := (best_none c _).2 hg
        have g2 : c.best c.cost = none := (best_none c _).2 hg
        have hnf : (c.leftN c.full == 0) = false := by simpa using (good_full c).1 hg
        simp only [g1] at h1
        simp only [g2] at h2
        simp only [Col.av] at h1 h2 ⊢
        refine (callFL_eq fn8 rfl (by simp [Try.f8])).trans ?_
        simp (maxSteps := 1000000) (implicitDefEqProofs := false) (disch := first | rfl | omega | assumption) only [go_sem, ↓reduceIte, Nat.reduceEqDiff, Nat.reduceAdd, Nat.reduceLeDiff, Nat.reduceBEq, Nat.reduceMul, Nat.reduceLT, Int.reduceLT, Int.reduceLE, Int.reduceToNat, Int.reduceNeg, Int.reduceEq, Int.reduceMul, reduceCtorEq, Int.reduceBEq, Int.reduceBNe, Int.reduceAdd, Int.reduceSub, s1, s2, hH, hh, hV, hv, t3, t5, z, h.ws.len, h1, h2, hfull, hnf, law_alive]
      · obtain ⟨b1, g1⟩ : ∃ b, c.best (fun s => (pop s : Int)) = some b := by
          cases hb : c.best (fun s => (pop s : Int)) with
          | none => exact absurd ((best_none c _).1 hb) hg
          | some b => exact ⟨b, rfl⟩
        obtain ⟨b2, g2⟩ : ∃ b, c.best c.cost = some b := by
          cases hb : c.best c.cost with
          | none => exact absurd ((best_none c _).1 hb) hg
          | some b => exact ⟨b, rfl⟩
        have hyf : (c.leftN c.full == 0) = true := by
          have : c.leftN c.full = 0 := Classical.byContradiction fun hn => hg ((good_full c).2 hn)
          simpa using this
        obtain ⟨k1, m1⟩ := best_some c _ g1
        obtain ⟨k2, m2⟩ := best_some c _ g2
        have q1 := (good_mem c b1).1 k1
        have q2 := (good_mem c b2).1 k2
        have r1 : c.isSet b1 = true := wi_iff.2 ⟨by omega, by omega⟩
        have r2 : c.isSet b2 = true := wi_iff.2 ⟨by omega, by omega⟩
        have i1 := ho.set_bd r1
        have i2 := ho.set_bd r2
        rw [Int.toNat_natCast] at i1 i2
        have f1 : (b1 : Int) ≤ c.full := by rw [← full_int]; omega
        have f2 : (b2 : Int) ≤ c.full := by rw [← full_int]; omega
        have x1 := fun G : Heap => hcl G b1 r1
        have x2 := fun G : Heap => hcl G b2 r2
        simp only [q1.2, beq_self_eq_true] at x1
        simp only [q2.2, beq_self_eq_true] at x2
        have y1 := fun G : Heap => ref_Size (H := G) b1 (by omega)
        have y2 := fun G : Heap => ref_Size (H := G) b2 (by omega)
        have y3 := fun G : Heap => ref_Size (H := G) (c.sOf n3) (by omega)
        have z1 := fun G : Heap => law_cost (h.app G) ho b1 (by omega)
        have z2 := fun G : Heap => law_cost (h.app G) ho b2 (by omega)
        have z3 := fun G : Heap => law_cost (h.app G) ho (c.sOf n3) (by omega)
        have w1 : ¬ c.cost b1 < c.cost b2 := by have := m2 b1 k1; omega
        have w2 : ¬ (pop b2 : Int) < pop b1 := by have := m1 b2 k2; omega
        simp only [g1] at h1
        simp only [g2] at h2
        simp only [Col.av] at h1 h2 z1 z2 z3 ⊢
        rcases Bool.eq_false_or_eq_true (c.leftN (c.sOf n3) == 0) with hx | hx
        · have hxg : c.sOf n3 ∈ c.good := (good_mem c _).2 ⟨hs.2, by simpa using hx⟩
          have v1 := m1 _ hxg
          have v2 := m2 _ hxg
          have u1 : (pop (c.sOf n3) : Int) > pop b1 ∨ (¬ (pop (c.sOf n3) : Int) > pop b1 ∧ ((pop (c.sOf n3) : Int) == pop b1) = true ∧ (c.sOf n3 : Int) ≥ b1) := by
            rcases v1 with v | ⟨v, w⟩
            · exact .inl v
            · exact .inr ⟨by omega, by simp; omega, by omega⟩
          have u2 : c.cost (c.sOf n3) > c.cost b2 ∨ (¬ c.cost (c.sOf n3) > c.cost b2 ∧ (c.cost (c.sOf n3) == c.cost b2) = true ∧ (c.sOf n3 : Int) ≥ b2) := by
            rcases v2 with v | ⟨v, w⟩
            · exact .inl v
            · exact .inr ⟨by omega, by simp; omega, by omega⟩
          simp only [gt_iff_lt, ge_iff_le] at u1 u2
          refine (callFL_eq fn8 rfl (by simp [Try.f8])).trans ?_
          rcases u1 with u1 | ⟨u1, u3, u4⟩ <;> rcases u2 with u2 | ⟨u2, u5, u6⟩
          · simp (maxSteps := 1000000) (implicitDefEqProofs := false) (disch := first | rfl | omega | assumption) only [go_sem, ↓reduceIte, Nat.reduceEqDiff, Nat.reduceAdd, Nat.reduceLeDiff, Nat.reduceBEq, Nat.reduceMul, Nat.reduceLT, Int.reduceLT, Int.reduceLE, Int.reduceToNat, Int.reduceNeg, Int.reduceEq, Int.reduceMul, reduceCtorEq, Int.reduceBEq, Int.reduceBNe, Int.reduceAdd, Int.reduceSub, ltT, ltF, leT, leF, s1, s2, hH, hh, hV, hv, t3, t4, t5, z, h.ws.len, h1, h2, hfull, hyf, law_alive, x1, x2, y1, y2, y3, z1, z2, z3, w1, w2, hown, hx, u1, u2]
          · simp (maxSteps := 1000000) (implicitDefEqProofs := false) (disch := first | rfl | omega | assumption) only [go_sem, ↓reduceIte, Nat.reduceEqDiff, Nat.reduceAdd, Nat.reduceLeDiff, Nat.reduceBEq, Nat.reduceMul, Nat.reduceLT, Int.reduceLT, Int.reduceLE, Int.reduceToNat, Int.reduceNeg, Int.reduceEq, Int.reduceMul, reduceCtorEq, Int.reduceBEq, Int.reduceBNe, Int.reduceAdd, Int.reduceSub, ltT, ltF, leT, leF, s1, s2, hH, hh, hV, hv, t3, t4, t5, z, h.ws.len, h1, h2, hfull, hyf, law_alive, x1, x2, y1, y2, y3, z1, z2, z3, w1, w2, hown, hx, u1, u2, u5, u6]
          · simp (maxSteps := 1000000) (implicitDefEqProofs := false) (disch := first | rfl | omega | assumption) only [go_sem, ↓reduceIte, Nat.reduceEqDiff, Nat.reduceAdd, Nat.reduceLeDiff, Nat.reduceBEq, Nat.reduceMul, Nat.reduceLT, Int.reduceLT, Int.reduceLE, Int.reduceToNat, Int.reduceNeg, Int.reduceEq, Int.reduceMul, reduceCtorEq, Int.reduceBEq, Int.reduceBNe, Int.reduceAdd, Int.reduceSub, ltT, ltF, leT, leF, s1, s2, hH, hh, hV, hv, t3, t4, t5, z, h.ws.len, h1, h2, hfull, hyf, law_alive, x1, x2, y1, y2, y3, z1, z2, z3, w1, w2, hown, hx, u1, u3, u4, u2]
          · simp (maxSteps := 1000000) (implicitDefEqProofs := false) (disch := first | rfl | omega | assumption) only [go_sem, ↓reduceIte, Nat.reduceEqDiff, Nat.reduceAdd, Nat.reduceLeDiff, Nat.reduceBEq, Nat.reduceMul, Nat.reduceLT, Int.reduceLT, Int.reduceLE, Int.reduceToNat, Int.reduceNeg, Int.reduceEq, Int.reduceMul, reduceCtorEq, Int.reduceBEq, Int.reduceBNe, Int.reduceAdd, Int.reduceSub, ltT, ltF, leT, leF, s1, s2, hH, hh, hV, hv, t3, t4, t5, z, h.ws.len, h1, h2, hfull, hyf, law_alive, x1, x2, y1, y2, y3, z1, z2, z3, w1, w2, hown, hx, u1, u3, u4, u2, u5, u6]
        · refine (callFL_eq fn8 rfl (by simp [Try.f8])).trans ?_
          simp (maxSteps := 1000000) (implicitDefEqProofs := false) (disch := first | rfl | omega | assumption) only [go_sem, ↓reduceIte, Nat.reduceEqDiff, Nat.reduceAdd, Nat.reduceLeDiff, Nat.reduceBEq, Nat.reduceMul, Nat.reduceLT, Int.reduceLT, Int.reduceLE, Int.reduceToNat, Int.reduceNeg, Int.reduceEq, Int.reduceMul, reduceCtorEq, Int.reduceBEq, Int.reduceBNe, Int.reduceAdd, Int.reduceSub, ltT, ltF, leT, leF, s1, s2, hH, hh, hV, hv, t3, t4, t5, z, h.ws.len, h1, h2, hfull, hyf, law_alive, x1, x2, y1, y2, y3, z1, z2, z3, w1, w2, hown, hx]
    · simp only [Col.av]
      refine (callFL_eq fn8 rfl (by simp [Try.f8])).trans ?_
      simp (maxSteps := 1000000) (implicitDefEqProofs := false) (disch := first | rfl | omega | assumption) only [go_sem, ↓reduceIte, Nat.reduceEqDiff, Nat.reduceAdd, Nat.reduceLeDiff, Nat.reduceBEq, Nat.reduceMul, Nat.reduceLT, Int.reduceLT, Int.reduceLE, Int.reduceToNat, Int.reduceNeg, Int.reduceEq, Int.reduceMul, reduceCtorEq, Int.reduceBEq, Int.reduceBNe, Int.reduceAdd, Int.reduceSub, s1, s2, hH, hh, hV, hv, law_alive]

end Go.Ab
/-
  ColourSpare, walked.
-/
namespace Go.Ab
open Go.Proofs
set_option linter.unusedSimpArgs false
set_option linter.unusedVariables false
set_option maxRecDepth 100000
set_option maxHeartbeats 4000000

variable {H : Heap}

theorem or_add2 : ∀ i : Nat, i < 6 → ∀ o : Nat, o < 64 → o < 2 ^ i → o ||| 2 ^ i = o + 2 ^ i := by decide +kernel
theorem bitN_not : ∀ s : Nat, s < 64 → ∀ i : Nat, i < 6 → s.testBit i = true → bitsOp .andNot .i64 (s : Int) ((2 ^ i : Nat) : Int) = some ((s - 2 ^ i : Nat) : Int) := by decide +kernel
theorem bitN_or : ∀ s : Nat, s < 64 → ∀ i : Nat, i < 6 → s.testBit i = false → bitsOp .or .i64 (s : Int) ((2 ^ i : Nat) : Int) = some ((s + 2 ^ i : Nat) : Int) := by decide +kernel
theorem bitN_sub : ∀ a : Nat, a < 64 → ∀ b : Nat, b < 64 → a &&& b = a → bitsOp .andNot .i64 (a : Int) (b : Int) = some 0 := by decide +kernel
theorem shl1 : ∀ i : Nat, i < 7 → IntKind.i64.wrap (1 * 2 ^ min i 64) = ((2 ^ i : Nat) : Int) := by decide +kernel
theorem add_lt64 : ∀ s : Nat, s < 64 → ∀ i : Nat, i < 6 → s.testBit i = false → s + 2 ^ i < 64 := by decide +kernel

def Col.sprF (c : Col) (s i : Nat) : Bool := s.testBit i && (c.leftN (s - 2 ^ i) == 0)

theorem spr_mask {c : Col} (ho : c.Ok) (s : Nat) : ∀ j, j ≤ c.ws.length → foldF (c.sprA s) 0 0 j = maskN (c.sprF s) j
  | 0, _ => rfl
  | j + 1, hj => by
    have hl := ho.len
    rw [foldF_snoc, spr_mask ho s j (by omega), Nat.zero_add, maskN, Col.sprA]
    have hlt := maskN_lt (c.sprF s) j
    have h6 : (2 : Nat) ^ j ≤ 2 ^ 6 := Nat.pow_le_pow_right (by omega) (by omega)
    change (if c.sprF s j = true then _ else _) = _
    cases c.sprF s j
    · simp
    · simp only [if_true]
      rw [or_add2 j (by omega) _ (by omega) hlt]

theorem spr_bit {c : Col} (ho : c.Ok) (s i : Nat) (hi : i < c.ws.length) : (c.spr s).testBit i = c.sprF s i := by
  rw [Col.spr, spr_mask ho s _ (Nat.le_refl _), maskN_bit]
  simp [hi]

theorem spr_sub {c : Col} (ho : c.Ok) (s : Nat) : c.spr s < 64 ∧ c.spr s &&& s = c.spr s := by
  have hl := ho.len
  have h6 : (2 : Nat) ^ c.ws.length ≤ 2 ^ 6 := Nat.pow_le_pow_right (by omega) hl.2
  have e : c.spr s = maskN (c.sprF s) c.ws.length := spr_mask ho s _ (Nat.le_refl _)
  have hlt := maskN_lt (c.sprF s) c.ws.length
  refine ⟨by omega, ?_⟩
  apply Nat.eq_of_testBit_eq
  intro i
  rw [Nat.testBit_and, e, maskN_bit]
  simp only [Col.sprF]
  cases s.testBit i <;> simp

/-- What is next, told. -/
theorem nxt_spec (c : Col) (s : Nat) : ((c.nxt s).1 < 0 ∧ ∀ k, k < c.ws.length → s.testBit k = true) ∨
    ∃ k : Nat, k < c.ws.length ∧ c.nxt s = ((k : Int), (c.leftN (s + 2 ^ k) : Int)) ∧ s.testBit k = false ∧ ∀ m, m < c.ws.length → s.testBit m = false → c.leftN (s + 2 ^ k) < c.leftN (s + 2 ^ m) ∨ (c.leftN (s + 2 ^ k) = c.leftN (s + 2 ^ m) ∧ k ≤ m) := by
  have := foldF_inv (c.nxtA s) (fun i p => (p.1 < 0 ∧ ∀ k, k < i → s.testBit k = true) ∨
    ∃ k : Nat, k < i ∧ p = ((k : Int), (c.leftN (s + 2 ^ k) : Int)) ∧ s.testBit k = false ∧ ∀ m, m < i → s.testBit m = false → c.leftN (s + 2 ^ k) < c.leftN (s + 2 ^ m) ∨ (c.leftN (s + 2 ^ k) = c.leftN (s + 2 ^ m) ∧ k ≤ m))
    c.ws.length 0 (-1, 0) (.inl ⟨by decide, fun k hk => by omega⟩) (fun i p _ hi hp => by
      simp only [Col.nxtA]
      rcases Bool.eq_false_or_eq_true (s.testBit i) with ht | ht
      · rw [if_pos ht]
        rcases hp with ⟨h1, h2⟩ | ⟨k, h1, h2, h3, h4⟩
        · refine .inl ⟨h1, fun k hk => ?_⟩
          by_cases e : k = i
          · subst e; exact ht
          · exact h2 k (by omega)
        · refine .inr ⟨k, by omega, h2, h3, fun m hm hb => ?_⟩
          have : m ≠ i := by rintro rfl; rw [ht] at hb; cases hb
          exact h4 m (by omega) hb
      · rw [if_neg (by simp [ht])]
        rcases hp with ⟨h1, h2⟩ | ⟨k, h1, h2, h3, h4⟩
        · rw [if_pos (.inl h1)]
          refine .inr ⟨i, by omega, rfl, ht, fun m hm hb => ?_⟩
          by_cases e : m = i
          · subst e; exact .inr ⟨rfl, Nat.le_refl _⟩
          · rw [h2 m (by omega)] at hb; cases hb
        · subst h2
          by_cases hl : c.leftN (s + 2 ^ i) < c.leftN (s + 2 ^ k)
          · rw [if_pos (.inr (by simp only; omega))]
            refine .inr ⟨i, by omega, rfl, ht, fun m hm hb => ?_⟩
            by_cases e : m = i
            · subst e; exact .inr ⟨rfl, Nat.le_refl _⟩
            · have := h4 m (by omega) hb
              omega
          · rw [if_neg (by simp only; omega)]
            refine .inr ⟨k, by omega, rfl, h3, fun m hm hb => ?_⟩
            by_cases e : m = i
            · subst e; omega
            · exact h4 m (by omega) hb)
  simp only [Nat.zero_add] at this
  exact this

theorem full_iff {c : Col} {s : Nat} (hs : s < 2 ^ c.ws.length) : (∀ k, k < c.ws.length → s.testBit k = true) ↔ s = c.full := by
  constructor
  · intro h
    apply Nat.eq_of_testBit_eq
    intro i
    rw [Col.full, Nat.testBit_two_pow_sub_one]
    by_cases hi : i < c.ws.length
    · rw [h i hi]; simp [hi]
    · rw [Nat.testBit_lt_two_pow (Nat.lt_of_lt_of_le hs (Nat.pow_le_pow_right (by omega) (by omega)))]
      simp [hi]
  · rintro rfl k hk
    exact full_bit c k hk

end Go.Ab
/-
  ColourMore: what is told with more, or less, in plain numbers.
-/
namespace Go.Ab
open Go.Proofs
set_option linter.unusedSimpArgs false
set_option linter.unusedVariables false
set_option maxRecDepth 100000

theorem sumN_mono {f g : Nat → Nat} : ∀ (q j : Nat), (∀ i, j ≤ i → i < j + q → f i ≤ g i) → sumN f j q ≤ sumN g j q
  | 0, _, _ => Nat.le_refl _
  | q + 1, j, h => by
    have h1 := sumN_mono q (j + 1) (fun i h1 h2 => h i (by omega) (by omega))
    have h2 := h j (by omega) (by omega)
    rw [sumN, sumN]
    omega

theorem sumN_more (f : Nat → Nat) : ∀ (q j r : Nat), sumN f j q ≤ sumN f j (q + r)
  | 0, _, _ => Nat.zero_le _
  | q + 1, j, r => by
    have h1 := sumN_more f q (j + 1) r
    rw [show q + 1 + r = (q + r) + 1 by omega, sumN, sumN]
    omega

theorem num_more (f : Nat → Bool) (q r j : Nat) : num f j q ≤ num f j (q + r) := by rw [num_add]; omega

theorem left_as (c : Col) (s : Nat) : c.leftN s = sumN (fun i => num (fun k => !c.meet s i k) 0 i) 0 c.manyN := by rw [Col.leftN, left_sum, Nat.zero_add]

/-- What parts two lengths of one colour parts them in another one, too. -/
def Parts (c d : Col) (s t : Nat) : Prop := d.manyN ≤ c.manyN ∧ ∀ a b, a < d.manyN → b < d.manyN → c.meet s a b = true → d.meet t a b = true

theorem Parts.num {c d : Col} {s t : Nat} (h : Parts c d s t) {i q : Nat} (hi : i < d.manyN) (hq : q ≤ d.manyN) : num (fun k => !d.meet t i k) 0 q ≤ num (fun k => !c.meet s i k) 0 q := by
  refine num_mono _ _ (fun k _ hk hd => ?_)
  cases hc : c.meet s i k
  · rfl
  · rw [h.2 i k hi (by omega) hc] at hd; cases hd

theorem Parts.left {c d : Col} {s t : Nat} (h : Parts c d s t) : d.leftN t ≤ c.leftN s := by
  rw [left_as, left_as]
  have h1 : sumN (fun i => Go.Ab.num (fun k => !d.meet t i k) 0 i) 0 d.manyN ≤ sumN (fun i => Go.Ab.num (fun k => !c.meet s i k) 0 i) 0 d.manyN := sumN_mono _ _ (fun i _ hi => h.num (by omega) (by omega))
  have h2 := sumN_more (fun i => Go.Ab.num (fun k => !c.meet s i k) 0 i) d.manyN 0 (c.manyN - d.manyN)
  have e : d.manyN + (c.manyN - d.manyN) = c.manyN := by have := h.1; omega
  rw [e] at h2
  omega

theorem Parts.worst {c d : Col} {s t : Nat} (h : Parts c d s t) : d.worstR t ≤ c.worstR s := by
  obtain ⟨h1, h2, h3⟩ := fmax_spec (fun i => ((foldF (c.cnt s i) 0 0 c.manyN : Nat) : Int)) c.manyN 0 0
  obtain ⟨k1, k2, k3⟩ := fmax_spec (fun i => ((foldF (d.cnt t i) 0 0 d.manyN : Nat) : Int)) d.manyN 0 0
  have e1 : c.worstR s = foldF (fun (w : Int) i => if w < ((foldF (c.cnt s i) 0 0 c.manyN : Nat) : Int) then ((foldF (c.cnt s i) 0 0 c.manyN : Nat) : Int) else w) 0 0 c.manyN := rfl
  have e2 : d.worstR t = foldF (fun (w : Int) i => if w < ((foldF (d.cnt t i) 0 0 d.manyN : Nat) : Int) then ((foldF (d.cnt t i) 0 0 d.manyN : Nat) : Int) else w) 0 0 d.manyN := rfl
  rw [← e1] at h1 h2 h3
  rw [← e2] at k1 k2 k3
  have hle := h.1
  rcases k3 with k3 | ⟨i, g1, g2, g3⟩
  · omega
  · rw [g3]
    refine Int.le_trans (Int.ofNat_le.2 ?_) (h2 i (Nat.zero_le _) (by omega))
    rw [cnt_num, cnt_num, Nat.zero_add, Nat.zero_add]
    refine Nat.le_trans (h.num (by omega) (Nat.le_refl _)) ?_
    have := num_more (fun k => !c.meet s i k) d.manyN (c.manyN - d.manyN) 0
    rwa [show d.manyN + (c.manyN - d.manyN) = c.manyN by omega] at this

theorem Parts.last {c d : Col} {s t : Nat} (h : Parts c d s t) (he : d.manyN = c.manyN) : c.last s ≤ d.last t := by
  obtain ⟨h1, h2, h3⟩ := last_spec (c.prL s) ((c.manyN : Int) - 1)
  obtain ⟨k1, k2, k3⟩ := last_spec (d.prL t) ((d.manyN : Int) - 1)
  have e1 : c.last s = (c.prL s).foldl (fun x p => lastF x p.1 p.2) ((c.manyN : Int) - 1) := by rw [Col.last, foldP_eq]
  have e2 : d.last t = (d.prL t).foldl (fun x p => lastF x p.1 p.2) ((d.manyN : Int) - 1) := by rw [Col.last, foldP_eq]
  rw [← e1] at h1 h2 h3
  rw [← e2] at k1 k2 k3
  rcases k3 with k3 | ⟨p, hp, k3⟩
  · omega
  · have hq := (d.prL_mem t p).1 hp
    rw [k3]
    refine h2 p ((c.prL_mem s p).2 ⟨hq.1, by omega, ?_⟩)
    cases hc : c.meet s p.1 p.2
    · rfl
    · rw [h.2 p.1 p.2 (by omega) hq.2.1 hc] at hq; cases hq.2.2

theorem lenAt_mono {c : Col} (ho : c.Ok) {a b : Nat} (h : a ≤ b) : c.lenAt a ≤ c.lenAt b := by
  have he := ho.ev
  have : (a : Int) * c.ev ≤ b * c.ev := Int.mul_le_mul_of_nonneg_right (by omega) (by omega)
  simp only [Col.lenAt]
  omega

theorem Parts.reach {c d : Col} {s t : Nat} (h : Parts c d s t) (hc : c.Ok) (hd : d.Ok) (he : d.manyN = c.manyN) (hl : d.lo = c.lo) (hv : d.ev = c.ev) : c.rchR s ≤ d.rchR t := by
  have h1 := h.last he
  have b1 := c.last_bd hc s
  rw [← c.last_eq hc, ← d.last_eq hd]
  have e : ∀ j, d.lenAt j = c.lenAt j := by intro j; simp only [Col.lenAt, hl, hv]
  rw [e]
  exact lenAt_mono hc (by omega)

/-- The same pairs. -/
theorem Parts.same {c d : Col} {s t : Nat} (h : Parts c d s t) (h' : Parts d c t s) : d.leftN t = c.leftN s ∧ d.worstR t = c.worstR s ∧ d.last t = c.last s := by
  have e : d.manyN = c.manyN := Nat.le_antisymm h.1 h'.1
  exact ⟨Nat.le_antisymm h.left h'.left, Int.le_antisymm h.worst h'.worst, Int.le_antisymm (h'.last e.symm) (h.last e)⟩

/-! ### A colour more -/

theorem Parts.add (c : Col) (s k : Nat) : Parts c c s (s ||| 2 ^ k) := by
  refine ⟨Nat.le_refl _, fun a b _ _ h => ?_⟩
  rw [c.meet_eq] at h ⊢
  exact partB_mono c (fun i _ hi => by rw [Nat.testBit_or, hi, Bool.true_or]) _ _ h

/-! ### A lesser error -/

theorem Parts.err (c : Col) (s : Nat) {e : Int} (he : e ≤ c.er) : Parts c { c with er := e } s s := by
  refine ⟨Nat.le_refl _, fun a b _ _ h => ?_⟩
  rw [Col.meet_eq] at h ⊢
  rw [Col.partB, anyF_iff] at h ⊢
  obtain ⟨i, h1, h2, h3⟩ := h
  refine ⟨i, h1, h2, ?_⟩
  rw [Bool.and_eq_true] at h3 ⊢
  refine ⟨h3.1, ?_⟩
  have h4 := h3.2
  simp only [Col.sep, decide_eq_true_eq] at h4 ⊢
  simp only [Col.lenAt] at h4 ⊢
  omega

/-! ### Fewer lengths -/

theorem Parts.few {c : Col} (ho : c.Ok) (s : Nat) {n : Int} (hn : n ≤ c.hi) : Parts c { c with hi := n } s s := by
  refine ⟨?_, fun a b _ _ h => ?_⟩
  · have := ho.ev
    have h1 : (n - c.lo) / c.ev ≤ (c.hi - c.lo) / c.ev := Int.ediv_le_ediv (by omega) (by omega)
    simp only [Col.manyN]
    omega
  · rw [Col.meet_eq] at h ⊢
    exact h

/-! ### Greater lengths -/

theorem ptZ_add {w p : Int} (hw : 0 < w) (hd : w ∣ p) (n : Int) : ptZ w (n + p) = ptZ w n := by
  obtain ⟨k, rfl⟩ := hd
  simp only [ptZ, Int.add_mul_emod_self_left]

def Col.up (c : Col) (p : Int) : Col := { c with lo := c.lo + p, hi := c.hi + p }

theorem up_many (c : Col) (p : Int) : (c.up p).manyN = c.manyN := by
  simp only [Col.manyN, Col.up]
  rw [show c.hi + p - (c.lo + p) = c.hi - c.lo by omega]

theorem up_meet {c : Col} (ho : c.Ok) {p : Int} (hp : ∀ i, i < c.ws.length → c.ws.getD i 0 ∣ p) (s a b : Nat) : (c.up p).meet s a b = c.meet s a b := by
  rw [Col.meet_eq, Col.meet_eq]
  have key : ∀ i, i < c.ws.length → ∀ j : Nat, ptZ (c.ws.getD i 0) ((c.up p).lenAt j) = ptZ (c.ws.getD i 0) (c.lenAt j) := by
    intro i hi j
    have hw := ho.ws i hi
    have e : (c.up p).lenAt j = c.lenAt j + p := by simp only [Col.lenAt, Col.up]; omega
    rw [e, ptZ_add (by omega) (hp i hi)]
  have any_congr : ∀ (f g : Nat → Bool) (q j : Nat), (∀ i, j ≤ i → i < j + q → f i = g i) → anyF f j q = anyF g j q := by
    intro f g q
    induction q with
    | zero => intro j _; rfl
    | succ q ih => intro j h; rw [anyF, anyF, h j (by omega) (by omega), ih (j + 1) (fun i h1 h2 => h i (by omega) (by omega))]
  refine any_congr _ _ _ _ (fun i _ hi => ?_)
  have hi' : i < c.ws.length := by have : (c.up p).ws.length = c.ws.length := rfl; omega
  have : (c.up p).sep ((c.up p).lenAt a) ((c.up p).lenAt b) i = c.sep (c.lenAt a) (c.lenAt b) i := by
    show decide _ = decide _
    rw [show (c.up p).ws = c.ws from rfl, key i hi' a, key i hi' b]; rfl
  rw [this]

theorem up_all {c : Col} (ho : c.Ok) {p : Int} (h0 : 0 ≤ p) (hhi : c.hi + p ≤ 2000) (hp : ∀ i, i < c.ws.length → c.ws.getD i 0 ∣ p) (s : Nat) : (c.up p).Ok ∧ (c.up p).leftN s = c.leftN s ∧ (c.up p).worstR s = c.worstR s ∧ (c.up p).rchR s = c.rchR s + p := by
  have hl := ho.lo
  have ok : (c.up p).Ok := ⟨ho.len, ho.plen, ho.ws, ho.ps, by simp only [Col.up]; omega, ho.ev, ho.er⟩
  have h1 : Parts c (c.up p) s s := ⟨by rw [up_many]; omega, fun a b _ _ h => by rw [up_meet ho hp]; exact h⟩
  have h2 : Parts (c.up p) c s s := ⟨by rw [up_many]; omega, fun a b _ _ h => by rw [up_meet ho hp] at h; exact h⟩
  obtain ⟨e1, e2, e3⟩ := h1.same h2
  refine ⟨ok, e1, e2, ?_⟩
  rw [← c.last_eq ho, ← (c.up p).last_eq ok, e3]
  simp only [Col.lenAt, Col.up]
  omega

/-- The product of waves, no further than needed. -/
def Col.perA (c : Col) (p : Int) (j : Nat) : Int := if p ≤ 2000 then p * c.ws.getD j 0 else p

theorem per_bd {c : Col} (ho : c.Ok) {p : Int} (h : 1 ≤ p ∧ p ≤ 120000) {j : Nat} (hj : j < c.ws.length) : 1 ≤ c.perA p j ∧ c.perA p j ≤ 120000 := by
  have hw := ho.ws j hj
  simp only [Col.perA]
  split
  · have h1 : p * 1 ≤ p * c.ws.getD j 0 := Int.mul_le_mul_of_nonneg_left (by omega) (by omega)
    have h2 : p * c.ws.getD j 0 ≤ 2000 * c.ws.getD j 0 := Int.mul_le_mul_of_nonneg_right (by omega) (by omega)
    omega
  · omega

theorem per_div {c : Col} (ho : c.Ok) : let p := foldF c.perA 1 0 c.ws.length; 1 ≤ p ∧ p ≤ 120000 ∧ (p ≤ 2000 → ∀ i, i < c.ws.length → c.ws.getD i 0 ∣ p) := by
  have := foldF_inv c.perA (fun j p => (1 ≤ p ∧ p ≤ 120000) ∧ (p ≤ 2000 → ∀ i, i < j → c.ws.getD i 0 ∣ p)) c.ws.length 0 1 ⟨by decide, fun _ i hi => by omega⟩ (fun j p _ hj h => by
    have b := per_bd ho h.1 (j := j) (by omega)
    refine ⟨b, fun hle i hi => ?_⟩
    simp only [Col.perA] at hle ⊢
    by_cases hp : p ≤ 2000
    · rw [if_pos hp]
      by_cases e : i = j
      · subst e; exact ⟨p, Int.mul_comm _ _⟩
      · exact Int.dvd_trans (h.2 hp i (by omega)) ⟨_, rfl⟩
    · rw [if_neg hp] at hle
      omega)
  rw [Nat.zero_add] at this
  exact ⟨this.1.1, this.1.2, this.2⟩

/-! ### A colour more to buy -/

theorem getD_snoc (l : List Int) (x : Int) {i : Nat} (h : i < l.length) : (l ++ [x]).getD i 0 = l.getD i 0 := by
  simp only [List.getD, List.getElem?_append_left h]

theorem getD_snoc' (l : List Int) (x : Int) : (l ++ [x]).getD l.length 0 = x := by
  simp only [List.getD, List.getElem?_concat_length, Option.getD_some]

def Col.buy (c : Col) (w p : Int) : Col := { c with ws := c.ws ++ [w], ps := c.ps ++ [p] }

theorem buy_ok {c : Col} (ho : c.Ok) (h6 : c.ws.length < 6) {w p : Int} (hw : 2 ≤ w ∧ w ≤ 60) (hp : 0 ≤ p ∧ p ≤ 50) : (c.buy w p).Ok := by
  have hpl := ho.plen
  have hl := ho.len
  refine ⟨by simp only [Col.buy, List.length_append, List.length_cons, List.length_nil]; omega, by simp only [Col.buy, List.length_append, List.length_cons, List.length_nil]; omega, fun i hi => ?_, fun i hi => ?_, ho.lo, ho.ev, ho.er⟩
  · simp only [Col.buy, List.length_append, List.length_cons, List.length_nil] at hi ⊢
    by_cases e : i < c.ws.length
    · rw [getD_snoc _ _ e]; exact ho.ws i e
    · rw [show i = c.ws.length by omega, getD_snoc']; exact hw
  · simp only [Col.buy, List.length_append, List.length_cons, List.length_nil] at hi ⊢
    by_cases e : i < c.ws.length
    · rw [getD_snoc _ _ (by omega)]; exact ho.ps i e
    · rw [show i = c.ps.length by omega, getD_snoc']; exact hp

theorem buy_good {c : Col} (ho : c.Ok) (w p : Int) {s : Nat} (hs : s ∈ c.good) : s ∈ (c.buy w p).good := by
  obtain ⟨h1, h2⟩ := (good_mem c s).1 hs
  refine (good_mem _ s).2 ⟨?_, ?_⟩
  · have : (c.buy w p).ws.length = c.ws.length + 1 := by simp [Col.buy]
    rw [this]
    exact Nat.lt_of_lt_of_le h1 (Nat.pow_le_pow_right (by omega) (by omega))
  · rw [left_zero] at h2 ⊢
    intro a b h3 h4
    have h5 := h2 a b h3 h4
    rw [Col.meet_eq, Col.partB, anyF_iff] at h5 ⊢
    obtain ⟨i, g1, g2, g3⟩ := h5
    rw [Nat.zero_add] at g2
    refine ⟨i, g1, by simp [Col.buy]; omega, ?_⟩
    have e : (c.buy w p).ws.getD i 0 = c.ws.getD i 0 := getD_snoc _ _ g2
    have : (c.buy w p).sep ((c.buy w p).lenAt a) ((c.buy w p).lenAt b) i = c.sep (c.lenAt a) (c.lenAt b) i := by
      show decide _ = decide _
      rw [e]; rfl
    rw [this]; exact g3

theorem buy_cost {c : Col} (ho : c.Ok) (w p : Int) {s : Nat} (hs : s < 2 ^ c.ws.length) : (c.buy w p).cost s = c.cost s := by
  have hpl := ho.plen
  have e : (c.buy w p).ps.length = c.ps.length + 1 := by simp [Col.buy]
  rw [Col.cost, e, foldF_snoc, Nat.zero_add, Col.costA, hpl, Nat.testBit_lt_two_pow hs, if_neg (by simp), ← hpl, Col.cost]
  refine foldF_congr _ _ _ (fun i n _ hi => ?_)
  simp only [Col.costA]
  rw [show (c.buy w p).ps.getD i 0 = c.ps.getD i 0 from getD_snoc _ _ (by omega)]

theorem best_is (c : Col) (cost : Nat → Int) (h : c.good ≠ []) : ∃ b, c.best cost = some b := by
  cases hb : c.best cost with
  | none => exact absurd ((best_none c _).1 hb) h
  | some b => exact ⟨b, rfl⟩

/-! ### Numbered otherwise -/

def Col.rev (c : Col) : Col := { c with ws := c.ws.reverse, ps := c.ps.reverse }

/-- A set, turned. -/
def turnA (n s : Nat) (t j : Nat) : Nat := if s.testBit j then t ||| 2 ^ (n - 1 - j) else t
def turnN (n s : Nat) : Nat := foldF (turnA n s) 0 0 n

theorem turn_lt : ∀ n : Nat, n < 7 → ∀ s : Nat, s < 64 → turnN n s < 2 ^ n := by decide +kernel
theorem turn_bit : ∀ n : Nat, n < 7 → ∀ s : Nat, s < 64 → ∀ i : Nat, i < n → (turnN n s).testBit i = s.testBit (n - 1 - i) := by decide +kernel
theorem turn_turn : ∀ n : Nat, n < 7 → ∀ s : Nat, s < 2 ^ n → turnN n (turnN n s) = s := by decide +kernel
theorem turn_pop : ∀ n : Nat, n < 7 → ∀ s : Nat, s < 2 ^ n → pop (turnN n s) = pop s := by decide +kernel
theorem turn_mid : ∀ n : Nat, n < 7 → ∀ s : Nat, s < 64 → ∀ j : Nat, j < 7 → foldF (turnA n s) 0 0 j < 64 := by decide +kernel

theorem getD_rev (l : List Int) {i : Nat} (h : i < l.length) : l.reverse.getD i 0 = l.getD (l.length - 1 - i) 0 := by
  simp only [List.getD, List.getElem?_reverse h]

theorem rev_ok {c : Col} (ho : c.Ok) : c.rev.Ok := by
  have hpl := ho.plen
  have hl := ho.len
  refine ⟨by simp only [Col.rev, List.length_reverse]; omega, by simp only [Col.rev, List.length_reverse]; omega, fun i hi => ?_, fun i hi => ?_, ho.lo, ho.ev, ho.er⟩
  · simp only [Col.rev, List.length_reverse] at hi ⊢
    rw [getD_rev _ hi]
    exact ho.ws _ (by omega)
  · simp only [Col.rev, List.length_reverse] at hi ⊢
    rw [getD_rev _ (by omega)]
    exact ho.ps _ (by omega)

theorem rev_rev (c : Col) : c.rev.rev = c := by simp [Col.rev]

theorem rev_sep (c : Col) (a b : Int) {i : Nat} (hi : i < c.ws.length) : c.rev.sep a b i = c.sep a b (c.ws.length - 1 - i) := by
  simp only [Col.sep, Col.rev, getD_rev _ hi]

theorem rev_meet1 {c : Col} (ho : c.Ok) {s : Nat} (hs : s < 64) (a b : Nat) (h : c.meet s a b = true) : c.rev.meet (turnN c.ws.length s) a b = true := by
  have hl := ho.len
  rw [Col.meet_eq, Col.partB, anyF_iff] at h ⊢
  obtain ⟨i, h1, h2, h3⟩ := h
  rw [Nat.zero_add] at h2
  have e : c.rev.ws.length = c.ws.length := by simp [Col.rev]
  refine ⟨c.ws.length - 1 - i, Nat.zero_le _, by rw [e]; omega, ?_⟩
  have hi : c.ws.length - 1 - i < c.ws.length := by omega
  rw [turn_bit _ (by omega) s hs _ hi, show c.rev.lenAt a = c.lenAt a from rfl, show c.rev.lenAt b = c.lenAt b from rfl, rev_sep c _ _ hi, show c.ws.length - 1 - (c.ws.length - 1 - i) = i by omega]
  exact h3

theorem rev_parts {c : Col} (ho : c.Ok) {s : Nat} (hs : s < 64) : Parts c c.rev s (turnN c.ws.length s) := ⟨Nat.le_refl _, fun a b _ _ h => rev_meet1 ho hs a b h⟩

theorem rev_parts' {c : Col} (ho : c.Ok) {s : Nat} (hs : s < 2 ^ c.ws.length) : Parts c.rev c (turnN c.ws.length s) s := by
  have hl := ho.len
  have h2 : (2 : Nat) ^ c.ws.length ≤ 2 ^ 6 := Nat.pow_le_pow_right (by omega) hl.2
  have h1 := turn_lt c.ws.length (by omega) s (by omega)
  have := rev_parts (rev_ok ho) (s := turnN c.ws.length s) (by omega)
  have e : c.rev.ws.length = c.ws.length := by simp [Col.rev]
  rw [rev_rev, e, turn_turn _ (by omega) s hs] at this
  exact this

theorem rev_same {c : Col} (ho : c.Ok) {s : Nat} (hs : s < 2 ^ c.ws.length) : c.rev.leftN (turnN c.ws.length s) = c.leftN s ∧ c.rev.worstR (turnN c.ws.length s) = c.worstR s := by
  have hl := ho.len
  have h2 : (2 : Nat) ^ c.ws.length ≤ 2 ^ 6 := Nat.pow_le_pow_right (by omega) hl.2
  have := (rev_parts ho (s := s) (by omega)).same (rev_parts' ho hs)
  exact ⟨this.1, this.2.1⟩

theorem rev_good {c : Col} (ho : c.Ok) {s : Nat} (hs : s ∈ c.good) : turnN c.ws.length s ∈ c.rev.good := by
  have hl := ho.len
  obtain ⟨h1, h2⟩ := (good_mem c s).1 hs
  have h3 : (2 : Nat) ^ c.ws.length ≤ 2 ^ 6 := Nat.pow_le_pow_right (by omega) hl.2
  have e : c.rev.ws.length = c.ws.length := by simp [Col.rev]
  exact (good_mem _ _).2 ⟨by rw [e]; exact turn_lt _ (by omega) s (by omega), by rw [(rev_same ho h1).1]; exact h2⟩

/-- A sum of the first numbers. -/
def gs (f : Nat → Int) : Nat → Int
  | 0 => 0
  | q + 1 => gs f q + f q

theorem gs_front (f : Nat → Int) : ∀ q, gs f (q + 1) = f 0 + gs (fun i => f (i + 1)) q
  | 0 => by simp [gs]
  | q + 1 => by rw [gs, gs_front f q, gs]; omega

theorem gs_congr {f g : Nat → Int} : ∀ q, (∀ i, i < q → f i = g i) → gs f q = gs g q
  | 0, _ => rfl
  | q + 1, h => by rw [gs, gs, gs_congr q (fun i hi => h i (by omega)), h q (by omega)]

theorem gs_rev (f : Nat → Int) : ∀ q, gs (fun i => f (q - 1 - i)) q = gs f q
  | 0 => rfl
  | q + 1 => by
    rw [gs_front, gs]
    have : gs (fun i => f (q + 1 - 1 - (i + 1))) q = gs f q := by
      rw [← gs_rev f q]
      exact gs_congr q (fun i _ => by rw [show q + 1 - 1 - (i + 1) = q - 1 - i by omega])
    rw [this, Nat.add_sub_cancel, Nat.sub_zero]
    omega

theorem cost_gs (c : Col) (s : Nat) : c.cost s = gs (fun i => if s.testBit i then c.ps.getD i 0 else 0) c.ps.length := by
  have key : ∀ q, foldF (c.costA s) 0 0 q = gs (fun i => if s.testBit i then c.ps.getD i 0 else 0) q := by
    intro q
    induction q with
    | zero => rfl
    | succ q ih =>
      rw [foldF_snoc, ih, Nat.zero_add, Col.costA, gs]
      split <;> omega
  exact key _

theorem rev_cost {c : Col} (ho : c.Ok) {s : Nat} (hs : s < 64) : c.rev.cost (turnN c.ws.length s) = c.cost s := by
  have hl := ho.len
  have hpl := ho.plen
  have e : c.rev.ps.length = c.ps.length := by simp [Col.rev]
  rw [cost_gs, cost_gs, e, ← gs_rev]
  refine gs_congr _ (fun i hi => ?_)
  rw [turn_bit _ (by omega) s hs _ (by omega), show c.rev.ps.getD (c.ps.length - 1 - i) 0 = c.ps.getD i 0 by
    show c.ps.reverse.getD _ 0 = _
    rw [getD_rev _ (by omega)]
    congr 1
    omega]
  rw [show c.ws.length - 1 - (c.ps.length - 1 - i) = i by omega]

theorem best_le {c d : Col} {f g : Nat → Int} (h : ∀ s ∈ c.good, ∃ t ∈ d.good, g t ≤ f s) {b : Nat} (hb : c.best f = some b) : ∃ b', d.best g = some b' ∧ g b' ≤ f b := by
  obtain ⟨h1, -⟩ := best_some c f hb
  obtain ⟨t, h2, h3⟩ := h b h1
  obtain ⟨b', h4⟩ := best_is d g (by intro e; rw [e] at h2; cases h2)
  obtain ⟨-, h5⟩ := best_some d g h4
  have := h5 t h2
  exact ⟨b', h4, by omega⟩

/-- What is needed, and what it costs. -/
def Col.least (c : Col) (f : Nat → Int) : Option Int := (c.best f).map f

theorem least_some {c : Col} {f : Nat → Int} {n : Int} : c.least f = some n ↔ ∃ b, c.best f = some b ∧ f b = n := by
  simp [Col.least]

theorem least_none (c : Col) (f g : Nat → Int) : c.least f = none ↔ c.least g = none := by
  simp only [Col.least, Option.map_eq_none_iff, best_none]

theorem least_le {c d : Col} {f g : Nat → Int} (h : ∀ s ∈ c.good, ∃ t ∈ d.good, g t ≤ f s) {n : Int} (hn : c.least f = some n) : ∃ m, d.least g = some m ∧ m ≤ n := by
  obtain ⟨b, h1, rfl⟩ := least_some.1 hn
  obtain ⟨b', h2, h3⟩ := best_le h h1
  exact ⟨g b', least_some.2 ⟨b', h2, rfl⟩, h3⟩

theorem least_eq {c d : Col} {f g : Nat → Int} (h : ∀ s ∈ c.good, ∃ t ∈ d.good, g t ≤ f s) (h' : ∀ s ∈ d.good, ∃ t ∈ c.good, f t ≤ g s) : d.least g = c.least f := by
  cases hc : c.least f with
  | none =>
    cases hd : d.least g with
    | none => rfl
    | some n =>
      obtain ⟨m, h1, -⟩ := least_le h' hd
      rw [hc] at h1; cases h1
  | some n =>
    obtain ⟨m, h1, h2⟩ := least_le h hc
    obtain ⟨k, h3, h4⟩ := least_le h' h1
    rw [hc] at h3
    injection h3 with h3
    rw [h1]
    congr 1
    omega

theorem buy_least {c : Col} (ho : c.Ok) (w p : Int) {n : Int} : (c.least (fun s => pop s) = some n → ∃ m, (c.buy w p).least (fun s => pop s) = some m ∧ m ≤ n) ∧ (c.least c.cost = some n → ∃ m, (c.buy w p).least (c.buy w p).cost = some m ∧ m ≤ n) :=
  ⟨least_le fun s hs => ⟨s, buy_good ho w p hs, Int.le_refl _⟩, least_le fun s hs => ⟨s, buy_good ho w p hs, by rw [buy_cost ho w p ((good_mem c s).1 hs).1]; exact Int.le_refl _⟩⟩

theorem rev_least {c : Col} (ho : c.Ok) : c.rev.least (fun s => pop s) = c.least (fun s => pop s) ∧ c.rev.least c.rev.cost = c.least c.cost := by
  have hl := ho.len
  have e : c.rev.ws.length = c.ws.length := by simp [Col.rev]
  have h3 : (2 : Nat) ^ c.ws.length ≤ 2 ^ 6 := Nat.pow_le_pow_right (by omega) hl.2
  have back : ∀ s ∈ c.rev.good, turnN c.ws.length s ∈ c.good ∧ s < 2 ^ c.ws.length := by
    intro s hs
    have h1 := rev_good (rev_ok ho) hs
    rw [rev_rev, e] at h1
    have h2 := ((good_mem _ s).1 hs).1
    rw [e] at h2
    exact ⟨h1, h2⟩
  refine ⟨least_eq (fun s hs => ⟨_, rev_good ho hs, ?_⟩) (fun s hs => ⟨_, (back s hs).1, ?_⟩), least_eq (fun s hs => ⟨_, rev_good ho hs, ?_⟩) (fun s hs => ⟨_, (back s hs).1, ?_⟩)⟩
  · simp only [turn_pop _ (show c.ws.length < 7 by omega) s ((good_mem c s).1 hs).1]; exact Int.le_refl _
  · simp only [turn_pop _ (show c.ws.length < 7 by omega) s (back s hs).2]; exact Int.le_refl _
  · have := ((good_mem c s).1 hs).1
    rw [rev_cost ho (by omega)]; exact Int.le_refl _
  · have h1 := (back s hs).2
    have := rev_cost (rev_ok ho) (s := s) (by omega)
    rw [rev_rev, e] at this
    rw [this]; exact Int.le_refl _

/-- What the package answers, by what is least. -/
theorem least_R {c : Col} (hv : c.valid = true) (f : Nat → Int) : (c.least f = none ∧ c.bestR f = (0, 0, 4)) ∨ ∃ (n : Int) (b : Nat), c.least f = some n ∧ c.bestR f = (n, (b : Int), 0) := by
  simp only [Col.least, Col.bestR, hv, if_true]
  cases h : c.best f with
  | none => exact .inl ⟨rfl, rfl⟩
  | some b => exact .inr ⟨_, b, rfl, rfl⟩

end Go.Ab
/-
  ColourMore, walked: its loops, and its end.
-/
namespace Go.Ab
open Go.Proofs
set_option linter.unusedSimpArgs false
set_option linter.unusedVariables false
set_option maxRecDepth 100000
set_option maxHeartbeats 4000000

variable {H : Heap}

theorem bitN_or' : ∀ s : Nat, s < 64 → ∀ i : Nat, i < 6 → bitsOp .or .i64 (s : Int) ((2 ^ i : Nat) : Int) = some ((s ||| 2 ^ i : Nat) : Int) := by decide +kernel
theorem or_lt64 : ∀ s : Nat, s < 64 → ∀ i : Nat, i < 6 → s ||| 2 ^ i < 64 := by decide +kernel

theorem ld_ne {k m : Nat} {o : Option Nat} {r : Lds} (h : m ≠ k) : getAt (addLd k o r) m = getAt r m := by
  cases o
  · rfl
  · simp only [addLd, getAt]; rw [if_neg (Ne.symm h)]

theorem ld_eq {k : Nat} {o : Option Nat} {r : Lds} : getAt (addLd k o r) k = o.or (getAt r k) := by
  cases o
  · simp [addLd]
  · simp [addLd, getAt]

/-- What lies at a slice that was there before has not turned by what is made later. -/
theorem SlOk.old {sz : Nat} {v : AV} {xs : List AV} (h : SlOk H sz v xs) (A B : Heap) : pairM (some (H ++ A, H ++ B)) (gslOf v) = true := by
  rcases h.obj with hg | ⟨l, hg, hlt, hget⟩
  · rw [hg]; rfl
  · rw [hg, pairM_some]
    have hs : ∀ l : List AV, sameL l l = true := fun l => by
      induction l with
      | nil => rfl
      | cons x r ih => simp [sameL, AV.same_refl, ih]
    simp only [sameAt, List.getElem?_append_left hlt, hget, AO.same, hs]
    simp

theorem or_none' (o : Option Nat) : o.or none = o := by cases o <;> rfl

theorem take_rev {l xs : List Int} {j : Nat} (hx : xs = l.reverse.take j) (hj : j < l.length) : xs ++ [l.getD (l.length - 1 - j) 0] = l.reverse.take (j + 1) := by
  rw [List.take_add_one, hx, List.getElem?_reverse hj]
  have : l.length - 1 - j < l.length := by omega
  rw [List.getD, List.getElem?_eq_getElem this]
  rfl

theorem more_l56 {c : Col} {vw vp : AV} (h : ColAt H c vw vp) (ho : c.Ok) (G : Heap) (v40 : AV) (h40 : SlOk (H ++ (.box (.agg [vw, vp, I c.lo, I c.hi, I c.ev, I c.er]) :: G)) 1 v40 (c.ws.map I)) :
    ∀ (q j : Nat), j + q = c.ws.length → ∀ E : Env, E.get 4 = .ptr H.length 0 → E.get 40 = v40 → E.get 446 = I c.ws.length → E.get 447 = I j →
    Option.map (finishC H.length) (execL cfg0 prog0 ⟨10, none, false, H.length⟩ (todoAt Try.f10 56) ⟨E, [], H ++ (.box (.agg [vw, vp, I c.lo, I c.hi, I c.ev, I c.er]) :: G), none⟩) = some ⟨.ret (.bool true), H, none⟩ := by
  intro q
  have hl := ho.len
  obtain ⟨a1, a2, a3, a4⟩ := h.ws.fI
  obtain ⟨b1, b2, b3, b4⟩ := h40.fI
  induction q with
  | zero =>
    intro j hj  E g4 g40 g446 g447
    have hk' : ¬ (j : Int) < ((c.ws.length : Nat) : Int) := by omega
    simp only [loopIt, todoPast, todoAt, todoOf, firstReg, ↓reduceIte, Option.some.injEq, Nat.reduceEqDiff, reduceCtorEq, Try.f10]
    rw [execL_inLoop]
    simp (maxSteps := 1000000) (implicitDefEqProofs := false) (disch := first | rfl | omega | assumption) only [go_sem, ↓reduceIte, Nat.reduceEqDiff, Nat.reduceAdd, Nat.reduceLeDiff, Nat.reduceBEq, Nat.reduceMul, Nat.reduceLT, Int.reduceLT, Int.reduceLE, Int.reduceToNat, Int.reduceNeg, Int.reduceEq, Int.reduceMul, reduceCtorEq, Int.reduceBEq, Int.reduceBNe, Int.reduceAdd, Int.reduceSub, g4, g40, g446, g447, ltT, ltF, leT, leF, hk', law_alive]
  | succ q ih =>
    intro j hj  E g4 g40 g446 g447
    have hk' : (j : Int) < ((c.ws.length : Nat) : Int) := by omega
    have hk2 : j < c.ws.length := by omega
    simp only [loopIt, todoPast, todoAt, todoOf, firstReg, ↓reduceIte, Option.some.injEq, Nat.reduceEqDiff, reduceCtorEq, Try.f10]
    rw [execL_inLoop]
    simp (maxSteps := 1000000) (implicitDefEqProofs := false) (disch := first | rfl | omega | assumption) only [go_sem, ↓reduceIte, Nat.reduceEqDiff, Nat.reduceAdd, Nat.reduceLeDiff, Nat.reduceBEq, Nat.reduceMul, Nat.reduceLT, Int.reduceLT, Int.reduceLE, Int.reduceToNat, Int.reduceNeg, Int.reduceEq, Int.reduceMul, reduceCtorEq, Int.reduceBEq, Int.reduceBNe, Int.reduceAdd, Int.reduceSub, g4, g40, g446, g447, ltT, ltF, leT, leF, hk']
    rw [chkK_of]; rotate_left; kernel_rfl
    simp (maxSteps := 1000000) (implicitDefEqProofs := false) (disch := first | rfl | omega | assumption) only [go_sem, ↓reduceIte, Nat.reduceEqDiff, Nat.reduceAdd, Nat.reduceLeDiff, Nat.reduceBEq, Nat.reduceMul, Nat.reduceLT, Int.reduceLT, Int.reduceLE, Int.reduceToNat, Int.reduceNeg, Int.reduceEq, Int.reduceMul, reduceCtorEq, Int.reduceBEq, Int.reduceBNe, Int.reduceAdd, Int.reduceSub, g4, g40, g446, g447, ltT, ltF, leT, leF, hk', a1, a2, a3, a4, b1, b2, b3, b4]
    exact ih (j + 1) (by omega) _ (by exact g4) (by exact g40) (by exact g446) (by rfl)

theorem more_l34 {c : Col} {vw vp : AV} (h : ColAt H c vw vp) (ho : c.Ok) {s : Nat} (hs : s < 64) (o1 o2 o3 o5 o6 : AO) (r : Nat) (p : Int) (a11 a12 a14 a16 a18 a19 a21 : Int) (K : List Item) (R : Option Done) (hK : ∀ E : Env, E.get 4 = .ptr H.length 0 → E.get 9 = I c.ws.length → E.get 10 = I s → E.get 11 = I a11 → E.get 12 = I a12 → E.get 14 = I a14 → E.get 16 = I a16 → E.get 18 = I a18 → E.get 19 = I a19 → E.get 21 = I a21 → E.get 25 = .ptr (H.length + 4) 0 → E.get 37 = I r → E.get 38 = I p → Option.map (finishC H.length) (execL cfg0 prog0 ⟨10, none, false, H.length⟩ K ⟨E, [], H ++ [.box (.agg [vw, vp, I c.lo, I c.hi, I c.ev, I c.er]), o1, o2, o3, .box (.agg [.gsl (H.length + 7) c.ws.length, .gsl (H.length + 8) c.ws.length, I c.lo, I c.hi, I c.ev, I c.er]), o5, o6, .grow 1 (c.rev.ws.map I), .grow 1 (c.rev.ps.map I)], none⟩) = R)  :
    ∀ (q j : Nat), j + q = c.ws.length → ∀ (xs ys : List Int), xs = c.rev.ws.take j → ys = c.rev.ps.take j → ∀ (t : Nat), foldF (turnA c.ws.length s) t j q = r → t < 64 → ∀ (pe : Int), foldF c.perA pe j q = p → 1 ≤ pe ∧ pe ≤ 120000 → ∀ E : Env, E.get 4 = .ptr H.length 0 → E.get 9 = I c.ws.length → E.get 10 = I s → E.get 11 = I a11 → E.get 12 = I a12 → E.get 14 = I a14 → E.get 16 = I a16 → E.get 18 = I a18 → E.get 19 = I a19 → E.get 21 = I a21 → E.get 25 = .ptr (H.length + 4) 0 → E.get 37 = I t → E.get 38 = I pe → E.get 283 = I c.ws.length → E.get 284 = I j →
    Option.map (finishC H.length) (execL cfg0 prog0 ⟨10, none, false, H.length⟩ (loopIt Try.f10 34 :: .inBlock 0 :: K) ⟨E, [], H ++ [.box (.agg [vw, vp, I c.lo, I c.hi, I c.ev, I c.er]), o1, o2, o3, .box (.agg [.gsl (H.length + 7) j, .gsl (H.length + 8) j, I c.lo, I c.hi, I c.ev, I c.er]), o5, o6, .grow 1 (xs.map I), .grow 1 (ys.map I)], none⟩) = R := by
  intro q
  have hl := ho.len
  have hpl := ho.plen
  obtain ⟨a1, a2, a3, a4⟩ := h.ws.fI
  obtain ⟨b1, b2, b3, b4⟩ := h.ps.fI
  have s1 := h.ws.scal
  have s2 := h.ps.scal
  have o1' := h.ws.old
  have o2' := h.ps.old
  have o3' := fun k off => ptrOf_elA (k := k) (off := off) h.ws
  have o4' := fun k off => ptrOf_elA (k := k) (off := off) h.ps
  have rl : c.rev.ws.length = c.ws.length := by simp [Col.rev]
  have rpl : c.rev.ps.length = c.ws.length := by simp [Col.rev]; omega
  induction q with
  | zero =>
    intro j hj xs ys hx hy t ht htb pe hp hpb E g4 g9 g10 g11 g12 g14 g16 g18 g19 g21 g25 g37 g38 g283 g284
    have hk' : ¬ (j : Int) < ((c.ws.length : Nat) : Int) := by omega
    simp only [foldF] at ht hp
    subst ht
    subst hp
    have ej : j = c.ws.length := by omega
    have ex : xs = c.rev.ws := by rw [hx, List.take_of_length_le (by omega)]
    have ey : ys = c.rev.ps := by rw [hy, List.take_of_length_le (by omega)]
    subst ej
    subst ex
    subst ey
    simp only [loopIt, todoPast, todoAt, todoOf, firstReg, ↓reduceIte, Option.some.injEq, Nat.reduceEqDiff, reduceCtorEq, Try.f10]
    rw [execL_inLoop]
    simp (maxSteps := 1000000) (implicitDefEqProofs := false) (disch := first | rfl | omega | assumption) only [go_sem, ↓reduceIte, Nat.reduceEqDiff, Nat.reduceAdd, Nat.reduceLeDiff, Nat.reduceBEq, Nat.reduceMul, Nat.reduceLT, Int.reduceLT, Int.reduceLE, Int.reduceToNat, Int.reduceNeg, Int.reduceEq, Int.reduceMul, reduceCtorEq, Int.reduceBEq, Int.reduceBNe, Int.reduceAdd, Int.reduceSub, g4, g9, g10, g11, g12, g14, g16, g18, g19, g21, g25, g37, g38, g283, g284, ltT, ltF, leT, leF, hk']
    exact hK _ (by exact g4) (by exact g9) (by exact g10) (by exact g11) (by exact g12) (by exact g14) (by exact g16) (by exact g18) (by exact g19) (by exact g21) (by exact g25) (by exact g37) (by exact g38)
  | succ q ih =>
    intro j hj xs ys hx hy t ht htb pe hp hpb E g4 g9 g10 g11 g12 g14 g16 g18 g19 g21 g25 g37 g38 g283 g284
    have hk' : (j : Int) < ((c.ws.length : Nat) : Int) := by omega
    have hk2 : j < c.ws.length := by omega
    have ej : (c.ws.length : Int) - 1 - (j : Int) = ((c.ws.length - 1 - j : Nat) : Int) := by omega
    have hkb : c.ws.length - 1 - j < c.ws.length := by omega
    have hkb' : ((c.ws.length - 1 - j : Nat) : Int) < (c.ps.length : Int) := by omega
    have hw := ho.ws j hk2
    have pb := per_bd ho hpb hk2
    have ex : xs ++ [c.ws.getD (c.ws.length - 1 - j) 0] = c.rev.ws.take (j + 1) := take_rev hx (by omega)
    have ey : ys ++ [c.ps.getD (c.ws.length - 1 - j) 0] = c.rev.ps.take (j + 1) := by rw [← hpl]; exact take_rev hy (by omega)
    have xl : xs.length = j := by rw [hx, List.length_take]; omega
    have yl : ys.length = j := by rw [hy, List.length_take]; omega
    have f1 : ∀ (x : Int) (b0 b4 : AO) (ys : List AV), addElem (H ++ [b0, o1, o2, o3, b4, o5, o6, .grow 1 (xs.map I), .grow 1 ys]) 1 false (.gsl (H.length + 7) j) [I x] = some (.gsl (H.length + 7) (j + 1), H ++ [b0, o1, o2, o3, b4, o5, o6, .grow 1 ((xs ++ [x]).map I), .grow 1 ys]) := by
      intro x b0 b4 ys
      rw [add_gsl (by simp [get_at']; rfl) (by simp [xl]) rfl rfl (by simp; omega), set_at']
      simp
    have f2 : ∀ (x : Int) (b0 b4 : AO) (xs : List AV), addElem (H ++ [b0, o1, o2, o3, b4, o5, o6, .grow 1 xs, .grow 1 (ys.map I)]) 1 false (.gsl (H.length + 8) j) [I x] = some (.gsl (H.length + 8) (j + 1), H ++ [b0, o1, o2, o3, b4, o5, o6, .grow 1 xs, .grow 1 ((ys ++ [x]).map I)]) := by
      intro x b0 b4 xs
      rw [add_gsl (by simp [get_at']; rfl) (by simp [yl]) rfl rfl (by simp; omega), set_at']
      simp
    have e1 := shrI (s := s) (j := j) (by omega)
    have e2 : s / 2 ^ j ≤ s := Nat.div_le_self _ _
    have e3 : bitsOp .and .i64 ((s / 2 ^ j : Nat) : Int) 1 = some ((s / 2 ^ j &&& 1 : Nat) : Int) := bitsAndI (b := 1) (by omega) (by decide)
    have e4 := and_one (s := s) (j := j)
    have z : ¬ (j : Int) < 0 := by omega
    have z2 : ¬ ((c.ws.length - 1 - j : Nat) : Int) < 0 := by omega
    have sh := shl1 (c.ws.length - 1 - j) (by omega)
    have bo := bitN_or' t htb (c.ws.length - 1 - j) (by omega)
    have bl := or_lt64 t htb (c.ws.length - 1 - j) (by omega)
    simp only [foldF, turnA, Col.perA] at ht hp
    have e5 : IntKind.i64.wrap (pe * c.ws.getD j 0) = pe * c.ws.getD j 0 ∨ ¬ pe ≤ 2000 := by
      by_cases hp2 : pe ≤ 2000
      · left
        simp only [Col.perA, if_pos hp2] at pb
        exact w64 (by omega) (by omega)
      · exact .inr hp2
    rcases Bool.eq_false_or_eq_true (s.testBit j) with hc | hc
    · simp only [hc, if_true] at ht
      by_cases hp2 : pe ≤ 2000
      · have e6 := e5.resolve_right (fun hn => hn hp2)
        rw [if_pos hp2] at hp
        simp only [Col.perA, if_pos hp2] at pb
        simp only [loopIt, todoPast, todoAt, todoOf, firstReg, ↓reduceIte, Option.some.injEq, Nat.reduceEqDiff, reduceCtorEq, Try.f10]
        rw [execL_inLoop]
        simp (maxSteps := 1000000) (implicitDefEqProofs := false) (disch := first | rfl | omega | assumption) only [go_sem, ↓reduceIte, Nat.reduceEqDiff, Nat.reduceAdd, Nat.reduceLeDiff, Nat.reduceBEq, Nat.reduceMul, Nat.reduceLT, Int.reduceLT, Int.reduceLE, Int.reduceToNat, Int.reduceNeg, Int.reduceEq, Int.reduceMul, reduceCtorEq, Int.reduceBEq, Int.reduceBNe, Int.reduceAdd, Int.reduceSub, g4, g9, g10, g11, g12, g14, g16, g18, g19, g21, g25, g37, g38, g283, g284, ltT, ltF, leT, leF, hk', s1, s2]
        rw [chkK_of]; rotate_left; kernel_rfl
        simp (maxSteps := 1000000) (implicitDefEqProofs := false) (disch := first | rfl | omega | assumption) only [go_sem, ↓reduceIte, Nat.reduceEqDiff, Nat.reduceAdd, Nat.reduceLeDiff, Nat.reduceBEq, Nat.reduceMul, Nat.reduceLT, Int.reduceLT, Int.reduceLE, Int.reduceToNat, Int.reduceNeg, Int.reduceEq, Int.reduceMul, reduceCtorEq, Int.reduceBEq, Int.reduceBNe, Int.reduceAdd, Int.reduceSub, g4, g9, g10, g11, g12, g14, g16, g18, g19, g21, g25, g37, g38, g283, g284, ltT, ltF, leT, leF, hk', a1, a2, a3, a4, b1, b2, b3, b4, o1', o2', o3', o4', ld_ne, ld_eq, or_none', ej, hkb', f1, f2, e1, e3, e4, hc, z, z2, sh, bo, hp2, e6]
        exact ih (j + 1) (by omega) _ _ ex ey _ ht bl _ hp pb _ (by exact g4) (by exact g9) (by exact g10) (by exact g11) (by exact g12) (by exact g14) (by exact g16) (by exact g18) (by exact g19) (by exact g21) (by exact g25) (by rfl) (by rfl) (by exact g283) (by rfl)
      · rw [if_neg hp2] at hp
        simp only [loopIt, todoPast, todoAt, todoOf, firstReg, ↓reduceIte, Option.some.injEq, Nat.reduceEqDiff, reduceCtorEq, Try.f10]
        rw [execL_inLoop]
        simp (maxSteps := 1000000) (implicitDefEqProofs := false) (disch := first | rfl | omega | assumption) only [go_sem, ↓reduceIte, Nat.reduceEqDiff, Nat.reduceAdd, Nat.reduceLeDiff, Nat.reduceBEq, Nat.reduceMul, Nat.reduceLT, Int.reduceLT, Int.reduceLE, Int.reduceToNat, Int.reduceNeg, Int.reduceEq, Int.reduceMul, reduceCtorEq, Int.reduceBEq, Int.reduceBNe, Int.reduceAdd, Int.reduceSub, g4, g9, g10, g11, g12, g14, g16, g18, g19, g21, g25, g37, g38, g283, g284, ltT, ltF, leT, leF, hk', s1, s2]
        rw [chkK_of]; rotate_left; kernel_rfl
        simp (maxSteps := 1000000) (implicitDefEqProofs := false) (disch := first | rfl | omega | assumption) only [go_sem, ↓reduceIte, Nat.reduceEqDiff, Nat.reduceAdd, Nat.reduceLeDiff, Nat.reduceBEq, Nat.reduceMul, Nat.reduceLT, Int.reduceLT, Int.reduceLE, Int.reduceToNat, Int.reduceNeg, Int.reduceEq, Int.reduceMul, reduceCtorEq, Int.reduceBEq, Int.reduceBNe, Int.reduceAdd, Int.reduceSub, g4, g9, g10, g11, g12, g14, g16, g18, g19, g21, g25, g37, g38, g283, g284, ltT, ltF, leT, leF, hk', a1, a2, a3, a4, b1, b2, b3, b4, o1', o2', o3', o4', ld_ne, ld_eq, or_none', ej, hkb', f1, f2, e1, e3, e4, hc, z, z2, sh, bo, hp2]
        exact ih (j + 1) (by omega) _ _ ex ey _ ht bl _ hp hpb _ (by exact g4) (by exact g9) (by exact g10) (by exact g11) (by exact g12) (by exact g14) (by exact g16) (by exact g18) (by exact g19) (by exact g21) (by exact g25) (by rfl) (by exact g38) (by exact g283) (by rfl)
    · simp only [hc, Bool.false_eq_true, if_false] at ht
      by_cases hp2 : pe ≤ 2000
      · have e6 := e5.resolve_right (fun hn => hn hp2)
        rw [if_pos hp2] at hp
        simp only [Col.perA, if_pos hp2] at pb
        simp only [loopIt, todoPast, todoAt, todoOf, firstReg, ↓reduceIte, Option.some.injEq, Nat.reduceEqDiff, reduceCtorEq, Try.f10]
        rw [execL_inLoop]
        simp (maxSteps := 1000000) (implicitDefEqProofs := false) (disch := first | rfl | omega | assumption) only [go_sem, ↓reduceIte, Nat.reduceEqDiff, Nat.reduceAdd, Nat.reduceLeDiff, Nat.reduceBEq, Nat.reduceMul, Nat.reduceLT, Int.reduceLT, Int.reduceLE, Int.reduceToNat, Int.reduceNeg, Int.reduceEq, Int.reduceMul, reduceCtorEq, Int.reduceBEq, Int.reduceBNe, Int.reduceAdd, Int.reduceSub, g4, g9, g10, g11, g12, g14, g16, g18, g19, g21, g25, g37, g38, g283, g284, ltT, ltF, leT, leF, hk', s1, s2]
        rw [chkK_of]; rotate_left; kernel_rfl
        simp (maxSteps := 1000000) (implicitDefEqProofs := false) (disch := first | rfl | omega | assumption) only [go_sem, ↓reduceIte, Nat.reduceEqDiff, Nat.reduceAdd, Nat.reduceLeDiff, Nat.reduceBEq, Nat.reduceMul, Nat.reduceLT, Int.reduceLT, Int.reduceLE, Int.reduceToNat, Int.reduceNeg, Int.reduceEq, Int.reduceMul, reduceCtorEq, Int.reduceBEq, Int.reduceBNe, Int.reduceAdd, Int.reduceSub, g4, g9, g10, g11, g12, g14, g16, g18, g19, g21, g25, g37, g38, g283, g284, ltT, ltF, leT, leF, hk', a1, a2, a3, a4, b1, b2, b3, b4, o1', o2', o3', o4', ld_ne, ld_eq, or_none', ej, hkb', f1, f2, e1, e3, e4, hc, z, z2, sh, bo, hp2, e6]
        exact ih (j + 1) (by omega) _ _ ex ey _ ht htb _ hp pb _ (by exact g4) (by exact g9) (by exact g10) (by exact g11) (by exact g12) (by exact g14) (by exact g16) (by exact g18) (by exact g19) (by exact g21) (by exact g25) (by exact g37) (by rfl) (by exact g283) (by rfl)
      · rw [if_neg hp2] at hp
        simp only [loopIt, todoPast, todoAt, todoOf, firstReg, ↓reduceIte, Option.some.injEq, Nat.reduceEqDiff, reduceCtorEq, Try.f10]
        rw [execL_inLoop]
        simp (maxSteps := 1000000) (implicitDefEqProofs := false) (disch := first | rfl | omega | assumption) only [go_sem, ↓reduceIte, Nat.reduceEqDiff, Nat.reduceAdd, Nat.reduceLeDiff, Nat.reduceBEq, Nat.reduceMul, Nat.reduceLT, Int.reduceLT, Int.reduceLE, Int.reduceToNat, Int.reduceNeg, Int.reduceEq, Int.reduceMul, reduceCtorEq, Int.reduceBEq, Int.reduceBNe, Int.reduceAdd, Int.reduceSub, g4, g9, g10, g11, g12, g14, g16, g18, g19, g21, g25, g37, g38, g283, g284, ltT, ltF, leT, leF, hk', s1, s2]
        rw [chkK_of]; rotate_left; kernel_rfl
        simp (maxSteps := 1000000) (implicitDefEqProofs := false) (disch := first | rfl | omega | assumption) only [go_sem, ↓reduceIte, Nat.reduceEqDiff, Nat.reduceAdd, Nat.reduceLeDiff, Nat.reduceBEq, Nat.reduceMul, Nat.reduceLT, Int.reduceLT, Int.reduceLE, Int.reduceToNat, Int.reduceNeg, Int.reduceEq, Int.reduceMul, reduceCtorEq, Int.reduceBEq, Int.reduceBNe, Int.reduceAdd, Int.reduceSub, g4, g9, g10, g11, g12, g14, g16, g18, g19, g21, g25, g37, g38, g283, g284, ltT, ltF, leT, leF, hk', a1, a2, a3, a4, b1, b2, b3, b4, o1', o2', o3', o4', ld_ne, ld_eq, or_none', ej, hkb', f1, f2, e1, e3, e4, hc, z, z2, sh, bo, hp2]
        exact ih (j + 1) (by omega) _ _ ex ey _ ht htb _ hp hpb _ (by exact g4) (by exact g9) (by exact g10) (by exact g11) (by exact g12) (by exact g14) (by exact g16) (by exact g18) (by exact g19) (by exact g21) (by exact g25) (by exact g37) (by exact g38) (by exact g283) (by rfl)

end Go.Ab
/-
  ColourMore, walked.
-/
namespace Go.Ab
open Go.Proofs
set_option linter.unusedSimpArgs false
set_option linter.unusedVariables false
set_option maxRecDepth 100000
set_option maxHeartbeats 4000000

variable {H : Heap}

theorem bestR_case {c : Col} (hv : c.valid = true) (f : Nat → Int) : (c.bestR f).2.2 = 0 ∨ (c.bestR f).2.2 = 4 := by
  rcases least_R hv f with ⟨-, h⟩ | ⟨n, b, -, h⟩ <;> rw [h] <;> simp

theorem bestR_same {c : Col} (hv : c.valid = true) (f g : Nat → Int) : (c.bestR f).2.2 = (c.bestR g).2.2 := by
  rcases least_R hv f with ⟨h1, h2⟩ | ⟨n, b, h1, h2⟩ <;> rcases least_R hv g with ⟨k1, k2⟩ | ⟨m, d, k1, k2⟩
  · rw [h2, k2]
  · have := (least_none c f g).1 h1; rw [k1] at this; cases this
  · have := (least_none c g f).1 k1; rw [h1] at this; cases this
  · rw [h2, k2]

theorem bestR_eq {c d : Col} (hv : c.valid = true) (hw : d.valid = true) {f g : Nat → Int} (h : d.least g = c.least f) : (d.bestR g).1 = (c.bestR f).1 ∧ (d.bestR g).2.2 = (c.bestR f).2.2 := by
  rcases least_R hv f with ⟨h1, h2⟩ | ⟨n, b, h1, h2⟩ <;> rcases least_R hw g with ⟨k1, k2⟩ | ⟨m, e, k1, k2⟩
  · rw [h2, k2]; exact ⟨rfl, rfl⟩
  · rw [h1, k1] at h; cases h
  · rw [h1, k1] at h; cases h
  · rw [h1, k1] at h
    injection h with h
    rw [h2, k2, h]; exact ⟨rfl, rfl⟩

theorem bestR_le {c d : Col} (hv : c.valid = true) (hw : d.valid = true) {f g : Nat → Int} (h : ∀ n, c.least f = some n → ∃ m, d.least g = some m ∧ m ≤ n) (h0 : (c.bestR f).2.2 = 0) : (d.bestR g).1 ≤ (c.bestR f).1 ∧ (d.bestR g).2.2 = 0 := by
  rcases least_R hv f with ⟨h1, h2⟩ | ⟨n, b, h1, h2⟩
  · rw [h2] at h0; cases h0
  · obtain ⟨m, k1, k2⟩ := h n h1
    rcases least_R hw g with ⟨k3, k4⟩ | ⟨m', e, k3, k4⟩
    · rw [k1] at k3; cases k3
    · rw [k1] at k3
      injection k3 with k3
      subst k3
      rw [h2, k4]
      exact ⟨k2, rfl⟩

theorem isSet_lt' {c : Col} {s : Nat} (h : s < 2 ^ c.ws.length) : c.isSet (s : Int) = true :=
  wi_iff.2 ⟨Int.natCast_nonneg _, by have := Int.ofNat_lt.2 h; omega⟩

theorem more_end {c : Col} {vw vp : AV} (h : ColAt H c vw vp) (ho : c.Ok) (hv : c.valid = true) {s : Nat} (hs : s < 64) (hs2 : s < 2 ^ c.ws.length) (o1 o2 o3 o5 o6 : AO) (E : Env) :
    E.get 4 = .ptr H.length 0 → E.get 9 = I c.ws.length → E.get 10 = I s → E.get 11 = I (c.leftN s) → E.get 12 = I (c.worstR s) → E.get 14 = I (c.rchR s) → E.get 16 = I (c.bestR fun s => (pop s : Int)).1 → E.get 18 = I (c.bestR fun s => (pop s : Int)).2.2 → E.get 19 = I (c.bestR c.cost).1 → E.get 21 = I (c.bestR c.cost).2.2 → E.get 25 = .ptr (H.length + 4) 0 → E.get 37 = I (turnN c.ws.length s) → E.get 38 = I (foldF c.perA 1 0 c.ws.length) →
    Option.map (finishC H.length) (execL cfg0 prog0 ⟨10, none, false, H.length⟩ (todoPast Try.f10 34) ⟨E, [], H ++ [.box (.agg [vw, vp, I c.lo, I c.hi, I c.ev, I c.er]), o1, o2, o3, .box (.agg [.gsl (H.length + 7) c.ws.length, .gsl (H.length + 8) c.ws.length, I c.lo, I c.hi, I c.ev, I c.er]), o5, o6, .grow 1 (c.rev.ws.map I), .grow 1 (c.rev.ps.map I)], none⟩) = some ⟨.ret (.bool true), H, none⟩ := by
  intro g4 g9 g10 g11 g12 g14 g16 g18 g19 g21 g25 g37 g38
  have hlen := ho.len
  have hplen := ho.plen
  have hlo := ho.lo
  have s1 := h.ws.scal
  have s2 := h.ps.scal
  have hro := rev_ok ho
  have hrv := c.rev.valid_iff.2 hro
  have rl : c.rev.ws.length = c.ws.length := by simp [Col.rev]
  have rpl : c.rev.ps.length = c.ws.length := by simp [Col.rev]; omega
  have h6 : (2 : Nat) ^ c.ws.length ≤ 2 ^ 6 := Nat.pow_le_pow_right (by omega) hlen.2
  have tl := turn_lt c.ws.length (by omega) s hs
  have tss : c.rev.isSet (turnN c.ws.length s) = true := isSet_lt' (by rw [rl]; exact tl)
  have hss : c.isSet s = true := isSet_lt' hs2
  have hat : ∀ (b0 b4 : AO) (G : Heap), ColAt (H ++ (b0 :: o1 :: o2 :: o3 :: b4 :: o5 :: o6 :: .grow 1 (c.rev.ws.map I) :: .grow 1 (c.rev.ps.map I) :: G)) c.rev (.gsl (H.length + 7) c.ws.length) (.gsl (H.length + 8) c.ws.length) := by
    intro b0 b4 G
    refine ⟨⟨⟨by simp [get_at'], by simp [rl]⟩, by simp [I, AV.cells]⟩, ⟨⟨by simp [get_at'], by simp [rpl]⟩, by simp [I, AV.cells]⟩⟩
  have k1 := fun (b0 b4 : AO) (G : Heap) => co_Fewest (hat b0 b4 G) (by omega)
  have k2 := fun (b0 b4 : AO) (G : Heap) => co_Cheapest (hat b0 b4 G) (by omega)
  have k3 := fun (b0 b4 : AO) (G : Heap) => co_Pairs (hat b0 b4 G) (by omega) (turnN c.ws.length s)
  obtain ⟨q1, q2⟩ := rev_least ho
  obtain ⟨q3, q4⟩ := bestR_eq hv hrv q1
  obtain ⟨q5, q6⟩ := bestR_eq hv hrv q2
  obtain ⟨q7, q8⟩ := rev_same ho hs2
  simp only [Col.few_eq, q3, q4] at k1
  simp only [Col.few_eq, q5, q6] at k2
  simp only [Col.pairsR, hrv, tss, if_true, Int.toNat_natCast, q7, q8] at k3
  have e1 : c.rev.lo = c.lo := rfl
  have e2 : c.rev.hi = c.hi := rfl
  have e3 : c.rev.ev = c.ev := rfl
  have e4 : c.rev.er = c.er := rfl
  simp only [Col.av, e1, e2, e3, e4] at k1 k2 k3
  obtain ⟨p1, p2, p3⟩ := per_div ho
  have z0 := bestR_case hv (fun s => (pop s : Int))
  have z1 := bestR_case hv c.cost
  have add9 : ∀ (b0 b1 b2 b3 b4 b5 b6 b7 b8 : AO), addElem (H ++ [b0, b1, b2, b3, b4, b5, b6, b7, b8]) 1 false (.sl true []) (c.ws.map I) = some (.gsl (H.length + 9) c.ws.length, H ++ [b0, b1, b2, b3, b4, b5, b6, b7, b8, .grow 1 (c.ws.map I)]) := by
    intro b0 b1 b2 b3 b4 b5 b6 b7 b8
    rw [add_full rfl rfl (elemsOk_map (fun _ => rfl) _) (ltL_map (fun _ => rfl) _) (by simp; omega) rfl]
    simp
  have hel := fun G => (h.ws.app G).elems
  generalize c.bestR (fun s => (pop s : Int)) = F at *
  generalize c.bestR c.cost = C at *
  generalize hper : foldF c.perA 1 0 c.ws.length = per at *
  have hlp := fun (E : Env) (G : Heap) h40 => more_l56 h ho G (.gsl (H.length + 9) c.ws.length) h40 c.ws.length 0 (by omega) E
  simp only [loopIt, todoPast, todoAt, todoOf, firstReg, ↓reduceIte, Option.some.injEq, Nat.reduceEqDiff, reduceCtorEq, Try.f10]
  have cu : ∀ (b0 b1 b2 b3 b4 b5 b6 b7 b8 : AO) (G : Heap), SlOk (H ++ (b0 :: b1 :: b2 :: b3 :: b4 :: b5 :: b6 :: b7 :: b8 :: .grow 1 (c.ws.map I) :: G)) 1 (.gsl (H.length + 9) c.ws.length) (c.ws.map I) := by
    intro b0 b1 b2 b3 b4 b5 b6 b7 b8 G
    exact ⟨⟨by simp [get_at'], by simp⟩, by simp [I, AV.cells]⟩
  by_cases hp : c.hi + per ≤ 2000
  · obtain ⟨u1, u2, u3, u4⟩ := up_all ho (by omega) hp (p3 (by omega)) s
    have uv := (c.up per).valid_iff.2 u1
    have hup : ∀ G, ColAt (H ++ G) (c.up per) vw vp := fun G => ⟨h.ws.app G, h.ps.app G⟩
    have k4 := fun (G : Heap) => co_Pairs (hup G) (show c.ws.length ≤ 1000 ∧ c.ps.length ≤ 1000 by omega) s
    have k5 := fun (G : Heap) => co_Reach (hup G) (show c.ws.length ≤ 1000 ∧ c.ps.length ≤ 1000 by omega) s
    have uss : (c.up per).isSet s = true := hss
    simp only [Col.pairsR, uv, uss, if_true, Int.toNat_natCast, u2, u3] at k4
    simp only [Col.reachR, uv, uss, if_true, Int.toNat_natCast, u4] at k5
    simp only [Col.av, Col.up] at k4 k5
    have rb : IntKind.i64.wrap (c.rchR s + per) = c.rchR s + per := by
      have b1 := c.last_bd ho s
      have b2 := ho.lenAt_bd (j := (c.last s).toNat) (by omega)
      rw [c.last_eq ho] at b2
      exact w64 (by omega) (by omega)
    simp (maxSteps := 1000000) (implicitDefEqProofs := false) (disch := first | rfl | omega | assumption) only [go_sem, ↓reduceIte, Nat.reduceEqDiff, Nat.reduceAdd, Nat.reduceLeDiff, Nat.reduceBEq, Nat.reduceMul, Nat.reduceLT, Int.reduceLT, Int.reduceLE, Int.reduceToNat, Int.reduceNeg, Int.reduceEq, Int.reduceMul, reduceCtorEq, Int.reduceBEq, Int.reduceBNe, Int.reduceAdd, Int.reduceSub, ltT, ltF, leT, leF, g4, g9, g10, g11, g12, g14, g16, g18, g19, g21, g25, g37, g38, s1, s2, hel, add9, k1, k2, k3, k4, k5, hp, law_span, rb, h.ws.len]
    exact hlp _ _ (cu _ _ _ _ _ _ _ _ _ _) (by exact g4) (by rfl) (by rfl) (by rfl)
  · simp (maxSteps := 1000000) (implicitDefEqProofs := false) (disch := first | rfl | omega | assumption) only [go_sem, ↓reduceIte, Nat.reduceEqDiff, Nat.reduceAdd, Nat.reduceLeDiff, Nat.reduceBEq, Nat.reduceMul, Nat.reduceLT, Int.reduceLT, Int.reduceLE, Int.reduceToNat, Int.reduceNeg, Int.reduceEq, Int.reduceMul, reduceCtorEq, Int.reduceBEq, Int.reduceBNe, Int.reduceAdd, Int.reduceSub, ltT, ltF, leT, leF, g4, g9, g10, g11, g12, g14, g16, g18, g19, g21, g25, g37, g38, s1, s2, hel, add9, k1, k2, k3, hp]
    exact hlp _ _ (cu _ _ _ _ _ _ _ _ _ _) (by exact g4) (by rfl) (by rfl) (by rfl)

end Go.Ab
