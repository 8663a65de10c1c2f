/-
  ColourApart, walked.
-/
import Derived.Test.YtlhnmpclnbpnhaaKK4
namespace Go.Ab
open Go.Proofs
set_option linter.unusedSimpArgs false
set_option linter.unusedVariables false
set_option maxRecDepth 100000
set_option maxHeartbeats 2000000

variable {H : Heap}

/-- The set that bits are. -/
def Col.sOf (c : Col) (b : Nat) : Nat := b % 2 ^ c.ws.length

theorem Col.sOf_lt {c : Col} (ho : c.Ok) (b : Nat) : c.sOf b < 64 ∧ c.sOf b < 2 ^ c.ws.length := by
  have h2 : (2 : Nat) ^ c.ws.length ≤ 2 ^ 6 := Nat.pow_le_pow_right (by omega) ho.len.2
  have h3 := Nat.pow_pos (n := c.ws.length) (show 0 < 2 by omega)
  have := Nat.mod_lt b h3
  simp only [Col.sOf]
  omega

theorem Col.sOf_isSet {c : Col} (ho : c.Ok) (b : Nat) : c.isSet (c.sOf b) = true := by
  have := c.sOf_lt ho b
  exact wi_iff.2 ⟨by omega, by omega⟩

theorem sOf_bits {c : Col} (ho : c.Ok) {b : Nat} (hb : b < 256) : bitsOp .and .i64 (b : Int) (((2 ^ c.ws.length : Nat) : Int) - 1) = some (c.sOf b : Int) := by
  have h2 : (2 : Nat) ^ c.ws.length ≤ 2 ^ 6 := Nat.pow_le_pow_right (by omega) ho.len.2
  have h3 := Nat.pow_pos (n := c.ws.length) (show 0 < 2 by omega)
  have e : (((2 ^ c.ws.length : Nat) : Int) - 1) = ((2 ^ c.ws.length - 1 : Nat) : Int) := by omega
  rw [e, bitsAndI (by omega) (by omega), Nat.and_two_pow_sub_one_eq_mod]
  rfl

theorem shlI {c : Col} (ho : c.Ok) : IntKind.i64.wrap (1 * 2 ^ min c.ws.length 64) = ((2 ^ c.ws.length : Nat) : Int) := by
  have : ∀ k : Nat, k ≤ 6 → IntKind.i64.wrap (1 * 2 ^ min k 64) = ((2 ^ k : Nat) : Int) := by
    intro k hk
    have : k = 0 ∨ k = 1 ∨ k = 2 ∨ k = 3 ∨ k = 4 ∨ k = 5 ∨ k = 6 := by omega
    rcases this with rfl | rfl | rfl | rfl | rfl | rfl | rfl <;> decide
  exact this _ ho.len.2

theorem apart_ok {c : Col} (hv : c.valid = true) {k : Nat} (hk : k < c.ws.length) {a b : Int} (ha : 0 ≤ a ∧ a ≤ 2000) (hb : 0 ≤ b ∧ b ≤ 2000) : c.apart k a b = (apartZ (ptZ (c.ws.getD k 0) a) (ptZ (c.ws.getD k 0) b), 0) := by
  have e1 : wi k 0 (c.ws.length - 1) = true := wi_iff.2 (by omega)
  simp only [Col.apart, hv, e1, wi_iff.2 ha, wi_iff.2 hb, Bool.and_self, if_true, Int.toNat_natCast]

theorem apart_self (p : Int) : apartZ p p = 0 := by
  simp only [apartZ, lessZ, Int.lt_irrefl, if_false]
  omega

theorem apartZ_bd (p o : Int) : 0 ≤ apartZ p o ∧ apartZ p o ≤ 20 := by
  have h1 := lessZ_bd p o
  have h2 := lessZ_bd o p
  simp only [apartZ]
  split <;> omega

theorem apartZ_min {p o : Int} (hp : 0 ≤ p ∧ p < 20) (ho : 0 ≤ o ∧ o < 20) : (let d := if p - o < o - p then o - p else p - o; 0 ≤ d ∧ d ≤ 20 ∧ (if 20 - d < d then 20 - d else d) = apartZ p o) := by
  simp only [apartZ, lessZ]
  refine ⟨?_, ?_, ?_⟩ <;> repeat' split
  all_goals omega

theorem apart_loop {c : Col} {vw vp : AV} (h : ColAt H c vw vp) (ho : c.Ok) (hv : c.valid = true) {a b : Int} (ha : 0 ≤ a ∧ a ≤ 2000) (hb : 0 ≤ b ∧ b ≤ 2000) {s : Nat} (hs : s < 64) (r : Bool) (K : List Item) (R : Option Done) (hK : ∀ E : Env, E.get 4 = .ptr H.length 0 → E.get 13 = I a → E.get 14 = I b → E.get 15 = I s → E.get 16 = .bool r → Option.map (finishC H.length) (execL cfg0 prog0 ⟨6, none, false, H.length⟩ K ⟨E, [], H ++ [.box (c.av vw vp)], none⟩) = R)  :
    ∀ (q j : Nat), j + q = c.ws.length → ∀ (pt : Bool), (pt || anyF (fun i => s.testBit i && c.sep a b i) j q) = r → ∀ E : Env, E.get 4 = .ptr H.length 0 → E.get 13 = I a → E.get 14 = I b → E.get 15 = I s → E.get 16 = .bool pt → E.get 94 = vw → E.get 95 = I c.ws.length → E.get 96 = I j →
    Option.map (finishC H.length) (execL cfg0 prog0 ⟨6, none, false, H.length⟩ (loopIt Try.f6 10 :: .inBlock 0 :: K) ⟨E, [], H ++ [.box (c.av vw vp)], none⟩) = R := by
  intro q
  have hl := ho.len
  have hlp := ho.plen
  obtain ⟨a1, a2, a3, a4⟩ := h.ws.fI
  have her := ho.er
  simp only [Col.av] at hK ⊢
  induction q with
  | zero =>
    intro j hj pt hr E g4 g13 g14 g15 g16 g94 g95 g96
    have hk' : ¬ (j : Int) < ((c.ws.length : Nat) : Int) := by omega
    simp only [anyF, Bool.or_false] at hr
    subst hr
    simp only [loopIt, todoPast, todoAt, todoOf, firstReg, ↓reduceIte, Option.some.injEq, Nat.reduceEqDiff, reduceCtorEq, Try.f6]
    rw [execL_inLoop]
    simp (maxSteps := 1000000) (implicitDefEqProofs := false) (disch := first | rfl | omega | assumption) only [go_sem, ↓reduceIte, Nat.reduceEqDiff, Nat.reduceAdd, Nat.reduceLeDiff, Nat.reduceBEq, Nat.reduceMul, Nat.reduceLT, Int.reduceLT, Int.reduceLE, Int.reduceToNat, Int.reduceNeg, Int.reduceEq, Int.reduceMul, reduceCtorEq, Int.reduceBEq, Int.reduceBNe, Int.reduceAdd, Int.reduceSub, g4, g13, g14, g15, g16, g94, g95, g96, ltT, ltF, leT, leF, hk']
    exact hK _ (by exact g4) (by exact g13) (by exact g14) (by exact g15) (by exact g16)
  | succ q ih =>
    intro j hj pt hr E g4 g13 g14 g15 g16 g94 g95 g96
    have hk' : (j : Int) < ((c.ws.length : Nat) : Int) := by omega
    have hk2 : j < c.ws.length := by omega
    have hw := ho.ws j hk2
    have hA := fun G : Heap => co_Apart (h.app G) (by omega) j a b
    have hB := fun G : Heap => co_Apart (h.app G) (by omega) j b a
    have hO := fun G : Heap => co_Apart (h.app G) (by omega) j a a
    simp only [apart_ok hv hk2 ha hb] at hA
    simp only [apart_ok hv hk2 hb ha, apartZ_comm (ptZ (c.ws.getD j 0) b)] at hB
    simp only [apart_ok hv hk2 ha ha, apart_self] at hO
    have hP := fun G : Heap => fr_Part1 (c.ws.getD j 0) a G
    have hQ := fun G : Heap => fr_Part1 (c.ws.getD j 0) b G
    simp only [oneW, wi_iff.2 hw, wi_iff.2 ha, wi_iff.2 hb, if_true] at hP hQ
    have p1 := ptZ_bd (w := c.ws.getD j 0) (n := a) (by omega)
    have p2 := ptZ_bd (w := c.ws.getD j 0) (n := b) (by omega)
    have hsep : c.sep a b j = decide (2 * c.er < apartZ (ptZ (c.ws.getD j 0) a) (ptZ (c.ws.getD j 0) b)) := rfl
    have bd := apartZ_bd (ptZ (c.ws.getD j 0) a) (ptZ (c.ws.getD j 0) b)
    have hmin := apartZ_min p1 p2
    simp only at hmin
    simp only [Col.av] at hA hB hO
    generalize apartZ (ptZ (c.ws.getD j 0) a) (ptZ (c.ws.getD j 0) b) = ap at *
    generalize ptZ (c.ws.getD j 0) a = pa at *
    generalize ptZ (c.ws.getD j 0) b = pb at *
    have e1 := shrI (s := s) (j := j) (by omega)
    have e2 : s / 2 ^ j ≤ s := Nat.div_le_self _ _
    have e3 : bitsOp .and .i64 ((s / 2 ^ j : Nat) : Int) 1 = some ((s / 2 ^ j &&& 1 : Nat) : Int) := bitsAndI (b := 1) (by omega) (by decide)
    have e4 := and_one (s := s) (j := j)
    have z : ¬ (j : Int) < 0 := by omega
    rw [anyF, hsep] at hr
    generalize hd : (if pa - pb < pb - pa then pb - pa else pa - pb) = d at *
    obtain ⟨m1, m2, m3⟩ := hmin
    simp only [loopIt, todoPast, todoAt, todoOf, firstReg, ↓reduceIte, Option.some.injEq, Nat.reduceEqDiff, reduceCtorEq, Try.f6]
    rw [execL_inLoop]
    cases pt with
    | true =>
      simp only [Bool.true_or] at hr
      simp (maxSteps := 1000000) (implicitDefEqProofs := false) (disch := first | rfl | omega | assumption) only [go_sem, ↓reduceIte, Nat.reduceEqDiff, Nat.reduceAdd, Nat.reduceLeDiff, Nat.reduceBEq, Nat.reduceMul, Nat.reduceLT, Int.reduceLT, Int.reduceLE, Int.reduceToNat, Int.reduceNeg, Int.reduceEq, Int.reduceMul, reduceCtorEq, Int.reduceBEq, Int.reduceBNe, Int.reduceAdd, Int.reduceSub, g4, g13, g14, g15, g16, g94, g95, g96, ltT, ltF, leT, leF, hk', a1, a2, a3, a4, hA, hB, hO, hP, hQ, hd, m3]
      exact ih (j + 1) (by omega) true (by rw [Bool.true_or]; exact hr) _ (by exact g4) (by exact g13) (by exact g14) (by exact g15) (by rfl) (by exact g94) (by exact g95) (by rfl)
    | false =>
      rcases Bool.eq_false_or_eq_true (s.testBit j) with ht | ht
      · by_cases hc : 2 * c.er < ap
        · simp only [ht, hc, decide_true, Bool.and_self, Bool.true_or, Bool.or_true] at hr
          simp (maxSteps := 1000000) (implicitDefEqProofs := false) (disch := first | rfl | omega | assumption) only [go_sem, ↓reduceIte, Nat.reduceEqDiff, Nat.reduceAdd, Nat.reduceLeDiff, Nat.reduceBEq, Nat.reduceMul, Nat.reduceLT, Int.reduceLT, Int.reduceLE, Int.reduceToNat, Int.reduceNeg, Int.reduceEq, Int.reduceMul, reduceCtorEq, Int.reduceBEq, Int.reduceBNe, Int.reduceAdd, Int.reduceSub, g4, g13, g14, g15, g16, g94, g95, g96, ltT, ltF, leT, leF, hk', a1, a2, a3, a4, hA, hB, hO, hP, hQ, hd, m3, e1, e3, e4, ht, z, hc]
          exact ih (j + 1) (by omega) true (by rw [Bool.true_or]; exact hr) _ (by exact g4) (by exact g13) (by exact g14) (by exact g15) (by rfl) (by exact g94) (by exact g95) (by rfl)
        · simp only [ht, hc, decide_false, Bool.and_false, Bool.false_or] at hr
          simp (maxSteps := 1000000) (implicitDefEqProofs := false) (disch := first | rfl | omega | assumption) only [go_sem, ↓reduceIte, Nat.reduceEqDiff, Nat.reduceAdd, Nat.reduceLeDiff, Nat.reduceBEq, Nat.reduceMul, Nat.reduceLT, Int.reduceLT, Int.reduceLE, Int.reduceToNat, Int.reduceNeg, Int.reduceEq, Int.reduceMul, reduceCtorEq, Int.reduceBEq, Int.reduceBNe, Int.reduceAdd, Int.reduceSub, g4, g13, g14, g15, g16, g94, g95, g96, ltT, ltF, leT, leF, hk', a1, a2, a3, a4, hA, hB, hO, hP, hQ, hd, m3, e1, e3, e4, ht, z, hc]
          exact ih (j + 1) (by omega) false (by rw [Bool.false_or]; exact hr) _ (by exact g4) (by exact g13) (by exact g14) (by exact g15) (by rfl) (by exact g94) (by exact g95) (by rfl)
      · simp only [ht, Bool.false_and, Bool.false_or] at hr
        simp (maxSteps := 1000000) (implicitDefEqProofs := false) (disch := first | rfl | omega | assumption) only [go_sem, ↓reduceIte, Nat.reduceEqDiff, Nat.reduceAdd, Nat.reduceLeDiff, Nat.reduceBEq, Nat.reduceMul, Nat.reduceLT, Int.reduceLT, Int.reduceLE, Int.reduceToNat, Int.reduceNeg, Int.reduceEq, Int.reduceMul, reduceCtorEq, Int.reduceBEq, Int.reduceBNe, Int.reduceAdd, Int.reduceSub, g4, g13, g14, g15, g16, g94, g95, g96, ltT, ltF, leT, leF, hk', a1, a2, a3, a4, hA, hB, hO, hP, hQ, hd, m3, e1, e3, e4, ht, z]
        exact ih (j + 1) (by omega) false (by rw [Bool.false_or]; exact hr) _ (by exact g4) (by exact g13) (by exact g14) (by exact g15) (by rfl) (by exact g94) (by exact g95) (by rfl)

theorem law_ColourApart {c : Col} {vw vp : AV} (h : ColAt H c vw vp) (at' other b8 : Int) (b1 : 0 ≤ at' ∧ at' ≤ 65535) (b2 : 0 ≤ other ∧ other ≤ 65535) (b3 : 0 ≤ b8 ∧ b8 ≤ 255) :
    callFL cfg0 prog0 false 6 [c.av vw vp, .int .u16 at', .int .u16 other, .int .u8 b8] H none = some ⟨.ret (.bool true), H, none⟩ := by
  have s1 := h.ws.scal
  have s2 := h.ps.scal
  have hL := fun G : Heap => law_long (h.app G)
  have hV := fun G : Heap => ref_Colour (h.app G)
  simp only [Col.av] at hL hV
  rcases Bool.eq_false_or_eq_true c.long with hl | hl
  · simp only [Col.av]
    refine (callFL_eq fn6 rfl (by simp [Try.f6])).trans ?_
    simp (maxSteps := 1000000) (implicitDefEqProofs := false) (disch := first | rfl | omega | assumption) only [go_sem, ↓reduceIte, Nat.reduceEqDiff, Nat.reduceAdd, Nat.reduceLeDiff, Nat.reduceBEq, Nat.reduceMul, Nat.reduceLT, Int.reduceLT, Int.reduceLE, Int.reduceToNat, Int.reduceNeg, Int.reduceEq, Int.reduceMul, reduceCtorEq, Int.reduceBEq, Int.reduceBNe, Int.reduceAdd, Int.reduceSub, s1, s2, hL, hl, law_alive]
  · obtain ⟨l1, l2⟩ := c.long_false hl
    rcases Bool.eq_false_or_eq_true c.valid with hv | hv
    · have ho := c.valid_iff.1 hv
      have hlen := ho.len
      obtain ⟨n1, rfl⟩ : ∃ n : Nat, at' = n := ⟨at'.toNat, by omega⟩
      obtain ⟨n2, rfl⟩ : ∃ n : Nat, other = n := ⟨other.toNat, by omega⟩
      obtain ⟨n3, rfl⟩ : ∃ n : Nat, b8 = n := ⟨b8.toNat, by omega⟩
      have t1 : ((n1 : Nat) : Int).tmod 2001 = ((n1 % 2001 : Nat) : Int) := by rw [Int.tmod_eq_emod_of_nonneg (Int.natCast_nonneg _)]; rfl
      have t2 : ((n2 : Nat) : Int).tmod 2001 = ((n2 % 2001 : Nat) : Int) := by rw [Int.tmod_eq_emod_of_nonneg (Int.natCast_nonneg _)]; rfl
      have t3 := shlI ho
      have t4 := sOf_bits ho (b := n3) (by omega)
      have hs := c.sOf_lt ho n3
      have hss := c.sOf_isSet ho n3
      have hp2 : (2 : Nat) ^ c.ws.length ≤ 2 ^ 6 := Nat.pow_le_pow_right (by omega) hlen.2
      have hp3 := Nat.pow_pos (n := c.ws.length) (show 0 < 2 by omega)
      have ba : 0 ≤ ((n1 % 2001 : Nat) : Int) ∧ ((n1 % 2001 : Nat) : Int) ≤ 2000 := by omega
      have bb : 0 ≤ ((n2 % 2001 : Nat) : Int) ∧ ((n2 % 2001 : Nat) : Int) ≤ 2000 := by omega
      generalize c.sOf n3 = s at *
      generalize ((n1 % 2001 : Nat) : Int) = a at *
      generalize ((n2 % 2001 : Nat) : Int) = b at *
      have h1 := fun G : Heap => co_Parts (h.app G) (by omega) s a b
      have h2 := fun G : Heap => co_Apart (h.app G) (by omega) c.ws.length a b
      have h3 := fun G : Heap => co_Apart (h.app G) (by omega) 0 a 2001
      have h4 := fun G : Heap => co_Parts (h.app G) (by omega) (2 ^ c.ws.length : Nat) a b
      have h5 := fun G : Heap => co_Alike (h.app G) (by omega) (-1)
      have h6 := fun G : Heap => co_Parts (h.app G) (by omega) 0 (-1) b
      have f1 : wi (c.ws.length : Int) 0 (c.ws.length - 1) = false := by simp [wi]; omega
      have f2 : wi (2001 : Int) 0 2000 = false := by decide
      have f3 : c.isSet (2 ^ c.ws.length : Nat) = false := by simp [Col.isSet, wi]; omega
      have f4 : c.isSet (-1) = false := by simp [Col.isSet, wi]
      have f5 : wi (-1 : Int) 0 2000 = false := by decide
      simp only [Col.parts, hv, hss, wi_iff.2 ba, wi_iff.2 bb, Bool.and_self, if_true, Int.toNat_natCast] at h1
      simp only [Col.apart, hv, f1, Bool.false_and, Bool.false_eq_true, if_true, if_false] at h2
      simp only [Col.apart, hv, f2, Bool.and_false, Bool.false_eq_true, if_true, if_false] at h3
      simp only [Col.parts, hv, f3, Bool.false_and, Bool.false_eq_true, if_true, if_false] at h4
      simp only [Col.alikeR, hv, f4, Bool.false_eq_true, if_true, if_false] at h5
      simp only [Col.parts, hv, f5, Bool.false_and, Bool.and_false, Bool.false_eq_true, if_true, if_false] at h6
      simp only [Col.av] at h1 h2 h3 h4 h5 h6 ⊢
      refine (callFL_eq fn6 rfl (by simp [Try.f6])).trans ?_
      simp (maxSteps := 1000000) (implicitDefEqProofs := false) (disch := first | rfl | omega | assumption) only [go_sem, ↓reduceIte, Nat.reduceEqDiff, Nat.reduceAdd, Nat.reduceLeDiff, Nat.reduceBEq, Nat.reduceMul, Nat.reduceLT, Int.reduceLT, Int.reduceLE, Int.reduceToNat, Int.reduceNeg, Int.reduceEq, Int.reduceMul, reduceCtorEq, Int.reduceBEq, Int.reduceBNe, Int.reduceAdd, Int.reduceSub, s1, s2, hL, hV, hl, hv]
      rw [chkK_of]; rotate_left; kernel_rfl
      have z : ¬ (c.ws.length : Int) < 0 := by omega
      simp (maxSteps := 1000000) (implicitDefEqProofs := false) (disch := first | rfl | omega | assumption) only [go_sem, ↓reduceIte, Nat.reduceEqDiff, Nat.reduceAdd, Nat.reduceLeDiff, Nat.reduceBEq, Nat.reduceMul, Nat.reduceLT, Int.reduceLT, Int.reduceLE, Int.reduceToNat, Int.reduceNeg, Int.reduceEq, Int.reduceMul, reduceCtorEq, Int.reduceBEq, Int.reduceBNe, Int.reduceAdd, Int.reduceSub, s1, s2, t1, t2, t3, t4, h.ws.len, z]
      refine apart_loop h ho hv ba bb hs.1 (c.partB s a b) _ _ (fun E g4 g13 g14 g15 g16 => ?_) c.ws.length 0 (by omega) false (by rw [Bool.false_or]; rfl) _ (by rfl) (by rfl) (by rfl) (by rfl) (by rfl) (by rfl) (by rfl) (by rfl)
      simp only [Col.av]
      simp (maxSteps := 1000000) (implicitDefEqProofs := false) (disch := first | rfl | omega | assumption) only [go_sem, ↓reduceIte, Nat.reduceEqDiff, Nat.reduceAdd, Nat.reduceLeDiff, Nat.reduceBEq, Nat.reduceMul, Nat.reduceLT, Int.reduceLT, Int.reduceLE, Int.reduceToNat, Int.reduceNeg, Int.reduceEq, Int.reduceMul, reduceCtorEq, Int.reduceBEq, Int.reduceBNe, Int.reduceAdd, Int.reduceSub, g4, g13, g14, g15, g16, s1, s2, h1, h2, h3, h.ws.len]
      rw [chkK_of]; rotate_left; kernel_rfl
      simp (maxSteps := 1000000) (implicitDefEqProofs := false) (disch := first | rfl | omega | assumption) only [go_sem, ↓reduceIte, Nat.reduceEqDiff, Nat.reduceAdd, Nat.reduceLeDiff, Nat.reduceBEq, Nat.reduceMul, Nat.reduceLT, Int.reduceLT, Int.reduceLE, Int.reduceToNat, Int.reduceNeg, Int.reduceEq, Int.reduceMul, reduceCtorEq, Int.reduceBEq, Int.reduceBNe, Int.reduceAdd, Int.reduceSub, g4, g13, g14, g15, g16, s1, s2, h.ws.len, z, t3, h4, h5, h6, law_alive]
    · have h1 := fun G : Heap => co_Apart (h.app G) (by omega) 0 0 0
      have h2 := fun G : Heap => co_Parts (h.app G) (by omega) 0 0 0
      simp only [Col.apart, hv, Bool.false_eq_true, if_false] at h1
      simp only [Col.parts, hv, Bool.false_eq_true, if_false] at h2
      simp only [Col.av] at h1 h2 ⊢
      refine (callFL_eq fn6 rfl (by simp [Try.f6])).trans ?_
      simp (maxSteps := 1000000) (implicitDefEqProofs := false) (disch := first | rfl | omega | assumption) only [go_sem, ↓reduceIte, Nat.reduceEqDiff, Nat.reduceAdd, Nat.reduceLeDiff, Nat.reduceBEq, Nat.reduceMul, Nat.reduceLT, Int.reduceLT, Int.reduceLE, Int.reduceToNat, Int.reduceNeg, Int.reduceEq, Int.reduceMul, reduceCtorEq, Int.reduceBEq, Int.reduceBNe, Int.reduceAdd, Int.reduceSub, s1, s2, hL, hV, hl, hv, h1, h2, law_alive]

end Go.Ab
/-
  ColourFewest, walked.
-/
namespace Go.Ab
open Go.Proofs
set_option linter.unusedSimpArgs false
set_option linter.unusedVariables false
set_option maxRecDepth 100000
set_option maxHeartbeats 2000000

variable {H : Heap}

theorem bestL_spec (cost : Nat → Int) : ∀ (l : List Nat) (b : Nat), (∀ x ∈ l, b ≤ x) → l.Pairwise (· ≤ ·) → (bestL cost b l = b ∨ bestL cost b l ∈ l) ∧ (∀ y, y = b ∨ y ∈ l → cost (bestL cost b l) < cost y ∨ (cost (bestL cost b l) = cost y ∧ bestL cost b l ≤ y))
  | [], b, _, _ => by
    refine ⟨.inl rfl, fun y hy => ?_⟩
    rcases hy with rfl | hy
    · exact .inr ⟨rfl, Nat.le_refl _⟩
    · cases hy
  | x :: r, b, hb, hp => by
    have hp' := List.pairwise_cons.1 hp
    have hbx := hb x (List.mem_cons_self ..)
    rw [bestL]
    by_cases h : cost x < cost b
    · rw [if_pos h]
      obtain ⟨h1, h2⟩ := bestL_spec cost r x (fun y hy => hp'.1 y hy) hp'.2
      refine ⟨.inr ?_, fun y hy => ?_⟩
      · rcases h1 with h1 | h1
        · rw [h1]; exact List.mem_cons_self ..
        · exact List.mem_cons_of_mem _ h1
      · rcases hy with rfl | hy
        · have := h2 x (.inl rfl)
          omega
        · rcases List.mem_cons.1 hy with rfl | hy
          · exact h2 _ (.inl rfl)
          · exact h2 y (.inr hy)
    · rw [if_neg h]
      obtain ⟨h1, h2⟩ := bestL_spec cost r b (fun y hy => hb y (List.mem_cons_of_mem _ hy)) hp'.2
      refine ⟨?_, fun y hy => ?_⟩
      · rcases h1 with h1 | h1
        · exact .inl h1
        · exact .inr (List.mem_cons_of_mem _ h1)
      · rcases hy with rfl | hy
        · exact h2 _ (.inl rfl)
        · rcases List.mem_cons.1 hy with rfl | hy
          · have := h2 b (.inl rfl)
            omega
          · exact h2 y (.inr hy)

theorem good_mem (c : Col) (s : Nat) : s ∈ c.good ↔ s < 2 ^ c.ws.length ∧ c.leftN s = 0 := by
  simp [Col.good]

theorem good_sorted (c : Col) : c.good.Pairwise (· ≤ ·) := by
  refine List.Pairwise.filter _ ?_
  exact List.Pairwise.imp Nat.le_of_lt List.pairwise_lt_range

theorem best_some (c : Col) (cost : Nat → Int) {b : Nat} (h : c.best cost = some b) : b ∈ c.good ∧ ∀ y ∈ c.good, cost b < cost y ∨ (cost b = cost y ∧ b ≤ y) := by
  have hs := good_sorted c
  simp only [Col.best] at h
  cases hg : c.good with
  | nil => rw [hg] at h; cases h
  | cons x r =>
    rw [hg] at h hs
    simp only [Option.some.injEq, bestL_self] at h
    obtain ⟨h1, h2⟩ := bestL_spec cost r x (List.pairwise_cons.1 hs).1 (List.pairwise_cons.1 hs).2
    rw [h] at h1 h2
    refine ⟨?_, fun y hy => h2 y (List.mem_cons.1 hy)⟩
    rcases h1 with h1 | h1
    · rw [h1]; exact List.mem_cons_self ..
    · exact List.mem_cons_of_mem _ h1

theorem best_none (c : Col) (cost : Nat → Int) : c.best cost = none ↔ c.good = [] := by
  simp only [Col.best]
  cases c.good <;> simp

/-- A set that is part of another one parts no more. -/
theorem partB_mono (c : Col) {s t : Nat} (h : ∀ i, i < c.ws.length → s.testBit i = true → t.testBit i = true) (a b : Int) (hp : c.partB s a b = true) : c.partB t a b = true := by
  rw [Col.partB, anyF_iff] at hp ⊢
  obtain ⟨i, h1, h2, h3⟩ := hp
  rw [Bool.and_eq_true] at h3
  exact ⟨i, h1, h2, by rw [Bool.and_eq_true]; exact ⟨h i (by omega) h3.1, h3.2⟩⟩

theorem left_zero (c : Col) (s : Nat) : c.leftN s = 0 ↔ ∀ a b, a < b → b < c.manyN → c.meet s a b = true := by
  rw [c.left_len, List.length_eq_zero_iff, List.eq_nil_iff_forall_not_mem]
  constructor
  · intro h a b h1 h2
    have := h (a, b)
    rw [c.prL_mem] at this
    simp only at this
    cases hm : c.meet s a b
    · exact absurd ⟨h1, h2, hm⟩ this
    · rfl
  · intro h p hp
    rw [c.prL_mem] at hp
    rw [h p.1 p.2 hp.1 hp.2.1] at hp
    cases hp.2.2

theorem left_mono (c : Col) {s t : Nat} (h : ∀ i, i < c.ws.length → s.testBit i = true → t.testBit i = true) (h0 : c.leftN s = 0) : c.leftN t = 0 := by
  rw [left_zero] at h0 ⊢
  intro a b h1 h2
  have := h0 a b h1 h2
  rw [c.meet_eq] at this ⊢
  exact partB_mono c h _ _ this

def Col.full (c : Col) : Nat := 2 ^ c.ws.length - 1

theorem full_bit (c : Col) (i : Nat) (h : i < c.ws.length) : c.full.testBit i = true := by
  rw [Col.full, Nat.testBit_two_pow_sub_one]
  simpa using h

theorem good_full (c : Col) : c.good = [] ↔ c.leftN c.full ≠ 0 := by
  have h3 := Nat.pow_pos (n := c.ws.length) (show 0 < 2 by omega)
  constructor
  · intro h h0
    have : c.full ∈ c.good := (good_mem c _).2 ⟨by simp only [Col.full]; omega, h0⟩
    rw [h] at this
    cases this
  · intro h
    rw [List.eq_nil_iff_forall_not_mem]
    intro s hs
    exact h (left_mono c (fun i hi _ => full_bit c i hi) ((good_mem c s).1 hs).2)

theorem alike_4 {c : Col} (hv : c.valid = true) (s : Nat) (hs : c.isSet s = true) : ((c.alikeR s).2.2 == 4) = (c.leftN s == 0) := by
  simp only [Col.alikeR, hv, hs, if_true, Int.toNat_natCast, c.alkR_eq, c.left_len]
  cases c.prL s <;> simp

theorem all_cl {p : Nat} {c : Col} {vw vp : AV} (h : ColAt H c vw vp) (hl : c.ws.length ≤ 1000 ∧ c.ps.length ≤ 1000) (hv : c.valid = true) (hp : H[p]? = some (.box (.agg [vw, vp, I c.lo, I c.hi, I c.ev, I c.er]))) (s : Nat) (hs : c.isSet s = true) :
    callVL cfg0 prog0 false (.func 37) [I s] [.ptr p 0] H none = some ⟨.ret (.bool (c.leftN s == 0)), H, none⟩ := by
  have h1 := co_Alike h hl s
  have h2 := alike_4 hv s hs
  simp only [Col.av] at h1
  rw [callVL_func]
  simp only [List.cons_append, List.nil_append]
  refine (callFL_eq fn37 rfl (by simp [Try.f37])).trans ?_
  simp (maxSteps := 1000000) (implicitDefEqProofs := false) (disch := first | rfl | omega | assumption) only [go_sem, ↓reduceIte, Nat.reduceEqDiff, Nat.reduceAdd, Nat.reduceLeDiff, Nat.reduceBEq, Nat.reduceMul, Nat.reduceLT, Int.reduceLT, Int.reduceLE, Int.reduceToNat, Int.reduceNeg, Int.reduceEq, Int.reduceMul, reduceCtorEq, Int.reduceBEq, Int.reduceBNe, Int.reduceAdd, Int.reduceSub, hp, h1, h2]

theorem lcost_loop {c : Col} {vw vp : AV} (h : ColAt H c vw vp) (ho : c.Ok) (s : Nat) (hs : s < 64) (r : Int) :
    ∀ (q j : Nat), j + q = c.ps.length → ∀ (n : Int), foldF (c.costA s) n j q = r → 0 ≤ n ∧ n ≤ 50 * j → ∀ E : Env, E.get 1 = I s → E.get 4 = I n → E.get 8 = vp → E.get 9 = I c.ps.length → E.get 10 = I j →
    Option.map (finishC H.length) (execL cfg0 prog0 ⟨39, none, false, H.length⟩ (todoAt Try.f39 2) ⟨E, [], H ++ [.box (c.av vw vp)], none⟩) = some ⟨.ret (I r), H, none⟩ := by
  intro q
  have l1 := ho.len
  have l2 := ho.plen
  obtain ⟨a1, a2, a3, a4⟩ := h.ps.fI
  simp only [Col.av]
  induction q with
  | zero =>
    intro j hj n hr hn E g1 g4 g8 g9 g10
    have hk' : ¬ (j : Int) < ((c.ps.length : Nat) : Int) := by omega
    simp only [foldF] at hr
    subst hr
    simp only [loopIt, todoPast, todoAt, todoOf, firstReg, ↓reduceIte, Option.some.injEq, Nat.reduceEqDiff, reduceCtorEq, Try.f39]
    rw [execL_inLoop]
    simp (maxSteps := 1000000) (implicitDefEqProofs := false) (disch := first | rfl | omega | assumption) only [go_sem, ↓reduceIte, Nat.reduceEqDiff, Nat.reduceAdd, Nat.reduceLeDiff, Nat.reduceBEq, Nat.reduceMul, Nat.reduceLT, Int.reduceLT, Int.reduceLE, Int.reduceToNat, Int.reduceNeg, Int.reduceEq, Int.reduceMul, reduceCtorEq, Int.reduceBEq, Int.reduceBNe, Int.reduceAdd, Int.reduceSub, g1, g4, g8, g9, g10, ltT, ltF, leT, leF, hk']
  | succ q ih =>
    intro j hj n hr hn E g1 g4 g8 g9 g10
    have hk' : (j : Int) < ((c.ps.length : Nat) : Int) := by omega
    have hk2 : j < c.ps.length := by omega
    have hp' := ho.ps j (by omega)
    have e1 := shrI (s := s) (j := j) (by omega)
    have e2 : s / 2 ^ j ≤ s := Nat.div_le_self _ _
    have e3 : bitsOp .and .i64 ((s / 2 ^ j : Nat) : Int) 1 = some ((s / 2 ^ j &&& 1 : Nat) : Int) := bitsAndI (b := 1) (by omega) (by decide)
    have e4 := and_one (s := s) (j := j)
    have z : ¬ (j : Int) < 0 := by omega
    simp only [foldF, Col.costA] at hr
    simp only [loopIt, todoPast, todoAt, todoOf, firstReg, ↓reduceIte, Option.some.injEq, Nat.reduceEqDiff, reduceCtorEq, Try.f39]
    rw [execL_inLoop]
    rcases Bool.eq_false_or_eq_true (s.testBit j) with hc | hc
    · rw [hc] at hr
      simp (maxSteps := 1000000) (implicitDefEqProofs := false) (disch := first | rfl | omega | assumption) only [go_sem, ↓reduceIte, Nat.reduceEqDiff, Nat.reduceAdd, Nat.reduceLeDiff, Nat.reduceBEq, Nat.reduceMul, Nat.reduceLT, Int.reduceLT, Int.reduceLE, Int.reduceToNat, Int.reduceNeg, Int.reduceEq, Int.reduceMul, reduceCtorEq, Int.reduceBEq, Int.reduceBNe, Int.reduceAdd, Int.reduceSub, g1, g4, g8, g9, g10, ltT, ltF, leT, leF, hk', a1, a2, a3, a4, e1, e3, e4, hc, z]
      exact ih (j + 1) (by omega) (n + c.ps.getD j 0) hr (by omega) _ (by exact g1) (by rfl) (by exact g8) (by exact g9) (by rfl)
    · rw [hc] at hr
      simp (maxSteps := 1000000) (implicitDefEqProofs := false) (disch := first | rfl | omega | assumption) only [go_sem, ↓reduceIte, Nat.reduceEqDiff, Nat.reduceAdd, Nat.reduceLeDiff, Nat.reduceBEq, Nat.reduceMul, Nat.reduceLT, Int.reduceLT, Int.reduceLE, Int.reduceToNat, Int.reduceNeg, Int.reduceEq, Int.reduceMul, reduceCtorEq, Int.reduceBEq, Int.reduceBNe, Int.reduceAdd, Int.reduceSub, g1, g4, g8, g9, g10, ltT, ltF, leT, leF, hk', a1, a2, a3, a4, e1, e3, e4, hc, z]
      exact ih (j + 1) (by omega) n hr (by omega) _ (by exact g1) (by exact g4) (by exact g8) (by exact g9) (by rfl)

theorem law_cost {c : Col} {vw vp : AV} (h : ColAt H c vw vp) (ho : c.Ok) (s : Nat) (hs : s < 64) : callFL cfg0 prog0 false 39 [c.av vw vp, I s] H none = some ⟨.ret (I (c.cost s)), H, none⟩ := by
  have s1 := h.ws.scal
  have s2 := h.ps.scal
  have h4 := lcost_loop h ho s hs (c.cost s) c.ps.length 0 (by omega) 0 rfl (by omega)
  simp only [Col.av] at h4 ⊢
  refine (callFL_eq fn39 rfl (by simp [Try.f39])).trans ?_
  simp (maxSteps := 1000000) (implicitDefEqProofs := false) (disch := first | rfl | omega | assumption) only [go_sem, ↓reduceIte, Nat.reduceEqDiff, Nat.reduceAdd, Nat.reduceLeDiff, Nat.reduceBEq, Nat.reduceMul, Nat.reduceLT, Int.reduceLT, Int.reduceLE, Int.reduceToNat, Int.reduceNeg, Int.reduceEq, Int.reduceMul, reduceCtorEq, Int.reduceBEq, Int.reduceBNe, Int.reduceAdd, Int.reduceSub, ltT, ltF, leT, leF, s1, s2, h.ps.len]
  exact h4 _ (by rfl) (by rfl) (by rfl) (by rfl) (by rfl)

end Go.Ab
/-
  ColourFewest, walked.
-/
namespace Go.Ab
open Go.Proofs
set_option linter.unusedSimpArgs false
set_option linter.unusedVariables false
set_option maxRecDepth 100000
set_option maxHeartbeats 4000000

variable {H : Heap}

theorem full_int {c : Col} : (((2 ^ c.ws.length : Nat) : Int) - 1) = (c.full : Int) := by
  have h3 := Nat.pow_pos (n := c.ws.length) (show 0 < 2 by omega)
  simp only [Col.full]
  omega

theorem full_set {c : Col} (ho : c.Ok) : c.isSet c.full = true ∧ c.full < 64 := by
  have h3 := Nat.pow_pos (n := c.ws.length) (show 0 < 2 by omega)
  have h2 : (2 : Nat) ^ c.ws.length ≤ 2 ^ 6 := Nat.pow_le_pow_right (by omega) ho.len.2
  constructor
  · rw [Col.isSet, full_int]
    exact wi_iff.2 ⟨by omega, by omega⟩
  · simp only [Col.full]; omega

theorem law_ColourFewest {c : Col} {vw vp : AV} (h : ColAt H c vw vp) (b8 : Int) (b3 : 0 ≤ b8 ∧ b8 ≤ 255) :
    callFL cfg0 prog0 false 8 [c.av vw vp, .int .u8 b8] H none = some ⟨.ret (.bool true), H, none⟩ := by
  have s1 := h.ws.scal
  have s2 := h.ps.scal
  have hH := fun G : Heap => law_heavy (h.app G) 30
  have hV := fun G : Heap => ref_Colour (h.app G)
  simp only [Col.av] at hH hV
  rcases Bool.eq_false_or_eq_true (c.heavy 30) with hh | hh
  · simp only [Col.av]
    refine (callFL_eq fn8 rfl (by simp [Try.f8])).trans ?_
    simp (maxSteps := 1000000) (implicitDefEqProofs := false) (disch := first | rfl | omega | assumption) only [go_sem, ↓reduceIte, Nat.reduceEqDiff, Nat.reduceAdd, Nat.reduceLeDiff, Nat.reduceBEq, Nat.reduceMul, Nat.reduceLT, Int.reduceLT, Int.reduceLE, Int.reduceToNat, Int.reduceNeg, Int.reduceEq, Int.reduceMul, reduceCtorEq, Int.reduceBEq, Int.reduceBNe, Int.reduceAdd, Int.reduceSub, s1, s2, hH, hh, law_alive]
  · have hlong : c.ws.length ≤ 40 ∧ c.ps.length ≤ 40 := by
      simp only [Col.heavy, Bool.or_eq_false_iff] at hh
      exact c.long_false hh.1
    rcases Bool.eq_false_or_eq_true c.valid with hv | hv
    · have ho := c.valid_iff.1 hv
      have hlen := ho.len
      obtain ⟨n3, rfl⟩ : ∃ n : Nat, b8 = n := ⟨b8.toNat, by omega⟩
      have t3 := shlI ho
      have t4 := sOf_bits ho (b := n3) (by omega)
      have hs := c.sOf_lt ho n3
      have hss := c.sOf_isSet ho n3
      have hfs := full_set ho
      have z : ¬ (c.ws.length : Int) < 0 := by omega
      have t5 : IntKind.i64.wrap ((2 ^ c.ws.length : Nat) - 1 : Int) = (c.full : Int) := by rw [full_int, w64 (by omega) (by omega)]
      rw [full_int] at t4
      have hcl := fun (G : Heap) (s : Nat) (hs : c.isSet s = true) => all_cl (H := H ++ .box (.agg [vw, vp, I c.lo, I c.hi, I c.ev, I c.er]) :: G) (p := H.length) (h.app _) (by omega) hv (by rw [get_at]; rfl) s hs
      simp only [callVL_func, List.cons_append, List.nil_append] at hcl
      have hfull := fun G : Heap => hcl G c.full hfs.1
      have hown := fun G : Heap => hcl G (c.sOf n3) hss
      have h1 := fun G : Heap => co_Fewest (h.app G) (by omega)
      have h2 := fun G : Heap => co_Cheapest (h.app G) (by omega)
      simp only [Col.few_eq, Col.bestR, hv, if_true] at h1 h2
      by_cases hg : c.good = []
      · have g1 : c.best (fun s => (pop s : Int)) = none := (best_none c _).2 hg
        have g2 : c.best c.cost = none := (best_none c _).2 hg
        have hnf : (c.leftN c.full == 0) = false := by simpa using (good_full c).1 hg
        simp only [g1] at h1
        simp only [g2] at h2
        simp only [Col.av] at h1 h2 ⊢
        refine (callFL_eq fn8 rfl (by simp [Try.f8])).trans ?_
        simp (maxSteps := 1000000) (implicitDefEqProofs := false) (disch := first | rfl | omega | assumption) only [go_sem, ↓reduceIte, Nat.reduceEqDiff, Nat.reduceAdd, Nat.reduceLeDiff, Nat.reduceBEq, Nat.reduceMul, Nat.reduceLT, Int.reduceLT, Int.reduceLE, Int.reduceToNat, Int.reduceNeg, Int.reduceEq, Int.reduceMul, reduceCtorEq, Int.reduceBEq, Int.reduceBNe, Int.reduceAdd, Int.reduceSub, s1, s2, hH, hh, hV, hv, t3, t5, z, h.ws.len, h1, h2, hfull, hnf, law_alive]
      · obtain ⟨b1, g1⟩ : ∃ b, c.best (fun s => (pop s : Int)) = some b := by
          cases hb : c.best (fun s => (pop s : Int)) with
          | none => exact absurd ((best_none c _).1 hb) hg
          | some b => exact ⟨b, rfl⟩
        obtain ⟨b2, g2⟩ : ∃ b, c.best c.cost = some b := by
          cases hb : c.best c.cost with
          | none => exact absurd ((best_none c _).1 hb) hg
          | some b => exact ⟨b, rfl⟩
        have hyf : (c.leftN c.full == 0) = true := by
          have : c.leftN c.full = 0 := Classical.byContradiction fun hn => hg ((good_full c).2 hn)
          simpa using this
        obtain ⟨k1, m1⟩ := best_some c _ g1
        obtain ⟨k2, m2⟩ := best_some c _ g2
        have q1 := (good_mem c b1).1 k1
        have q2 := (good_mem c b2).1 k2
        have r1 : c.isSet b1 = true := wi_iff.2 ⟨by omega, by omega⟩
        have r2 : c.isSet b2 = true := wi_iff.2 ⟨by omega, by omega⟩
        have i1 := ho.set_bd r1
        have i2 := ho.set_bd r2
        rw [Int.toNat_natCast] at i1 i2
        have f1 : (b1 : Int) ≤ c.full := by rw [← full_int]; omega
        have f2 : (b2 : Int) ≤ c.full := by rw [← full_int]; omega
        have x1 := fun G : Heap => hcl G b1 r1
        have x2 := fun G : Heap => hcl G b2 r2
        simp only [q1.2, beq_self_eq_true] at x1
        simp only [q2.2, beq_self_eq_true] at x2
        have y1 := fun G : Heap => ref_Size (H := G) b1 (by omega)
        have y2 := fun G : Heap => ref_Size (H := G) b2 (by omega)
        have y3 := fun G : Heap => ref_Size (H := G) (c.sOf n3) (by omega)
        have z1 := fun G : Heap => law_cost (h.app G) ho b1 (by omega)
        have z2 := fun G : Heap => law_cost (h.app G) ho b2 (by omega)
        have z3 := fun G : Heap => law_cost (h.app G) ho (c.sOf n3) (by omega)
        have w1 : ¬ c.cost b1 < c.cost b2 := by have := m2 b1 k1; omega
        have w2 : ¬ (pop b2 : Int) < pop b1 := by have := m1 b2 k2; omega
        simp only [g1] at h1
        simp only [g2] at h2
        simp only [Col.av] at h1 h2 z1 z2 z3 ⊢
        rcases Bool.eq_false_or_eq_true (c.leftN (c.sOf n3) == 0) with hx | hx
        · have hxg : c.sOf n3 ∈ c.good := (good_mem c _).2 ⟨hs.2, by simpa using hx⟩
          have v1 := m1 _ hxg
          have v2 := m2 _ hxg
          have u1 : (pop (c.sOf n3) : Int) > pop b1 ∨ (¬ (pop (c.sOf n3) : Int) > pop b1 ∧ ((pop (c.sOf n3) : Int) == pop b1) = true ∧ (c.sOf n3 : Int) ≥ b1) := by
            rcases v1 with v | ⟨v, w⟩
            · exact .inl v
            · exact .inr ⟨by omega, by simp; omega, by omega⟩
          have u2 : c.cost (c.sOf n3) > c.cost b2 ∨ (¬ c.cost (c.sOf n3) > c.cost b2 ∧ (c.cost (c.sOf n3) == c.cost b2) = true ∧ (c.sOf n3 : Int) ≥ b2) := by
            rcases v2 with v | ⟨v, w⟩
            · exact .inl v
            · exact .inr ⟨by omega, by simp; omega, by omega⟩
          simp only [gt_iff_lt, ge_iff_le] at u1 u2
          refine (callFL_eq fn8 rfl (by simp [Try.f8])).trans ?_
          rcases u1 with u1 | ⟨u1, u3, u4⟩ <;> rcases u2 with u2 | ⟨u2, u5, u6⟩
          · simp (maxSteps := 1000000) (implicitDefEqProofs := false) (disch := first | rfl | omega | assumption) only [go_sem, ↓reduceIte, Nat.reduceEqDiff, Nat.reduceAdd, Nat.reduceLeDiff, Nat.reduceBEq, Nat.reduceMul, Nat.reduceLT, Int.reduceLT, Int.reduceLE, Int.reduceToNat, Int.reduceNeg, Int.reduceEq, Int.reduceMul, reduceCtorEq, Int.reduceBEq, Int.reduceBNe, Int.reduceAdd, Int.reduceSub, ltT, ltF, leT, leF, s1, s2, hH, hh, hV, hv, t3, t4, t5, z, h.ws.len, h1, h2, hfull, hyf, law_alive, x1, x2, y1, y2, y3, z1, z2, z3, w1, w2, hown, hx, u1, u2]
          · simp (maxSteps := 1000000) (implicitDefEqProofs := false) (disch := first | rfl | omega | assumption) only [go_sem, ↓reduceIte, Nat.reduceEqDiff, Nat.reduceAdd, Nat.reduceLeDiff, Nat.reduceBEq, Nat.reduceMul, Nat.reduceLT, Int.reduceLT, Int.reduceLE, Int.reduceToNat, Int.reduceNeg, Int.reduceEq, Int.reduceMul, reduceCtorEq, Int.reduceBEq, Int.reduceBNe, Int.reduceAdd, Int.reduceSub, ltT, ltF, leT, leF, s1, s2, hH, hh, hV, hv, t3, t4, t5, z, h.ws.len, h1, h2, hfull, hyf, law_alive, x1, x2, y1, y2, y3, z1, z2, z3, w1, w2, hown, hx, u1, u2, u5, u6]
          · simp (maxSteps := 1000000) (implicitDefEqProofs := false) (disch := first | rfl | omega | assumption) only [go_sem, ↓reduceIte, Nat.reduceEqDiff, Nat.reduceAdd, Nat.reduceLeDiff, Nat.reduceBEq, Nat.reduceMul, Nat.reduceLT, Int.reduceLT, Int.reduceLE, Int.reduceToNat, Int.reduceNeg, Int.reduceEq, Int.reduceMul, reduceCtorEq, Int.reduceBEq, Int.reduceBNe, Int.reduceAdd, Int.reduceSub, ltT, ltF, leT, leF, s1, s2, hH, hh, hV, hv, t3, t4, t5, z, h.ws.len, h1, h2, hfull, hyf, law_alive, x1, x2, y1, y2, y3, z1, z2, z3, w1, w2, hown, hx, u1, u3, u4, u2]
          · simp (maxSteps := 1000000) (implicitDefEqProofs := false) (disch := first | rfl | omega | assumption) only [go_sem, ↓reduceIte, Nat.reduceEqDiff, Nat.reduceAdd, Nat.reduceLeDiff, Nat.reduceBEq, Nat.reduceMul, Nat.reduceLT, Int.reduceLT, Int.reduceLE, Int.reduceToNat, Int.reduceNeg, Int.reduceEq, Int.reduceMul, reduceCtorEq, Int.reduceBEq, Int.reduceBNe, Int.reduceAdd, Int.reduceSub, ltT, ltF, leT, leF, s1, s2, hH, hh, hV, hv, t3, t4, t5, z, h.ws.len, h1, h2, hfull, hyf, law_alive, x1, x2, y1, y2, y3, z1, z2, z3, w1, w2, hown, hx, u1, u3, u4, u2, u5, u6]
        · refine (callFL_eq fn8 rfl (by simp [Try.f8])).trans ?_
          simp (maxSteps := 1000000) (implicitDefEqProofs := false) (disch := first | rfl | omega | assumption) only [go_sem, ↓reduceIte, Nat.reduceEqDiff, Nat.reduceAdd, Nat.reduceLeDiff, Nat.reduceBEq, Nat.reduceMul, Nat.reduceLT, Int.reduceLT, Int.reduceLE, Int.reduceToNat, Int.reduceNeg, Int.reduceEq, Int.reduceMul, reduceCtorEq, Int.reduceBEq, Int.reduceBNe, Int.reduceAdd, Int.reduceSub, ltT, ltF, leT, leF, s1, s2, hH, hh, hV, hv, t3, t4, t5, z, h.ws.len, h1, h2, hfull, hyf, law_alive, x1, x2, y1, y2, y3, z1, z2, z3, w1, w2, hown, hx]
    · simp only [Col.av]
      refine (callFL_eq fn8 rfl (by simp [Try.f8])).trans ?_
      simp (maxSteps := 1000000) (implicitDefEqProofs := false) (disch := first | rfl | omega | assumption) only [go_sem, ↓reduceIte, Nat.reduceEqDiff, Nat.reduceAdd, Nat.reduceLeDiff, Nat.reduceBEq, Nat.reduceMul, Nat.reduceLT, Int.reduceLT, Int.reduceLE, Int.reduceToNat, Int.reduceNeg, Int.reduceEq, Int.reduceMul, reduceCtorEq, Int.reduceBEq, Int.reduceBNe, Int.reduceAdd, Int.reduceSub, s1, s2, hH, hh, hV, hv, law_alive]

end Go.Ab
/-
  ColourSpare, walked.
-/
namespace Go.Ab
open Go.Proofs
set_option linter.unusedSimpArgs false
set_option linter.unusedVariables false
set_option maxRecDepth 100000
set_option maxHeartbeats 4000000

variable {H : Heap}

theorem or_add2 : ∀ i : Nat, i < 6 → ∀ o : Nat, o < 64 → o < 2 ^ i → o ||| 2 ^ i = o + 2 ^ i := by decide +kernel
theorem bitN_not : ∀ s : Nat, s < 64 → ∀ i : Nat, i < 6 → s.testBit i = true → bitsOp .andNot .i64 (s : Int) ((2 ^ i : Nat) : Int) = some ((s - 2 ^ i : Nat) : Int) := by decide +kernel
theorem bitN_or : ∀ s : Nat, s < 64 → ∀ i : Nat, i < 6 → s.testBit i = false → bitsOp .or .i64 (s : Int) ((2 ^ i : Nat) : Int) = some ((s + 2 ^ i : Nat) : Int) := by decide +kernel
theorem bitN_sub : ∀ a : Nat, a < 64 → ∀ b : Nat, b < 64 → a &&& b = a → bitsOp .andNot .i64 (a : Int) (b : Int) = some 0 := by decide +kernel
theorem shl1 : ∀ i : Nat, i < 7 → IntKind.i64.wrap (1 * 2 ^ min i 64) = ((2 ^ i : Nat) : Int) := by decide +kernel
theorem add_lt64 : ∀ s : Nat, s < 64 → ∀ i : Nat, i < 6 → s.testBit i = false → s + 2 ^ i < 64 := by decide +kernel

def Col.sprF (c : Col) (s i : Nat) : Bool := s.testBit i && (c.leftN (s - 2 ^ i) == 0)

theorem spr_mask {c : Col} (ho : c.Ok) (s : Nat) : ∀ j, j ≤ c.ws.length → foldF (c.sprA s) 0 0 j = maskN (c.sprF s) j
  | 0, _ => rfl
  | j + 1, hj => by
    have hl := ho.len
    rw [foldF_snoc, spr_mask ho s j (by omega), Nat.zero_add, maskN, Col.sprA]
    have hlt := maskN_lt (c.sprF s) j
    have h6 : (2 : Nat) ^ j ≤ 2 ^ 6 := Nat.pow_le_pow_right (by omega) (by omega)
    change (if c.sprF s j = true then _ else _) = _
    cases c.sprF s j
    · simp
    · simp only [if_true]
      rw [or_add2 j (by omega) _ (by omega) hlt]

theorem spr_bit {c : Col} (ho : c.Ok) (s i : Nat) (hi : i < c.ws.length) : (c.spr s).testBit i = c.sprF s i := by
  rw [Col.spr, spr_mask ho s _ (Nat.le_refl _), maskN_bit]
  simp [hi]

theorem spr_sub {c : Col} (ho : c.Ok) (s : Nat) : c.spr s < 64 ∧ c.spr s &&& s = c.spr s := by
  have hl := ho.len
  have h6 : (2 : Nat) ^ c.ws.length ≤ 2 ^ 6 := Nat.pow_le_pow_right (by omega) hl.2
  have e : c.spr s = maskN (c.sprF s) c.ws.length := spr_mask ho s _ (Nat.le_refl _)
  have hlt := maskN_lt (c.sprF s) c.ws.length
  refine ⟨by omega, ?_⟩
  apply Nat.eq_of_testBit_eq
  intro i
  rw [Nat.testBit_and, e, maskN_bit]
  simp only [Col.sprF]
  cases s.testBit i <;> simp

/-- What is next, told. -/
theorem nxt_spec (c : Col) (s : Nat) : ((c.nxt s).1 < 0 ∧ ∀ k, k < c.ws.length → s.testBit k = true) ∨
    ∃ k : Nat, k < c.ws.length ∧ c.nxt s = ((k : Int), (c.leftN (s + 2 ^ k) : Int)) ∧ s.testBit k = false ∧ ∀ m, m < c.ws.length → s.testBit m = false → c.leftN (s + 2 ^ k) < c.leftN (s + 2 ^ m) ∨ (c.leftN (s + 2 ^ k) = c.leftN (s + 2 ^ m) ∧ k ≤ m) := by
  have := foldF_inv (c.nxtA s) (fun i p => (p.1 < 0 ∧ ∀ k, k < i → s.testBit k = true) ∨
    ∃ k : Nat, k < i ∧ p = ((k : Int), (c.leftN (s + 2 ^ k) : Int)) ∧ s.testBit k = false ∧ ∀ m, m < i → s.testBit m = false → c.leftN (s + 2 ^ k) < c.leftN (s + 2 ^ m) ∨ (c.leftN (s + 2 ^ k) = c.leftN (s + 2 ^ m) ∧ k ≤ m))
    c.ws.length 0 (-1, 0) (.inl ⟨by decide, fun k hk => by omega⟩) (fun i p _ hi hp => by
      simp only [Col.nxtA]
      rcases Bool.eq_false_or_eq_true (s.testBit i) with ht | ht
      · rw [if_pos ht]
        rcases hp with ⟨h1, h2⟩ | ⟨k, h1, h2, h3, h4⟩
        · refine .inl ⟨h1, fun k hk => ?_⟩
          by_cases e : k = i
          · subst e; exact ht
          · exact h2 k (by omega)
        · refine .inr ⟨k, by omega, h2, h3, fun m hm hb => ?_⟩
          have : m ≠ i := by rintro rfl; rw [ht] at hb; cases hb
          exact h4 m (by omega) hb
      · rw [if_neg (by simp [ht])]
        rcases hp with ⟨h1, h2⟩ | ⟨k, h1, h2, h3, h4⟩
        · rw [if_pos (.inl h1)]
          refine .inr ⟨i, by omega, rfl, ht, fun m hm hb => ?_⟩
          by_cases e : m = i
          · subst e; exact .inr ⟨rfl, Nat.le_refl _⟩
          · rw [h2 m (by omega)] at hb; cases hb
        · subst h2
          by_cases hl : c.leftN (s + 2 ^ i) < c.leftN (s + 2 ^ k)
          · rw [if_pos (.inr (by simp only; omega))]
            refine .inr ⟨i, by omega, rfl, ht, fun m hm hb => ?_⟩
            by_cases e : m = i
            · subst e; exact .inr ⟨rfl, Nat.le_refl _⟩
            · have := h4 m (by omega) hb
              omega
          · rw [if_neg (by simp only; omega)]
            refine .inr ⟨k, by omega, rfl, h3, fun m hm hb => ?_⟩
            by_cases e : m = i
            · subst e; omega
            · exact h4 m (by omega) hb)
  simp only [Nat.zero_add] at this
  exact this

theorem full_iff {c : Col} {s : Nat} (hs : s < 2 ^ c.ws.length) : (∀ k, k < c.ws.length → s.testBit k = true) ↔ s = c.full := by
  constructor
  · intro h
    apply Nat.eq_of_testBit_eq
    intro i
    rw [Col.full, Nat.testBit_two_pow_sub_one]
    by_cases hi : i < c.ws.length
    · rw [h i hi]; simp [hi]
    · rw [Nat.testBit_lt_two_pow (Nat.lt_of_lt_of_le hs (Nat.pow_le_pow_right (by omega) (by omega)))]
      simp [hi]
  · rintro rfl k hk
    exact full_bit c k hk

end Go.Ab
/-
  ColourSpare, walked.
-/
namespace Go.Ab
open Go.Proofs
set_option linter.unusedSimpArgs false
set_option linter.unusedVariables false
set_option maxRecDepth 100000
set_option maxHeartbeats 4000000

variable {H : Heap}

theorem isSet_lt {c : Col} {s : Nat} (h : s < 2 ^ c.ws.length) : c.isSet (s : Int) = true :=
  wi_iff.2 ⟨Int.natCast_nonneg _, by have := Int.ofNat_lt.2 h; omega⟩

theorem spare_loop {c : Col} {vw vp : AV} (h : ColAt H c vw vp) (ho : c.Ok) (hv : c.valid = true) {s : Nat} (hs : s < 64) (hs2 : s < 2 ^ c.ws.length) (e nx sp : Int) (lf : Nat) (hE : (e = 0 ∧ sp = (c.spr s : Int)) ∨ e = 11) (hN : ∀ m : Nat, m < c.ws.length → s.testBit m = false → ¬ (c.leftN (s + 2 ^ m) : Int) < lf ∧ ¬ ((c.leftN (s + 2 ^ m) : Int) = lf ∧ (m : Int) < nx) ∧ ¬ ((m : Int) = nx ∧ ¬ (c.leftN (s + 2 ^ m) : Int) = lf)) :
    ∀ (q j : Nat), j + q = c.ws.length → ∀ E : Env, E.get 2 = .ptr H.length 0 → E.get 6 = I s → E.get 7 = I sp → E.get 8 = I e → E.get 9 = I nx → E.get 10 = I lf → E.get 128 = I c.ws.length → E.get 129 = I j →
    Option.map (finishC H.length) (execL cfg0 prog0 ⟨9, none, false, H.length⟩ (todoAt Try.f9 13) ⟨E, [], H ++ [.box (c.av vw vp)], none⟩) = some ⟨.ret (.bool true), H, none⟩ := by
  intro q
  have hl := ho.len
  have hlp := ho.plen
  have hspr := spr_sub ho s
  simp only [Col.av]
  induction q with
  | zero =>
    intro j hj  E g2 g6 g7 g8 g9 g10 g128 g129
    have hk' : ¬ (j : Int) < ((c.ws.length : Nat) : Int) := by omega
    simp only [loopIt, todoPast, todoAt, todoOf, firstReg, ↓reduceIte, Option.some.injEq, Nat.reduceEqDiff, reduceCtorEq, Try.f9]
    rw [execL_inLoop]
    simp (maxSteps := 1000000) (implicitDefEqProofs := false) (disch := first | rfl | omega | assumption) only [go_sem, ↓reduceIte, Nat.reduceEqDiff, Nat.reduceAdd, Nat.reduceLeDiff, Nat.reduceBEq, Nat.reduceMul, Nat.reduceLT, Int.reduceLT, Int.reduceLE, Int.reduceToNat, Int.reduceNeg, Int.reduceEq, Int.reduceMul, reduceCtorEq, Int.reduceBEq, Int.reduceBNe, Int.reduceAdd, Int.reduceSub, g2, g6, g7, g8, g9, g10, g128, g129, ltT, ltF, leT, leF, hk', law_alive]
  | succ q ih =>
    intro j hj  E g2 g6 g7 g8 g9 g10 g128 g129
    have hk' : (j : Int) < ((c.ws.length : Nat) : Int) := by omega
    have hk2 : j < c.ws.length := by omega
    have e1 := shrI (s := s) (j := j) (by omega)
    have e2 : s / 2 ^ j ≤ s := Nat.div_le_self _ _
    have e3 : bitsOp .and .i64 ((s / 2 ^ j : Nat) : Int) 1 = some ((s / 2 ^ j &&& 1 : Nat) : Int) := bitsAndI (b := 1) (by omega) (by decide)
    have e4 := and_one (s := s) (j := j)
    have z : ¬ (j : Int) < 0 := by omega
    have sh := shl1 j (by omega)
    rcases Bool.eq_false_or_eq_true (s.testBit j) with ht | ht
    · have b1 := bitN_not s hs j (by omega) ht
      have hle := bit_le ht
      have i1 : c.isSet ((s - 2 ^ j : Nat) : Int) = true := isSet_lt (Nat.lt_of_le_of_lt (Nat.sub_le _ _) hs2)
      have hA := fun G : Heap => co_Alike (h.app G) (by omega) ((s - 2 ^ j : Nat) : Int)
      have h4 := alike_4 hv (s - 2 ^ j) i1
      simp only [Col.av] at hA
      rcases hE with ⟨rfl, rfl⟩ | rfl
      · have f1 := shrI (s := c.spr s) (j := j) (by omega)
        have f2 : c.spr s / 2 ^ j ≤ c.spr s := Nat.div_le_self _ _
        have f3 : bitsOp .and .i64 ((c.spr s / 2 ^ j : Nat) : Int) 1 = some ((c.spr s / 2 ^ j &&& 1 : Nat) : Int) := bitsAndI (b := 1) (by omega) (by decide)
        have f4 := and_one (s := c.spr s) (j := j)
        rw [spr_bit ho s j hk2, Col.sprF, ht, Bool.true_and] at f4
        simp only [loopIt, todoPast, todoAt, todoOf, firstReg, ↓reduceIte, Option.some.injEq, Nat.reduceEqDiff, reduceCtorEq, Try.f9]
        rw [execL_inLoop]
        simp (maxSteps := 1000000) (implicitDefEqProofs := false) (disch := first | rfl | omega | assumption) only [go_sem, ↓reduceIte, Nat.reduceEqDiff, Nat.reduceAdd, Nat.reduceLeDiff, Nat.reduceBEq, Nat.reduceMul, Nat.reduceLT, Int.reduceLT, Int.reduceLE, Int.reduceToNat, Int.reduceNeg, Int.reduceEq, Int.reduceMul, reduceCtorEq, Int.reduceBEq, Int.reduceBNe, Int.reduceAdd, Int.reduceSub, g2, g6, g7, g8, g9, g10, g128, g129, ltT, ltF, leT, leF, hk', e1, e3, e4, ht, z, sh, b1]
        rw [chkK_of]; rotate_left; kernel_rfl
        simp (maxSteps := 1000000) (implicitDefEqProofs := false) (disch := first | rfl | omega | assumption) only [go_sem, ↓reduceIte, Nat.reduceEqDiff, Nat.reduceAdd, Nat.reduceLeDiff, Nat.reduceBEq, Nat.reduceMul, Nat.reduceLT, Int.reduceLT, Int.reduceLE, Int.reduceToNat, Int.reduceNeg, Int.reduceEq, Int.reduceMul, reduceCtorEq, Int.reduceBEq, Int.reduceBNe, Int.reduceAdd, Int.reduceSub, g2, g6, g7, g8, g9, g10, g128, g129, ltT, ltF, leT, leF, hk', e1, e3, e4, ht, z, sh, b1, hA, h4, f1, f3, f4]
        exact ih (j + 1) (by omega) _ (by exact g2) (by exact g6) (by exact g7) (by exact g8) (by exact g9) (by exact g10) (by exact g128) (by rfl)
      · skip
        simp only [loopIt, todoPast, todoAt, todoOf, firstReg, ↓reduceIte, Option.some.injEq, Nat.reduceEqDiff, reduceCtorEq, Try.f9]
        rw [execL_inLoop]
        simp (maxSteps := 1000000) (implicitDefEqProofs := false) (disch := first | rfl | omega | assumption) only [go_sem, ↓reduceIte, Nat.reduceEqDiff, Nat.reduceAdd, Nat.reduceLeDiff, Nat.reduceBEq, Nat.reduceMul, Nat.reduceLT, Int.reduceLT, Int.reduceLE, Int.reduceToNat, Int.reduceNeg, Int.reduceEq, Int.reduceMul, reduceCtorEq, Int.reduceBEq, Int.reduceBNe, Int.reduceAdd, Int.reduceSub, g2, g6, g7, g8, g9, g10, g128, g129, ltT, ltF, leT, leF, hk', e1, e3, e4, ht, z, sh, b1]
        rw [chkK_of]; rotate_left; kernel_rfl
        simp (maxSteps := 1000000) (implicitDefEqProofs := false) (disch := first | rfl | omega | assumption) only [go_sem, ↓reduceIte, Nat.reduceEqDiff, Nat.reduceAdd, Nat.reduceLeDiff, Nat.reduceBEq, Nat.reduceMul, Nat.reduceLT, Int.reduceLT, Int.reduceLE, Int.reduceToNat, Int.reduceNeg, Int.reduceEq, Int.reduceMul, reduceCtorEq, Int.reduceBEq, Int.reduceBNe, Int.reduceAdd, Int.reduceSub, g2, g6, g7, g8, g9, g10, g128, g129, ltT, ltF, leT, leF, hk', e1, e3, e4, ht, z, sh, b1, hA]
        exact ih (j + 1) (by omega) _ (by exact g2) (by exact g6) (by exact g7) (by exact g8) (by exact g9) (by exact g10) (by exact g128) (by rfl)
    · have b1 := bitN_or s hs j (by omega) ht
      have hlt := add_lt64 s hs j (by omega) ht
      have i1 : c.isSet ((s + 2 ^ j : Nat) : Int) = true := by
        have : s ||| 2 ^ j < 2 ^ c.ws.length := Nat.or_lt_two_pow hs2 (Nat.pow_lt_pow_right (by omega) hk2)
        rw [or_add s hs j (by omega) ht] at this
        exact isSet_lt this
      have hP := fun G : Heap => co_Pairs (h.app G) (by omega) ((s + 2 ^ j : Nat) : Int)
      simp only [Col.pairsR, hv, i1, if_true, Int.toNat_natCast] at hP
      obtain ⟨n1, n2, n3⟩ := hN j hk2 ht
      simp only [Col.av] at hP
      generalize (c.leftN (s + 2 ^ j) : Int) = L at *
      generalize (c.worstR (s + 2 ^ j) : Int) = W at *
      simp only [loopIt, todoPast, todoAt, todoOf, firstReg, ↓reduceIte, Option.some.injEq, Nat.reduceEqDiff, reduceCtorEq, Try.f9]
      rw [execL_inLoop]
      simp (maxSteps := 1000000) (implicitDefEqProofs := false) (disch := first | rfl | omega | assumption) only [go_sem, ↓reduceIte, Nat.reduceEqDiff, Nat.reduceAdd, Nat.reduceLeDiff, Nat.reduceBEq, Nat.reduceMul, Nat.reduceLT, Int.reduceLT, Int.reduceLE, Int.reduceToNat, Int.reduceNeg, Int.reduceEq, Int.reduceMul, reduceCtorEq, Int.reduceBEq, Int.reduceBNe, Int.reduceAdd, Int.reduceSub, g2, g6, g7, g8, g9, g10, g128, g129, ltT, ltF, leT, leF, hk', e1, e3, e4, ht, z, sh, b1]
      rw [chkK_of]; rotate_left; kernel_rfl
      by_cases c1 : L = lf
      · have c2 : (L == (lf : Int)) = true := by simpa using c1
        have c3 : ¬ (j : Int) < nx := fun hh => n2 ⟨c1, hh⟩
        have c4 : (L != (lf : Int)) = false := by simp [c1]
        rcases Int.lt_trichotomy (j : Int) nx with q1 | q1 | q1
        · exact absurd q1 c3
        · have c5 : ((j : Int) == nx) = true := by simpa using q1
          simp (maxSteps := 1000000) (implicitDefEqProofs := false) (disch := first | rfl | omega | assumption) only [go_sem, ↓reduceIte, Nat.reduceEqDiff, Nat.reduceAdd, Nat.reduceLeDiff, Nat.reduceBEq, Nat.reduceMul, Nat.reduceLT, Int.reduceLT, Int.reduceLE, Int.reduceToNat, Int.reduceNeg, Int.reduceEq, Int.reduceMul, reduceCtorEq, Int.reduceBEq, Int.reduceBNe, Int.reduceAdd, Int.reduceSub, g2, g6, g7, g8, g9, g10, g128, g129, ltT, ltF, leT, leF, hk', e1, e3, e4, ht, z, sh, b1, hP, n1, c2, c3, c4, c5]
          exact ih (j + 1) (by omega) _ (by exact g2) (by exact g6) (by exact g7) (by exact g8) (by exact g9) (by exact g10) (by exact g128) (by rfl)
        · have c5 : ((j : Int) == nx) = false := by simp; omega
          simp (maxSteps := 1000000) (implicitDefEqProofs := false) (disch := first | rfl | omega | assumption) only [go_sem, ↓reduceIte, Nat.reduceEqDiff, Nat.reduceAdd, Nat.reduceLeDiff, Nat.reduceBEq, Nat.reduceMul, Nat.reduceLT, Int.reduceLT, Int.reduceLE, Int.reduceToNat, Int.reduceNeg, Int.reduceEq, Int.reduceMul, reduceCtorEq, Int.reduceBEq, Int.reduceBNe, Int.reduceAdd, Int.reduceSub, g2, g6, g7, g8, g9, g10, g128, g129, ltT, ltF, leT, leF, hk', e1, e3, e4, ht, z, sh, b1, hP, n1, c2, c3, c4, c5]
          exact ih (j + 1) (by omega) _ (by exact g2) (by exact g6) (by exact g7) (by exact g8) (by exact g9) (by exact g10) (by exact g128) (by rfl)
      · have c2 : (L == (lf : Int)) = false := by simpa using c1
        have c5 : ((j : Int) == nx) = false := by
          have : ¬ (j : Int) = nx := fun hh => n3 ⟨hh, c1⟩
          simpa using this
        simp (maxSteps := 1000000) (implicitDefEqProofs := false) (disch := first | rfl | omega | assumption) only [go_sem, ↓reduceIte, Nat.reduceEqDiff, Nat.reduceAdd, Nat.reduceLeDiff, Nat.reduceBEq, Nat.reduceMul, Nat.reduceLT, Int.reduceLT, Int.reduceLE, Int.reduceToNat, Int.reduceNeg, Int.reduceEq, Int.reduceMul, reduceCtorEq, Int.reduceBEq, Int.reduceBNe, Int.reduceAdd, Int.reduceSub, g2, g6, g7, g8, g9, g10, g128, g129, ltT, ltF, leT, leF, hk', e1, e3, e4, ht, z, sh, b1, hP, n1, c2, c5]
        exact ih (j + 1) (by omega) _ (by exact g2) (by exact g6) (by exact g7) (by exact g8) (by exact g9) (by exact g10) (by exact g128) (by rfl)

theorem law_ColourSpare {c : Col} {vw vp : AV} (h : ColAt H c vw vp) (b8 : Int) (b3 : 0 ≤ b8 ∧ b8 ≤ 255) :
    callFL cfg0 prog0 false 9 [c.av vw vp, .int .u8 b8] H none = some ⟨.ret (.bool true), H, none⟩ := by
  have s1 := h.ws.scal
  have s2 := h.ps.scal
  have hH := fun G : Heap => law_heavy (h.app G) 30
  have hV := fun G : Heap => ref_Colour (h.app G)
  simp only [Col.av] at hH hV
  rcases Bool.eq_false_or_eq_true (c.heavy 30) with hh | hh
  · simp only [Col.av]
    refine (callFL_eq fn9 rfl (by simp [Try.f9])).trans ?_
    simp (maxSteps := 1000000) (implicitDefEqProofs := false) (disch := first | rfl | omega | assumption) only [go_sem, ↓reduceIte, Nat.reduceEqDiff, Nat.reduceAdd, Nat.reduceLeDiff, Nat.reduceBEq, Nat.reduceMul, Nat.reduceLT, Int.reduceLT, Int.reduceLE, Int.reduceToNat, Int.reduceNeg, Int.reduceEq, Int.reduceMul, reduceCtorEq, Int.reduceBEq, Int.reduceBNe, Int.reduceAdd, Int.reduceSub, s1, s2, hH, hh, law_alive]
  · have hlong : c.ws.length ≤ 40 ∧ c.ps.length ≤ 40 := by
      simp only [Col.heavy, Bool.or_eq_false_iff] at hh
      exact c.long_false hh.1
    rcases Bool.eq_false_or_eq_true c.valid with hv | hv
    · have ho := c.valid_iff.1 hv
      have hlen := ho.len
      obtain ⟨n3, rfl⟩ : ∃ n : Nat, b8 = n := ⟨b8.toNat, by omega⟩
      have t3 := shlI ho
      have t4 := sOf_bits ho (b := n3) (by omega)
      have hs := c.sOf_lt ho n3
      have hss := c.sOf_isSet ho n3
      have hfs := full_set ho
      have z : ¬ (c.ws.length : Int) < 0 := by omega
      have t5 : IntKind.i64.wrap ((2 ^ c.ws.length : Nat) - 1 : Int) = (c.full : Int) := by rw [full_int, w64 (by omega) (by omega)]
      rw [full_int] at t4
      generalize c.sOf n3 = s at *
      have h1 := fun G : Heap => co_Spare (h.app G) (by omega) s
      have h2 := fun G : Heap => co_Next (h.app G) (by omega) s
      have h3 := fun G : Heap => co_Alike (h.app G) (by omega) s
      have h4 := alike_4 hv s hss
      have hspr := spr_sub ho s
      have hsub := bitN_sub (c.spr s) hspr.1 s hs.1 hspr.2
      have hsub0 : bitsOp .andNot .i64 0 (s : Int) = some 0 := bitN_sub 0 (by omega) s hs.1 (by simp)
      have hlp := fun (E : Env) (e nx sp : Int) (lf : Nat) he hn => spare_loop h ho hv hs.1 hs.2 e nx sp lf he hn c.ws.length 0 (by omega) E
      simp only [Col.spare_eq, Col.spareR, hv, hss, if_true, Int.toNat_natCast] at h1
      simp only [Col.next_eq, Col.nextR, hv, hss, if_true, Int.toNat_natCast] at h2
      have hfi := full_iff (c := c) hs.2
      have hnx := nxt_spec c s
      simp only [Col.av] at h1 h2 h3 hlp ⊢
      rcases hnx with ⟨k1, k2⟩ | ⟨k, k1, k2, k3, k4⟩
      · have e1 : s = c.full := hfi.1 k2
        have hfull : ((s : Int) == (c.full : Int)) = true := by rw [← e1]; simp
        clear e1
        simp only [k1, if_true] at h2
        have hn' : ∀ m : Nat, m < c.ws.length → s.testBit m = false → ¬ (c.leftN (s + 2 ^ m) : Int) < (0 : Nat) ∧ ¬ ((c.leftN (s + 2 ^ m) : Int) = (0 : Nat) ∧ (m : Int) < 0) ∧ ¬ ((m : Int) = 0 ∧ ¬ (c.leftN (s + 2 ^ m) : Int) = (0 : Nat)) := by
          intro m hm hb
          rw [k2 m hm] at hb; cases hb
        rcases Nat.eq_zero_or_pos (c.leftN s) with h0 | h0
        · have h0' : (c.leftN s == 0) = true := by simp [h0]
          rw [h0'] at h4
          simp only [h0, Nat.lt_irrefl, if_false] at h1
          refine (callFL_eq fn9 rfl (by simp [Try.f9])).trans ?_
          simp (maxSteps := 1000000) (implicitDefEqProofs := false) (disch := first | rfl | omega | assumption) only [go_sem, ↓reduceIte, Nat.reduceEqDiff, Nat.reduceAdd, Nat.reduceLeDiff, Nat.reduceBEq, Nat.reduceMul, Nat.reduceLT, Int.reduceLT, Int.reduceLE, Int.reduceToNat, Int.reduceNeg, Int.reduceEq, Int.reduceMul, reduceCtorEq, Int.reduceBEq, Int.reduceBNe, Int.reduceAdd, Int.reduceSub, ltT, ltF, leT, leF, s1, s2, hH, hh, hV, hv, t3, t4, t5, z, h.ws.len, h1, h2, h3, h4, hsub, hfull]
          exact hlp _ 0 0 _ 0 (.inl ⟨rfl, rfl⟩) hn' (by rfl) (by rfl) (by rfl) (by rfl) (by rfl) (by rfl) (by rfl) (by rfl)
        · have h0' : (c.leftN s == 0) = false := by simp; omega
          rw [h0'] at h4
          simp only [h0, if_true] at h1
          refine (callFL_eq fn9 rfl (by simp [Try.f9])).trans ?_
          simp (maxSteps := 1000000) (implicitDefEqProofs := false) (disch := first | rfl | omega | assumption) only [go_sem, ↓reduceIte, Nat.reduceEqDiff, Nat.reduceAdd, Nat.reduceLeDiff, Nat.reduceBEq, Nat.reduceMul, Nat.reduceLT, Int.reduceLT, Int.reduceLE, Int.reduceToNat, Int.reduceNeg, Int.reduceEq, Int.reduceMul, reduceCtorEq, Int.reduceBEq, Int.reduceBNe, Int.reduceAdd, Int.reduceSub, ltT, ltF, leT, leF, s1, s2, hH, hh, hV, hv, t3, t4, t5, z, h.ws.len, h1, h2, h3, h4, hsub0, hfull]
          exact hlp _ 11 0 0 0 (.inr rfl) hn' (by rfl) (by rfl) (by rfl) (by rfl) (by rfl) (by rfl) (by rfl) (by rfl)
      · have hfull : ((s : Int) == (c.full : Int)) = false := by
          have : s ≠ c.full := by
            intro e
            rw [hfi.2 e k k1] at k3
            cases k3
          simp; omega
        have kn : ¬ (k : Int) < 0 := by omega
        simp only [k2, kn, if_false] at h2
        have hn' : ∀ m : Nat, m < c.ws.length → s.testBit m = false → ¬ (c.leftN (s + 2 ^ m) : Int) < (c.leftN (s + 2 ^ k) : Nat) ∧ ¬ ((c.leftN (s + 2 ^ m) : Int) = (c.leftN (s + 2 ^ k) : Nat) ∧ (m : Int) < (k : Int)) ∧ ¬ ((m : Int) = (k : Int) ∧ ¬ (c.leftN (s + 2 ^ m) : Int) = (c.leftN (s + 2 ^ k) : Nat)) := by
          intro m hm hb
          have := k4 m hm hb
          refine ⟨by omega, by omega, ?_⟩
          rintro ⟨g1, g2⟩
          have : m = k := by omega
          subst this
          exact g2 rfl
        have e1 := shrI (s := s) (j := k) (by omega)
        have e2 : s / 2 ^ k ≤ s := Nat.div_le_self _ _
        have e3 : bitsOp .and .i64 ((s / 2 ^ k : Nat) : Int) 1 = some ((s / 2 ^ k &&& 1 : Nat) : Int) := bitsAndI (b := 1) (by omega) (by decide)
        have e4 := and_one (s := s) (j := k)
        rcases Nat.eq_zero_or_pos (c.leftN s) with h0 | h0
        · have h0' : (c.leftN s == 0) = true := by simp [h0]
          rw [h0'] at h4
          simp only [h0, Nat.lt_irrefl, if_false] at h1
          refine (callFL_eq fn9 rfl (by simp [Try.f9])).trans ?_
          simp (maxSteps := 1000000) (implicitDefEqProofs := false) (disch := first | rfl | omega | assumption) only [go_sem, ↓reduceIte, Nat.reduceEqDiff, Nat.reduceAdd, Nat.reduceLeDiff, Nat.reduceBEq, Nat.reduceMul, Nat.reduceLT, Int.reduceLT, Int.reduceLE, Int.reduceToNat, Int.reduceNeg, Int.reduceEq, Int.reduceMul, reduceCtorEq, Int.reduceBEq, Int.reduceBNe, Int.reduceAdd, Int.reduceSub, ltT, ltF, leT, leF, s1, s2, hH, hh, hV, hv, t3, t4, t5, z, h.ws.len, h1, h2, h3, h4, hsub, hfull, e1, e3, e4, k3]
          exact hlp _ 0 k _ (c.leftN (s + 2 ^ k)) (.inl ⟨rfl, rfl⟩) hn' (by rfl) (by rfl) (by rfl) (by rfl) (by rfl) (by rfl) (by rfl) (by rfl)
        · have h0' : (c.leftN s == 0) = false := by simp; omega
          rw [h0'] at h4
          simp only [h0, if_true] at h1
          refine (callFL_eq fn9 rfl (by simp [Try.f9])).trans ?_
          simp (maxSteps := 1000000) (implicitDefEqProofs := false) (disch := first | rfl | omega | assumption) only [go_sem, ↓reduceIte, Nat.reduceEqDiff, Nat.reduceAdd, Nat.reduceLeDiff, Nat.reduceBEq, Nat.reduceMul, Nat.reduceLT, Int.reduceLT, Int.reduceLE, Int.reduceToNat, Int.reduceNeg, Int.reduceEq, Int.reduceMul, reduceCtorEq, Int.reduceBEq, Int.reduceBNe, Int.reduceAdd, Int.reduceSub, ltT, ltF, leT, leF, s1, s2, hH, hh, hV, hv, t3, t4, t5, z, h.ws.len, h1, h2, h3, h4, hsub0, hfull, e1, e3, e4, k3]
          exact hlp _ 11 k 0 (c.leftN (s + 2 ^ k)) (.inr rfl) hn' (by rfl) (by rfl) (by rfl) (by rfl) (by rfl) (by rfl) (by rfl) (by rfl)
    · simp only [Col.av]
      refine (callFL_eq fn9 rfl (by simp [Try.f9])).trans ?_
      simp (maxSteps := 1000000) (implicitDefEqProofs := false) (disch := first | rfl | omega | assumption) only [go_sem, ↓reduceIte, Nat.reduceEqDiff, Nat.reduceAdd, Nat.reduceLeDiff, Nat.reduceBEq, Nat.reduceMul, Nat.reduceLT, Int.reduceLT, Int.reduceLE, Int.reduceToNat, Int.reduceNeg, Int.reduceEq, Int.reduceMul, reduceCtorEq, Int.reduceBEq, Int.reduceBNe, Int.reduceAdd, Int.reduceSub, s1, s2, hH, hh, hV, hv, law_alive]

end Go.Ab
/-
  ColourPairs, walked: its loops.
-/
namespace Go.Ab
open Go.Proofs
set_option linter.unusedSimpArgs false
set_option linter.unusedVariables false
set_option maxRecDepth 100000
set_option maxHeartbeats 4000000

variable {H : Heap}

theorem lens_loop {c : Col} {vw vp : AV} (h : ColAt H c vw vp) (hc : c.Ok) :
    ∀ (q j : Nat), j + q = c.manyN → ∀ (len : Nat), ∀ (xs : List AV), xs = ((List.range j).map c.lenAt).map I → len = xs.length → ∀ E : Env, E.get 1 = .ptr H.length 0 → E.get 2 = .gsl (H.length + 1) len → E.get 3 = I (c.lenAt j) →
    Option.map (finishC H.length) (execL cfg0 prog0 ⟨36, none, false, H.length⟩ (todoAt Try.f36 2) ⟨E, [], H ++ [.box (c.av vw vp), .grow 1 xs], none⟩) = some ⟨.ret (.sl false (c.lens.map I)), H, none⟩ := by
  intro q
  have s1 := h.ws.scal
  have s2 := h.ps.scal
  have mb := hc.many_bd
  have b1 := hc.lo
  have b2 := hc.ev
  simp only [Col.av]
  induction q with
  | zero =>
    intro j hj len xs hx hlen E g1 g2 g3
    have hk' : ¬ (j : Int) < ((c.manyN : Nat) : Int) := by omega
    have hlt := hc.lt_many j
    have hx2 : xs = c.lens.map I := by rw [hx, show j = c.manyN by omega]; rfl
    have hn : ¬ c.lenAt j ≤ c.hi := by omega
    subst hlen
    simp only [loopIt, todoPast, todoAt, todoOf, firstReg, ↓reduceIte, Option.some.injEq, Nat.reduceEqDiff, reduceCtorEq, Try.f36]
    rw [execL_inLoop]
    simp (maxSteps := 1000000) (implicitDefEqProofs := false) (disch := first | rfl | omega | assumption) only [go_sem, ↓reduceIte, Nat.reduceEqDiff, Nat.reduceAdd, Nat.reduceLeDiff, Nat.reduceBEq, Nat.reduceMul, Nat.reduceLT, Int.reduceLT, Int.reduceLE, Int.reduceToNat, Int.reduceNeg, Int.reduceEq, Int.reduceMul, reduceCtorEq, Int.reduceBEq, Int.reduceBNe, Int.reduceAdd, Int.reduceSub, g1, g2, g3, ltT, ltF, leT, leF, hk', s1, s2, hn]
    rw [← hx2]
  | succ q ih =>
    intro j hj len xs hx hlen E g1 g2 g3
    have hk' : (j : Int) < ((c.manyN : Nat) : Int) := by omega
    have hk2 : j < c.manyN := by omega
    have hlt := (hc.lt_many j).1 hk2
    have hb := hc.lenAt_bd hk2
    have hxl : xs.length = j := by rw [hx]; simp
    have hof : addElem (H ++ [.box (.agg [vw, vp, I c.lo, I c.hi, I c.ev, I c.er]), .grow 1 xs]) 1 false (.gsl (H.length + 1) len) [I (c.lenAt j)] = some (.gsl (H.length + 1) (len + 1), H ++ [.box (.agg [vw, vp, I c.lo, I c.hi, I c.ev, I c.er]), .grow 1 (xs ++ [I (c.lenAt j)])]) := by
      rw [add_gsl (by simp [get_at']) hlen.symm rfl rfl (by simp; omega), set_at']
      rfl
    simp only [loopIt, todoPast, todoAt, todoOf, firstReg, ↓reduceIte, Option.some.injEq, Nat.reduceEqDiff, reduceCtorEq, Try.f36]
    rw [execL_inLoop]
    simp (maxSteps := 1000000) (implicitDefEqProofs := false) (disch := first | rfl | omega | assumption) only [go_sem, ↓reduceIte, Nat.reduceEqDiff, Nat.reduceAdd, Nat.reduceLeDiff, Nat.reduceBEq, Nat.reduceMul, Nat.reduceLT, Int.reduceLT, Int.reduceLE, Int.reduceToNat, Int.reduceNeg, Int.reduceEq, Int.reduceMul, reduceCtorEq, Int.reduceBEq, Int.reduceBNe, Int.reduceAdd, Int.reduceSub, g1, g2, g3, ltT, ltF, leT, leF, hk', s1, s2, hof]
    exact ih (j + 1) (by omega) (len + 1) _ (by rw [List.range_succ, hx, List.map_append, List.map_append]; rfl) (by rw [hlen]; simp) _ (by exact g1) (by rfl) (by rw [Col.lenAt_succ]; rfl)

theorem law_lengths {c : Col} {vw vp : AV} (h : ColAt H c vw vp) (hc : c.Ok) : callFL cfg0 prog0 false 36 [c.av vw vp] H none = some ⟨.ret (.sl false (c.lens.map I)), H, none⟩ := by
  have s1 := h.ws.scal
  have s2 := h.ps.scal
  have h1 := lens_loop h hc c.manyN 0 (by omega) 0 [] rfl rfl
  simp only [Col.av, Col.lenAt, Int.natCast_zero, Int.zero_mul, Int.add_zero] at h1 ⊢
  refine (callFL_eq fn36 rfl (by simp [Try.f36])).trans ?_
  simp (maxSteps := 1000000) (implicitDefEqProofs := false) (disch := first | rfl | omega | assumption) only [go_sem, ↓reduceIte, Nat.reduceEqDiff, Nat.reduceAdd, Nat.reduceLeDiff, Nat.reduceBEq, Nat.reduceMul, Nat.reduceLT, Int.reduceLT, Int.reduceLE, Int.reduceToNat, Int.reduceNeg, Int.reduceEq, Int.reduceMul, reduceCtorEq, Int.reduceBEq, Int.reduceBNe, Int.reduceAdd, Int.reduceSub, ltT, ltF, leT, leF, s1, s2]
  exact h1 _ (by rfl) (by rfl) (by rfl)

/-- What the law gathers: how many, the first two, the last. -/
structure PSt where
  n : Nat
  x : Int
  y : Int
  l : Int

def Col.pup (c : Col) (st : PSt) (p q : Nat) : PSt := ⟨st.n + 1, if st.x < 0 then c.lenAt p else st.x, if st.x < 0 then c.lenAt q else st.y, if c.lenAt q - c.ev < st.l then c.lenAt q - c.ev else st.l⟩
def Col.pin (c : Col) (s p : Nat) (st : PSt × Nat) (q : Nat) : PSt × Nat := if c.meet s p q then st else (if p < q then c.pup st.1 p q else st.1, st.2 + 1)
def Col.pout (c : Col) (s : Nat) (st : PSt × Int) (p : Nat) : PSt × Int :=
  let r := foldF (c.pin s p) (st.1, 0) 0 c.manyN
  (r.1, if st.2 < (r.2 : Int) then (r.2 : Int) else st.2)

theorem lenAt_lt {c : Col} (ho : c.Ok) (p q : Nat) : c.lenAt p < c.lenAt q ↔ p < q := by
  have he := ho.ev
  simp only [Col.lenAt]
  constructor
  · intro h
    refine Nat.lt_of_not_le fun hle => ?_
    have : (q : Int) * c.ev ≤ p * c.ev := Int.mul_le_mul_of_nonneg_right (by omega) (by omega)
    omega
  · intro h
    have : ((p : Int) + 1) * c.ev ≤ q * c.ev := Int.mul_le_mul_of_nonneg_right (by omega) (by omega)
    rw [Int.add_mul] at this
    omega

theorem pairs_l2 {c : Col} {vw vp : AV} (h : ColAt H c vw vp) (ho : c.Ok) (hv : c.valid = true) {s : Nat} (hs : s < 64) (hss : c.isSet s = true) (p : Nat) (hp : p < c.manyN) (r : PSt × Nat) (a6 a7 a8 a9 a10 a12 m16 : Int) (K : List Item) (R : Option Done) (hK : ∀ E : Env, E.get 2 = .ptr H.length 0 → E.get 5 = I s → E.get 6 = I a6 → E.get 7 = I a7 → E.get 8 = I a8 → E.get 9 = I a9 → E.get 10 = I a10 → E.get 12 = I a12 → E.get 14 = .sl false (c.lens.map I) → E.get 15 = I r.1.n → E.get 16 = I m16 → E.get 17 = I r.1.x → E.get 18 = I r.1.y → E.get 19 = I r.1.l → E.get 22 = I r.2 → E.get 93 = .sl false (c.lens.map I) → E.get 94 = I c.manyN → E.get 95 = I p → Option.map (finishC H.length) (execL cfg0 prog0 ⟨7, none, false, H.length⟩ K ⟨E, [], H ++ [.box (c.av vw vp)], none⟩) = R)  :
    ∀ (q j : Nat), j + q = c.manyN → ∀ (st : PSt × Nat), foldF (c.pin s p) st j q = r → st.1.n ≤ 1000 * p + j ∧ st.2 ≤ j → ∀ E : Env, E.get 2 = .ptr H.length 0 → E.get 5 = I s → E.get 6 = I a6 → E.get 7 = I a7 → E.get 8 = I a8 → E.get 9 = I a9 → E.get 10 = I a10 → E.get 12 = I a12 → E.get 14 = .sl false (c.lens.map I) → E.get 15 = I st.1.n → E.get 16 = I m16 → E.get 17 = I st.1.x → E.get 18 = I st.1.y → E.get 19 = I st.1.l → E.get 21 = I (c.lenAt p) → E.get 22 = I st.2 → E.get 93 = .sl false (c.lens.map I) → E.get 94 = I c.manyN → E.get 95 = I p → E.get 99 = .sl false (c.lens.map I) → E.get 100 = I c.manyN → E.get 101 = I j →
    Option.map (finishC H.length) (execL cfg0 prog0 ⟨7, none, false, H.length⟩ (loopIt Try.f7 16 :: .inBlock 2 :: K) ⟨E, [], H ++ [.box (c.av vw vp)], none⟩) = R := by
  intro q
  have mb := ho.many_bd
  have hl := ho.len
  have hlp := ho.plen
  have hev := ho.ev
  have ll := c.lens_len
  have lg := fun j => c.lens_getD (j := j)
  obtain ⟨a1, a2, a3, a4⟩ := (sl_ok (H := H) (b := false) c.lens).fI
  have bi := ho.lenAt_bd hp
  simp only [Col.av] at hK ⊢
  induction q with
  | zero =>
    intro j hj st hr hn E g2 g5 g6 g7 g8 g9 g10 g12 g14 g15 g16 g17 g18 g19 g21 g22 g93 g94 g95 g99 g100 g101
    have hk' : ¬ (j : Int) < ((c.manyN : Nat) : Int) := by omega
    simp only [foldF] at hr
    subst hr
    simp only [loopIt, todoPast, todoAt, todoOf, firstReg, ↓reduceIte, Option.some.injEq, Nat.reduceEqDiff, reduceCtorEq, Try.f7]
    rw [execL_inLoop]
    simp (maxSteps := 1000000) (implicitDefEqProofs := false) (disch := first | rfl | omega | assumption) only [go_sem, ↓reduceIte, Nat.reduceEqDiff, Nat.reduceAdd, Nat.reduceLeDiff, Nat.reduceBEq, Nat.reduceMul, Nat.reduceLT, Int.reduceLT, Int.reduceLE, Int.reduceToNat, Int.reduceNeg, Int.reduceEq, Int.reduceMul, reduceCtorEq, Int.reduceBEq, Int.reduceBNe, Int.reduceAdd, Int.reduceSub, g2, g5, g6, g7, g8, g9, g10, g12, g14, g15, g16, g17, g18, g19, g21, g22, g93, g94, g95, g99, g100, g101, ltT, ltF, leT, leF, hk', ll]
    exact hK _ (by exact g2) (by exact g5) (by exact g6) (by exact g7) (by exact g8) (by exact g9) (by exact g10) (by exact g12) (by exact g14) (by exact g15) (by exact g16) (by exact g17) (by exact g18) (by exact g19) (by exact g22) (by exact g93) (by exact g94) (by exact g95)
  | succ q ih =>
    intro j hj st hr hn E g2 g5 g6 g7 g8 g9 g10 g12 g14 g15 g16 g17 g18 g19 g21 g22 g93 g94 g95 g99 g100 g101
    have hk' : (j : Int) < ((c.manyN : Nat) : Int) := by omega
    have hk2 : j < c.manyN := by omega
    have bj := ho.lenAt_bd hk2
    have hB := fun (G : Heap) => co_Parts (h.app G) (by omega) s (c.lenAt p) (c.lenAt j)
    simp only [Col.parts, hv, hss, wi_iff.2 bi, wi_iff.2 bj, Bool.and_self, if_true, Int.toNat_natCast, ← c.meet_eq] at hB
    simp only [Col.av] at hB
    obtain ⟨⟨n, x, y, l⟩, w⟩ := st
    simp only at hn g15 g17 g18 g19 g22
    have hlt := lenAt_lt ho p j
    have e1 : IntKind.i64.wrap (c.lenAt j - c.ev) = c.lenAt j - c.ev := w64 (by omega) (by omega)
    simp only [foldF, Col.pin] at hr
    rcases Bool.eq_false_or_eq_true (c.meet s p j) with hm | hm
    · simp only [hm, if_true] at hr
      simp only [loopIt, todoPast, todoAt, todoOf, firstReg, ↓reduceIte, Option.some.injEq, Nat.reduceEqDiff, reduceCtorEq, Try.f7]
      rw [execL_inLoop]
      simp (maxSteps := 1000000) (implicitDefEqProofs := false) (disch := first | rfl | omega | assumption) only [go_sem, ↓reduceIte, Nat.reduceEqDiff, Nat.reduceAdd, Nat.reduceLeDiff, Nat.reduceBEq, Nat.reduceMul, Nat.reduceLT, Int.reduceLT, Int.reduceLE, Int.reduceToNat, Int.reduceNeg, Int.reduceEq, Int.reduceMul, reduceCtorEq, Int.reduceBEq, Int.reduceBNe, Int.reduceAdd, Int.reduceSub, g2, g5, g6, g7, g8, g9, g10, g12, g14, g15, g16, g17, g18, g19, g21, g22, g93, g94, g95, g99, g100, g101, ltT, ltF, leT, leF, hk', a1, a2, a3, a4, ll, lg, hB, hm]
      exact ih (j + 1) (by omega) ⟨⟨n, x, y, l⟩, w⟩ hr ⟨by simp only; omega, by simp only; omega⟩ _ (by exact g2) (by exact g5) (by exact g6) (by exact g7) (by exact g8) (by exact g9) (by exact g10) (by exact g12) (by exact g14) (by exact g15) (by exact g16) (by exact g17) (by exact g18) (by exact g19) (by exact g21) (by exact g22) (by exact g93) (by exact g94) (by exact g95) (by exact g99) (by exact g100) (by rfl)
    · simp only [hm, Bool.false_eq_true, if_false] at hr
      by_cases hpj : p < j
      · have hpj' : c.lenAt p < c.lenAt j := hlt.2 hpj
        rw [if_pos hpj] at hr
        by_cases hx : x < 0
        · simp only [Col.pup, hx, if_true] at hr
          simp only [loopIt, todoPast, todoAt, todoOf, firstReg, ↓reduceIte, Option.some.injEq, Nat.reduceEqDiff, reduceCtorEq, Try.f7]
          rw [execL_inLoop]
          simp (maxSteps := 1000000) (implicitDefEqProofs := false) (disch := first | rfl | omega | assumption) only [go_sem, ↓reduceIte, Nat.reduceEqDiff, Nat.reduceAdd, Nat.reduceLeDiff, Nat.reduceBEq, Nat.reduceMul, Nat.reduceLT, Int.reduceLT, Int.reduceLE, Int.reduceToNat, Int.reduceNeg, Int.reduceEq, Int.reduceMul, reduceCtorEq, Int.reduceBEq, Int.reduceBNe, Int.reduceAdd, Int.reduceSub, g2, g5, g6, g7, g8, g9, g10, g12, g14, g15, g16, g17, g18, g19, g21, g22, g93, g94, g95, g99, g100, g101, ltT, ltF, leT, leF, hk', a1, a2, a3, a4, ll, lg, hB, hm, hpj', hx, e1]
          exact ih (j + 1) (by omega) _ hr ⟨by simp only; omega, by simp only; omega⟩ _ (by exact g2) (by exact g5) (by exact g6) (by exact g7) (by exact g8) (by exact g9) (by exact g10) (by exact g12) (by exact g14) (by rfl) (by exact g16) (by rfl) (by rfl) (by rfl) (by exact g21) (by rfl) (by exact g93) (by exact g94) (by exact g95) (by exact g99) (by exact g100) (by rfl)
        · simp only [Col.pup, hx, if_false] at hr
          simp only [loopIt, todoPast, todoAt, todoOf, firstReg, ↓reduceIte, Option.some.injEq, Nat.reduceEqDiff, reduceCtorEq, Try.f7]
          rw [execL_inLoop]
          simp (maxSteps := 1000000) (implicitDefEqProofs := false) (disch := first | rfl | omega | assumption) only [go_sem, ↓reduceIte, Nat.reduceEqDiff, Nat.reduceAdd, Nat.reduceLeDiff, Nat.reduceBEq, Nat.reduceMul, Nat.reduceLT, Int.reduceLT, Int.reduceLE, Int.reduceToNat, Int.reduceNeg, Int.reduceEq, Int.reduceMul, reduceCtorEq, Int.reduceBEq, Int.reduceBNe, Int.reduceAdd, Int.reduceSub, g2, g5, g6, g7, g8, g9, g10, g12, g14, g15, g16, g17, g18, g19, g21, g22, g93, g94, g95, g99, g100, g101, ltT, ltF, leT, leF, hk', a1, a2, a3, a4, ll, lg, hB, hm, hpj', hx, e1]
          exact ih (j + 1) (by omega) _ hr ⟨by simp only; omega, by simp only; omega⟩ _ (by exact g2) (by exact g5) (by exact g6) (by exact g7) (by exact g8) (by exact g9) (by exact g10) (by exact g12) (by exact g14) (by rfl) (by exact g16) (by exact g17) (by exact g18) (by rfl) (by exact g21) (by rfl) (by exact g93) (by exact g94) (by exact g95) (by exact g99) (by exact g100) (by rfl)
      · have hpj' : ¬ c.lenAt p < c.lenAt j := fun hh => hpj (hlt.1 hh)
        rw [if_neg hpj] at hr
        simp only [loopIt, todoPast, todoAt, todoOf, firstReg, ↓reduceIte, Option.some.injEq, Nat.reduceEqDiff, reduceCtorEq, Try.f7]
        rw [execL_inLoop]
        simp (maxSteps := 1000000) (implicitDefEqProofs := false) (disch := first | rfl | omega | assumption) only [go_sem, ↓reduceIte, Nat.reduceEqDiff, Nat.reduceAdd, Nat.reduceLeDiff, Nat.reduceBEq, Nat.reduceMul, Nat.reduceLT, Int.reduceLT, Int.reduceLE, Int.reduceToNat, Int.reduceNeg, Int.reduceEq, Int.reduceMul, reduceCtorEq, Int.reduceBEq, Int.reduceBNe, Int.reduceAdd, Int.reduceSub, g2, g5, g6, g7, g8, g9, g10, g12, g14, g15, g16, g17, g18, g19, g21, g22, g93, g94, g95, g99, g100, g101, ltT, ltF, leT, leF, hk', a1, a2, a3, a4, ll, lg, hB, hm, hpj']
        exact ih (j + 1) (by omega) _ hr ⟨by simp only; omega, by simp only; omega⟩ _ (by exact g2) (by exact g5) (by exact g6) (by exact g7) (by exact g8) (by exact g9) (by exact g10) (by exact g12) (by exact g14) (by exact g15) (by exact g16) (by exact g17) (by exact g18) (by exact g19) (by exact g21) (by rfl) (by exact g93) (by exact g94) (by exact g95) (by exact g99) (by exact g100) (by rfl)

end Go.Ab
/-
  ColourPairs, walked.
-/
namespace Go.Ab
open Go.Proofs
set_option linter.unusedSimpArgs false
set_option linter.unusedVariables false
set_option maxRecDepth 100000
set_option maxHeartbeats 4000000

variable {H : Heap}

theorem foldF_add {β : Type} (g : β → Nat → β) : ∀ (q r j : Nat) (b : β), foldF g b j (q + r) = foldF g (foldF g b j q) (j + q) r
  | 0, r, j, b => by simp [foldF]
  | q + 1, r, j, b => by
    rw [show q + 1 + r = (q + r) + 1 by omega, foldF, foldF, foldF_add g q r (j + 1), show j + 1 + q = j + (q + 1) by omega]

theorem pin_a (c : Col) (s p : Nat) : ∀ (q j : Nat) (st : PSt) (w : Nat), j + q ≤ p + 1 → foldF (c.pin s p) (st, w) j q = (st, w + num (fun k => !c.meet s p k) j q)
  | 0, _, _, _, _ => rfl
  | q + 1, j, st, w, h => by
    rw [foldF, num, Col.pin]
    cases c.meet s p j
    · simp only [Bool.false_eq_true, if_false, if_neg (show ¬ p < j by omega), Bool.not_false, if_true]
      rw [pin_a c s p q (j + 1) st (w + 1) (by omega), Nat.add_assoc]
    · simp only [if_true, Bool.not_true, Bool.false_eq_true, if_false]
      rw [pin_a c s p q (j + 1) st w (by omega), Nat.zero_add]

theorem pin_b (c : Col) (s p : Nat) : ∀ (q j : Nat) (st : PSt) (w : Nat), p < j → foldF (c.pin s p) (st, w) j q = ((inL c s p j q).foldl (fun st x => c.pup st x.1 x.2) st, w + num (fun k => !c.meet s p k) j q)
  | 0, _, _, _, _ => rfl
  | q + 1, j, st, w, h => by
    rw [foldF, num, Col.pin, inL]
    cases c.meet s p j
    · simp only [Bool.false_eq_true, if_false, if_pos h, Bool.not_false, if_true, List.foldl_cons]
      rw [pin_b c s p q (j + 1) _ (w + 1) (by omega), Nat.add_assoc]
    · simp only [if_true, Bool.not_true, Bool.false_eq_true, if_false]
      rw [pin_b c s p q (j + 1) st w (by omega), Nat.zero_add]

theorem pin_all (c : Col) (s p : Nat) (hp : p < c.manyN) (st : PSt) : foldF (c.pin s p) (st, 0) 0 c.manyN = ((inL c s p (p + 1) (c.manyN - (p + 1))).foldl (fun st x => c.pup st x.1 x.2) st, num (fun k => !c.meet s p k) 0 c.manyN) := by
  have e : c.manyN = (p + 1) + (c.manyN - (p + 1)) := by omega
  have h1 : foldF (c.pin s p) (st, 0) 0 c.manyN = foldF (c.pin s p) (st, 0) 0 ((p + 1) + (c.manyN - (p + 1))) := by rw [← e]
  have h2 : num (fun k => !c.meet s p k) 0 c.manyN = num (fun k => !c.meet s p k) 0 ((p + 1) + (c.manyN - (p + 1))) := by rw [← e]
  rw [h1, h2, foldF_add, pin_a c s p (p + 1) 0 st 0 (by omega), pin_b c s p _ _ _ _ (by omega), num_add _ (p + 1) 0 (c.manyN - (p + 1)), Nat.zero_add, Nat.zero_add]

theorem pout_all (c : Col) (s : Nat) : ∀ (q j : Nat) (st : PSt) (w : Int), j + q ≤ c.manyN → foldF (c.pout s) (st, w) j q = ((outL c s j q).foldl (fun st x => c.pup st x.1 x.2) st, foldF (fun (w : Int) i => if w < ((foldF (c.cnt s i) 0 0 c.manyN : Nat) : Int) then ((foldF (c.cnt s i) 0 0 c.manyN : Nat) : Int) else w) w j q)
  | 0, _, _, _, _ => rfl
  | q + 1, j, st, w, h => by
    rw [foldF, foldF, Col.pout, pin_all c s j (by omega)]
    simp only
    rw [pout_all c s q (j + 1) _ _ (by omega), outL, List.foldl_append, cnt_num, Nat.zero_add]

theorem pup_n (c : Col) : ∀ (l : List (Nat × Nat)) (st : PSt), (l.foldl (fun st x => c.pup st x.1 x.2) st).n = st.n + l.length
  | [], _ => rfl
  | p :: r, st => by
    rw [List.foldl_cons, pup_n c r, List.length_cons]
    simp only [Col.pup]; omega

theorem pup_l {c : Col} (ho : c.Ok) : ∀ (l : List (Nat × Nat)) (st : PSt) (z : Int), st.l = c.lo + z * c.ev → (l.foldl (fun st x => c.pup st x.1 x.2) st).l = c.lo + (l.foldl (fun z x => lastF z x.1 x.2) z) * c.ev
  | [], _, _, h => h
  | p :: r, st, z, h => by
    rw [List.foldl_cons, List.foldl_cons]
    refine pup_l ho r _ _ ?_
    have he := ho.ev
    have e1 : c.lenAt p.2 - c.ev = c.lo + ((p.2 : Int) - 1) * c.ev := by
      simp only [Col.lenAt, Int.sub_mul]; omega
    simp only [Col.pup, lastF, e1, h]
    by_cases hz : (p.2 : Int) - 1 < z
    · have : ((p.2 : Int) - 1 + 1) * c.ev ≤ z * c.ev := Int.mul_le_mul_of_nonneg_right (by omega) (by omega)
      rw [Int.add_mul] at this
      rw [if_pos hz, if_pos (by omega)]
    · have : z * c.ev ≤ ((p.2 : Int) - 1) * c.ev := Int.mul_le_mul_of_nonneg_right (by omega) (by omega)
      rw [if_neg hz, if_neg (by omega)]

theorem pup_x {c : Col} : ∀ (l : List (Nat × Nat)) (st : PSt), 0 ≤ st.x → (l.foldl (fun st x => c.pup st x.1 x.2) st).x = st.x ∧ (l.foldl (fun st x => c.pup st x.1 x.2) st).y = st.y
  | [], _, _ => ⟨rfl, rfl⟩
  | p :: r, st, h => by
    rw [List.foldl_cons]
    have hx : (c.pup st p.1 p.2).x = st.x ∧ (c.pup st p.1 p.2).y = st.y := by
      simp only [Col.pup, if_neg (show ¬ st.x < 0 by omega), and_self]
    have := pup_x (c := c) r (c.pup st p.1 p.2) (by omega)
    rw [hx.1, hx.2] at this
    exact this

/-- What the law has gathered when all is done. -/
theorem gathered {c : Col} (ho : c.Ok) (s : Nat) (r : PSt × Int) (hr : foldF (c.pout s) (⟨0, -1, -1, c.lenAt (c.manyN - 1)⟩, 0) 0 c.manyN = r) :
    r.1.n = c.leftN s ∧ r.2 = c.worstR s ∧ r.1.l = c.rchR s ∧ ((r.1.x < 0 ∧ c.alkR s = none) ∨ (¬ r.1.x < 0 ∧ c.alkR s = some (r.1.x, r.1.y))) := by
  have mb := ho.many_bd
  rw [pout_all c s _ _ _ _ (by omega)] at hr
  subst hr
  refine ⟨?_, rfl, ?_, ?_⟩
  · rw [pup_n, c.left_len, Col.prL]; simp
  · have hb := c.last_bd ho s
    rw [pup_l ho _ _ ((c.manyN : Int) - 1) (by
      simp only [Col.lenAt]
      congr 2
      omega), ← c.last_eq ho s]
    have e : c.last s = (outL c s 0 c.manyN).foldl (fun z x => lastF z x.1 x.2) ((c.manyN : Int) - 1) := by rw [Col.last, foldP_eq, Col.prL]
    rw [← e, Col.lenAt, Int.toNat_of_nonneg hb.1]
  · rw [c.alkR_eq, Col.prL]
    cases hL : outL c s 0 c.manyN with
    | nil => left; exact ⟨show (-1 : Int) < 0 by decide, rfl⟩
    | cons p r =>
      right
      have hm := (c.prL_mem s p).1 (by rw [Col.prL, hL]; exact List.mem_cons_self ..)
      have hb := ho.lenAt_bd (j := p.1) (by omega)
      rw [List.foldl_cons]
      have hx : (c.pup ⟨0, -1, -1, c.lenAt (c.manyN - 1)⟩ p.1 p.2).x = c.lenAt p.1 ∧ (c.pup ⟨0, -1, -1, c.lenAt (c.manyN - 1)⟩ p.1 p.2).y = c.lenAt p.2 := by
        simp [Col.pup]
      have := pup_x (c := c) r (c.pup ⟨0, -1, -1, c.lenAt (c.manyN - 1)⟩ p.1 p.2) (by omega)
      simp only
      rw [this.1, this.2, hx.1, hx.2]
      exact ⟨by omega, rfl⟩

theorem pout_n (c : Col) (s p : Nat) (hp : p < c.manyN) (st : PSt × Int) : (c.pout s st p).1.n ≤ st.1.n + c.manyN := by
  rw [Col.pout, pin_all c s p hp]
  simp only
  rw [pup_n, inL_len]
  have := num_le (fun b => !c.meet s p b) (c.manyN - (p + 1)) (p + 1)
  omega

theorem pairs_l1 {c : Col} {vw vp : AV} (h : ColAt H c vw vp) (ho : c.Ok) (hv : c.valid = true) {s : Nat} (hs : s < 64) (hss : c.isSet s = true) (r : PSt × Int) (a6 a7 a8 a9 a10 a12 : Int) (f9 : a9 = r.1.n) (f10 : a10 = r.2) (f12 : a12 = r.1.l) (fx : (r.1.x < 0 ∧ a8 = 4) ∨ (¬ r.1.x < 0 ∧ a8 = 0 ∧ a6 = r.1.x ∧ a7 = r.1.y)) :
    ∀ (q j : Nat), j + q = c.manyN → ∀ (st : PSt × Int), foldF (c.pout s) st j q = r → st.1.n ≤ 1000 * j → ∀ E : Env, E.get 2 = .ptr H.length 0 → E.get 5 = I s → E.get 6 = I a6 → E.get 7 = I a7 → E.get 8 = I a8 → E.get 9 = I a9 → E.get 10 = I a10 → E.get 12 = I a12 → E.get 14 = .sl false (c.lens.map I) → E.get 15 = I st.1.n → E.get 16 = I st.2 → E.get 17 = I st.1.x → E.get 18 = I st.1.y → E.get 19 = I st.1.l → E.get 93 = .sl false (c.lens.map I) → E.get 94 = I c.manyN → E.get 95 = I j →
    Option.map (finishC H.length) (execL cfg0 prog0 ⟨7, none, false, H.length⟩ (todoAt Try.f7 12) ⟨E, [], H ++ [.box (c.av vw vp)], none⟩) = some ⟨.ret (.bool true), H, none⟩ := by
  intro q
  have mb := ho.many_bd
  have ll := c.lens_len
  have lg := fun j => c.lens_getD (j := j)
  obtain ⟨a1, a2, a3, a4⟩ := (sl_ok (H := H) (b := false) c.lens).fI
  simp only [Col.av]
  induction q with
  | zero =>
    intro j hj st hr hn E g2 g5 g6 g7 g8 g9 g10 g12 g14 g15 g16 g17 g18 g19 g93 g94 g95
    have hk' : ¬ (j : Int) < ((c.manyN : Nat) : Int) := by omega
    simp only [foldF] at hr
    subst hr
    simp only [loopIt, todoPast, todoAt, todoOf, firstReg, ↓reduceIte, Option.some.injEq, Nat.reduceEqDiff, reduceCtorEq, Try.f7]
    rw [execL_inLoop]
    skip
    rcases fx with ⟨x1, rfl⟩ | ⟨x1, rfl, rfl, rfl⟩
    · simp (maxSteps := 1000000) (implicitDefEqProofs := false) (disch := first | rfl | omega | assumption) only [go_sem, ↓reduceIte, Nat.reduceEqDiff, Nat.reduceAdd, Nat.reduceLeDiff, Nat.reduceBEq, Nat.reduceMul, Nat.reduceLT, Int.reduceLT, Int.reduceLE, Int.reduceToNat, Int.reduceNeg, Int.reduceEq, Int.reduceMul, reduceCtorEq, Int.reduceBEq, Int.reduceBNe, Int.reduceAdd, Int.reduceSub, g2, g5, g6, g7, g8, g9, g10, g12, g14, g15, g16, g17, g18, g19, g93, g94, g95, ltT, ltF, leT, leF, hk', f9, f10, f12, x1, law_alive]
    · simp (maxSteps := 1000000) (implicitDefEqProofs := false) (disch := first | rfl | omega | assumption) only [go_sem, ↓reduceIte, Nat.reduceEqDiff, Nat.reduceAdd, Nat.reduceLeDiff, Nat.reduceBEq, Nat.reduceMul, Nat.reduceLT, Int.reduceLT, Int.reduceLE, Int.reduceToNat, Int.reduceNeg, Int.reduceEq, Int.reduceMul, reduceCtorEq, Int.reduceBEq, Int.reduceBNe, Int.reduceAdd, Int.reduceSub, g2, g5, g6, g7, g8, g9, g10, g12, g14, g15, g16, g17, g18, g19, g93, g94, g95, ltT, ltF, leT, leF, hk', f9, f10, f12, x1, law_alive]
  | succ q ih =>
    intro j hj st hr hn E g2 g5 g6 g7 g8 g9 g10 g12 g14 g15 g16 g17 g18 g19 g93 g94 g95
    have hk' : (j : Int) < ((c.manyN : Nat) : Int) := by omega
    have hk2 : j < c.manyN := by omega
    simp only [foldF] at hr
    simp only [loopIt, todoPast, todoAt, todoOf, firstReg, ↓reduceIte, Option.some.injEq, Nat.reduceEqDiff, reduceCtorEq, Try.f7]
    rw [execL_inLoop]
    simp (maxSteps := 1000000) (implicitDefEqProofs := false) (disch := first | rfl | omega | assumption) only [go_sem, ↓reduceIte, Nat.reduceEqDiff, Nat.reduceAdd, Nat.reduceLeDiff, Nat.reduceBEq, Nat.reduceMul, Nat.reduceLT, Int.reduceLT, Int.reduceLE, Int.reduceToNat, Int.reduceNeg, Int.reduceEq, Int.reduceMul, reduceCtorEq, Int.reduceBEq, Int.reduceBNe, Int.reduceAdd, Int.reduceSub, g2, g5, g6, g7, g8, g9, g10, g12, g14, g15, g16, g17, g18, g19, g93, g94, g95, ltT, ltF, leT, leF, hk', a1, a2, a3, a4, ll, lg]
    refine pairs_l2 h ho hv hs hss j hk2 (foldF (c.pin s j) (st.1, 0) 0 c.manyN) a6 a7 a8 a9 a10 a12 st.2 _ _ (fun E g2 g5 g6 g7 g8 g9 g10 g12 g14 g15 g16 g17 g18 g19 g22 g93 g94 g95 => ?_) c.manyN 0 (by omega) (st.1, 0) rfl ⟨by simp only; omega, Nat.le_refl _⟩ _ (by exact g2) (by exact g5) (by exact g6) (by exact g7) (by exact g8) (by exact g9) (by exact g10) (by exact g12) (by exact g14) (by exact g15) (by exact g16) (by exact g17) (by exact g18) (by exact g19) (by rfl) (by rfl) (by exact g93) (by exact g94) (by exact g95) (by rfl) (by rfl) (by rfl)
    simp only [Col.av]
    simp (maxSteps := 1000000) (implicitDefEqProofs := false) (disch := first | rfl | omega | assumption) only [go_sem, ↓reduceIte, Nat.reduceEqDiff, Nat.reduceAdd, Nat.reduceLeDiff, Nat.reduceBEq, Nat.reduceMul, Nat.reduceLT, Int.reduceLT, Int.reduceLE, Int.reduceToNat, Int.reduceNeg, Int.reduceEq, Int.reduceMul, reduceCtorEq, Int.reduceBEq, Int.reduceBNe, Int.reduceAdd, Int.reduceSub, g2, g5, g6, g7, g8, g9, g10, g12, g14, g15, g16, g17, g18, g19, g93, g94, g95, ltT, ltF, leT, leF, hk', g22, g16]
    exact ih (j + 1) (by omega) (c.pout s st j) hr (by have := pout_n c s j hk2 st; omega) _ (by exact g2) (by exact g5) (by exact g6) (by exact g7) (by exact g8) (by exact g9) (by exact g10) (by exact g12) (by exact g14) (by exact g15) (by rfl) (by exact g17) (by exact g18) (by exact g19) (by exact g93) (by exact g94) (by rfl)

theorem law_ColourPairs {c : Col} {vw vp : AV} (h : ColAt H c vw vp) (b8 : Int) (b3 : 0 ≤ b8 ∧ b8 ≤ 255) :
    callFL cfg0 prog0 false 7 [c.av vw vp, .int .u8 b8] H none = some ⟨.ret (.bool true), H, none⟩ := by
  have s1 := h.ws.scal
  have s2 := h.ps.scal
  have hH := fun G : Heap => law_heavy (h.app G) 16
  have hV := fun G : Heap => ref_Colour (h.app G)
  simp only [Col.av] at hH hV
  rcases Bool.eq_false_or_eq_true (c.heavy 16) with hh | hh
  · simp only [Col.av]
    refine (callFL_eq fn7 rfl (by simp [Try.f7])).trans ?_
    simp (maxSteps := 1000000) (implicitDefEqProofs := false) (disch := first | rfl | omega | assumption) only [go_sem, ↓reduceIte, Nat.reduceEqDiff, Nat.reduceAdd, Nat.reduceLeDiff, Nat.reduceBEq, Nat.reduceMul, Nat.reduceLT, Int.reduceLT, Int.reduceLE, Int.reduceToNat, Int.reduceNeg, Int.reduceEq, Int.reduceMul, reduceCtorEq, Int.reduceBEq, Int.reduceBNe, Int.reduceAdd, Int.reduceSub, s1, s2, hH, hh, law_alive]
  · have hlong : c.ws.length ≤ 40 ∧ c.ps.length ≤ 40 := by
      simp only [Col.heavy, Bool.or_eq_false_iff] at hh
      exact c.long_false hh.1
    rcases Bool.eq_false_or_eq_true c.valid with hv | hv
    · have ho := c.valid_iff.1 hv
      have hlen := ho.len
      have mb := ho.many_bd
      obtain ⟨n3, rfl⟩ : ∃ n : Nat, b8 = n := ⟨b8.toNat, by omega⟩
      have t3 := shlI ho
      have t4 := sOf_bits ho (b := n3) (by omega)
      have hs := c.sOf_lt ho n3
      have hss := c.sOf_isSet ho n3
      have hfs := full_set ho
      have z : ¬ (c.ws.length : Int) < 0 := by omega
      have t5 : IntKind.i64.wrap ((2 ^ c.ws.length : Nat) - 1 : Int) = (c.full : Int) := by rw [full_int, w64 (by omega) (by omega)]
      rw [full_int] at t4
      generalize c.sOf n3 = s at *
      have ll := c.lens_len
      have lg := fun j => c.lens_getD (j := j)
      obtain ⟨a1, a2, a3, a4⟩ := (sl_ok (H := H) (b := false) c.lens).fI
      have ei : ((c.manyN : Int) - 1).toNat = c.manyN - 1 := by omega
      have h1 := fun G : Heap => co_Alike (h.app G) (by omega) s
      have h2 := fun G : Heap => co_Pairs (h.app G) (by omega) s
      have h3 := fun G : Heap => co_Reach (h.app G) (by omega) s
      have h4 := fun G : Heap => law_lengths (h.app G) ho
      have hg := gathered ho s _ rfl
      have hlp := fun (E : Env) a6 a7 a8 a9 a10 a12 f9 f10 f12 fx => pairs_l1 h ho hv hs.1 hss (foldF (c.pout s) (⟨0, -1, -1, c.lenAt (c.manyN - 1)⟩, 0) 0 c.manyN) a6 a7 a8 a9 a10 a12 f9 f10 f12 fx c.manyN 0 (by omega) (⟨0, -1, -1, c.lenAt (c.manyN - 1)⟩, 0) rfl (Nat.zero_le _) E
      generalize foldF (c.pout s) (⟨0, -1, -1, c.lenAt (c.manyN - 1)⟩, 0) 0 c.manyN = r at *
      obtain ⟨f1, f2, f3, f4⟩ := hg
      simp only [Col.alikeR, hv, hss, if_true, Int.toNat_natCast] at h1
      simp only [Col.pairsR, hv, hss, if_true, Int.toNat_natCast, ← f1, ← f2] at h2
      simp only [Col.reachR, hv, hss, if_true, Int.toNat_natCast, ← f3] at h3
      simp only [Col.av] at h1 h2 h3 h4 hlp ⊢
      rcases f4 with ⟨x1, x2⟩ | ⟨x1, x2⟩
      · simp only [x2] at h1
        refine (callFL_eq fn7 rfl (by simp [Try.f7])).trans ?_
        simp (maxSteps := 1000000) (implicitDefEqProofs := false) (disch := first | rfl | omega | assumption) only [go_sem, ↓reduceIte, Nat.reduceEqDiff, Nat.reduceAdd, Nat.reduceLeDiff, Nat.reduceBEq, Nat.reduceMul, Nat.reduceLT, Int.reduceLT, Int.reduceLE, Int.reduceToNat, Int.reduceNeg, Int.reduceEq, Int.reduceMul, reduceCtorEq, Int.reduceBEq, Int.reduceBNe, Int.reduceAdd, Int.reduceSub, ltT, ltF, leT, leF, s1, s2, hH, hh, hV, hv, t3, t4, t5, z, h.ws.len, h1, h2, h3, h4]
        rw [chkK_of]; rotate_left; kernel_rfl
        simp (maxSteps := 1000000) (implicitDefEqProofs := false) (disch := first | rfl | omega | assumption) only [go_sem, ↓reduceIte, Nat.reduceEqDiff, Nat.reduceAdd, Nat.reduceLeDiff, Nat.reduceBEq, Nat.reduceMul, Nat.reduceLT, Int.reduceLT, Int.reduceLE, Int.reduceToNat, Int.reduceNeg, Int.reduceEq, Int.reduceMul, reduceCtorEq, Int.reduceBEq, Int.reduceBNe, Int.reduceAdd, Int.reduceSub, ltT, ltF, leT, leF, ll, a1, a2, a3, a4, ei, lg]
        exact hlp _ 0 0 4 _ _ _ rfl rfl rfl (.inl ⟨x1, rfl⟩) (by rfl) (by rfl) (by rfl) (by rfl) (by rfl) (by rfl) (by rfl) (by rfl) (by rfl) (by rfl) (by rfl) (by rfl) (by rfl) (by rfl) (by rfl) (by rfl) (by rfl)
      · simp only [x2] at h1
        refine (callFL_eq fn7 rfl (by simp [Try.f7])).trans ?_
        simp (maxSteps := 1000000) (implicitDefEqProofs := false) (disch := first | rfl | omega | assumption) only [go_sem, ↓reduceIte, Nat.reduceEqDiff, Nat.reduceAdd, Nat.reduceLeDiff, Nat.reduceBEq, Nat.reduceMul, Nat.reduceLT, Int.reduceLT, Int.reduceLE, Int.reduceToNat, Int.reduceNeg, Int.reduceEq, Int.reduceMul, reduceCtorEq, Int.reduceBEq, Int.reduceBNe, Int.reduceAdd, Int.reduceSub, ltT, ltF, leT, leF, s1, s2, hH, hh, hV, hv, t3, t4, t5, z, h.ws.len, h1, h2, h3, h4]
        rw [chkK_of]; rotate_left; kernel_rfl
        simp (maxSteps := 1000000) (implicitDefEqProofs := false) (disch := first | rfl | omega | assumption) only [go_sem, ↓reduceIte, Nat.reduceEqDiff, Nat.reduceAdd, Nat.reduceLeDiff, Nat.reduceBEq, Nat.reduceMul, Nat.reduceLT, Int.reduceLT, Int.reduceLE, Int.reduceToNat, Int.reduceNeg, Int.reduceEq, Int.reduceMul, reduceCtorEq, Int.reduceBEq, Int.reduceBNe, Int.reduceAdd, Int.reduceSub, ltT, ltF, leT, leF, ll, a1, a2, a3, a4, ei, lg]
        exact hlp _ _ _ 0 _ _ _ rfl rfl rfl (.inr ⟨x1, rfl, rfl, rfl⟩) (by rfl) (by rfl) (by rfl) (by rfl) (by rfl) (by rfl) (by rfl) (by rfl) (by rfl) (by rfl) (by rfl) (by rfl) (by rfl) (by rfl) (by rfl) (by rfl) (by rfl)
    · simp only [Col.av]
      refine (callFL_eq fn7 rfl (by simp [Try.f7])).trans ?_
      simp (maxSteps := 1000000) (implicitDefEqProofs := false) (disch := first | rfl | omega | assumption) only [go_sem, ↓reduceIte, Nat.reduceEqDiff, Nat.reduceAdd, Nat.reduceLeDiff, Nat.reduceBEq, Nat.reduceMul, Nat.reduceLT, Int.reduceLT, Int.reduceLE, Int.reduceToNat, Int.reduceNeg, Int.reduceEq, Int.reduceMul, reduceCtorEq, Int.reduceBEq, Int.reduceBNe, Int.reduceAdd, Int.reduceSub, s1, s2, hH, hh, hV, hv, law_alive]

end Go.Ab
