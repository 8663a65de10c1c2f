/-
  ColourApart, walked.
-/
import Derived.Test.YtlhnmpclnbpnhaaKK4
namespace Go.Ab
open Go.Proofs
set_option linter.unusedSimpArgs false
set_option linter.unusedVariables false
set_option maxRecDepth 100000
set_option maxHeartbeats 2000000

variable {H : Heap}

/-- The set that bits are. -/
def Col.sOf (c : Col) (b : Nat) : Nat := b % 2 ^ c.ws.length

theorem Col.sOf_lt {c : Col} (ho : c.Ok) (b : Nat) : c.sOf b < 64 ∧ c.sOf b < 2 ^ c.ws.length := by
  have h2 : (2 : Nat) ^ c.ws.length ≤ 2 ^ 6 := Nat.pow_le_pow_right (by omega) ho.len.2
  have h3 := Nat.pow_pos (n := c.ws.length) (show 0 < 2 by omega)
  have := Nat.mod_lt b h3
  simp only [Col.sOf]
  omega

theorem Col.sOf_isSet {c : Col} (ho : c.Ok) (b : Nat) : c.isSet (c.sOf b) = true := by
  have := c.sOf_lt ho b
  exact wi_iff.2 ⟨by omega, by omega⟩

theorem sOf_bits {c : Col} (ho : c.Ok) {b : Nat} (hb : b < 256) : bitsOp .and .i64 (b : Int) (((2 ^ c.ws.length : Nat) : Int) - 1) = some (c.sOf b : Int) := by
  have h2 : (2 : Nat) ^ c.ws.length ≤ 2 ^ 6 := Nat.pow_le_pow_right (by omega) ho.len.2
  have h3 := Nat.pow_pos (n := c.ws.length) (show 0 < 2 by omega)
  have e : (((2 ^ c.ws.length : Nat) : Int) - 1) = ((2 ^ c.ws.length - 1 : Nat) : Int) := by omega
  rw [e, bitsAndI (by omega) (by omega), Nat.and_two_pow_sub_one_eq_mod]
  rfl

theorem shlI {c : Col} (ho : c.Ok) : IntKind.i64.wrap (1 * 2 ^ min c.ws.length 64) = ((2 ^ c.ws.length : Nat) : Int) := by
  have : ∀ k : Nat, k ≤ 6 → IntKind.i64.wrap (1 * 2 ^ min k 64) = ((2 ^ k : Nat) : Int) := by
    intro k hk
    have : k = 0 ∨ k = 1 ∨ k = 2 ∨ k = 3 ∨ k = 4 ∨ k = 5 ∨ k = 6 := by omega
    rcases this with rfl | rfl | rfl | rfl | rfl | rfl | rfl <;> decide
  exact this _ ho.len.2

theorem apart_ok {c : Col} (hv : c.valid = true) {k : Nat} (hk : k < c.ws.length) {a b : Int} (ha : 0 ≤ a ∧ a ≤ 2000) (hb : 0 ≤ b ∧ b ≤ 2000) : c.apart k a b = (apartZ (ptZ (c.ws.getD k 0) a) (ptZ (c.ws.getD k 0) b), 0) := by
  have e1 : wi k 0 (c.ws.length - 1) = true := wi_iff.2 (by omega)
  simp only [Col.apart, hv, e1, wi_iff.2 ha, wi_iff.2 hb, Bool.and_self, if_true, Int.toNat_natCast]

theorem apart_self (p : Int) : apartZ p p = 0 := by
  simp only [apartZ, lessZ, Int.lt_irrefl, if_false]
  omega

theorem apartZ_bd (p o : Int) : 0 ≤ apartZ p o ∧ apartZ p o ≤ 20 := by
  have h1 := lessZ_bd p o
  have h2 := lessZ_bd o p
  simp only [apartZ]
  split <;> omega

theorem apartZ_min {p o : Int} (hp : 0 ≤ p ∧ p < 20) (ho : 0 ≤ o ∧ o < 20) : (let d := if p - o < o - p then o - p else p - o; 0 ≤ d ∧ d ≤ 20 ∧ (if 20 - d < d then 20 - d else d) = apartZ p o) := by
  simp only [apartZ, lessZ]
  refine ⟨?_, ?_, ?_⟩ <;> repeat' split
  all_goals omega

theorem apart_loop {c : Col} {vw vp : AV} (h : ColAt H c vw vp) (ho : c.Ok) (hv : c.valid = true) {a b : Int} (ha : 0 ≤ a ∧ a ≤ 2000) (hb : 0 ≤ b ∧ b ≤ 2000) {s : Nat} (hs : s < 64) (r : Bool) (K : List Item) (R : Option Done) (hK : ∀ E : Env, E.get 4 = .ptr H.length 0 → E.get 13 = I a → E.get 14 = I b → E.get 15 = I s → E.get 16 = .bool r → Option.map (finishC H.length) (execL cfg0 prog0 ⟨6, none, false, H.length⟩ K ⟨E, [], H ++ [.box (c.av vw vp)], none⟩) = R)  :
    ∀ (q j : Nat), j + q = c.ws.length → ∀ (pt : Bool), (pt || anyF (fun i => s.testBit i && c.sep a b i) j q) = r → ∀ E : Env, E.get 4 = .ptr H.length 0 → E.get 13 = I a → E.get 14 = I b → E.get 15 = I s → E.get 16 = .bool pt → E.get 94 = vw → E.get 95 = I c.ws.length → E.get 96 = I j →
    Option.map (finishC H.length) (execL cfg0 prog0 ⟨6, none, false, H.length⟩ (loopIt Try.f6 10 :: .inBlock 0 :: K) ⟨E, [], H ++ [.box (c.av vw vp)], none⟩) = R := by
  intro q
  have hl := ho.len
  have hlp := ho.plen
  obtain ⟨a1, a2, a3, a4⟩ := h.ws.fI
  have her := ho.er
  simp only [Col.av] at hK ⊢
  induction q with
  | zero =>
    intro j hj pt hr E g4 g13 g14 g15 g16 g94 g95 g96
    have hk' : ¬ (j : Int) < ((c.ws.length : Nat) : Int) := by omega
    simp only [anyF, Bool.or_false] at hr
    subst hr
    simp only [loopIt, todoPast, todoAt, todoOf, firstReg, ↓reduceIte, Option.some.injEq, Nat.reduceEqDiff, reduceCtorEq, Try.f6]
    rw [execL_inLoop]
    simp (maxSteps := 1000000) (disch := first | rfl | omega | assumption) only [go_sem, ↓reduceIte, Nat.reduceEqDiff, Nat.reduceAdd, Nat.reduceLeDiff, Nat.reduceBEq, Nat.reduceMul, Nat.reduceLT, Int.reduceLT, Int.reduceLE, Int.reduceToNat, Int.reduceNeg, Int.reduceEq, Int.reduceMul, reduceCtorEq, Int.reduceBEq, Int.reduceBNe, Int.reduceAdd, Int.reduceSub, g4, g13, g14, g15, g16, g94, g95, g96, ltT, ltF, leT, leF, hk']
    exact hK _ (by exact g4) (by exact g13) (by exact g14) (by exact g15) (by exact g16)
  | succ q ih =>
    intro j hj pt hr E g4 g13 g14 g15 g16 g94 g95 g96
    have hk' : (j : Int) < ((c.ws.length : Nat) : Int) := by omega
    have hk2 : j < c.ws.length := by omega
    have hw := ho.ws j hk2
    have hA := fun G : Heap => co_Apart (h.app G) (by omega) j a b
    have hB := fun G : Heap => co_Apart (h.app G) (by omega) j b a
    have hO := fun G : Heap => co_Apart (h.app G) (by omega) j a a
    simp only [apart_ok hv hk2 ha hb] at hA
    simp only [apart_ok hv hk2 hb ha, apartZ_comm (ptZ (c.ws.getD j 0) b)] at hB
    simp only [apart_ok hv hk2 ha ha, apart_self] at hO
    have hP := fun G : Heap => fr_Part1 (c.ws.getD j 0) a G
    have hQ := fun G : Heap => fr_Part1 (c.ws.getD j 0) b G
    simp only [oneW, wi_iff.2 hw, wi_iff.2 ha, wi_iff.2 hb, if_true] at hP hQ
    have p1 := ptZ_bd (w := c.ws.getD j 0) (n := a) (by omega)
    have p2 := ptZ_bd (w := c.ws.getD j 0) (n := b) (by omega)
    have hsep : c.sep a b j = decide (2 * c.er < apartZ (ptZ (c.ws.getD j 0) a) (ptZ (c.ws.getD j 0) b)) := rfl
    have bd := apartZ_bd (ptZ (c.ws.getD j 0) a) (ptZ (c.ws.getD j 0) b)
    have hmin := apartZ_min p1 p2
    simp only at hmin
    simp only [Col.av] at hA hB hO
    generalize apartZ (ptZ (c.ws.getD j 0) a) (ptZ (c.ws.getD j 0) b) = ap at *
    generalize ptZ (c.ws.getD j 0) a = pa at *
    generalize ptZ (c.ws.getD j 0) b = pb at *
    have e1 := shrI (s := s) (j := j) (by omega)
    have e2 : s / 2 ^ j ≤ s := Nat.div_le_self _ _
    have e3 : bitsOp .and .i64 ((s / 2 ^ j : Nat) : Int) 1 = some ((s / 2 ^ j &&& 1 : Nat) : Int) := bitsAndI (b := 1) (by omega) (by decide)
    have e4 := and_one (s := s) (j := j)
    have z : ¬ (j : Int) < 0 := by omega
    rw [anyF, hsep] at hr
    generalize hd : (if pa - pb < pb - pa then pb - pa else pa - pb) = d at *
    obtain ⟨m1, m2, m3⟩ := hmin
    simp only [loopIt, todoPast, todoAt, todoOf, firstReg, ↓reduceIte, Option.some.injEq, Nat.reduceEqDiff, reduceCtorEq, Try.f6]
    rw [execL_inLoop]
    cases pt with
    | true =>
      simp only [Bool.true_or] at hr
      simp (maxSteps := 1000000) (disch := first | rfl | omega | assumption) only [go_sem, ↓reduceIte, Nat.reduceEqDiff, Nat.reduceAdd, Nat.reduceLeDiff, Nat.reduceBEq, Nat.reduceMul, Nat.reduceLT, Int.reduceLT, Int.reduceLE, Int.reduceToNat, Int.reduceNeg, Int.reduceEq, Int.reduceMul, reduceCtorEq, Int.reduceBEq, Int.reduceBNe, Int.reduceAdd, Int.reduceSub, g4, g13, g14, g15, g16, g94, g95, g96, ltT, ltF, leT, leF, hk', a1, a2, a3, a4, hA, hB, hO, hP, hQ, hd, m3]
      exact ih (j + 1) (by omega) true (by rw [Bool.true_or]; exact hr) _ (by exact g4) (by exact g13) (by exact g14) (by exact g15) (by rfl) (by exact g94) (by exact g95) (by rfl)
    | false =>
      rcases Bool.eq_false_or_eq_true (s.testBit j) with ht | ht
      · by_cases hc : 2 * c.er < ap
        · simp only [ht, hc, decide_true, Bool.and_self, Bool.true_or, Bool.or_true] at hr
          simp (maxSteps := 1000000) (disch := first | rfl | omega | assumption) only [go_sem, ↓reduceIte, Nat.reduceEqDiff, Nat.reduceAdd, Nat.reduceLeDiff, Nat.reduceBEq, Nat.reduceMul, Nat.reduceLT, Int.reduceLT, Int.reduceLE, Int.reduceToNat, Int.reduceNeg, Int.reduceEq, Int.reduceMul, reduceCtorEq, Int.reduceBEq, Int.reduceBNe, Int.reduceAdd, Int.reduceSub, g4, g13, g14, g15, g16, g94, g95, g96, ltT, ltF, leT, leF, hk', a1, a2, a3, a4, hA, hB, hO, hP, hQ, hd, m3, e1, e3, e4, ht, z, hc]
          exact ih (j + 1) (by omega) true (by rw [Bool.true_or]; exact hr) _ (by exact g4) (by exact g13) (by exact g14) (by exact g15) (by rfl) (by exact g94) (by exact g95) (by rfl)
        · simp only [ht, hc, decide_false, Bool.and_false, Bool.false_or] at hr
          simp (maxSteps := 1000000) (disch := first | rfl | omega | assumption) only [go_sem, ↓reduceIte, Nat.reduceEqDiff, Nat.reduceAdd, Nat.reduceLeDiff, Nat.reduceBEq, Nat.reduceMul, Nat.reduceLT, Int.reduceLT, Int.reduceLE, Int.reduceToNat, Int.reduceNeg, Int.reduceEq, Int.reduceMul, reduceCtorEq, Int.reduceBEq, Int.reduceBNe, Int.reduceAdd, Int.reduceSub, g4, g13, g14, g15, g16, g94, g95, g96, ltT, ltF, leT, leF, hk', a1, a2, a3, a4, hA, hB, hO, hP, hQ, hd, m3, e1, e3, e4, ht, z, hc]
          exact ih (j + 1) (by omega) false (by rw [Bool.false_or]; exact hr) _ (by exact g4) (by exact g13) (by exact g14) (by exact g15) (by rfl) (by exact g94) (by exact g95) (by rfl)
      · simp only [ht, Bool.false_and, Bool.false_or] at hr
        simp (maxSteps := 1000000) (disch := first | rfl | omega | assumption) only [go_sem, ↓reduceIte, Nat.reduceEqDiff, Nat.reduceAdd, Nat.reduceLeDiff, Nat.reduceBEq, Nat.reduceMul, Nat.reduceLT, Int.reduceLT, Int.reduceLE, Int.reduceToNat, Int.reduceNeg, Int.reduceEq, Int.reduceMul, reduceCtorEq, Int.reduceBEq, Int.reduceBNe, Int.reduceAdd, Int.reduceSub, g4, g13, g14, g15, g16, g94, g95, g96, ltT, ltF, leT, leF, hk', a1, a2, a3, a4, hA, hB, hO, hP, hQ, hd, m3, e1, e3, e4, ht, z]
        exact ih (j + 1) (by omega) false (by rw [Bool.false_or]; exact hr) _ (by exact g4) (by exact g13) (by exact g14) (by exact g15) (by rfl) (by exact g94) (by exact g95) (by rfl)

theorem law_ColourApart {c : Col} {vw vp : AV} (h : ColAt H c vw vp) (at' other b8 : Int) (b1 : 0 ≤ at' ∧ at' ≤ 65535) (b2 : 0 ≤ other ∧ other ≤ 65535) (b3 : 0 ≤ b8 ∧ b8 ≤ 255) :
    callFL cfg0 prog0 false 6 [c.av vw vp, .int .u16 at', .int .u16 other, .int .u8 b8] H none = some ⟨.ret (.bool true), H, none⟩ := by
  have s1 := h.ws.scal
  have s2 := h.ps.scal
  have hL := fun G : Heap => law_long (h.app G)
  have hV := fun G : Heap => ref_Colour (h.app G)
  simp only [Col.av] at hL hV
  rcases Bool.eq_false_or_eq_true c.long with hl | hl
  · simp only [Col.av]
    refine (callFL_eq fn6 rfl (by simp [Try.f6])).trans ?_
    simp (maxSteps := 1000000) (disch := first | rfl | omega | assumption) only [go_sem, ↓reduceIte, Nat.reduceEqDiff, Nat.reduceAdd, Nat.reduceLeDiff, Nat.reduceBEq, Nat.reduceMul, Nat.reduceLT, Int.reduceLT, Int.reduceLE, Int.reduceToNat, Int.reduceNeg, Int.reduceEq, Int.reduceMul, reduceCtorEq, Int.reduceBEq, Int.reduceBNe, Int.reduceAdd, Int.reduceSub, s1, s2, hL, hl, law_alive]
  · obtain ⟨l1, l2⟩ := c.long_false hl
    rcases Bool.eq_false_or_eq_true c.valid with hv | hv
    · have ho := c.valid_iff.1 hv
      have hlen := ho.len
      obtain ⟨n1, rfl⟩ : ∃ n : Nat, at' = n := ⟨at'.toNat, by omega⟩
      obtain ⟨n2, rfl⟩ : ∃ n : Nat, other = n := ⟨other.toNat, by omega⟩
      obtain ⟨n3, rfl⟩ : ∃ n : Nat, b8 = n := ⟨b8.toNat, by omega⟩
      have t1 : ((n1 : Nat) : Int).tmod 2001 = ((n1 % 2001 : Nat) : Int) := by rw [Int.tmod_eq_emod_of_nonneg (Int.natCast_nonneg _)]; rfl
      have t2 : ((n2 : Nat) : Int).tmod 2001 = ((n2 % 2001 : Nat) : Int) := by rw [Int.tmod_eq_emod_of_nonneg (Int.natCast_nonneg _)]; rfl
      have t3 := shlI ho
      have t4 := sOf_bits ho (b := n3) (by omega)
      have hs := c.sOf_lt ho n3
      have hss := c.sOf_isSet ho n3
      have hp2 : (2 : Nat) ^ c.ws.length ≤ 2 ^ 6 := Nat.pow_le_pow_right (by omega) hlen.2
      have hp3 := Nat.pow_pos (n := c.ws.length) (show 0 < 2 by omega)
      have ba : 0 ≤ ((n1 % 2001 : Nat) : Int) ∧ ((n1 % 2001 : Nat) : Int) ≤ 2000 := by omega
      have bb : 0 ≤ ((n2 % 2001 : Nat) : Int) ∧ ((n2 % 2001 : Nat) : Int) ≤ 2000 := by omega
      generalize c.sOf n3 = s at *
      generalize ((n1 % 2001 : Nat) : Int) = a at *
      generalize ((n2 % 2001 : Nat) : Int) = b at *
      have h1 := fun G : Heap => co_Parts (h.app G) (by omega) s a b
      have h2 := fun G : Heap => co_Apart (h.app G) (by omega) c.ws.length a b
      have h3 := fun G : Heap => co_Apart (h.app G) (by omega) 0 a 2001
      have h4 := fun G : Heap => co_Parts (h.app G) (by omega) (2 ^ c.ws.length : Nat) a b
      have h5 := fun G : Heap => co_Alike (h.app G) (by omega) (-1)
      have h6 := fun G : Heap => co_Parts (h.app G) (by omega) 0 (-1) b
      have f1 : wi (c.ws.length : Int) 0 (c.ws.length - 1) = false := by simp [wi]; omega
      have f2 : wi (2001 : Int) 0 2000 = false := by decide
      have f3 : c.isSet (2 ^ c.ws.length : Nat) = false := by simp [Col.isSet, wi]; omega
      have f4 : c.isSet (-1) = false := by simp [Col.isSet, wi]
      have f5 : wi (-1 : Int) 0 2000 = false := by decide
      simp only [Col.parts, hv, hss, wi_iff.2 ba, wi_iff.2 bb, Bool.and_self, if_true, Int.toNat_natCast] at h1
      simp only [Col.apart, hv, f1, Bool.false_and, Bool.false_eq_true, if_true, if_false] at h2
      simp only [Col.apart, hv, f2, Bool.and_false, Bool.false_eq_true, if_true, if_false] at h3
      simp only [Col.parts, hv, f3, Bool.false_and, Bool.false_eq_true, if_true, if_false] at h4
      simp only [Col.alikeR, hv, f4, Bool.false_eq_true, if_true, if_false] at h5
      simp only [Col.parts, hv, f5, Bool.false_and, Bool.and_false, Bool.false_eq_true, if_true, if_false] at h6
      simp only [Col.av] at h1 h2 h3 h4 h5 h6 ⊢
      refine (callFL_eq fn6 rfl (by simp [Try.f6])).trans ?_
      simp (maxSteps := 1000000) (disch := first | rfl | omega | assumption) only [go_sem, ↓reduceIte, Nat.reduceEqDiff, Nat.reduceAdd, Nat.reduceLeDiff, Nat.reduceBEq, Nat.reduceMul, Nat.reduceLT, Int.reduceLT, Int.reduceLE, Int.reduceToNat, Int.reduceNeg, Int.reduceEq, Int.reduceMul, reduceCtorEq, Int.reduceBEq, Int.reduceBNe, Int.reduceAdd, Int.reduceSub, s1, s2, hL, hV, hl, hv]
      rw [chkK_of]; rotate_left; kernel_rfl
      have z : ¬ (c.ws.length : Int) < 0 := by omega
      simp (maxSteps := 1000000) (disch := first | rfl | omega | assumption) only [go_sem, ↓reduceIte, Nat.reduceEqDiff, Nat.reduceAdd, Nat.reduceLeDiff, Nat.reduceBEq, Nat.reduceMul, Nat.reduceLT, Int.reduceLT, Int.reduceLE, Int.reduceToNat, Int.reduceNeg, Int.reduceEq, Int.reduceMul, reduceCtorEq, Int.reduceBEq, Int.reduceBNe, Int.reduceAdd, Int.reduceSub, s1, s2, t1, t2, t3, t4, h.ws.len, z]
      refine apart_loop h ho hv ba bb hs.1 (c.partB s a b) _ _ (fun E g4 g13 g14 g15 g16 => ?_) c.ws.length 0 (by omega) false (by rw [Bool.false_or]; rfl) _ (by rfl) (by rfl) (by rfl) (by rfl) (by rfl) (by rfl) (by rfl) (by rfl)
      simp only [Col.av]
      simp (maxSteps := 1000000) (disch := first | rfl | omega | assumption) only [go_sem, ↓reduceIte, Nat.reduceEqDiff, Nat.reduceAdd, Nat.reduceLeDiff, Nat.reduceBEq, Nat.reduceMul, Nat.reduceLT, Int.reduceLT, Int.reduceLE, Int.reduceToNat, Int.reduceNeg, Int.reduceEq, Int.reduceMul, reduceCtorEq, Int.reduceBEq, Int.reduceBNe, Int.reduceAdd, Int.reduceSub, g4, g13, g14, g15, g16, s1, s2, h1, h2, h3, h.ws.len]
      rw [chkK_of]; rotate_left; kernel_rfl
      simp (maxSteps := 1000000) (disch := first | rfl | omega | assumption) only [go_sem, ↓reduceIte, Nat.reduceEqDiff, Nat.reduceAdd, Nat.reduceLeDiff, Nat.reduceBEq, Nat.reduceMul, Nat.reduceLT, Int.reduceLT, Int.reduceLE, Int.reduceToNat, Int.reduceNeg, Int.reduceEq, Int.reduceMul, reduceCtorEq, Int.reduceBEq, Int.reduceBNe, Int.reduceAdd, Int.reduceSub, g4, g13, g14, g15, g16, s1, s2, h.ws.len, z, t3, h4, h5, h6, law_alive]
    · have h1 := fun G : Heap => co_Apart (h.app G) (by omega) 0 0 0
      have h2 := fun G : Heap => co_Parts (h.app G) (by omega) 0 0 0
      simp only [Col.apart, hv, Bool.false_eq_true, if_false] at h1
      simp only [Col.parts, hv, Bool.false_eq_true, if_false] at h2
      simp only [Col.av] at h1 h2 ⊢
      refine (callFL_eq fn6 rfl (by simp [Try.f6])).trans ?_
      simp (maxSteps := 1000000) (disch := first | rfl | omega | assumption) only [go_sem, ↓reduceIte, Nat.reduceEqDiff, Nat.reduceAdd, Nat.reduceLeDiff, Nat.reduceBEq, Nat.reduceMul, Nat.reduceLT, Int.reduceLT, Int.reduceLE, Int.reduceToNat, Int.reduceNeg, Int.reduceEq, Int.reduceMul, reduceCtorEq, Int.reduceBEq, Int.reduceBNe, Int.reduceAdd, Int.reduceSub, s1, s2, hL, hV, hl, hv, h1, h2, law_alive]

end Go.Ab
