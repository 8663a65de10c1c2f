/-
  FringeWhole.
-/
import Derived.Test.YtcalhkhkiahecaaKK4
namespace Go.Ab
open Go.Proofs
set_option linter.unusedSimpArgs false
set_option linter.unusedVariables false
set_option maxRecDepth 100000
set_option maxHeartbeats 2000000

variable {H : Heap}


theorem ofold_lt {w : Int} (hw : 1 ≤ w) : ∀ (xs : List Int) (a : Nat), a < 2 ^ 20 → xs.foldl (fun a x => orP a (ptZ w x)) a < 2 ^ 20
  | [], a, h => h
  | x :: r, a, h => ofold_lt hw r _ (or_lt h (by have := ptZ_bd (w := w) (n := x) hw; omega))

end Go.Ab
/-
  A reading more; how many are left in a colour.
-/
namespace Go.Ab
open Go.Proofs
set_option linter.unusedSimpArgs false
set_option linter.unusedVariables false
set_option maxRecDepth 100000
set_option maxHeartbeats 2000000

variable {H : Heap}


theorem all_bit2 {n i : Nat} (h : i < n) : (2 ^ n - 1).testBit i = true := by
  rw [Nat.testBit_two_pow_sub_one]; simpa using h

end Go.Ab
/-
  FringeAsk: how many are left of each part.
-/
namespace Go.Ab
open Go.Proofs
set_option linter.unusedSimpArgs false
set_option linter.unusedVariables false
set_option maxRecDepth 100000
set_option maxHeartbeats 2000000

variable {H : Heap}


/-- How many lengths leave a part in a colour. -/
def Frg.lenP (f : Frg) (c k : Nat) : Nat := ((f.lens f.all).filter fun n => decide (ptZ (f.w c) n = (k : Int))).length

def plusR (f : Frg) (c k : Nat) : Frg := { f with rs := f.rs ++ [⟨(c : Int), (k : Int), (k : Int)⟩] }

def mGo (f : Frg) (c : Nat) : Nat → Nat → Int → Int
  | _, 0, a => a
  | j, q + 1, a => mGo f c (j + 1) q (mx2 a (f.lenP c j : Nat))
def sGo (f : Frg) (c : Nat) : Nat → Nat → Int → Int
  | _, 0, a => a
  | j, q + 1, a => sGo f c (j + 1) q (a + (f.lenP c j : Nat))

end Go.Ab
/-
  FringeAsk: the plain part.
-/
namespace Go.Ab
open Go.Proofs
set_option linter.unusedSimpArgs false
set_option linter.unusedVariables false
set_option maxRecDepth 100000
set_option maxHeartbeats 2000000

variable {H : Heap}


theorem sumK_sh (k : Nat) : ∀ (l : List ((Int × Int) × Int)) (a : Int), l.foldl (fun (a : Int) (p : (Int × Int) × Int) => if p.1.2 = (k : Int) then a + p.2 else a) a = a + sumK k l
  | [], a => by simp [sumK]
  | p :: r, a => by
    have h1 := sumK_sh k r (if p.1.2 = (k : Int) then a + p.2 else a)
    have h2 := sumK_sh k r (if p.1.2 = (k : Int) then 0 + p.2 else 0)
    simp only [sumK, List.foldl_cons] at h1 h2 ⊢
    rw [h1, h2]
    split <;> omega

theorem sumK_cons (k : Nat) (p : (Int × Int) × Int) (r : List ((Int × Int) × Int)) : sumK k (p :: r) = (if p.1.2 = (k : Int) then p.2 else 0) + sumK k r := by
  have h := sumK_sh k r (if p.1.2 = (k : Int) then 0 + p.2 else 0)
  simp only [sumK, List.foldl_cons] at h ⊢
  rw [h]
  split <;> omega

theorem sumK_set (k : Nat) (key : Int × Int) : ∀ es, sumK k (setC es key ((getC es key).getD 0 + 1)) = sumK k es + (if key.2 = (k : Int) then 1 else 0)
  | [] => by simp only [setC, getC, Option.getD_none, sumK_cons]; simp [sumK]
  | (k', c') :: r => by
    have ih := sumK_set k key r
    simp only [setC, getC]
    by_cases h : key = k'
    · subst h
      simp only [if_pos, Option.getD_some, sumK_cons]
      split <;> omega
    · simp only [if_neg h, sumK_cons, ih]
      omega

theorem sumK_cnt (k : Nat) (w : Int) : ∀ (xs : List Int) (es : List ((Int × Int) × Int)), sumK k (xs.foldl (incC w) es) = sumK k es + (((xs.filter fun n => decide (ptZ w n = (k : Int))).length : Nat) : Int)
  | [], es => by simp
  | x :: r, es => by
    have ih := sumK_cnt k w r (incC w es x)
    have h := sumK_set k (x / w, ptZ w x) es
    simp only [List.foldl_cons]
    rw [ih, incC, h, List.filter_cons]
    by_cases e : ptZ w x = (k : Int)
    · simp only [e, if_true, decide_true, List.length_cons]; omega
    · simp only [e, if_false, decide_false, Bool.false_eq_true]; omega

theorem arrI_cnt (f : Frg) (c : Nat) : arrI (f.cnt c) = (List.range 20).map fun k => ((f.lenP c k : Nat) : Int) := by
  simp only [arrI]
  apply List.map_congr_left
  intro k _
  have h := sumK_cnt k (f.w c) (f.lens f.all) []
  simp only [Frg.cnt, cntC, Frg.lenP]
  rw [h]
  simp [sumK]

theorem mGo_fold (f : Frg) (c : Nat) : ∀ (q j : Nat) (a : Int), mGo f c j q a = ((List.range' j q).map fun k => ((f.lenP c k : Nat) : Int)).foldl mx2 a
  | 0, j, a => rfl
  | q + 1, j, a => by
    simp only [mGo, List.range'_succ, List.map_cons, List.foldl_cons]
    exact mGo_fold f c q (j + 1) _

theorem mGo_most (f : Frg) (c : Nat) : mGo f c 0 20 0 = f.most c := by
  rw [mGo_fold, Frg.most, arrI_cnt, mxL, List.range_eq_range']
  rw [show (20 : Nat) = 19 + 1 from rfl, List.range'_succ]
  simp only [List.map_cons, List.foldl_cons, List.drop_succ_cons, List.drop_zero, List.getD_cons_zero]
  congr 1
  simp only [mx2]
  split <;> omega

/-- The colour with the least most. -/
theorem askGo_best (f : Frg) : ∀ (q j : Nat) (b : Int) (m : Int), 0 < j → (∃ b0 : Nat, b = b0 ∧ b0 < j ∧ m = f.most b0 ∧ ∀ i, i < j → m < f.most i ∨ (m = f.most i ∧ b0 ≤ i)) →
    ∃ b1 : Nat, (f.askGo j q (b, m)).1 = b1 ∧ b1 < j + q ∧ (f.askGo j q (b, m)).2 = f.most b1 ∧ ∀ i, i < j + q → f.most b1 < f.most i ∨ (f.most b1 = f.most i ∧ b1 ≤ i)
  | 0, j, b, m, hj, ⟨b0, h1, h2, h3, h4⟩ => ⟨b0, h1, by omega, h3, fun i hi => by rw [← h3]; exact h4 i (by omega)⟩
  | q + 1, j, b, m, hj, ⟨b0, h1, h2, h3, h4⟩ => by
    simp only [Frg.askGo]
    have hj0 : ¬ j = 0 := by omega
    by_cases hc : f.most j < m
    · rw [if_pos (Or.inr hc)]
      obtain ⟨b1, k1, k2, k3, k4⟩ := askGo_best f q (j + 1) j (f.most j) (by omega) ⟨j, rfl, by omega, rfl, fun i hi => by
        by_cases e : i = j
        · subst e; exact Or.inr ⟨rfl, Nat.le_refl _⟩
        · have := h4 i (by omega); omega⟩
      exact ⟨b1, k1, by omega, k3, fun i hi => k4 i (by omega)⟩
    · rw [if_neg (by rintro (h | h); exact hj0 h; exact hc h)]
      obtain ⟨b1, k1, k2, k3, k4⟩ := askGo_best f q (j + 1) b m (by omega) ⟨b0, h1, by omega, h3, fun i hi => by
        by_cases e : i = j
        · subst e; omega
        · exact h4 i (by omega)⟩
      exact ⟨b1, k1, by omega, k3, fun i hi => k4 i (by omega)⟩

theorem ask_best {f : Frg} (hl : 0 < f.ws.length) : ∃ b1 : Nat, (f.askGo 0 f.ws.length (0, 0)).1 = b1 ∧ b1 < f.ws.length ∧ (f.askGo 0 f.ws.length (0, 0)).2 = f.most b1 ∧ ∀ i, i < f.ws.length → f.most b1 < f.most i ∨ (f.most b1 = f.most i ∧ b1 ≤ i) := by
  obtain ⟨q, hq⟩ : ∃ q, f.ws.length = q + 1 := ⟨f.ws.length - 1, by omega⟩
  rw [hq]
  simp only [Frg.askGo, true_or, if_true]
  have h0 : ∀ i, i < 0 + 1 → f.most 0 < f.most i ∨ (f.most 0 = f.most i ∧ 0 ≤ i) := fun i hi => by
    have : i = 0 := by omega
    subst this
    exact Or.inr ⟨rfl, Nat.le_refl _⟩
  obtain ⟨b1, k1, k2, k3, k4⟩ := askGo_best f q (0 + 1) ((0 : Nat) : Int) (f.most 0) (by omega) ⟨0, rfl, by omega, rfl, h0⟩
  exact ⟨b1, k1, by omega, k3, fun i hi => k4 i (by omega)⟩

end Go.Ab
/-
  FringeAsk.
-/
namespace Go.Ab
open Go.Proofs
set_option linter.unusedSimpArgs false
set_option linter.unusedVariables false
set_option maxRecDepth 100000
set_option maxHeartbeats 2000000

variable {H : Heap}


end Go.Ab
/-
  FringeTrue: the part of a length, by counting.
-/
namespace Go.Ab
open Go.Proofs
set_option linter.unusedSimpArgs false
set_option linter.unusedVariables false
set_option maxRecDepth 100000
set_option maxHeartbeats 2000000

variable {H : Heap}


end Go.Ab
/-
  FringeTrue: numbers drawn.
-/
namespace Go.Ab
open Go.Proofs
set_option linter.unusedSimpArgs false
set_option linter.unusedVariables false
set_option maxRecDepth 100000
set_option maxHeartbeats 2000000

variable {H : Heap}


/-- What is drawn, the at-th time. -/
def drawN (us : List Int) (at1 n : Int) : Int := if us.length = 0 then at1 % n else (us.getD (at1 % (us.length : Int)).toNat 0 + 61 * at1) % n

abbrev B16 (n : Int) : AV := .int .u16 n

end Go.Ab
