/-
  Plain facts on waiting: how long the slowest takes, as the reference finds it.
-/
import Derived.Test.YtppmifiahebgfaaP1
import Derived.Test.YtppmifiahebgfaaKW0
namespace Go.Ab
set_option linter.unusedSimpArgs false
set_option linter.unusedVariables false

theorem ceil_anti {x k k' : Int} (hk : 1 ≤ k) (h : k ≤ k') (hx : 0 ≤ x) : (x + k' - 1) / k' ≤ (x + k - 1) / k := by
  have h1 : x + k - 1 < (x + k - 1) / k * k + k := by
    have := Int.lt_ediv_add_one_mul_self (x + k - 1) (show 0 < k by omega)
    rw [Int.add_mul, Int.one_mul] at this; exact this
  have h0 : 0 ≤ (x + k - 1) / k := Int.ediv_nonneg (by omega) (by omega)
  generalize (x + k - 1) / k = q at *
  have h2 : q * k ≤ q * k' := Int.mul_le_mul_of_nonneg_left h h0
  have h3 : (x + k' - 1) / k' < q + 1 := by
    apply Int.ediv_lt_of_lt_mul (by omega)
    rw [Int.add_mul, Int.one_mul]; omega
  omega

theorem fallsZ_slow {x x' k k' : Int} (hk : 1 ≤ k) (h : k ≤ k') (hx : 0 ≤ x) (hxx : x ≤ x') : fallsZ x k ≤ fallsZ x' k' := by
  refine Int.le_trans (fallsZ_mono hk hxx) ?_
  rw [fallsZ_nonneg (by omega) hk, fallsZ_nonneg (by omega) (by omega)]
  have := ceil_anti hk h (show 0 ≤ x' by omega)
  omega

theorem wi_neg (x near : Int) : wi (-x) (-near) near = wi x (-near) near := by
  simp only [wi]
  rw [Bool.eq_iff_iff]
  simp only [Bool.and_eq_true, decide_eq_true_eq]
  omega

theorem wi_falls {x near k : Int} (hk : 1 ≤ k) (h : wi x (-near) near = true) : wi (fallsZ x k) (-near) near = true := by
  simp only [wi, Bool.and_eq_true, decide_eq_true_eq] at h ⊢
  have := fallsZ_bd (x := x) hk
  omega

theorem waitF_neg {near k : Int} (hk : 1 ≤ k) : ∀ (f : Nat) (x : Int), waitF near k f (-x) = waitF near k f x
  | 0, _ => rfl
  | f + 1, x => by simp only [waitF, wi_neg, fallsZ_neg hk, waitF_neg hk f]

theorem waitF_fuel {near k : Int} (hn : 0 ≤ near) (hk : 1 ≤ k) : ∀ (f g : Nat) (x : Int), x.natAbs < f → x.natAbs < g → waitF near k f x = waitF near k g x
  | 0, _, _, h, _ => absurd h (by omega)
  | _, 0, _, _, h => absurd h (by omega)
  | f + 1, g + 1, x, h1, h2 => by
    simp only [waitF]
    cases h : wi x (-near) near with
    | true => rfl
    | false =>
      have hx : x ≠ 0 := by
        rintro rfl
        simp [wi] at h; omega
      have := falls_less hk hx
      simp only [Bool.false_eq_true, if_false]
      rw [waitF_fuel hn hk f g _ (by omega) (by omega)]

theorem waitF_in {near k : Int} {x : Int} (h : wi x (-near) near = true) : ∀ f, waitF near k f x = 0
  | 0 => rfl
  | f + 1 => by simp only [waitF, h, if_true]

theorem waitF_mono {near k k' : Int} (hk : 1 ≤ k) (h : k ≤ k') : ∀ (f : Nat) (x x' : Int), 0 ≤ x → x ≤ x' → waitF near k f x ≤ waitF near k' f x'
  | 0, _, _, _, _ => Nat.le_refl _
  | f + 1, x, x', h0, hx => by
    simp only [waitF]
    cases h1 : wi x (-near) near with
    | true => simp
    | false =>
      have h2 : wi x' (-near) near = false := by
        cases h2 : wi x' (-near) near with
        | false => rfl
        | true =>
          simp only [wi, Bool.and_eq_true, decide_eq_true_eq] at h2
          simp only [wi, Bool.and_eq_false_iff, decide_eq_false_iff_not] at h1
          omega
      simp only [h2, Bool.false_eq_true, if_false]
      exact Nat.succ_le_succ (waitF_mono hk h f _ _ ((fallsZ_bd hk).1 h0).1 (fallsZ_slow hk h h0 hx))

theorem waitF_slow {near k k' : Int} (hk : 1 ≤ k) (h : k ≤ k') (f : Nat) (x : Int) : waitF near k f x ≤ waitF near k' f x := by
  rcases Int.lt_or_le x 0 with h1 | h1
  · rw [← waitF_neg hk f x, ← waitF_neg (show 1 ≤ k' by omega) f x]
    exact waitF_mono hk h f _ _ (by omega) (Int.le_refl _)
  · exact waitF_mono hk h f _ _ h1 (Int.le_refl _)

/-- The reference's walk through the minutes of one speed. -/
def waitI (near k : Int) : Nat → Int → Int → Int → Int
  | 0, _, _, o => o
  | f + 1, m, x, o => waitI near k f (m + 1) (fallsZ x k) (if wi x (-near) near then o else mx o (m + 1))

theorem waitI_eq {near k : Int} (hk : 1 ≤ k) : ∀ (f : Nat) (m x o : Int), waitI near k f m x o = if waitF near k f x = 0 then o else mx o (m + waitF near k f x)
  | 0, m, x, o => rfl
  | f + 1, m, x, o => by
    simp only [waitI, waitF]
    rw [waitI_eq hk f]
    rcases Bool.eq_false_or_eq_true (wi x (-near) near) with h | h
    · simp [h, waitF_in (k := k) (wi_falls hk h)]
    · simp only [h, Bool.false_eq_true, if_false]
      rw [if_neg (by omega : ¬ waitF near k f (fallsZ x k) + 1 = 0)]
      split
      · rename_i h0; rw [h0]; simp
      · simp only [mx]; repeat' split
        all_goals omega

/-- The reference's walk through the speeds. -/
def waitO (near x : Int) : Nat → Int → Int → Int
  | 0, _, o => o
  | n + 1, k, o => waitO near x n (k + 1) (waitI near k 101 0 x o)

theorem waitI_0 {near k : Int} (hk : 1 ≤ k) {o : Int} (ho : 0 ≤ o) (x : Int) : waitI near k 101 0 x o = mx o (waitF near k 101 x : Nat) := by
  rw [waitI_eq hk]
  split
  · rename_i h; rw [h]; simp only [mx]; split <;> omega
  · rw [Int.zero_add]

theorem waitO_eq {near x : Int} : ∀ (n : Nat) (k o : Int), 1 ≤ k → 0 ≤ o → waitO near x (n + 1) k o = mx o (waitF near (k + n) 101 x : Nat)
  | 0, k, o, hk, ho => by simp only [waitO, Int.natCast_zero, Int.add_zero, waitI_0 hk ho]
  | n + 1, k, o, hk, ho => by
    have h1 := waitF_slow (near := near) hk (show k ≤ k + ((n + 1 : Nat) : Int) by omega) 101 x
    have h2 : 0 ≤ mx o (waitF near k 101 x : Nat) := by simp only [mx]; split <;> omega
    rw [waitO, waitI_0 hk ho, waitO_eq n (k + 1) _ (by omega) h2, show k + 1 + (n : Int) = k + ((n + 1 : Nat) : Int) by omega]
    simp only [mx]; repeat' split
    all_goals omega

end Go.Ab
