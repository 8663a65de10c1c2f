/-
  Plain facts on an excess that falls, and on the least and the greatest of a list.
-/
import Derived.Test.YtppmifiahebgfaaKW0
namespace Go.Ab
set_option linter.unusedSimpArgs false
set_option linter.unusedVariables false

theorem ceil_step {x k : Int} (hk : 1 ≤ k) : (x + k - 1) / k ≤ (x + 1 + k - 1) / k ∧ (x + 1 + k - 1) / k ≤ (x + k - 1) / k + 1 := by
  constructor
  · exact Int.ediv_le_ediv (by omega) (by omega)
  · have h : (x + k - 1) / k + 1 = (x + k - 1 + k) / k := by rw [Int.add_ediv_of_dvd_right (Int.dvd_refl k), Int.ediv_self (by omega)]
    rw [h]
    exact Int.ediv_le_ediv (by omega) (by omega)

theorem fallsZ_nonneg {x k : Int} (hx : 0 ≤ x) (hk : 1 ≤ k) : fallsZ x k = x - (x + k - 1) / k := by
  rw [fallsZ, if_neg (by omega), Int.tdiv_eq_ediv_of_nonneg (by omega)]

theorem fallsZ_zero {k : Int} (hk : 1 ≤ k) : fallsZ 0 k = 0 := by
  have := fallsZ_bd (x := 0) hk
  omega

theorem fallsZ_neg {x k : Int} (hk : 1 ≤ k) : fallsZ (-x) k = -fallsZ x k := by
  rcases Int.lt_trichotomy x 0 with h | h | h
  · rw [fallsZ, if_neg (by omega)]
    conv => rhs; rw [fallsZ, if_pos h]
    omega
  · subst h; rw [Int.neg_zero, fallsZ_zero hk]; rfl
  · rw [fallsZ, if_pos (by omega)]
    conv => rhs; rw [fallsZ, if_neg (by omega)]
    simp

theorem fallsZ_step {x k : Int} (hk : 1 ≤ k) : fallsZ x k ≤ fallsZ (x + 1) k ∧ fallsZ (x + 1) k ≤ fallsZ x k + 1 := by
  rcases Int.lt_or_le x 0 with h | h
  · have e1 : fallsZ x k = -fallsZ (-x) k := by rw [fallsZ_neg hk]; omega
    have e2 : fallsZ (x + 1) k = -fallsZ (-x - 1) k := by rw [← fallsZ_neg hk]; congr 1; omega
    rw [e1, e2, fallsZ_nonneg (by omega) hk, fallsZ_nonneg (by omega) hk]
    have := ceil_step (x := -x - 1) hk
    rw [show -x - 1 + 1 + k - 1 = -x + k - 1 by omega] at this
    omega
  · rw [fallsZ_nonneg h hk, fallsZ_nonneg (by omega) hk]
    have := ceil_step (x := x) hk
    omega

theorem fallsZ_mono {x y k : Int} (hk : 1 ≤ k) (h : x ≤ y) : fallsZ x k ≤ fallsZ y k := by
  obtain ⟨n, rfl⟩ := Int.le.dest h
  clear h
  induction n with
  | zero => simp
  | succ n ih =>
    have := (fallsZ_step (x := x + n) hk).1
    rw [show x + ((n + 1 : Nat) : Int) = x + n + 1 by omega]
    omega

theorem heats_le {ts : List Tch} (h : ∀ t ∈ ts, t.h0 ≤ t.h1) (blk m : Int) : (heats ts blk m 0).sum ≤ (heats ts blk m 1).sum := by
  induction ts with
  | nil => simp [heats]
  | cons t r ih =>
    have h1 := ih fun t ht => h t (List.mem_cons_of_mem _ ht)
    have h2 := h t (List.mem_cons_self ..)
    by_cases c1 : t.b = blk <;> by_cases c2 : t.m = m <;> simp [heats, c1, c2, Tch.h] at h1 ⊢ <;> omega

theorem exc_le {ts : List Tch} (h : ∀ t ∈ ts, t.h0 ≤ t.h1) {x0 x1 k : Int} (hk : 1 ≤ k) (hx : x0 ≤ x1) (blk : Int) : ∀ n, exc ts blk x0 k 0 n ≤ exc ts blk x1 k 1 n
  | 0 => by simp only [exc]; have := heats_le h blk 0; omega
  | n + 1 => by
    simp only [exc]
    have := heats_le h blk ((n + 1 : Nat) : Int)
    have := fallsZ_mono hk (exc_le h hk hx blk n)
    omega

/-! ### The least and the greatest -/

def lows (l : List Int) (x : Int) : Int := l.foldl mn x
def highs (l : List Int) (x : Int) : Int := l.foldl mx x

theorem lows_cons (a : Int) (l : List Int) (x : Int) : lows (a :: l) x = lows l (mn x a) := rfl
theorem highs_cons (a : Int) (l : List Int) (x : Int) : highs (a :: l) x = highs l (mx x a) := rfl

theorem lows_spec : ∀ (l : List Int) (x : Int), (lows l x ≤ x ∧ ∀ a ∈ l, lows l x ≤ a) ∧ (lows l x = x ∨ lows l x ∈ l)
  | [], x => by simp [lows]
  | a :: l, x => by
    rw [lows_cons]
    obtain ⟨⟨h1, h2⟩, h3⟩ := lows_spec l (mn x a)
    have hm : mn x a ≤ x ∧ mn x a ≤ a ∧ (mn x a = x ∨ mn x a = a) := by simp only [mn]; split <;> omega
    refine ⟨⟨by omega, ?_⟩, ?_⟩
    · intro b hb
      rcases List.mem_cons.1 hb with rfl | hb
      · omega
      · exact h2 b hb
    · rcases h3 with h3 | h3
      · rcases hm.2.2 with h | h
        · exact .inl (h3.trans h)
        · exact .inr (by rw [h3, h]; exact List.mem_cons_self ..)
      · exact .inr (List.mem_cons_of_mem _ h3)

theorem highs_spec : ∀ (l : List Int) (x : Int), (x ≤ highs l x ∧ ∀ a ∈ l, a ≤ highs l x) ∧ (highs l x = x ∨ highs l x ∈ l)
  | [], x => by simp [highs]
  | a :: l, x => by
    rw [highs_cons]
    obtain ⟨⟨h1, h2⟩, h3⟩ := highs_spec l (mx x a)
    have hm : x ≤ mx x a ∧ a ≤ mx x a ∧ (mx x a = x ∨ mx x a = a) := by simp only [mx]; split <;> omega
    refine ⟨⟨by omega, ?_⟩, ?_⟩
    · intro b hb
      rcases List.mem_cons.1 hb with rfl | hb
      · omega
      · exact h2 b hb
    · rcases h3 with h3 | h3
      · rcases hm.2.2 with h | h
        · exact .inl (h3.trans h)
        · exact .inr (by rw [h3, h]; exact List.mem_cons_self ..)
      · exact .inr (List.mem_cons_of_mem _ h3)

theorem loS_spec (f : Nat → Int) : ∀ n, 1 ≤ n → (∀ j, j < n → loS f n ≤ f j) ∧ ∃ j, j < n ∧ loS f n = f j
  | 0, h => absurd h (by omega)
  | n + 1, _ => by
    simp only [loS]
    rcases Nat.eq_zero_or_pos n with rfl | hn
    · rw [if_pos rfl]
      exact ⟨fun j hj => by rw [show j = 0 by omega]; exact Int.le_refl _, 0, by omega, rfl⟩
    · obtain ⟨h1, j0, h2, h3⟩ := loS_spec f n hn
      rw [if_neg (by omega)]
      split
      · rename_i hlt
        refine ⟨fun j hj => ?_, n, by omega, rfl⟩
        rcases Nat.lt_or_ge j n with h | h
        · have := h1 j h; omega
        · rw [show j = n by omega]; exact Int.le_refl _
      · rename_i hlt
        refine ⟨fun j hj => ?_, j0, by omega, h3⟩
        rcases Nat.lt_or_ge j n with h | h
        · exact h1 j h
        · rw [show j = n by omega]; omega

theorem hiS_spec (f : Nat → Int) : ∀ n, 1 ≤ n → (∀ j, j < n → f j ≤ hiS f n) ∧ ∃ j, j < n ∧ hiS f n = f j
  | 0, h => absurd h (by omega)
  | n + 1, _ => by
    simp only [hiS]
    rcases Nat.eq_zero_or_pos n with rfl | hn
    · rw [if_pos rfl]
      exact ⟨fun j hj => by rw [show j = 0 by omega]; exact Int.le_refl _, 0, by omega, rfl⟩
    · obtain ⟨h1, j0, h2, h3⟩ := hiS_spec f n hn
      rw [if_neg (by omega)]
      split
      · rename_i hlt
        refine ⟨fun j hj => ?_, n, by omega, rfl⟩
        rcases Nat.lt_or_ge j n with h | h
        · have := h1 j h; omega
        · rw [show j = n by omega]; exact Int.le_refl _
      · rename_i hlt
        refine ⟨fun j hj => ?_, j0, by omega, h3⟩
        rcases Nat.lt_or_ge j n with h | h
        · exact h1 j h
        · rw [show j = n by omega]; omega

/-- The reference's list of all ends, k of them for the first k speeds. -/
def endsL (f g : Nat → Int) : Nat → List Int
  | 0 => []
  | n + 1 => endsL f g n ++ [f n, g n]

theorem endsL_len (f g : Nat → Int) : ∀ n, (endsL f g n).length = 2 * n
  | 0 => rfl
  | n + 1 => by simp [endsL, endsL_len f g n]; omega

theorem endsL_mem (f g : Nat → Int) {x : Int} : ∀ n, x ∈ endsL f g n ↔ ∃ j, j < n ∧ (x = f j ∨ x = g j)
  | 0 => by simp [endsL]
  | n + 1 => by
    simp only [endsL, List.mem_append, endsL_mem f g n, List.mem_cons, List.not_mem_nil, or_false]
    constructor
    · rintro (⟨j, h1, h2⟩ | h)
      · exact ⟨j, by omega, h2⟩
      · exact ⟨n, by omega, h⟩
    · rintro ⟨j, h1, h2⟩
      rcases Nat.lt_or_ge j n with h | h
      · exact .inl ⟨j, h, h2⟩
      · rw [show j = n by omega] at h2; exact .inr h2

theorem endsL_head (f g : Nat → Int) : ∀ n, 1 ≤ n → ∃ r, endsL f g n = f 0 :: r
  | 0, h => absurd h (by omega)
  | 1, _ => ⟨[g 0], rfl⟩
  | n + 2, _ => by
    obtain ⟨r, hr⟩ := endsL_head f g (n + 1) (by omega)
    exact ⟨r ++ [f (n + 1), g (n + 1)], by rw [endsL, hr]; rfl⟩

theorem endsL_low {f g : Nat → Int} {n : Nat} (hn : 1 ≤ n) (h : ∀ j, f j ≤ g j) : lows (endsL f g n) (f 0) = loS f n := by
  obtain ⟨⟨h1, h2⟩, h3⟩ := lows_spec (endsL f g n) (f 0)
  obtain ⟨h4, j0, h5, h6⟩ := loS_spec f n hn
  have h7 := h2 (f j0) ((endsL_mem f g n).2 ⟨j0, h5, .inl rfl⟩)
  rcases h3 with h3 | h3
  · have := h4 0 (by omega); omega
  · obtain ⟨j, hj, e | e⟩ := (endsL_mem f g n).1 h3
    · have := h4 j hj; omega
    · have := h4 j hj; have := h j; omega

theorem endsL_high {f g : Nat → Int} {n : Nat} (hn : 1 ≤ n) (h : ∀ j, f j ≤ g j) : highs (endsL f g n) (f 0) = hiS g n := by
  obtain ⟨⟨h1, h2⟩, h3⟩ := highs_spec (endsL f g n) (f 0)
  obtain ⟨h4, j0, h5, h6⟩ := hiS_spec g n hn
  have h7 := h2 (g j0) ((endsL_mem f g n).2 ⟨j0, h5, .inr rfl⟩)
  rcases h3 with h3 | h3
  · have := h4 0 (by omega); have := h 0; omega
  · obtain ⟨j, hj, e | e⟩ := (endsL_mem f g n).1 h3
    · have := h4 j hj; have := h j; omega
    · have := h4 j hj; omega

end Go.Ab
