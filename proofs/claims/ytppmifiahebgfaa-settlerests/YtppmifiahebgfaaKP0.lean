/-
  Plain facts on an excess that falls, and on the least and the greatest of a list.
-/
import Derived.Test.YtppmifiahebgfaaKW0
namespace Go.Ab
set_option linter.unusedSimpArgs false
set_option linter.unusedVariables false

theorem ceil_step {x k : Int} (hk : 1 ≤ k) : (x + k - 1) / k ≤ (x + 1 + k - 1) / k ∧ (x + 1 + k - 1) / k ≤ (x + k - 1) / k + 1 := by
  constructor
  · exact Int.ediv_le_ediv (by omega) (by omega)
  · have h : (x + k - 1) / k + 1 = (x + k - 1 + k) / k := by rw [Int.add_ediv_of_dvd_right (Int.dvd_refl k), Int.ediv_self (by omega)]
    rw [h]
    exact Int.ediv_le_ediv (by omega) (by omega)

theorem fallsZ_nonneg {x k : Int} (hx : 0 ≤ x) (hk : 1 ≤ k) : fallsZ x k = x - (x + k - 1) / k := by
  rw [fallsZ, if_neg (by omega), Int.tdiv_eq_ediv_of_nonneg (by omega)]

theorem fallsZ_zero {k : Int} (hk : 1 ≤ k) : fallsZ 0 k = 0 := by
  have := fallsZ_bd (x := 0) hk
  omega

theorem fallsZ_neg {x k : Int} (hk : 1 ≤ k) : fallsZ (-x) k = -fallsZ x k := by
  rcases Int.lt_trichotomy x 0 with h | h | h
  · rw [fallsZ, if_neg (by omega)]
    conv => rhs; rw [fallsZ, if_pos h]
    omega
  · subst h; rw [Int.neg_zero, fallsZ_zero hk]; rfl
  · rw [fallsZ, if_pos (by omega)]
    conv => rhs; rw [fallsZ, if_neg (by omega)]
    simp

theorem fallsZ_step {x k : Int} (hk : 1 ≤ k) : fallsZ x k ≤ fallsZ (x + 1) k ∧ fallsZ (x + 1) k ≤ fallsZ x k + 1 := by
  rcases Int.lt_or_le x 0 with h | h
  · have e1 : fallsZ x k = -fallsZ (-x) k := by rw [fallsZ_neg hk]; omega
    have e2 : fallsZ (x + 1) k = -fallsZ (-x - 1) k := by rw [← fallsZ_neg hk]; congr 1; omega
    rw [e1, e2, fallsZ_nonneg (by omega) hk, fallsZ_nonneg (by omega) hk]
    have := ceil_step (x := -x - 1) hk
    rw [show -x - 1 + 1 + k - 1 = -x + k - 1 by omega] at this
    omega
  · rw [fallsZ_nonneg h hk, fallsZ_nonneg (by omega) hk]
    have := ceil_step (x := x) hk
    omega

theorem fallsZ_mono {x y k : Int} (hk : 1 ≤ k) (h : x ≤ y) : fallsZ x k ≤ fallsZ y k := by
  obtain ⟨n, rfl⟩ := Int.le.dest h
  clear h
  induction n with
  | zero => simp
  | succ n ih =>
    have := (fallsZ_step (x := x + n) hk).1
    rw [show x + ((n + 1 : Nat) : Int) = x + n + 1 by omega]
    omega

theorem heats_le {ts : List Tch} (h : ∀ t ∈ ts, t.h0 ≤ t.h1) (blk m : Int) : (heats ts blk m 0).sum ≤ (heats ts blk m 1).sum := by
  induction ts with
  | nil => simp [heats]
  | cons t r ih =>
    have h1 := ih fun t ht => h t (List.mem_cons_of_mem _ ht)
    have h2 := h t (List.mem_cons_self ..)
    by_cases c1 : t.b = blk <;> by_cases c2 : t.m = m <;> simp [heats, c1, c2, Tch.h] at h1 ⊢ <;> omega

theorem exc_le {ts : List Tch} (h : ∀ t ∈ ts, t.h0 ≤ t.h1) {x0 x1 k : Int} (hk : 1 ≤ k) (hx : x0 ≤ x1) (blk : Int) : ∀ n, exc ts blk x0 k 0 n ≤ exc ts blk x1 k 1 n
  | 0 => by simp only [exc]; have := heats_le h blk 0; omega
  | n + 1 => by
    simp only [exc]
    have := heats_le h blk ((n + 1 : Nat) : Int)
    have := fallsZ_mono hk (exc_le h hk hx blk n)
    omega

/-! ### The least and the greatest -/

def lows (l : List Int) (x : Int) : Int := l.foldl mn x
def highs (l : List Int) (x : Int) : Int := l.foldl mx x

theorem lows_cons (a : Int) (l : List Int) (x : Int) : lows (a :: l) x = lows l (mn x a) := rfl
theorem highs_cons (a : Int) (l : List Int) (x : Int) : highs (a :: l) x = highs l (mx x a) := rfl

theorem lows_spec : ∀ (l : List Int) (x : Int), (lows l x ≤ x ∧ ∀ a ∈ l, lows l x ≤ a) ∧ (lows l x = x ∨ lows l x ∈ l)
  | [], x => by simp [lows]
  | a :: l, x => by
    rw [lows_cons]
    obtain ⟨⟨h1, h2⟩, h3⟩ := lows_spec l (mn x a)
    have hm : mn x a ≤ x ∧ mn x a ≤ a ∧ (mn x a = x ∨ mn x a = a) := by simp only [mn]; split <;> omega
    refine ⟨⟨by omega, ?_⟩, ?_⟩
    · intro b hb
      rcases List.mem_cons.1 hb with rfl | hb
      · omega
      · exact h2 b hb
    · rcases h3 with h3 | h3
      · rcases hm.2.2 with h | h
        · exact .inl (h3.trans h)
        · exact .inr (by rw [h3, h]; exact List.mem_cons_self ..)
      · exact .inr (List.mem_cons_of_mem _ h3)

theorem highs_spec : ∀ (l : List Int) (x : Int), (x ≤ highs l x ∧ ∀ a ∈ l, a ≤ highs l x) ∧ (highs l x = x ∨ highs l x ∈ l)
  | [], x => by simp [highs]
  | a :: l, x => by
    rw [highs_cons]
    obtain ⟨⟨h1, h2⟩, h3⟩ := highs_spec l (mx x a)
    have hm : x ≤ mx x a ∧ a ≤ mx x a ∧ (mx x a = x ∨ mx x a = a) := by simp only [mx]; split <;> omega
    refine ⟨⟨by omega, ?_⟩, ?_⟩
    · intro b hb
      rcases List.mem_cons.1 hb with rfl | hb
      · omega
      · exact h2 b hb
    · rcases h3 with h3 | h3
      · rcases hm.2.2 with h | h
        · exact .inl (h3.trans h)
        · exact .inr (by rw [h3, h]; exact List.mem_cons_self ..)
      · exact .inr (List.mem_cons_of_mem _ h3)

theorem loS_spec (f : Nat → Int) : ∀ n, 1 ≤ n → (∀ j, j < n → loS f n ≤ f j) ∧ ∃ j, j < n ∧ loS f n = f j
  | 0, h => absurd h (by omega)
  | n + 1, _ => by
    simp only [loS]
    rcases Nat.eq_zero_or_pos n with rfl | hn
    · rw [if_pos rfl]
      exact ⟨fun j hj => by rw [show j = 0 by omega]; exact Int.le_refl _, 0, by omega, rfl⟩
    · obtain ⟨h1, j0, h2, h3⟩ := loS_spec f n hn
      rw [if_neg (by omega)]
      split
      · rename_i hlt
        refine ⟨fun j hj => ?_, n, by omega, rfl⟩
        rcases Nat.lt_or_ge j n with h | h
        · have := h1 j h; omega
        · rw [show j = n by omega]; exact Int.le_refl _
      · rename_i hlt
        refine ⟨fun j hj => ?_, j0, by omega, h3⟩
        rcases Nat.lt_or_ge j n with h | h
        · exact h1 j h
        · rw [show j = n by omega]; omega

theorem hiS_spec (f : Nat → Int) : ∀ n, 1 ≤ n → (∀ j, j < n → f j ≤ hiS f n) ∧ ∃ j, j < n ∧ hiS f n = f j
  | 0, h => absurd h (by omega)
  | n + 1, _ => by
    simp only [hiS]
    rcases Nat.eq_zero_or_pos n with rfl | hn
    · rw [if_pos rfl]
      exact ⟨fun j hj => by rw [show j = 0 by omega]; exact Int.le_refl _, 0, by omega, rfl⟩
    · obtain ⟨h1, j0, h2, h3⟩ := hiS_spec f n hn
      rw [if_neg (by omega)]
      split
      · rename_i hlt
        refine ⟨fun j hj => ?_, n, by omega, rfl⟩
        rcases Nat.lt_or_ge j n with h | h
        · have := h1 j h; omega
        · rw [show j = n by omega]; exact Int.le_refl _
      · rename_i hlt
        refine ⟨fun j hj => ?_, j0, by omega, h3⟩
        rcases Nat.lt_or_ge j n with h | h
        · exact h1 j h
        · rw [show j = n by omega]; omega

/-- The reference's list of all ends, k of them for the first k speeds. -/
def endsL (f g : Nat → Int) : Nat → List Int
  | 0 => []
  | n + 1 => endsL f g n ++ [f n, g n]

theorem endsL_len (f g : Nat → Int) : ∀ n, (endsL f g n).length = 2 * n
  | 0 => rfl
  | n + 1 => by simp [endsL, endsL_len f g n]; omega

theorem endsL_mem (f g : Nat → Int) {x : Int} : ∀ n, x ∈ endsL f g n ↔ ∃ j, j < n ∧ (x = f j ∨ x = g j)
  | 0 => by simp [endsL]
  | n + 1 => by
    simp only [endsL, List.mem_append, endsL_mem f g n, List.mem_cons, List.not_mem_nil, or_false]
    constructor
    · rintro (⟨j, h1, h2⟩ | h)
      · exact ⟨j, by omega, h2⟩
      · exact ⟨n, by omega, h⟩
    · rintro ⟨j, h1, h2⟩
      rcases Nat.lt_or_ge j n with h | h
      · exact .inl ⟨j, h, h2⟩
      · rw [show j = n by omega] at h2; exact .inr h2

theorem endsL_head (f g : Nat → Int) : ∀ n, 1 ≤ n → ∃ r, endsL f g n = f 0 :: r
  | 0, h => absurd h (by omega)
  | 1, _ => ⟨[g 0], rfl⟩
  | n + 2, _ => by
    obtain ⟨r, hr⟩ := endsL_head f g (n + 1) (by omega)
    exact ⟨r ++ [f (n + 1), g (n + 1)], by rw [endsL, hr]; rfl⟩

theorem endsL_low {f g : Nat → Int} {n : Nat} (hn : 1 ≤ n) (h : ∀ j, f j ≤ g j) : lows (endsL f g n) (f 0) = loS f n := by
  obtain ⟨⟨h1, h2⟩, h3⟩ := lows_spec (endsL f g n) (f 0)
  obtain ⟨h4, j0, h5, h6⟩ := loS_spec f n hn
  have h7 := h2 (f j0) ((endsL_mem f g n).2 ⟨j0, h5, .inl rfl⟩)
  rcases h3 with h3 | h3
  · have := h4 0 (by omega); omega
  · obtain ⟨j, hj, e | e⟩ := (endsL_mem f g n).1 h3
    · have := h4 j hj; omega
    · have := h4 j hj; have := h j; omega

theorem endsL_high {f g : Nat → Int} {n : Nat} (hn : 1 ≤ n) (h : ∀ j, f j ≤ g j) : highs (endsL f g n) (f 0) = hiS g n := by
  obtain ⟨⟨h1, h2⟩, h3⟩ := highs_spec (endsL f g n) (f 0)
  obtain ⟨h4, j0, h5, h6⟩ := hiS_spec g n hn
  have h7 := h2 (g j0) ((endsL_mem f g n).2 ⟨j0, h5, .inr rfl⟩)
  rcases h3 with h3 | h3
  · have := h4 0 (by omega); have := h 0; omega
  · obtain ⟨j, hj, e | e⟩ := (endsL_mem f g n).1 h3
    · have := h4 j hj; have := h j; omega
    · have := h4 j hj; omega

end Go.Ab
/-
  Plain facts on waiting: how long the slowest takes, as the reference finds it.
-/
namespace Go.Ab
set_option linter.unusedSimpArgs false
set_option linter.unusedVariables false

theorem ceil_anti {x k k' : Int} (hk : 1 ≤ k) (h : k ≤ k') (hx : 0 ≤ x) : (x + k' - 1) / k' ≤ (x + k - 1) / k := by
  have h1 : x + k - 1 < (x + k - 1) / k * k + k := by
    have := Int.lt_ediv_add_one_mul_self (x + k - 1) (show 0 < k by omega)
    rw [Int.add_mul, Int.one_mul] at this; exact this
  have h0 : 0 ≤ (x + k - 1) / k := Int.ediv_nonneg (by omega) (by omega)
  generalize (x + k - 1) / k = q at *
  have h2 : q * k ≤ q * k' := Int.mul_le_mul_of_nonneg_left h h0
  have h3 : (x + k' - 1) / k' < q + 1 := by
    apply Int.ediv_lt_of_lt_mul (by omega)
    rw [Int.add_mul, Int.one_mul]; omega
  omega

theorem fallsZ_slow {x x' k k' : Int} (hk : 1 ≤ k) (h : k ≤ k') (hx : 0 ≤ x) (hxx : x ≤ x') : fallsZ x k ≤ fallsZ x' k' := by
  refine Int.le_trans (fallsZ_mono hk hxx) ?_
  rw [fallsZ_nonneg (by omega) hk, fallsZ_nonneg (by omega) (by omega)]
  have := ceil_anti hk h (show 0 ≤ x' by omega)
  omega

theorem wi_neg (x near : Int) : wi (-x) (-near) near = wi x (-near) near := by
  simp only [wi]
  rw [Bool.eq_iff_iff]
  simp only [Bool.and_eq_true, decide_eq_true_eq]
  omega

theorem wi_falls {x near k : Int} (hk : 1 ≤ k) (h : wi x (-near) near = true) : wi (fallsZ x k) (-near) near = true := by
  simp only [wi, Bool.and_eq_true, decide_eq_true_eq] at h ⊢
  have := fallsZ_bd (x := x) hk
  omega

theorem waitF_neg {near k : Int} (hk : 1 ≤ k) : ∀ (f : Nat) (x : Int), waitF near k f (-x) = waitF near k f x
  | 0, _ => rfl
  | f + 1, x => by simp only [waitF, wi_neg, fallsZ_neg hk, waitF_neg hk f]

theorem waitF_fuel {near k : Int} (hn : 0 ≤ near) (hk : 1 ≤ k) : ∀ (f g : Nat) (x : Int), x.natAbs < f → x.natAbs < g → waitF near k f x = waitF near k g x
  | 0, _, _, h, _ => absurd h (by omega)
  | _, 0, _, _, h => absurd h (by omega)
  | f + 1, g + 1, x, h1, h2 => by
    simp only [waitF]
    cases h : wi x (-near) near with
    | true => rfl
    | false =>
      have hx : x ≠ 0 := by
        rintro rfl
        simp [wi] at h; omega
      have := falls_less hk hx
      simp only [Bool.false_eq_true, if_false]
      rw [waitF_fuel hn hk f g _ (by omega) (by omega)]

theorem waitF_in {near k : Int} {x : Int} (h : wi x (-near) near = true) : ∀ f, waitF near k f x = 0
  | 0 => rfl
  | f + 1 => by simp only [waitF, h, if_true]

theorem waitF_mono {near k k' : Int} (hk : 1 ≤ k) (h : k ≤ k') : ∀ (f : Nat) (x x' : Int), 0 ≤ x → x ≤ x' → waitF near k f x ≤ waitF near k' f x'
  | 0, _, _, _, _ => Nat.le_refl _
  | f + 1, x, x', h0, hx => by
    simp only [waitF]
    cases h1 : wi x (-near) near with
    | true => simp
    | false =>
      have h2 : wi x' (-near) near = false := by
        cases h2 : wi x' (-near) near with
        | false => rfl
        | true =>
          simp only [wi, Bool.and_eq_true, decide_eq_true_eq] at h2
          simp only [wi, Bool.and_eq_false_iff, decide_eq_false_iff_not] at h1
          omega
      simp only [h2, Bool.false_eq_true, if_false]
      exact Nat.succ_le_succ (waitF_mono hk h f _ _ ((fallsZ_bd hk).1 h0).1 (fallsZ_slow hk h h0 hx))

theorem waitF_slow {near k k' : Int} (hk : 1 ≤ k) (h : k ≤ k') (f : Nat) (x : Int) : waitF near k f x ≤ waitF near k' f x := by
  rcases Int.lt_or_le x 0 with h1 | h1
  · rw [← waitF_neg hk f x, ← waitF_neg (show 1 ≤ k' by omega) f x]
    exact waitF_mono hk h f _ _ (by omega) (Int.le_refl _)
  · exact waitF_mono hk h f _ _ h1 (Int.le_refl _)

/-- The reference's walk through the minutes of one speed. -/
def waitI (near k : Int) : Nat → Int → Int → Int → Int
  | 0, _, _, o => o
  | f + 1, m, x, o => waitI near k f (m + 1) (fallsZ x k) (if wi x (-near) near then o else mx o (m + 1))

theorem waitI_eq {near k : Int} (hk : 1 ≤ k) : ∀ (f : Nat) (m x o : Int), waitI near k f m x o = if waitF near k f x = 0 then o else mx o (m + waitF near k f x)
  | 0, m, x, o => rfl
  | f + 1, m, x, o => by
    simp only [waitI, waitF]
    rw [waitI_eq hk f]
    rcases Bool.eq_false_or_eq_true (wi x (-near) near) with h | h
    · simp [h, waitF_in (k := k) (wi_falls hk h)]
    · simp only [h, Bool.false_eq_true, if_false]
      rw [if_neg (by omega : ¬ waitF near k f (fallsZ x k) + 1 = 0)]
      split
      · rename_i h0; rw [h0]; simp
      · simp only [mx]; repeat' split
        all_goals omega

/-- The reference's walk through the speeds. -/
def waitO (near x : Int) : Nat → Int → Int → Int
  | 0, _, o => o
  | n + 1, k, o => waitO near x n (k + 1) (waitI near k 101 0 x o)

theorem waitI_0 {near k : Int} (hk : 1 ≤ k) {o : Int} (ho : 0 ≤ o) (x : Int) : waitI near k 101 0 x o = mx o (waitF near k 101 x : Nat) := by
  rw [waitI_eq hk]
  split
  · rename_i h; rw [h]; simp only [mx]; split <;> omega
  · rw [Int.zero_add]

theorem waitO_eq {near x : Int} : ∀ (n : Nat) (k o : Int), 1 ≤ k → 0 ≤ o → waitO near x (n + 1) k o = mx o (waitF near (k + n) 101 x : Nat)
  | 0, k, o, hk, ho => by simp only [waitO, Int.natCast_zero, Int.add_zero, waitI_0 hk ho]
  | n + 1, k, o, hk, ho => by
    have h1 := waitF_slow (near := near) hk (show k ≤ k + ((n + 1 : Nat) : Int) by omega) 101 x
    have h2 : 0 ≤ mx o (waitF near k 101 x : Nat) := by simp only [mx]; split <;> omega
    rw [waitO, waitI_0 hk ho, waitO_eq n (k + 1) _ (by omega) h2, show k + 1 + (n : Int) = k + ((n + 1 : Nat) : Int) by omega]
    simp only [mx]; repeat' split
    all_goals omega

end Go.Ab
/-
  Plain facts on waiting: a block that lies untouched.
-/
namespace Go.Ab
set_option linter.unusedSimpArgs false
set_option linter.unusedVariables false

theorem exc_nil_shift (blk n k e : Int) : ∀ m, exc [] blk (fallsZ n k) k e m = exc [] blk n k e (m + 1)
  | 0 => by simp [exc, heats]
  | m + 1 => by
    rw [exc, exc_nil_shift blk n k e m]
    conv => rhs; rw [exc]
    simp [heats]

theorem exc_nil_wait {near k : Int} (hn : 0 ≤ near) (hk : 1 ≤ k) (blk e : Int) : ∀ (m f : Nat) (n : Int), n.natAbs < f → wi (exc [] blk n k e m) (-near) near = decide (waitF near k f n ≤ m)
  | m, 0, n, h => absurd h (by omega)
  | 0, f + 1, n, h => by
    have : exc [] blk n k e 0 = n := by simp [exc, heats]
    rw [this, waitF]
    rcases Bool.eq_false_or_eq_true (wi n (-near) near) with hc | hc <;> simp [hc]
  | m + 1, f + 1, n, h => by
    rw [← exc_nil_shift, waitF]
    rcases Bool.eq_false_or_eq_true (wi n (-near) near) with hc | hc
    · have h2 := wi_falls hk hc
      rw [exc_nil_wait hn hk blk e m ((fallsZ n k).natAbs + 1) _ (by omega), waitF_in h2]
      simp [hc]
    · have hx : n ≠ 0 := by
        rintro rfl
        simp [wi] at hc; omega
      have hl := falls_less hk hx
      rw [exc_nil_wait hn hk blk e m f _ (by omega)]
      simp only [hc, Bool.false_eq_true, if_false]
      rw [Bool.eq_iff_iff]
      simp only [decide_eq_true_eq]
      omega

theorem settl_iff {s : Stl} {blk : Int} {b : Blk} (hb : b.Ok) (m : Nat) :
    settl s blk b m = true ↔ ∀ j, j < b.n → -s.near ≤ exc s.ts blk (b.x 0) (b.s0 + j) 0 m ∧ exc s.ts blk (b.x 1) (b.s0 + j) 1 m ≤ s.near := by
  have hnn : 1 ≤ b.n := by have := hb.a5; have := hb.hn; omega
  obtain ⟨l1, j1, l2, l3⟩ := loS_spec (fun j => exc s.ts blk (b.x 0) (b.s0 + j) 0 m) b.n hnn
  obtain ⟨u1, j2, u2, u3⟩ := hiS_spec (fun j => exc s.ts blk (b.x 1) (b.s0 + j) 1 m) b.n hnn
  simp only [settl, Bool.and_eq_true, decide_eq_true_eq]
  change warmLo s blk b m = _ at l3
  change warmHi s blk b m = _ at u3
  change ∀ j, j < b.n → warmLo s blk b m ≤ _ at l1
  change ∀ j, j < b.n → _ ≤ warmHi s blk b m at u1
  constructor
  · rintro ⟨h1, h2⟩ j hj
    have := l1 j hj
    have := u1 j hj
    omega
  · intro h
    have := (h j1 l2).1
    have := (h j2 u2).2
    omega

/-- A plate with one block, of which the excess is known, untouched. -/
def lone (n s0 s1 near last : Int) : Stl := ⟨[⟨n, n, s0, s1, 0, 0⟩], near, last, []⟩

theorem lone_settl {n s0 s1 near last : Int} (hn : -100 ≤ n ∧ n ≤ 100) (h0 : 2 ≤ s0) (h1 : s0 ≤ s1) (h8 : s1 ≤ 8) (hnear : 0 ≤ near ∧ near ≤ 20) (hl : 1 ≤ last ∧ last ≤ 60) (m : Nat) :
    settl (lone n s0 s1 near last) 0 ⟨n, n, s0, s1, 0, 0⟩ m = decide (waitF near s1 (n.natAbs + 1) n ≤ m) := by
  have hok : Blk.Ok ⟨n, n, s0, s1, 0, 0⟩ := ⟨hn.1, Int.le_refl _, hn.2, h0, h1, h8, Int.le_refl _, Int.le_refl _, by simp⟩
  have hw : (lone n s0 s1 near last).Wf := ⟨fun b hb => by simp only [lone, List.mem_singleton] at hb; subst hb; exact hok, fun t ht => by simp [lone] at ht, by simp [lone], hnear, hl, by simp [lone]⟩
  rw [Bool.eq_iff_iff, settl_iff hok, decide_eq_true_eq]
  have hbn := hok.hn
  simp only at hbn
  have x0 : Blk.x ⟨n, n, s0, s1, 0, 0⟩ 0 = n := rfl
  have x1 : Blk.x ⟨n, n, s0, s1, 0, 0⟩ 1 = n := rfl
  have hts : (lone n s0 s1 near last).ts = [] := rfl
  have hnr : (lone n s0 s1 near last).near = near := rfl
  rw [x0, x1, hts, hnr]
  have same : ∀ k m, exc [] 0 n k 1 m = exc [] 0 n k 0 m := by
    intro k m
    induction m with
    | zero => rfl
    | succ m ih => simp only [exc, ih, heats, List.filter_nil, List.map_nil]
  have key : ∀ k : Int, 1 ≤ k → ((-near ≤ exc [] 0 n k 0 m ∧ exc [] 0 n k 1 m ≤ near) ↔ waitF near k (n.natAbs + 1) n ≤ m) := by
    intro k hk
    have := exc_nil_wait hnear.1 hk 0 0 m (n.natAbs + 1) n (by omega)
    rw [Bool.eq_iff_iff] at this
    simp only [wi, Bool.and_eq_true, decide_eq_true_eq] at this
    rw [same]; exact this
  constructor
  · intro h
    have := h (Blk.n ⟨n, n, s0, s1, 0, 0⟩ - 1) (by omega)
    have e : s0 + ((Blk.n ⟨n, n, s0, s1, 0, 0⟩ - 1 : Nat) : Int) = s1 := by omega
    rw [e] at this
    exact (key s1 (by omega)).1 this
  · intro h j hj
    refine (key (s0 + j) (by omega)).2 ?_
    exact Nat.le_trans (waitF_slow (by omega) (by omega) _ _) h

theorem waitF_abs {near k : Int} (hk : 1 ≤ k) (f : Nat) {x y : Int} (h : x.natAbs ≤ y.natAbs) : waitF near k f x ≤ waitF near k f y := by
  have e1 : waitF near k f x = waitF near k f (x.natAbs : Int) := by
    rcases Int.lt_or_le x 0 with h | h
    · rw [← waitF_neg hk, show ((x.natAbs : Nat) : Int) = -x by omega]
    · rw [show ((x.natAbs : Nat) : Int) = x by omega]
  have e2 : waitF near k f y = waitF near k f (y.natAbs : Int) := by
    rcases Int.lt_or_le y 0 with h | h
    · rw [← waitF_neg hk, show ((y.natAbs : Nat) : Int) = -y by omega]
    · rw [show ((y.natAbs : Nat) : Int) = y by omega]
  rw [e1, e2]
  exact waitF_mono hk (Int.le_refl _) f _ _ (by omega) (by omega)

theorem waitF_zero {near k n : Int} : waitF near k (n.natAbs + 1) n = 0 ↔ n.natAbs ≤ near := by
  rw [waitF]
  rcases Bool.eq_false_or_eq_true (wi n (-near) near) with hc | hc
  · simp only [hc, if_true, true_iff]
    simp only [wi, Bool.and_eq_true, decide_eq_true_eq] at hc; omega
  · simp only [hc, Bool.false_eq_true, if_false]
    simp only [wi, Bool.and_eq_false_iff, decide_eq_false_iff_not] at hc
    omega

/-- From when on it has settled: after as many minutes as it has to wait. -/
theorem lone_when {n s0 s1 near : Int} (hn : -100 ≤ n ∧ n ≤ 100) (h0 : 2 ≤ s0) (h1 : s0 ≤ s1) (h8 : s1 ≤ 8) (hnear : 0 ≤ near ∧ near ≤ 20) {w : Nat} (hw : waitF near s1 (n.natAbs + 1) n = w) (hle : w ≤ 60) :
    whenR (lone n s0 s1 near (mx 1 w)) 0 ⟨n, n, s0, s1, 0, 0⟩ = some (w : Int) := by
  obtain ⟨l, hl⟩ : ∃ l : Nat, mx 1 (w : Int) = l ∧ 1 ≤ l ∧ l ≤ 60 ∧ (w = 0 ∧ l = 1 ∨ w = l) := by
    simp only [mx]
    split
    · exact ⟨w, rfl, by omega, hle, .inr rfl⟩
    · exact ⟨1, rfl, by omega, by omega, by omega⟩
  rw [hl.1]
  have hs := fun m => lone_settl (near := near) (last := l) hn h0 h1 h8 hnear (by omega) m
  rw [hw] at hs
  have hlast : (lone n s0 s1 near l).last = l := rfl
  simp only [whenR, hlast, Int.toNat_natCast]
  rcases stop_find (fun j => !settl (lone n s0 s1 near l) 0 ⟨n, n, s0, s1, 0, 0⟩ (l - j)) (l + 1) 0 with ⟨hf, -, hall⟩ | ⟨i, hf, -, hi, -, hlt, hall⟩
  · rw [hf]
    have := hall l (by omega) (by omega)
    simp only [hs, Nat.sub_self, Bool.not_eq_false', decide_eq_true_eq] at this
    simp only [Option.some.injEq]; omega
  · rw [hf]
    simp only [hs, Bool.not_eq_true', decide_eq_false_iff_not] at hi
    have h3 : i ≠ 0 := by rintro rfl; omega
    have h4 := hall (i - 1) (by omega) (by omega)
    simp only [hs, Bool.not_eq_false', decide_eq_true_eq] at h4
    simp only
    rw [if_pos (by omega)]
    congr 1
    omega

end Go.Ab
/-
  Plain facts on rests: spans of minutes in which a block has settled, and from when on it has.
-/
namespace Go.Ab
set_option linter.unusedSimpArgs false
set_option linter.unusedVariables false

/-- Spans that do not meet, in order, of just the minutes of which something is so. -/
structure RestOk (f : Nat → Bool) (n : Nat) (l : List (Int × Int)) : Prop where
  bd : ∀ p ∈ l, 0 ≤ p.1 ∧ p.1 ≤ p.2 ∧ p.2 < n
  gap : l.Pairwise fun p q => p.2 + 1 < q.1
  cov : ∀ i : Nat, i < n → (f i = true ↔ ∃ p ∈ l, p.1 ≤ (i : Int) ∧ (i : Int) ≤ p.2)

theorem snoc_of {α : Type} {l : List α} {p : α} (h : l.getLast? = some p) : ∃ l', l = l' ++ [p] := List.getLast?_eq_some_iff.1 h

theorem restsR_ok (f : Nat → Bool) : ∀ n, RestOk f n (restsR f n)
  | 0 => ⟨by simp [restsR], by simp [restsR], fun i hi => by omega⟩
  | n + 1 => by
    have h := restsR_ok f n
    rw [restsR]
    generalize restsR f n = l at *
    split
    · rename_i hf
      rw [restStep]
      split
      · rename_i p hl
        obtain ⟨l', rfl⟩ := snoc_of hl
        have hp := h.bd p (by simp)
        obtain ⟨g1, -, g2⟩ := List.pairwise_append.1 h.gap
        split
        · rename_i he
          have hset : (l' ++ [p]).set ((l' ++ [p]).length - 1) (p.1, (n : Int)) = l' ++ [(p.1, (n : Int))] := by
            simp
          rw [hset]
          refine ⟨fun q hq => ?_, List.pairwise_append.2 ⟨g1, List.pairwise_singleton _ _, fun a ha b hb => ?_⟩, fun i hi => ?_⟩
          · rcases List.mem_append.1 hq with hq | hq
            · have := h.bd q (List.mem_append_left _ hq); omega
            · rw [List.mem_singleton] at hq; subst hq; simp only; omega
          · rw [List.mem_singleton] at hb; subst hb
            exact g2 a ha p (List.mem_singleton.2 rfl)
          · rcases Nat.lt_or_ge i n with hlt | hge
            · rw [h.cov i hlt]
              constructor
              · rintro ⟨q, hq, h1, h2⟩
                rcases List.mem_append.1 hq with hq | hq
                · exact ⟨q, List.mem_append_left _ hq, h1, h2⟩
                · rw [List.mem_singleton] at hq; subst hq
                  exact ⟨_, List.mem_append_right _ (List.mem_singleton.2 rfl), h1, by simp only; omega⟩
              · rintro ⟨q, hq, h1, h2⟩
                rcases List.mem_append.1 hq with hq | hq
                · exact ⟨q, List.mem_append_left _ hq, h1, h2⟩
                · rw [List.mem_singleton] at hq; subst hq
                  exact ⟨p, List.mem_append_right _ (List.mem_singleton.2 rfl), h1, by omega⟩
            · have hin : i = n := by omega
              subst hin
              simp only [hf, true_iff]
              exact ⟨_, List.mem_append_right _ (List.mem_singleton.2 rfl), by simp only; omega, by simp only; omega⟩
        · rename_i he
          refine ⟨fun q hq => ?_, List.pairwise_append.2 ⟨h.gap, List.pairwise_singleton _ _, fun a ha b hb => ?_⟩, fun i hi => ?_⟩
          · rcases List.mem_append.1 hq with hq | hq
            · have := h.bd q hq; omega
            · rw [List.mem_singleton] at hq; subst hq; simp only; omega
          · rw [List.mem_singleton] at hb; subst hb
            simp only
            rcases List.mem_append.1 ha with ha | ha
            · have := g2 a ha p (List.mem_singleton.2 rfl); omega
            · rw [List.mem_singleton] at ha; subst ha; omega
          · rcases Nat.lt_or_ge i n with hlt | hge
            · rw [h.cov i hlt]
              constructor
              · rintro ⟨q, hq, h1, h2⟩
                exact ⟨q, List.mem_append_left _ hq, h1, h2⟩
              · rintro ⟨q, hq, h1, h2⟩
                rcases List.mem_append.1 hq with hq | hq
                · exact ⟨q, hq, h1, h2⟩
                · rw [List.mem_singleton] at hq; subst hq
                  simp only at h1; omega
            · have hin : i = n := by omega
              subst hin
              simp only [hf, true_iff]
              exact ⟨_, List.mem_append_right _ (List.mem_singleton.2 rfl), by simp only; omega, by simp only; omega⟩
      · rename_i hl
        have hl0 : l = [] := by simpa using hl
        subst hl0
        refine ⟨fun q hq => ?_, by simp, fun i hi => ?_⟩
        · simp only [List.nil_append, List.mem_singleton] at hq
          subst hq; simp only; omega
        · rcases Nat.lt_or_ge i n with hlt | hge
          · rw [h.cov i hlt]
            constructor
            · rintro ⟨q, hq, -⟩; simp at hq
            · rintro ⟨q, hq, h1, h2⟩
              simp only [List.nil_append, List.mem_singleton] at hq
              subst hq; simp only at h1; omega
          · have hin : i = n := by omega
            subst hin
            simp only [hf, true_iff]
            exact ⟨((i : Int), (i : Int)), by simp, by simp only; omega, by simp only; omega⟩
    · rename_i hf
      refine ⟨fun q hq => ?_, h.gap, fun i hi => ?_⟩
      · have := h.bd q hq; omega
      · rcases Nat.lt_or_ge i n with hlt | hge
        · exact h.cov i hlt
        · have hin : i = n := by omega
          subst hin
          have hf' : f i = false := by simpa using hf
          simp only [hf', Bool.false_eq_true, false_iff]
          rintro ⟨q, hq, h1, h2⟩
          have := h.bd q hq; omega

theorem whenR_spec (s : Stl) (blk : Int) (b : Blk) (L : Nat) (hL : s.last = L) :
    (whenR s blk b = none ∧ settl s blk b L = false) ∨ ∃ w : Nat, whenR s blk b = some (w : Int) ∧ w ≤ L ∧ (∀ m, w ≤ m → m ≤ L → settl s blk b m = true) ∧ (w = 0 ∨ settl s blk b (w - 1) = false) := by
  simp only [whenR, hL, Int.toNat_natCast]
  rcases stop_find (fun j => !settl s blk b (L - j)) (L + 1) 0 with ⟨hf, -, hall⟩ | ⟨i, hf, -, hi, -, hlt, hall⟩
  · rw [hf]
    refine .inr ⟨0, rfl, Nat.zero_le _, fun m _ hm => ?_, .inl rfl⟩
    have := hall (L - m) (by omega) (by omega)
    simp only [Bool.not_eq_false', show L - (L - m) = m by omega] at this
    exact this
  · rw [hf]
    simp only [Bool.not_eq_true'] at hi
    rcases Nat.eq_zero_or_pos i with rfl | h0
    · refine .inl ⟨?_, hi⟩
      simp
    · refine .inr ⟨L - i + 1, ?_, by omega, fun m h1 h2 => ?_, .inr ?_⟩
      · simp only
        rw [if_pos (by omega)]
        congr 1; omega
      · have := hall (L - m) (by omega) (by omega)
        simp only [Bool.not_eq_false', show L - (L - m) = m by omega] at this
        exact this
      · rw [show L - i + 1 - 1 = L - i by omega]; exact hi

/-- The last span, and from when on. -/
theorem rest_when {s : Stl} {blk : Int} {b : Blk} {L : Nat} (hL : s.last = L) {l : List (Int × Int)} (h : RestOk (settl s blk b) (L + 1) l) :
    (match whenR s blk b with
    | some w => ∃ p, l.getLast? = some p ∧ p.2 = L ∧ p.1 = w
    | none => ∀ p, l.getLast? = some p → p.2 ≠ L) := by
  rcases whenR_spec s blk b L hL with ⟨hw, hn⟩ | ⟨w, hw, hwl, hall, hst⟩
  · rw [hw]
    simp only
    intro p hp he
    obtain ⟨l', rfl⟩ := snoc_of hp
    have hb := h.bd p (by simp)
    have := (h.cov L (by omega)).2 ⟨p, by simp, by omega, by omega⟩
    rw [hn] at this; cases this
  · rw [hw]
    simp only
    obtain ⟨p, hp, h1, h2⟩ := (h.cov L (by omega)).1 (hall L hwl (Nat.le_refl _))
    have hb := h.bd p hp
    cases hgl : l.getLast? with
    | none => simp at hgl; subst hgl; simp at hp
    | some q =>
      obtain ⟨l', rfl⟩ := snoc_of hgl
      obtain ⟨g1, -, g2⟩ := List.pairwise_append.1 h.gap
      have hq := h.bd q (by simp)
      have hpq : p = q := by
        rcases List.mem_append.1 hp with hp | hp
        · have := g2 p hp q (List.mem_singleton.2 rfl); omega
        · exact List.mem_singleton.1 hp
      subst hpq
      refine ⟨p, rfl, by omega, ?_⟩
      have hle : (w : Int) ≤ p.1 := by
        refine Int.not_lt.1 fun hlt => ?_
        rcases hst with rfl | hst
        · omega
        · have := (h.cov (w - 1) (by omega)).2 ⟨p, hp, by omega, by omega⟩
          rw [hst] at this; cases this
      have hge : p.1 ≤ (w : Int) := by
        refine Int.not_lt.1 fun hlt => ?_
        obtain ⟨r, hr, r1, r2⟩ := (h.cov (p.1 - 1).toNat (by omega)).1 (hall _ (by omega) (by omega))
        rcases List.mem_append.1 hr with hr | hr
        · have := g2 r hr p (List.mem_singleton.2 rfl); omega
        · have := List.mem_singleton.1 hr; subst this; omega
      omega

end Go.Ab
