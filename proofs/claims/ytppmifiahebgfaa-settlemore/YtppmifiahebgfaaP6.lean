/-
  Plain facts on a truth that is drawn: a block's true excess lies within what can be.
-/
import Derived.Test.YtppmifiahebgfaaP5
import Derived.Test.YtppmifiahebgfaaKR0
namespace Go.Ab
set_option linter.unusedSimpArgs false
set_option linter.unusedVariables false

/-- A number of a span, by remainders. -/
def drawZ (ws : List Int) (a lo hi : Int) : Int :=
  if ws.length = 0 then lo else lo + (ws.getD ((a + 1) % (ws.length : Int)).toNat 0 + 53 * (a + 1)) % (hi - lo + 1)

theorem drawZ_in (ws : List Int) (a : Int) {lo hi : Int} (h : lo ≤ hi) : lo ≤ drawZ ws a lo hi ∧ drawZ ws a lo hi ≤ hi := by
  rw [drawZ]
  split
  · omega
  · have h1 := Int.emod_nonneg (ws.getD ((a + 1) % (ws.length : Int)).toNat 0 + 53 * (a + 1)) (show hi - lo + 1 ≠ 0 by omega)
    have h2 := Int.emod_lt_of_pos (ws.getD ((a + 1) % (ws.length : Int)).toNat 0 + 53 * (a + 1)) (show 0 < hi - lo + 1 by omega)
    omega

/-- The heats of a minute, drawn one by one. -/
def heatsF (ws : List Int) (blk m : Int) : List Tch → Int → Int → Int
  | [], _, n => n
  | t :: r, a, n => heatsF ws blk m r (a + 1) (if t.b = blk ∧ t.m = m then n + drawZ ws a t.h0 t.h1 else n)

theorem heatsF_in (ws : List Int) (blk m : Int) : ∀ (ts : List Tch), (∀ t ∈ ts, t.h0 ≤ t.h1) → ∀ (a n A B : Int), A ≤ n → n ≤ B → A + (heats ts blk m 0).sum ≤ heatsF ws blk m ts a n ∧ heatsF ws blk m ts a n ≤ B + (heats ts blk m 1).sum
  | [], _, a, n, A, B, h1, h2 => by simp [heats, heatsF]; omega
  | t :: r, h, a, n, A, B, h1, h2 => by
    have ht := drawZ_in ws a (h t (List.mem_cons_self ..))
    have ih := heatsF_in ws blk m r fun t ht => h t (List.mem_cons_of_mem _ ht)
    rw [heatsF, heats_cons, heats_cons]
    by_cases hc : t.b = blk ∧ t.m = m
    · rw [if_pos hc, if_pos hc, if_pos hc]
      have := ih (a + 1) (n + drawZ ws a t.h0 t.h1) (A + t.h0) (B + t.h1) (by omega) (by omega)
      have e0 : t.h 0 = t.h0 := rfl
      have e1 : t.h 1 = t.h1 := rfl
      simp only [List.sum_append, List.sum_cons, List.sum_nil, e0, e1]
      omega
    · rw [if_neg hc, if_neg hc, if_neg hc]
      have := ih (a + 1) n A B h1 h2
      simpa using this

/-- The minutes, one by one. -/
def minutesF (s : Stl) (ws : List Int) (blk k : Int) : Nat → Nat → Int → Int → List Int → List Int
  | 0, _, _, _, acc => acc
  | q + 1, m, a, n, acc => minutesF s ws blk k q (m + 1) (a + s.ts.length) (heatsF ws blk m s.ts a (if m = 0 then n else fallsZ n k)) (acc ++ [heatsF ws blk m s.ts a (if m = 0 then n else fallsZ n k)])

/-- All truths of the minutes so far. -/
def InEx (s : Stl) (blk k x0 x1 : Int) (l : List Int) : Prop := ∀ i n, l[i]? = some n → exc s.ts blk x0 k 0 i ≤ n ∧ n ≤ exc s.ts blk x1 k 1 i

theorem heatsF_exc {s : Stl} (hs : ∀ t ∈ s.ts, t.h0 ≤ t.h1) (ws : List Int) (blk : Int) {k x0 x1 : Int} (hk : 1 ≤ k) (m : Nat) (a n : Int) (hn : if m = 0 then x0 ≤ n ∧ n ≤ x1 else exc s.ts blk x0 k 0 (m - 1) ≤ n ∧ n ≤ exc s.ts blk x1 k 1 (m - 1)) :
    exc s.ts blk x0 k 0 m ≤ heatsF ws blk m s.ts a (if m = 0 then n else fallsZ n k) ∧ heatsF ws blk m s.ts a (if m = 0 then n else fallsZ n k) ≤ exc s.ts blk x1 k 1 m := by
  cases m with
  | zero =>
    simp only [if_true] at hn ⊢
    have := heatsF_in ws blk ((0 : Nat) : Int) s.ts hs a n x0 x1 hn.1 hn.2
    simp only [exc, Int.natCast_zero] at this ⊢
    omega
  | succ m =>
    rw [if_neg (by omega), Nat.add_sub_cancel] at hn
    rw [if_neg (by omega)]
    have := heatsF_in ws blk ((m + 1 : Nat) : Int) s.ts hs a (fallsZ n k) _ _ (fallsZ_mono hk hn.1) (fallsZ_mono hk hn.2)
    simp only [exc]
    omega

theorem minutesF_in {s : Stl} (hs : ∀ t ∈ s.ts, t.h0 ≤ t.h1) (ws : List Int) (blk : Int) {k x0 x1 : Int} (hk : 1 ≤ k) : ∀ (q m : Nat) (a n : Int) (acc : List Int), acc.length = m → InEx s blk k x0 x1 acc → (if m = 0 then x0 ≤ n ∧ n ≤ x1 else exc s.ts blk x0 k 0 (m - 1) ≤ n ∧ n ≤ exc s.ts blk x1 k 1 (m - 1)) →
    (minutesF s ws blk k q m a n acc).length = m + q ∧ InEx s blk k x0 x1 (minutesF s ws blk k q m a n acc)
  | 0, m, a, n, acc, hl, hi, _ => ⟨by rw [minutesF, hl]; rfl, hi⟩
  | q + 1, m, a, n, acc, hl, hi, hn => by
    have h := heatsF_exc hs ws blk hk m a n hn
    rw [minutesF]
    have := minutesF_in hs ws blk hk q (m + 1) (a + s.ts.length) (heatsF ws blk m s.ts a (if m = 0 then n else fallsZ n k)) (acc ++ [heatsF ws blk m s.ts a (if m = 0 then n else fallsZ n k)]) (by simp [hl]) (by
      intro i n' hi'
      rcases Nat.lt_or_ge i m with hlt | hge
      · rw [List.getElem?_append_left (by omega)] at hi'
        exact hi i n' hi'
      · rw [List.getElem?_append_right (by omega), hl] at hi'
        have hlt := (List.getElem?_eq_some_iff.1 hi').1
        simp at hlt
        have : i = m := by omega
        subst this
        simp at hi'
        subst hi'
        exact h) (by rw [if_neg (by omega), Nat.add_sub_cancel]; exact h)
    refine ⟨by rw [this.1]; omega, this.2⟩

/-- By how much a block is longer, by all that it can grow. -/
theorem longer_in {lo hi n g0 g1 g : Int} (h1 : lo ≤ n) (h2 : n ≤ hi) (hg : 0 ≤ g0) (h3 : g0 ≤ g) (h4 : g ≤ g1) :
    mn (downZ (lo * g0)) (downZ (lo * g1)) ≤ downZ (n * g) ∧ downZ (n * g) ≤ mx (downZ (hi * g0)) (downZ (hi * g1)) := by
  have a1 : lo * g ≤ n * g := Int.mul_le_mul_of_nonneg_right h1 (by omega)
  have a2 : n * g ≤ hi * g := Int.mul_le_mul_of_nonneg_right h2 (by omega)
  constructor
  · refine Int.le_trans ?_ (downZ_mono a1)
    rcases Int.lt_or_le lo 0 with h | h
    · have : lo * g1 ≤ lo * g := Int.mul_le_mul_of_nonpos_left (by omega) h4
      have := downZ_mono this
      simp only [mn]; split <;> omega
    · have : lo * g0 ≤ lo * g := Int.mul_le_mul_of_nonneg_left h3 h
      have := downZ_mono this
      simp only [mn]; split <;> omega
  · refine Int.le_trans (downZ_mono a2) ?_
    rcases Int.lt_or_le hi 0 with h | h
    · have : hi * g ≤ hi * g0 := Int.mul_le_mul_of_nonpos_left (by omega) h3
      have := downZ_mono this
      simp only [mx]; split <;> omega
    · have : hi * g ≤ hi * g1 := Int.mul_le_mul_of_nonneg_left h4 h
      have := downZ_mono this
      simp only [mx]; split <;> omega

theorem warm_has (s : Stl) (blk : Int) {b : Blk} (hb : b.Ok) (m : Nat) {k : Int} (h1 : b.s0 ≤ k) (h2 : k ≤ b.s1) : warmLo s blk b m ≤ exc s.ts blk (b.x 0) k 0 m ∧ exc s.ts blk (b.x 1) k 1 m ≤ warmHi s blk b m := by
  have hnn : 1 ≤ b.n := by have := hb.a5; have := hb.hn; omega
  have hn := hb.hn
  obtain ⟨l1, -⟩ := loS_spec (fun j => exc s.ts blk (b.x 0) (b.s0 + j) 0 m) b.n hnn
  obtain ⟨u1, -⟩ := hiS_spec (fun j => exc s.ts blk (b.x 1) (b.s0 + j) 1 m) b.n hnn
  change ∀ j, j < b.n → warmLo s blk b m ≤ _ at l1
  change ∀ j, j < b.n → _ ≤ warmHi s blk b m at u1
  have e : b.s0 + ((k - b.s0).toNat : Int) = k := by omega
  have := l1 (k - b.s0).toNat (by omega)
  have := u1 (k - b.s0).toNat (by omega)
  rw [e] at *
  exact ⟨by assumption, by assumption⟩

theorem some_has (s : Stl) (blk : Int) {b : Blk} (hb : b.Ok) (m : Nat) {k : Int} (h1 : b.s0 ≤ k) (h2 : k ≤ b.s1) (h3 : exc s.ts blk (b.x 0) k 0 m ≤ s.near) (h4 : -s.near ≤ exc s.ts blk (b.x 1) k 1 m) : someS s blk b m = true := by
  have hn := hb.hn
  simp only [someS]
  rcases stop_find (fun j => decide (exc s.ts blk (b.x 0) (b.s0 + j) 0 m ≤ s.near) && decide (-s.near ≤ exc s.ts blk (b.x 1) (b.s0 + j) 1 m)) b.n 0 with ⟨hf, -, hall⟩ | ⟨i, hf, -⟩
  · have := hall (k - b.s0).toNat (by omega) (by omega)
    rw [show b.s0 + ((k - b.s0).toNat : Int) = k by omega] at this
    simp [h3, h4] at this
  · rw [hf]; rfl

theorem allR_has (s : Stl) : ∀ (j : Nat) (la : Int), allR s j = some la → ∀ i : Nat, i < j → ∃ w, whenR s i (s.blk i) = some w ∧ w ≤ la
  | 0, _, _, i, hi => absurd hi (by omega)
  | j + 1, la, h, i, hi => by
    simp only [allR] at h
    cases ha : allR s j with
    | none => rw [ha] at h; cases h
    | some acc =>
      rw [ha] at h
      cases hw : whenR s j (s.blk j) with
      | none => simp only [hw] at h; cases h
      | some w =>
        simp only [hw] at h
        injection h with h
        have hm : acc ≤ la ∧ w ≤ la := by rw [← h]; simp only [mx]; split <;> omega
        rcases Nat.lt_or_ge i j with hlt | hge
        · obtain ⟨w', h1, h2⟩ := allR_has s j acc ha i hlt
          exact ⟨w', h1, by omega⟩
        · have : i = j := by omega
          subst this
          exact ⟨w, hw, hm.2⟩

/-! ### A falling excess, as the law counts it -/

theorem ceil_spec {a k : Int} (ha : 0 ≤ a) (hk : 1 ≤ k) : a ≤ (a + k - 1) / k * k ∧ ∀ q, 0 ≤ q → q < (a + k - 1) / k → q * k < a := by
  have h1 : a + k - 1 < ((a + k - 1) / k + 1) * k := Int.lt_ediv_add_one_mul_self _ (by omega)
  have h2 : (a + k - 1) / k * k ≤ a + k - 1 := Int.ediv_mul_le _ (by omega)
  rw [Int.add_mul, Int.one_mul] at h1
  refine ⟨by omega, fun q hq hlt => ?_⟩
  have : (q + 1) * k ≤ (a + k - 1) / k * k := Int.mul_le_mul_of_nonneg_right (by omega) (by omega)
  rw [Int.add_mul, Int.one_mul] at this
  omega

theorem fallsZ_ceil {n k : Int} (hk : 1 ≤ k) : fallsZ n k = if n < 0 then n + (mx n (-n) + k - 1) / k else n - (mx n (-n) + k - 1) / k := by
  rcases Int.lt_or_le n 0 with h | h
  · have e : mx n (-n) = -n := by simp only [mx]; split <;> omega
    rw [if_pos h, e, show fallsZ n k = -fallsZ (-n) k by rw [fallsZ_neg hk]; omega, fallsZ_nonneg (by omega) hk]
    omega
  · have e : mx n (-n) = n := by simp only [mx]; split <;> omega
    rw [if_neg (by omega), e, fallsZ_nonneg h hk]

end Go.Ab
