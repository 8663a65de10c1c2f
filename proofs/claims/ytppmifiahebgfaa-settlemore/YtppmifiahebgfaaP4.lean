/-
  Plain facts on waiting: a block that lies untouched.
-/
import Derived.Test.YtppmifiahebgfaaP2
namespace Go.Ab
set_option linter.unusedSimpArgs false
set_option linter.unusedVariables false

theorem exc_nil_shift (blk n k e : Int) : ∀ m, exc [] blk (fallsZ n k) k e m = exc [] blk n k e (m + 1)
  | 0 => by simp [exc, heats]
  | m + 1 => by
    rw [exc, exc_nil_shift blk n k e m]
    conv => rhs; rw [exc]
    simp [heats]

theorem exc_nil_wait {near k : Int} (hn : 0 ≤ near) (hk : 1 ≤ k) (blk e : Int) : ∀ (m f : Nat) (n : Int), n.natAbs < f → wi (exc [] blk n k e m) (-near) near = decide (waitF near k f n ≤ m)
  | m, 0, n, h => absurd h (by omega)
  | 0, f + 1, n, h => by
    have : exc [] blk n k e 0 = n := by simp [exc, heats]
    rw [this, waitF]
    rcases Bool.eq_false_or_eq_true (wi n (-near) near) with hc | hc <;> simp [hc]
  | m + 1, f + 1, n, h => by
    rw [← exc_nil_shift, waitF]
    rcases Bool.eq_false_or_eq_true (wi n (-near) near) with hc | hc
    · have h2 := wi_falls hk hc
      rw [exc_nil_wait hn hk blk e m ((fallsZ n k).natAbs + 1) _ (by omega), waitF_in h2]
      simp [hc]
    · have hx : n ≠ 0 := by
        rintro rfl
        simp [wi] at hc; omega
      have hl := falls_less hk hx
      rw [exc_nil_wait hn hk blk e m f _ (by omega)]
      simp only [hc, Bool.false_eq_true, if_false]
      rw [Bool.eq_iff_iff]
      simp only [decide_eq_true_eq]
      omega

theorem settl_iff {s : Stl} {blk : Int} {b : Blk} (hb : b.Ok) (m : Nat) :
    settl s blk b m = true ↔ ∀ j, j < b.n → -s.near ≤ exc s.ts blk (b.x 0) (b.s0 + j) 0 m ∧ exc s.ts blk (b.x 1) (b.s0 + j) 1 m ≤ s.near := by
  have hnn : 1 ≤ b.n := by have := hb.a5; have := hb.hn; omega
  obtain ⟨l1, j1, l2, l3⟩ := loS_spec (fun j => exc s.ts blk (b.x 0) (b.s0 + j) 0 m) b.n hnn
  obtain ⟨u1, j2, u2, u3⟩ := hiS_spec (fun j => exc s.ts blk (b.x 1) (b.s0 + j) 1 m) b.n hnn
  simp only [settl, Bool.and_eq_true, decide_eq_true_eq]
  change warmLo s blk b m = _ at l3
  change warmHi s blk b m = _ at u3
  change ∀ j, j < b.n → warmLo s blk b m ≤ _ at l1
  change ∀ j, j < b.n → _ ≤ warmHi s blk b m at u1
  constructor
  · rintro ⟨h1, h2⟩ j hj
    have := l1 j hj
    have := u1 j hj
    omega
  · intro h
    have := (h j1 l2).1
    have := (h j2 u2).2
    omega

/-- A plate with one block, of which the excess is known, untouched. -/
def lone (n s0 s1 near last : Int) : Stl := ⟨[⟨n, n, s0, s1, 0, 0⟩], near, last, []⟩

theorem lone_settl {n s0 s1 near last : Int} (hn : -100 ≤ n ∧ n ≤ 100) (h0 : 2 ≤ s0) (h1 : s0 ≤ s1) (h8 : s1 ≤ 8) (hnear : 0 ≤ near ∧ near ≤ 20) (hl : 1 ≤ last ∧ last ≤ 60) (m : Nat) :
    settl (lone n s0 s1 near last) 0 ⟨n, n, s0, s1, 0, 0⟩ m = decide (waitF near s1 (n.natAbs + 1) n ≤ m) := by
  have hok : Blk.Ok ⟨n, n, s0, s1, 0, 0⟩ := ⟨hn.1, Int.le_refl _, hn.2, h0, h1, h8, Int.le_refl _, Int.le_refl _, by simp⟩
  have hw : (lone n s0 s1 near last).Wf := ⟨fun b hb => by simp only [lone, List.mem_singleton] at hb; subst hb; exact hok, fun t ht => by simp [lone] at ht, by simp [lone], hnear, hl, by simp [lone]⟩
  rw [Bool.eq_iff_iff, settl_iff hok, decide_eq_true_eq]
  have hbn := hok.hn
  simp only at hbn
  have x0 : Blk.x ⟨n, n, s0, s1, 0, 0⟩ 0 = n := rfl
  have x1 : Blk.x ⟨n, n, s0, s1, 0, 0⟩ 1 = n := rfl
  have hts : (lone n s0 s1 near last).ts = [] := rfl
  have hnr : (lone n s0 s1 near last).near = near := rfl
  rw [x0, x1, hts, hnr]
  have same : ∀ k m, exc [] 0 n k 1 m = exc [] 0 n k 0 m := by
    intro k m
    induction m with
    | zero => rfl
    | succ m ih => simp only [exc, ih, heats, List.filter_nil, List.map_nil]
  have key : ∀ k : Int, 1 ≤ k → ((-near ≤ exc [] 0 n k 0 m ∧ exc [] 0 n k 1 m ≤ near) ↔ waitF near k (n.natAbs + 1) n ≤ m) := by
    intro k hk
    have := exc_nil_wait hnear.1 hk 0 0 m (n.natAbs + 1) n (by omega)
    rw [Bool.eq_iff_iff] at this
    simp only [wi, Bool.and_eq_true, decide_eq_true_eq] at this
    rw [same]; exact this
  constructor
  · intro h
    have := h (Blk.n ⟨n, n, s0, s1, 0, 0⟩ - 1) (by omega)
    have e : s0 + ((Blk.n ⟨n, n, s0, s1, 0, 0⟩ - 1 : Nat) : Int) = s1 := by omega
    rw [e] at this
    exact (key s1 (by omega)).1 this
  · intro h j hj
    refine (key (s0 + j) (by omega)).2 ?_
    exact Nat.le_trans (waitF_slow (by omega) (by omega) _ _) h

theorem waitF_abs {near k : Int} (hk : 1 ≤ k) (f : Nat) {x y : Int} (h : x.natAbs ≤ y.natAbs) : waitF near k f x ≤ waitF near k f y := by
  have e1 : waitF near k f x = waitF near k f (x.natAbs : Int) := by
    rcases Int.lt_or_le x 0 with h | h
    · rw [← waitF_neg hk, show ((x.natAbs : Nat) : Int) = -x by omega]
    · rw [show ((x.natAbs : Nat) : Int) = x by omega]
  have e2 : waitF near k f y = waitF near k f (y.natAbs : Int) := by
    rcases Int.lt_or_le y 0 with h | h
    · rw [← waitF_neg hk, show ((y.natAbs : Nat) : Int) = -y by omega]
    · rw [show ((y.natAbs : Nat) : Int) = y by omega]
  rw [e1, e2]
  exact waitF_mono hk (Int.le_refl _) f _ _ (by omega) (by omega)

theorem waitF_zero {near k n : Int} : waitF near k (n.natAbs + 1) n = 0 ↔ n.natAbs ≤ near := by
  rw [waitF]
  rcases Bool.eq_false_or_eq_true (wi n (-near) near) with hc | hc
  · simp only [hc, if_true, true_iff]
    simp only [wi, Bool.and_eq_true, decide_eq_true_eq] at hc; omega
  · simp only [hc, Bool.false_eq_true, if_false]
    simp only [wi, Bool.and_eq_false_iff, decide_eq_false_iff_not] at hc
    omega

/-- From when on it has settled: after as many minutes as it has to wait. -/
theorem lone_when {n s0 s1 near : Int} (hn : -100 ≤ n ∧ n ≤ 100) (h0 : 2 ≤ s0) (h1 : s0 ≤ s1) (h8 : s1 ≤ 8) (hnear : 0 ≤ near ∧ near ≤ 20) {w : Nat} (hw : waitF near s1 (n.natAbs + 1) n = w) (hle : w ≤ 60) :
    whenR (lone n s0 s1 near (mx 1 w)) 0 ⟨n, n, s0, s1, 0, 0⟩ = some (w : Int) := by
  obtain ⟨l, hl⟩ : ∃ l : Nat, mx 1 (w : Int) = l ∧ 1 ≤ l ∧ l ≤ 60 ∧ (w = 0 ∧ l = 1 ∨ w = l) := by
    simp only [mx]
    split
    · exact ⟨w, rfl, by omega, hle, .inr rfl⟩
    · exact ⟨1, rfl, by omega, by omega, by omega⟩
  rw [hl.1]
  have hs := fun m => lone_settl (near := near) (last := l) hn h0 h1 h8 hnear (by omega) m
  rw [hw] at hs
  have hlast : (lone n s0 s1 near l).last = l := rfl
  simp only [whenR, hlast, Int.toNat_natCast]
  rcases stop_find (fun j => !settl (lone n s0 s1 near l) 0 ⟨n, n, s0, s1, 0, 0⟩ (l - j)) (l + 1) 0 with ⟨hf, -, hall⟩ | ⟨i, hf, -, hi, -, hlt, hall⟩
  · rw [hf]
    have := hall l (by omega) (by omega)
    simp only [hs, Nat.sub_self, Bool.not_eq_false', decide_eq_true_eq] at this
    simp only [Option.some.injEq]; omega
  · rw [hf]
    simp only [hs, Bool.not_eq_true', decide_eq_false_iff_not] at hi
    have h3 : i ≠ 0 := by rintro rfl; omega
    have h4 := hall (i - 1) (by omega) (by omega)
    simp only [hs, Bool.not_eq_false', decide_eq_true_eq] at h4
    simp only
    rw [if_pos (by omega)]
    congr 1
    omega

end Go.Ab
