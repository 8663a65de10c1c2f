/-
  Plain facts on settles that are known better, nearer, turned about, or with fewer touches.
-/
import Derived.Test.YtppmifiahebgfaaP7
namespace Go.Ab
set_option linter.unusedSimpArgs false
set_option linter.unusedVariables false

theorem exc_mono2 {ts ts' : List Tch} {blk k e e' : Int} (hk : 1 ≤ k) (h : ∀ m : Int, (heats ts blk m e).sum ≤ (heats ts' blk m e').sum) {x x' : Int} (hx : x ≤ x') : ∀ n, exc ts blk x k e n ≤ exc ts' blk x' k e' n
  | 0 => by simp only [exc]; have := h 0; omega
  | n + 1 => by
    simp only [exc]
    have := h ((n + 1 : Nat) : Int)
    have := fallsZ_mono hk (exc_mono2 hk h hx n)
    omega

/-! ### Known better -/

/-- One settle tells no less exactly of a block than another one. -/
structure Nar (s x : Stl) (b : Int) : Prop where
  near : x.near = s.near
  last : x.last = s.last
  x0 : (s.blk b).x0 ≤ (x.blk b).x0
  x1 : (x.blk b).x1 ≤ (s.blk b).x1
  s0 : (s.blk b).s0 ≤ (x.blk b).s0
  s1 : (x.blk b).s1 ≤ (s.blk b).s1
  h0 : ∀ m : Int, (heats s.ts b m 0).sum ≤ (heats x.ts b m 0).sum
  h1 : ∀ m : Int, (heats x.ts b m 1).sum ≤ (heats s.ts b m 1).sum

theorem Nar.warm {s x : Stl} {b : Int} (h : Nar s x b) (hs : (s.blk b).Ok) (hx : (x.blk b).Ok) (m : Nat) : warmLo s b (s.blk b) m ≤ warmLo x b (x.blk b) m ∧ warmHi x b (x.blk b) m ≤ warmHi s b (s.blk b) m := by
  have hnn : 1 ≤ (x.blk b).n := by have := hx.a5; have := hx.hn; omega
  have hn := hx.hn
  obtain ⟨-, j1, l2, l3⟩ := loS_spec (fun j => exc x.ts b ((x.blk b).x 0) ((x.blk b).s0 + j) 0 m) (x.blk b).n hnn
  obtain ⟨-, j2, u2, u3⟩ := hiS_spec (fun j => exc x.ts b ((x.blk b).x 1) ((x.blk b).s0 + j) 1 m) (x.blk b).n hnn
  change warmLo x b (x.blk b) m = _ at l3
  change warmHi x b (x.blk b) m = _ at u3
  have e1 := h.s0; have e2 := h.s1; have e3 := hx.a4
  have w1 := (warm_has s b hs m (k := (x.blk b).s0 + j1) (by omega) (by omega)).1
  have w2 := (warm_has s b hs m (k := (x.blk b).s0 + j2) (by omega) (by omega)).2
  have m1 := exc_mono2 (ts := s.ts) (ts' := x.ts) (blk := b) (k := (x.blk b).s0 + j1) (e := 0) (e' := 0) (by omega) h.h0 (show (s.blk b).x 0 ≤ (x.blk b).x 0 from h.x0) m
  have m2 := exc_mono2 (ts := x.ts) (ts' := s.ts) (blk := b) (k := (x.blk b).s0 + j2) (e := 1) (e' := 1) (by omega) h.h1 (show (x.blk b).x 1 ≤ (s.blk b).x 1 from h.x1) m
  rw [l3, u3]
  exact ⟨Int.le_trans w1 m1, Int.le_trans m2 w2⟩

theorem someS_iff (s : Stl) (blk : Int) (b : Blk) (m : Nat) : someS s blk b m = true ↔ ∃ j, j < b.n ∧ exc s.ts blk (b.x 0) (b.s0 + j) 0 m ≤ s.near ∧ -s.near ≤ exc s.ts blk (b.x 1) (b.s0 + j) 1 m := by
  simp only [someS]
  rcases stop_find (fun j => decide (exc s.ts blk (b.x 0) (b.s0 + j) 0 m ≤ s.near) && decide (-s.near ≤ exc s.ts blk (b.x 1) (b.s0 + j) 1 m)) b.n 0 with ⟨hf, -, hall⟩ | ⟨i, hf, -, hi, -, hlt, -⟩
  · rw [hf]
    simp only [Option.isSome_none, Bool.false_eq_true, false_iff]
    rintro ⟨j, hj, h1, h2⟩
    have := hall j (by omega) (by omega)
    simp [h1, h2] at this
  · rw [hf]
    simp only [Bool.and_eq_true, decide_eq_true_eq] at hi
    simp only [Option.isSome_some, true_iff]
    exact ⟨i, by omega, hi⟩

theorem Nar.some {s x : Stl} {b : Int} (h : Nar s x b) (hs : (s.blk b).Ok) (hx : (x.blk b).Ok) (m : Nat) (hh : someS x b (x.blk b) m = true) : someS s b (s.blk b) m = true := by
  obtain ⟨j, hj, h1, h2⟩ := (someS_iff ..).1 hh
  have hn := hx.hn
  have e1 := h.s0; have e2 := h.s1; have e3 := hx.a4; have e4 := h.near
  have m1 := exc_mono2 (ts := s.ts) (ts' := x.ts) (blk := b) (k := (x.blk b).s0 + j) (e := 0) (e' := 0) (by omega) h.h0 (show (s.blk b).x 0 ≤ (x.blk b).x 0 from h.x0) m
  have m2 := exc_mono2 (ts := x.ts) (ts' := s.ts) (blk := b) (k := (x.blk b).s0 + j) (e := 1) (e' := 1) (by omega) h.h1 (show (x.blk b).x 1 ≤ (s.blk b).x 1 from h.x1) m
  exact some_has s b hs m (k := (x.blk b).s0 + j) (by omega) (by omega) (by omega) (by omega)

theorem settl_some {s : Stl} (hs : ∀ t ∈ s.ts, t.h0 ≤ t.h1) {blk : Int} {b : Blk} (hb : b.Ok) (m : Nat) (h : settl s blk b m = true) : someS s blk b m = true := by
  have := (settl_iff hb m).1 h 0 (by have := hb.a5; have := hb.hn; omega)
  have hle := exc_le hs (show 1 ≤ b.s0 + ((0 : Nat) : Int) by have := hb.a4; omega) (show b.x 0 ≤ b.x 1 from hb.a2) blk m
  exact (someS_iff ..).2 ⟨0, by have := hb.a5; have := hb.hn; omega, by omega, by omega⟩

theorem Nar.settl {s x : Stl} {b : Int} (h : Nar s x b) (hs : (s.blk b).Ok) (hx : (x.blk b).Ok) (m : Nat) (hh : settl s b (s.blk b) m = true) : settl x b (x.blk b) m = true := by
  have := h.warm hs hx m
  have e := h.near
  simp only [Ab.settl, Bool.and_eq_true, decide_eq_true_eq] at hh ⊢
  omega

/-! ### Nearer -/

theorem near_settl {s : Stl} {n : Int} (h : s.near ≤ n) (blk : Int) (b : Blk) (m : Nat) (hh : settl s blk b m = true) : settl { s with near := n } blk b m = true := by
  simp only [settl, Bool.and_eq_true, decide_eq_true_eq] at hh ⊢
  exact ⟨Int.le_trans (Int.neg_le_neg h) hh.1, Int.le_trans hh.2 h⟩

theorem near_some {s : Stl} {n : Int} (h : s.near ≤ n) (blk : Int) (b : Blk) (m : Nat) (hh : someS s blk b m = true) : someS { s with near := n } blk b m = true := by
  obtain ⟨j, hj, h1, h2⟩ := (someS_iff ..).1 hh
  exact (someS_iff ..).2 ⟨j, hj, Int.le_trans h1 h, Int.le_trans (Int.neg_le_neg h) h2⟩

theorem near_when {s : Stl} {n : Int} (h : s.near ≤ n) (blk : Int) (b : Blk) (hl : 0 ≤ s.last) {w : Int} (hw : whenR s blk b = some w) : ∃ w', whenR { s with near := n } blk b = some w' ∧ w' ≤ w := by
  obtain ⟨L, hL⟩ : ∃ L : Nat, s.last = L := ⟨s.last.toNat, by omega⟩
  rcases whenR_spec s blk b L hL with ⟨h1, -⟩ | ⟨v, h1, h2, h3, -⟩
  · rw [h1] at hw; cases hw
  · rw [h1] at hw
    injection hw with hw
    rcases whenR_spec { s with near := n } blk b L hL with ⟨-, g2⟩ | ⟨v', g1, g2, g3, g4⟩
    · rw [near_settl h blk b L (h3 L h2 (Nat.le_refl _))] at g2; cases g2
    · refine ⟨v', g1, ?_⟩
      rw [← hw]
      refine Int.not_lt.1 fun hlt => ?_
      rcases g4 with rfl | g4
      · omega
      · rw [near_settl h blk b (v' - 1) (h3 _ (by omega) (by omega))] at g4; cases g4

/-! ### Turned about -/

def Blk.neg (b : Blk) : Blk := ⟨-b.x1, -b.x0, b.s0, b.s1, b.g0, b.g1⟩
def Tch.neg (t : Tch) : Tch := ⟨t.b, t.m, -t.h1, -t.h0⟩
def Stl.neg (s : Stl) : Stl := { s with bs := s.bs.map Blk.neg, ts := s.ts.map Tch.neg }

theorem heats_neg (blk m : Int) : ∀ ts : List Tch, (heats (ts.map Tch.neg) blk m 0).sum = -(heats ts blk m 1).sum ∧ (heats (ts.map Tch.neg) blk m 1).sum = -(heats ts blk m 0).sum
  | [] => ⟨rfl, rfl⟩
  | t :: r => by
    have ih := heats_neg blk m r
    rw [List.map_cons, heats_cons, heats_cons, heats_cons, heats_cons]
    have e0 : t.neg.h 0 = -t.h 1 := rfl
    have e1 : t.neg.h 1 = -t.h 0 := rfl
    have eb : t.neg.b = t.b := rfl
    have em : t.neg.m = t.m := rfl
    rw [e0, e1, eb, em]
    split
    · simp only [List.sum_append, List.sum_cons, List.sum_nil]; omega
    · simp only [List.nil_append]; exact ih

theorem exc_neg (ts : List Tch) (blk x k : Int) (hk : 1 ≤ k) : ∀ n, exc (ts.map Tch.neg) blk (-x) k 0 n = -exc ts blk x k 1 n ∧ exc (ts.map Tch.neg) blk (-x) k 1 n = -exc ts blk x k 0 n
  | 0 => by
    have := heats_neg blk 0 ts
    simp only [exc]; omega
  | n + 1 => by
    have ih := exc_neg ts blk x k hk n
    have := heats_neg blk ((n + 1 : Nat) : Int) ts
    simp only [exc, ih, fallsZ_neg hk]; omega

theorem loS_neg (f g : Nat → Int) (h : ∀ j, f j = -g j) : ∀ n, loS f n = -hiS g n
  | 0 => rfl
  | n + 1 => by
    have ih := loS_neg f g h n
    simp only [loS, hiS, h]
    rw [ih]
    split
    · rfl
    · split <;> split <;> omega

theorem hiS_neg (f g : Nat → Int) (h : ∀ j, f j = -g j) (n : Nat) : hiS f n = -loS g n := by
  have := loS_neg g f (fun j => by rw [h]; omega) n
  omega

theorem neg_blk {s : Stl} {b : Int} (hb : 0 ≤ b ∧ b < s.bs.length) : s.neg.blk b = (s.blk b).neg := by
  have : b.toNat < s.bs.length := by omega
  simp only [Stl.neg, Stl.blk, List.getD_eq_getElem?_getD, List.getElem?_map, List.getElem?_eq_getElem this, Option.map_some, Option.getD_some]

theorem neg_warm {s : Stl} {b : Int} (hb : 0 ≤ b ∧ b < s.bs.length) (h1 : 1 ≤ (s.blk b).s0) (m : Nat) :
    warmLo s.neg b (s.neg.blk b) m = -warmHi s b (s.blk b) m ∧ warmHi s.neg b (s.neg.blk b) m = -warmLo s b (s.blk b) m := by
  rw [neg_blk hb]
  have e0 : (s.blk b).neg.x 0 = -(s.blk b).x 1 := rfl
  have e1 : (s.blk b).neg.x 1 = -(s.blk b).x 0 := rfl
  have en : (s.blk b).neg.n = (s.blk b).n := rfl
  have es : (s.blk b).neg.s0 = (s.blk b).s0 := rfl
  have ets : s.neg.ts = s.ts.map Tch.neg := rfl
  simp only [warmLo, warmHi, e0, e1, en, es, ets]
  exact ⟨loS_neg _ _ (fun j => (exc_neg s.ts b _ _ (by omega) m).1) _, hiS_neg _ _ (fun j => (exc_neg s.ts b _ _ (by omega) m).2) _⟩

theorem neg_settl {s : Stl} {b : Int} (hb : 0 ≤ b ∧ b < s.bs.length) (h1 : 1 ≤ (s.blk b).s0) : settl s.neg b (s.neg.blk b) = settl s b (s.blk b) := by
  funext m
  obtain ⟨h2, h3⟩ := neg_warm hb h1 m
  have en : s.neg.near = s.near := rfl
  simp only [settl, h2, h3, en]
  rw [Bool.eq_iff_iff]
  simp only [Bool.and_eq_true, decide_eq_true_eq]
  omega

theorem when_of_settl {s x : Stl} {b : Int} {p q : Blk} (hl : x.last = s.last) (h : settl x b q = settl s b p) : whenR x b q = whenR s b p := by
  simp only [whenR, hl, h]

/-! ### Fewer touches -/

theorem heats_part (b m e : Int) : ∀ ts : List Tch, (heats (ts.reverse.filter fun t => t.b == b) b m e).sum = (heats ts b m e).sum
  | [] => rfl
  | t :: r => by
    have ih := heats_part b m e r
    rw [List.reverse_cons, List.filter_append, heats_cons]
    have happ : ∀ a c : List Tch, heats (a ++ c) b m e = heats a b m e ++ heats c b m e := by intro a c; simp [heats]
    rw [happ, List.sum_append, List.sum_append, ih]
    by_cases hb : t.b = b
    · by_cases hm : t.m = m <;> simp [heats, hb, hm] <;> omega
    · simp [heats, hb]

theorem exc_heats {ts ts' : List Tch} {b x k e : Int} (h : ∀ m : Int, (heats ts' b m e).sum = (heats ts b m e).sum) : ∀ n, exc ts' b x k e n = exc ts b x k e n
  | 0 => by simp only [exc, h]
  | n + 1 => by simp only [exc, h, exc_heats h n]

def Stl.part (s : Stl) (b : Int) : Stl := { s with ts := s.ts.reverse.filter fun t => t.b == b }

theorem part_warm (s : Stl) (b : Int) (p : Blk) (m : Nat) : warmLo (s.part b) b p m = warmLo s b p m ∧ warmHi (s.part b) b p m = warmHi s b p m := by
  have ets : (s.part b).ts = s.ts.reverse.filter fun t => t.b == b := rfl
  constructor
  · simp only [warmLo, ets]
    congr 1
    funext j
    exact exc_heats (fun m => heats_part b m 0 s.ts) m
  · simp only [warmHi, ets]
    congr 1
    funext j
    exact exc_heats (fun m => heats_part b m 1 s.ts) m

theorem part_settl (s : Stl) (b : Int) (p : Blk) : settl (s.part b) b p = settl s b p := by
  funext m
  obtain ⟨h1, h2⟩ := part_warm s b p m
  simp only [settl, h1, h2]
  rfl

end Go.Ab
