/-
  Plain facts on a settle of which all of a block is known.
-/
import Derived.Test.YtppmifiahebgfaaP6
namespace Go.Ab
set_option linter.unusedSimpArgs false
set_option linter.unusedVariables false

def endJ (up : Bool) : Int := if up then 1 else 0

def Tch.exact (up : Bool) (t : Tch) : Tch := ⟨t.b, t.m, t.h (endJ up), t.h (endJ up)⟩
def Blk.exact (up : Bool) (k : Int) (b : Blk) : Blk := ⟨b.x (endJ up), b.x (endJ up), k, k, b.g0, b.g1⟩

/-- All of a block, and all touches, known: at one end, or the other one, and as slow as k. -/
def Stl.exact (s : Stl) (b k : Int) (up : Bool) : Stl := { s with bs := s.bs.set b.toNat ((s.blk b).exact up k), ts := s.ts.map (Tch.exact up) }

theorem heats_exact (up : Bool) (blk m e : Int) : ∀ ts : List Tch, heats (ts.map (Tch.exact up)) blk m e = heats ts blk m (endJ up)
  | [] => rfl
  | t :: r => by
    rw [List.map_cons, heats_cons, heats_cons, heats_exact up blk m e r]
    have h : (Tch.exact up t).h e = t.h (endJ up) := by simp only [Tch.exact, Tch.h]; split <;> rfl
    rw [h]
    rfl

theorem exc_exact (up : Bool) (ts : List Tch) (blk x k e : Int) : ∀ m, exc (ts.map (Tch.exact up)) blk x k e m = exc ts blk x k (endJ up) m
  | 0 => by simp only [exc, heats_exact]
  | m + 1 => by simp only [exc, heats_exact, exc_exact up ts blk x k e m]

theorem exact_blk {s : Stl} {b k : Int} {up : Bool} (hb : 0 ≤ b ∧ b < s.bs.length) : (s.exact b k up).blk b = (s.blk b).exact up k := by
  have : b.toNat < s.bs.length := by omega
  simp only [Stl.exact, Stl.blk, List.getD_eq_getElem?_getD]
  rw [List.getElem?_set_self this]
  rfl

theorem exact_warm {s : Stl} {b k : Int} {up : Bool} (hb : 0 ≤ b ∧ b < s.bs.length) (m : Nat) :
    warmLo (s.exact b k up) b ((s.exact b k up).blk b) m = exc s.ts b ((s.blk b).x (endJ up)) k (endJ up) m ∧ warmHi (s.exact b k up) b ((s.exact b k up).blk b) m = exc s.ts b ((s.blk b).x (endJ up)) k (endJ up) m := by
  rw [exact_blk hb]
  have hn : ((s.blk b).exact up k).n = 1 := by simp only [Blk.exact, Blk.n]; omega
  have hts : (s.exact b k up).ts = s.ts.map (Tch.exact up) := rfl
  have x0 : ((s.blk b).exact up k).x 0 = (s.blk b).x (endJ up) := rfl
  have x1 : ((s.blk b).exact up k).x 1 = (s.blk b).x (endJ up) := rfl
  have s0 : ((s.blk b).exact up k).s0 = k := rfl
  simp only [warmLo, warmHi, hn, loS, hiS, if_true, hts, exc_exact, x0, x1, s0, Int.natCast_zero, Int.add_zero, and_self]

theorem spn_true {a b lo hi : Int} (h1 : lo ≤ a) (h2 : a ≤ b) (h3 : b ≤ hi) : spn a b lo hi = true := by
  simp only [spn, Bool.and_eq_true, decide_eq_true_eq]; exact ⟨⟨h1, h2⟩, h3⟩

theorem exact_valid {s : Stl} (hv : s.valid = true) {b k : Int} {up : Bool} (hb : 0 ≤ b ∧ b < s.bs.length) (h0 : (s.blk b).s0 ≤ k) (h1 : k ≤ (s.blk b).s1) : (s.exact b k up).valid = true := by
  have hwf := Stl.valid_wf hv
  have hlt : b.toNat < s.bs.length := by omega
  have hbk : s.bs[b.toNat]? = some (s.blk b) := by simp only [Stl.blk, List.getD_eq_getElem?_getD, List.getElem?_eq_getElem hlt, Option.getD_some]
  have hbo := hwf.bs (s.blk b) (List.mem_of_getElem? hbk)
  simp only [Stl.valid, Stl.nums, Bool.and_eq_true] at hv ⊢
  have hlen : (s.exact b k up).bs.length = s.bs.length := by simp [Stl.exact]
  have htl : (s.exact b k up).ts.length = s.ts.length := by simp [Stl.exact]
  rw [hlen, htl]
  refine ⟨hv.1, ?_, ?_⟩
  · rw [List.all_eq_true]
    intro x hx
    simp only [Stl.exact] at hx
    rcases List.mem_or_eq_of_mem_set hx with hx | rfl
    · exact List.all_eq_true.1 hv.2.1 x hx
    · have := hbo.a1; have := hbo.a2; have := hbo.a3; have := hbo.a4; have := hbo.a6; have := hbo.a7; have := hbo.a8; have := hbo.a9
      have hx : -100 ≤ (s.blk b).x (endJ up) ∧ (s.blk b).x (endJ up) ≤ 100 := by simp only [Blk.x]; split <;> omega
      simp only [Blk.okb, Bool.and_eq_true]
      exact ⟨spn_true hx.1 (Int.le_refl _) hx.2, spn_true (by show 2 ≤ k; omega) (Int.le_refl _) (by show k ≤ 8; omega), spn_true hbo.a7 hbo.a8 hbo.a9⟩
  · rw [List.all_eq_true]
    intro x hx
    simp only [Stl.exact, List.mem_map] at hx
    obtain ⟨t, ht, rfl⟩ := hx
    have h := List.all_eq_true.1 hv.2.2 t ht
    have ht2 := hwf.ts t ht
    simp only [Tch.okb, Bool.and_eq_true] at h ⊢
    refine ⟨h.1, h.2.1, ?_⟩
    have := Tch.h_bd (e := endJ up) ht2
    exact spn_true this.1 (Int.le_refl _) this.2

theorem endsL_low' {f g : Nat → Int} {n : Nat} (hn : 1 ≤ n) (h : ∀ j, f j ≤ g j) {X : Int} (hX : ∀ j, f j < X) : lows (endsL f g n) X = loS f n := by
  obtain ⟨⟨h1, h2⟩, h3⟩ := lows_spec (endsL f g n) X
  obtain ⟨h4, j0, h5, h6⟩ := loS_spec f n hn
  have h7 := h2 (f j0) ((endsL_mem f g n).2 ⟨j0, h5, .inl rfl⟩)
  rcases h3 with h3 | h3
  · have := hX j0; omega
  · obtain ⟨j, hj, e | e⟩ := (endsL_mem f g n).1 h3
    · have := h4 j hj; omega
    · have := h4 j hj; have := h j; omega

theorem endsL_high' {f g : Nat → Int} {n : Nat} (hn : 1 ≤ n) (h : ∀ j, f j ≤ g j) {X : Int} (hX : ∀ j, X < g j) : highs (endsL f g n) X = hiS g n := by
  obtain ⟨⟨h1, h2⟩, h3⟩ := highs_spec (endsL f g n) X
  obtain ⟨h4, j0, h5, h6⟩ := hiS_spec g n hn
  have h7 := h2 (g j0) ((endsL_mem f g n).2 ⟨j0, h5, .inr rfl⟩)
  rcases h3 with h3 | h3
  · have := hX j0; omega
  · obtain ⟨j, hj, e | e⟩ := (endsL_mem f g n).1 h3
    · have := h4 j hj; have := h j; omega
    · have := h4 j hj; omega

theorem lows_snoc (l : List Int) (a b x : Int) : lows (l ++ [a, b]) x = mn (mn (lows l x) a) b := by simp [lows]
theorem highs_snoc (l : List Int) (a b x : Int) : highs (l ++ [a, b]) x = mx (mx (highs l x) a) b := by simp [highs]

end Go.Ab
