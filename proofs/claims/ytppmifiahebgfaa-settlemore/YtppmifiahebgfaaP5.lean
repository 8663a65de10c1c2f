/-
  Plain facts on rests: spans of minutes in which a block has settled, and from when on it has.
-/
import Derived.Test.YtppmifiahebgfaaP4
namespace Go.Ab
set_option linter.unusedSimpArgs false
set_option linter.unusedVariables false

/-- Spans that do not meet, in order, of just the minutes of which something is so. -/
structure RestOk (f : Nat → Bool) (n : Nat) (l : List (Int × Int)) : Prop where
  bd : ∀ p ∈ l, 0 ≤ p.1 ∧ p.1 ≤ p.2 ∧ p.2 < n
  gap : l.Pairwise fun p q => p.2 + 1 < q.1
  cov : ∀ i : Nat, i < n → (f i = true ↔ ∃ p ∈ l, p.1 ≤ (i : Int) ∧ (i : Int) ≤ p.2)

theorem snoc_of {α : Type} {l : List α} {p : α} (h : l.getLast? = some p) : ∃ l', l = l' ++ [p] := List.getLast?_eq_some_iff.1 h

theorem restsR_ok (f : Nat → Bool) : ∀ n, RestOk f n (restsR f n)
  | 0 => ⟨by simp [restsR], by simp [restsR], fun i hi => by omega⟩
  | n + 1 => by
    have h := restsR_ok f n
    rw [restsR]
    generalize restsR f n = l at *
    split
    · rename_i hf
      rw [restStep]
      split
      · rename_i p hl
        obtain ⟨l', rfl⟩ := snoc_of hl
        have hp := h.bd p (by simp)
        obtain ⟨g1, -, g2⟩ := List.pairwise_append.1 h.gap
        split
        · rename_i he
          have hset : (l' ++ [p]).set ((l' ++ [p]).length - 1) (p.1, (n : Int)) = l' ++ [(p.1, (n : Int))] := by
            simp
          rw [hset]
          refine ⟨fun q hq => ?_, List.pairwise_append.2 ⟨g1, List.pairwise_singleton _ _, fun a ha b hb => ?_⟩, fun i hi => ?_⟩
          · rcases List.mem_append.1 hq with hq | hq
            · have := h.bd q (List.mem_append_left _ hq); omega
            · rw [List.mem_singleton] at hq; subst hq; simp only; omega
          · rw [List.mem_singleton] at hb; subst hb
            exact g2 a ha p (List.mem_singleton.2 rfl)
          · rcases Nat.lt_or_ge i n with hlt | hge
            · rw [h.cov i hlt]
              constructor
              · rintro ⟨q, hq, h1, h2⟩
                rcases List.mem_append.1 hq with hq | hq
                · exact ⟨q, List.mem_append_left _ hq, h1, h2⟩
                · rw [List.mem_singleton] at hq; subst hq
                  exact ⟨_, List.mem_append_right _ (List.mem_singleton.2 rfl), h1, by simp only; omega⟩
              · rintro ⟨q, hq, h1, h2⟩
                rcases List.mem_append.1 hq with hq | hq
                · exact ⟨q, List.mem_append_left _ hq, h1, h2⟩
                · rw [List.mem_singleton] at hq; subst hq
                  exact ⟨p, List.mem_append_right _ (List.mem_singleton.2 rfl), h1, by omega⟩
            · have hin : i = n := by omega
              subst hin
              simp only [hf, true_iff]
              exact ⟨_, List.mem_append_right _ (List.mem_singleton.2 rfl), by simp only; omega, by simp only; omega⟩
        · rename_i he
          refine ⟨fun q hq => ?_, List.pairwise_append.2 ⟨h.gap, List.pairwise_singleton _ _, fun a ha b hb => ?_⟩, fun i hi => ?_⟩
          · rcases List.mem_append.1 hq with hq | hq
            · have := h.bd q hq; omega
            · rw [List.mem_singleton] at hq; subst hq; simp only; omega
          · rw [List.mem_singleton] at hb; subst hb
            simp only
            rcases List.mem_append.1 ha with ha | ha
            · have := g2 a ha p (List.mem_singleton.2 rfl); omega
            · rw [List.mem_singleton] at ha; subst ha; omega
          · rcases Nat.lt_or_ge i n with hlt | hge
            · rw [h.cov i hlt]
              constructor
              · rintro ⟨q, hq, h1, h2⟩
                exact ⟨q, List.mem_append_left _ hq, h1, h2⟩
              · rintro ⟨q, hq, h1, h2⟩
                rcases List.mem_append.1 hq with hq | hq
                · exact ⟨q, hq, h1, h2⟩
                · rw [List.mem_singleton] at hq; subst hq
                  simp only at h1; omega
            · have hin : i = n := by omega
              subst hin
              simp only [hf, true_iff]
              exact ⟨_, List.mem_append_right _ (List.mem_singleton.2 rfl), by simp only; omega, by simp only; omega⟩
      · rename_i hl
        have hl0 : l = [] := by simpa using hl
        subst hl0
        refine ⟨fun q hq => ?_, by simp, fun i hi => ?_⟩
        · simp only [List.nil_append, List.mem_singleton] at hq
          subst hq; simp only; omega
        · rcases Nat.lt_or_ge i n with hlt | hge
          · rw [h.cov i hlt]
            constructor
            · rintro ⟨q, hq, -⟩; simp at hq
            · rintro ⟨q, hq, h1, h2⟩
              simp only [List.nil_append, List.mem_singleton] at hq
              subst hq; simp only at h1; omega
          · have hin : i = n := by omega
            subst hin
            simp only [hf, true_iff]
            exact ⟨((i : Int), (i : Int)), by simp, by simp only; omega, by simp only; omega⟩
    · rename_i hf
      refine ⟨fun q hq => ?_, h.gap, fun i hi => ?_⟩
      · have := h.bd q hq; omega
      · rcases Nat.lt_or_ge i n with hlt | hge
        · exact h.cov i hlt
        · have hin : i = n := by omega
          subst hin
          have hf' : f i = false := by simpa using hf
          simp only [hf', Bool.false_eq_true, false_iff]
          rintro ⟨q, hq, h1, h2⟩
          have := h.bd q hq; omega

theorem whenR_spec (s : Stl) (blk : Int) (b : Blk) (L : Nat) (hL : s.last = L) :
    (whenR s blk b = none ∧ settl s blk b L = false) ∨ ∃ w : Nat, whenR s blk b = some (w : Int) ∧ w ≤ L ∧ (∀ m, w ≤ m → m ≤ L → settl s blk b m = true) ∧ (w = 0 ∨ settl s blk b (w - 1) = false) := by
  simp only [whenR, hL, Int.toNat_natCast]
  rcases stop_find (fun j => !settl s blk b (L - j)) (L + 1) 0 with ⟨hf, -, hall⟩ | ⟨i, hf, -, hi, -, hlt, hall⟩
  · rw [hf]
    refine .inr ⟨0, rfl, Nat.zero_le _, fun m _ hm => ?_, .inl rfl⟩
    have := hall (L - m) (by omega) (by omega)
    simp only [Bool.not_eq_false', show L - (L - m) = m by omega] at this
    exact this
  · rw [hf]
    simp only [Bool.not_eq_true'] at hi
    rcases Nat.eq_zero_or_pos i with rfl | h0
    · refine .inl ⟨?_, hi⟩
      simp
    · refine .inr ⟨L - i + 1, ?_, by omega, fun m h1 h2 => ?_, .inr ?_⟩
      · simp only
        rw [if_pos (by omega)]
        congr 1; omega
      · have := hall (L - m) (by omega) (by omega)
        simp only [Bool.not_eq_false', show L - (L - m) = m by omega] at this
        exact this
      · rw [show L - i + 1 - 1 = L - i by omega]; exact hi

/-- The last span, and from when on. -/
theorem rest_when {s : Stl} {blk : Int} {b : Blk} {L : Nat} (hL : s.last = L) {l : List (Int × Int)} (h : RestOk (settl s blk b) (L + 1) l) :
    (match whenR s blk b with
    | some w => ∃ p, l.getLast? = some p ∧ p.2 = L ∧ p.1 = w
    | none => ∀ p, l.getLast? = some p → p.2 ≠ L) := by
  rcases whenR_spec s blk b L hL with ⟨hw, hn⟩ | ⟨w, hw, hwl, hall, hst⟩
  · rw [hw]
    simp only
    intro p hp he
    obtain ⟨l', rfl⟩ := snoc_of hp
    have hb := h.bd p (by simp)
    have := (h.cov L (by omega)).2 ⟨p, by simp, by omega, by omega⟩
    rw [hn] at this; cases this
  · rw [hw]
    simp only
    obtain ⟨p, hp, h1, h2⟩ := (h.cov L (by omega)).1 (hall L hwl (Nat.le_refl _))
    have hb := h.bd p hp
    cases hgl : l.getLast? with
    | none => simp at hgl; subst hgl; simp at hp
    | some q =>
      obtain ⟨l', rfl⟩ := snoc_of hgl
      obtain ⟨g1, -, g2⟩ := List.pairwise_append.1 h.gap
      have hq := h.bd q (by simp)
      have hpq : p = q := by
        rcases List.mem_append.1 hp with hp | hp
        · have := g2 p hp q (List.mem_singleton.2 rfl); omega
        · exact List.mem_singleton.1 hp
      subst hpq
      refine ⟨p, rfl, by omega, ?_⟩
      have hle : (w : Int) ≤ p.1 := by
        refine Int.not_lt.1 fun hlt => ?_
        rcases hst with rfl | hst
        · omega
        · have := (h.cov (w - 1) (by omega)).2 ⟨p, hp, by omega, by omega⟩
          rw [hst] at this; cases this
      have hge : p.1 ≤ (w : Int) := by
        refine Int.not_lt.1 fun hlt => ?_
        obtain ⟨r, hr, r1, r2⟩ := (h.cov (p.1 - 1).toNat (by omega)).1 (hall _ (by omega) (by omega))
        rcases List.mem_append.1 hr with hr | hr
        · have := g2 r hr p (List.mem_singleton.2 rfl); omega
        · have := List.mem_singleton.1 hr; subst this; omega
      omega

end Go.Ab
