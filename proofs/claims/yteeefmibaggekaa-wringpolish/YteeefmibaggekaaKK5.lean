/-
  All ways to go on with a pile.
-/
import Derived.Test.YteeefmibaggekaaKK4
import Derived.Test.YteeefmibaggekaaKK3
namespace Go.Ab
open Go.Proofs
set_option linter.unusedSimpArgs false
set_option linter.unusedVariables false
set_option maxRecDepth 100000
set_option maxHeartbeats 2000000

variable {H : Heap}

/-! ### All ways to go on -/

/-- All ways to go on with a pile. -/
def Wg.ext (w : Wg) (b : Bool) : Nat → Pl → List (List Pc)
  | 0, _ => [[]]
  | n + 1, p => if p.left = 0 then [[]] else (w.plL b p).flatMap fun x => (w.ext b n (p.next x)).map (x :: ·)

/-- The film of going on. -/
def Wg.fmL (w : Wg) : Pl → List Pc → Int
  | _, [] => 0
  | p, x :: r => w.film p x + w.fmL (p.next x) r

/-- How many there are, and how little it is. -/
structure LeastOf (f : List Pc → Int) (L : List (List Pc)) (t : Int × Int) : Prop where
  len : t.1 = L.length
  le : ∀ l ∈ L, t.2 ≤ f l
  ex : L ≠ [] → ∃ l ∈ L, f l = t.2

theorem tal_ext (w : Wg) (b : Bool) : ∀ (n : Nat) (p : Pl), LeastOf (w.fmL p) (w.ext b n p) (w.talF b n p)
  | 0, p => ⟨rfl, fun l hl => by simp only [Wg.ext, List.mem_singleton] at hl; subst hl; exact Int.le_refl _, fun _ => ⟨[], by simp [Wg.ext], rfl⟩⟩
  | n + 1, p => by
    by_cases h0 : p.left = 0
    · simp only [Wg.ext, Wg.talF, if_pos h0]
      exact ⟨rfl, fun l hl => by simp only [List.mem_singleton] at hl; subst hl; exact Int.le_refl _, fun _ => ⟨[], by simp, rfl⟩⟩
    · simp only [Wg.ext, Wg.talF, if_neg h0]
      have key : ∀ (xs : List Pc) (L : List (List Pc)) (st : Int × Int), LeastOf (w.fmL p) L st → LeastOf (w.fmL p) (L ++ xs.flatMap fun x => (w.ext b n (p.next x)).map (x :: ·)) (xs.foldl (w.stT (w.talF b n) p) st) := by
        intro xs
        induction xs with
        | nil => intro L st h; simpa using h
        | cons x r ih =>
          intro L st h
          have hx := tal_ext w b n (p.next x)
          rw [List.flatMap_cons, List.foldl_cons, ← List.append_assoc]
          refine ih _ _ ?_
          have hf : ∀ l, w.fmL p (x :: l) = w.film p x + w.fmL (p.next x) l := fun _ => rfl
          simp only [Wg.stT]
          generalize w.ext b n (p.next x) = E at *
          generalize w.talF b n (p.next x) = t at *
          obtain ⟨t1, t2⟩ := t
          obtain ⟨s1, s2⟩ := st
          obtain ⟨e1, e2, e3⟩ := hx
          obtain ⟨d1, d2, d3⟩ := h
          simp only at e1 e2 e3 d1 d2 d3 ⊢
          by_cases ht : t1 = 0
          · have hE : E = [] := List.length_eq_zero_iff.1 (by omega)
            subst hE
            rw [if_pos ht]
            simp only [List.map_nil, List.append_nil]
            exact ⟨d1, d2, d3⟩
          · rw [if_neg ht]
            have hE : E ≠ [] := by rintro rfl; simp at e1; omega
            obtain ⟨l0, l1, l2⟩ := e3 hE
            refine ⟨by simp only [List.length_append, List.length_map]; omega, ?_, ?_⟩
            · intro l hl
              rcases List.mem_append.1 hl with hl | hl
              · have hd := d2 l hl
                have : L ≠ [] := List.ne_nil_of_mem hl
                have : s1 ≠ 0 := by
                  intro h0
                  exact this (List.length_eq_zero_iff.1 (by omega))
                simp only
                split <;> omega
              · obtain ⟨m, m1, rfl⟩ := List.mem_map.1 hl
                have := e2 m m1
                rw [hf]
                simp only
                split <;> omega
            · intro _
              simp only
              by_cases hc : s1 = 0 ∨ t2 + w.film p x < s2
              · rw [if_pos hc]
                exact ⟨x :: l0, List.mem_append_right _ (List.mem_map.2 ⟨l0, l1, rfl⟩), by rw [hf, l2]; omega⟩
              · rw [if_neg hc]
                have : L ≠ [] := by rintro rfl; simp at d1; omega
                obtain ⟨m, m1, m2⟩ := d3 this
                exact ⟨m, List.mem_append_left _ m1, m2⟩
      have := key (w.plL b p) [] (0, 0) ⟨rfl, fun l hl => by simp at hl, fun h => absurd rfl h⟩
      simpa using this

/-! ### What a way to go on is -/

theorem plU_iff {w : Wg} {b : Bool} {p : Pl} {j : Nat} {x : Pc} : ∀ (q u : Nat), x ∈ w.plU b p j u q ↔ x.b = (j : Int) ∧ (∃ k : Nat, x.u = (k : Int) ∧ u ≤ k ∧ k < u + q) ∧ w.ok1 b p x = true
  | 0, u => by
    simp only [Wg.plU, List.not_mem_nil, false_iff]
    rintro ⟨_, ⟨k, _, h1, h2⟩, _⟩
    omega
  | q + 1, u => by
    simp only [Wg.plU]
    have ih := plU_iff (w := w) (b := b) (p := p) (j := j) (x := x) q (u + 1)
    have back : (x.b = (j : Int) ∧ (∃ k : Nat, x.u = (k : Int) ∧ u ≤ k ∧ k < u + (q + 1)) ∧ w.ok1 b p x = true) ↔ (x = ⟨j, u⟩ ∧ w.ok1 b p ⟨j, u⟩ = true) ∨ (x.b = (j : Int) ∧ (∃ k : Nat, x.u = (k : Int) ∧ u + 1 ≤ k ∧ k < u + 1 + q) ∧ w.ok1 b p x = true) := by
      constructor
      · rintro ⟨h1, ⟨k, h2, h3, h4⟩, h5⟩
        by_cases hk : k = u
        · subst hk
          have : x = ⟨j, k⟩ := by obtain ⟨a, c⟩ := x; simp only at h1 h2; rw [h1, h2]
          subst this
          exact .inl ⟨rfl, h5⟩
        · exact .inr ⟨h1, ⟨k, h2, by omega, by omega⟩, h5⟩
      · rintro (⟨rfl, h⟩ | ⟨h1, ⟨k, h2, h3, h4⟩, h5⟩)
        · exact ⟨rfl, ⟨u, rfl, by omega, by omega⟩, h⟩
        · exact ⟨h1, ⟨k, h2, by omega, by omega⟩, h5⟩
    rw [back, ← ih]
    cases hok : w.ok1 b p ⟨j, u⟩
    · simp
    · simp [List.mem_cons]

theorem plB_iff {w : Wg} {b : Bool} {p : Pl} {x : Pc} : ∀ (q j : Nat), x ∈ w.plB b p j q ↔ (∃ k : Nat, x.b = (k : Int) ∧ j ≤ k ∧ k < j + q ∧ p.left.testBit k = true) ∧ (0 ≤ x.u ∧ x.u ≤ 1) ∧ w.ok1 b p x = true
  | 0, j => by
    simp only [Wg.plB, List.not_mem_nil, false_iff]
    rintro ⟨⟨k, _, h1, h2, _⟩, _⟩
    omega
  | q + 1, j => by
    have ih := plB_iff (w := w) (b := b) (p := p) (x := x) q (j + 1)
    have hU : x ∈ w.plU b p j 0 2 ↔ x.b = (j : Int) ∧ (0 ≤ x.u ∧ x.u ≤ 1) ∧ w.ok1 b p x = true := by
      rw [plU_iff]
      constructor
      · rintro ⟨h1, ⟨k, h2, h3, h4⟩, h5⟩
        exact ⟨h1, by omega, h5⟩
      · rintro ⟨h1, h2, h5⟩
        exact ⟨h1, ⟨x.u.toNat, by omega, by omega, by omega⟩, h5⟩
    simp only [Wg.plB]
    cases hb : p.left.testBit j
    · simp only [Bool.false_eq_true, if_false, ih]
      constructor
      · rintro ⟨⟨k, h1, h2, h3, h4⟩, h5⟩
        exact ⟨⟨k, h1, by omega, by omega, h4⟩, h5⟩
      · rintro ⟨⟨k, h1, h2, h3, h4⟩, h5⟩
        have : k ≠ j := by rintro rfl; rw [hb] at h4; cases h4
        exact ⟨⟨k, h1, by omega, by omega, h4⟩, h5⟩
    · simp only [if_true, List.mem_append, ih, hU]
      constructor
      · rintro (⟨h1, h2⟩ | ⟨⟨k, h1, h2, h3, h4⟩, h5⟩)
        · exact ⟨⟨j, h1, by omega, by omega, hb⟩, h2⟩
        · exact ⟨⟨k, h1, by omega, by omega, h4⟩, h5⟩
      · rintro ⟨⟨k, h1, h2, h3, h4⟩, h5⟩
        by_cases hk : k = j
        · subst hk; exact .inl ⟨h1, h5⟩
        · exact .inr ⟨⟨k, h1, by omega, by omega, h4⟩, h5⟩

theorem plL_iff {w : Wg} {b : Bool} {p : Pl} {x : Pc} : x ∈ w.plL b p ↔ w.pok x ∧ p.left.testBit x.b.toNat = true ∧ (p.some = true → w.jt b p.top x = 0) := by
  have hk : w.ok1 b p x = true ↔ (p.some = true → w.jt b p.top x = 0) := by
    simp only [Wg.ok1]
    cases p.some <;> simp
  rw [Wg.plL, plB_iff, hk]
  constructor
  · rintro ⟨⟨k, h1, h2, h3, h4⟩, h5, h6⟩
    have : x.b.toNat = k := by omega
    exact ⟨⟨by omega, by simp only [Wg.n]; omega, h5⟩, by rw [this]; exact h4, h6⟩
  · rintro ⟨⟨h1, h2, h3, h4⟩, h5, h6⟩
    simp only [Wg.n] at h2
    exact ⟨⟨x.b.toNat, by omega, by omega, by omega, h5⟩, ⟨h3, h4⟩, h6⟩

/-- Whether a list goes on with a pile to the end. -/
def Wg.goes (w : Wg) (b : Bool) : Pl → List Pc → Prop
  | p, [] => p.left = 0
  | p, x :: r => x ∈ w.plL b p ∧ w.goes b (p.next x) r

theorem goes_zero {w : Wg} {b : Bool} {p : Pl} (h : p.left = 0) (l : List Pc) : w.goes b p l ↔ l = [] := by
  cases l with
  | nil => simp [Wg.goes, h]
  | cons x r =>
    simp only [Wg.goes, reduceCtorEq, iff_false]
    rintro ⟨h1, _⟩
    have := (plL_iff.1 h1).2.1
    rw [h, Nat.zero_testBit] at this
    cases this

theorem mem_ext {w : Wg} (ho : w.Ok) (b : Bool) : ∀ (n : Nat) (p : Pl) (l : List Pc), p.Ok w → cnt p.left ≤ n → (l ∈ w.ext b n p ↔ w.goes b p l)
  | 0, p, l, hp, hc => by
    have h0 := (cnt_zero (hp.lt64 ho)).1 (by omega)
    rw [goes_zero h0]
    simp [Wg.ext]
  | n + 1, p, l, hp, hc => by
    by_cases h0 : p.left = 0
    · rw [goes_zero h0]
      simp [Wg.ext, h0]
    · simp only [Wg.ext, if_neg h0, List.mem_flatMap, List.mem_map]
      cases l with
      | nil =>
        simp only [Wg.goes, h0, iff_false]
        rintro ⟨x, _, m, _, h⟩
        cases h
      | cons y r =>
        simp only [Wg.goes]
        constructor
        · rintro ⟨x, h1, m, h2, h3⟩
          cases h3
          obtain ⟨g1, g2⟩ := next_ok ho hp h1
          exact ⟨h1, (mem_ext ho b n _ _ g1 (by omega)).1 h2⟩
        · rintro ⟨h1, h2⟩
          obtain ⟨g1, g2⟩ := next_ok ho hp h1
          exact ⟨y, h1, r, (mem_ext ho b n _ _ g1 (by omega)).2 h2, rfl⟩

/-- Whether all joints hold. -/
def Wg.hL (w : Wg) (b : Bool) : Option Pc → List Pc → Prop
  | _, [] => True
  | o, x :: r => (∀ y, o = some y → w.jt b y x = 0) ∧ w.hL b (some x) r
def Pl.tp (p : Pl) : Option Pc := if p.some then Option.some p.top else Option.none
end Go.Ab
/-
  Stacks as lists; the least one.
-/
namespace Go.Ab
open Go.Proofs
set_option linter.unusedSimpArgs false
set_option linter.unusedVariables false
set_option maxRecDepth 100000
set_option maxHeartbeats 2000000

variable {H : Heap}

/-! ### Stacks, as lists -/

theorem pc_mem {l : List Pc} {x : Pc} (h : x ∈ l) : ∃ i, i < l.length ∧ pcA l i = x := by
  obtain ⟨i, hi, rfl⟩ := List.mem_iff_getElem.1 h
  exact ⟨i, hi, by simp [pcA, hi]⟩

theorem pcA_mem {l : List Pc} {i : Nat} (h : i < l.length) : pcA l i ∈ l := by
  simp only [pcA, List.getD_eq_getElem?_getD, List.getElem?_eq_getElem h, Option.getD_some]
  exact List.getElem_mem h

theorem pcA_get {l : List Pc} {i : Nat} (h : i < l.length) : pcA l i = l[i] := by
  simp [pcA, h]

theorem poks_iff {w : Wg} {l : List Pc} : w.poks l ↔ ∀ x ∈ l, w.pok x := by
  constructor
  · intro h x hx
    obtain ⟨i, hi, rfl⟩ := pc_mem hx
    exact h i hi
  · intro h i hi
    exact h _ (pcA_mem hi)

theorem stk_iff {w : Wg} {l : List Pc} : w.stk l = true ↔ l ≠ [] ∧ (∀ x ∈ l, w.pok x) ∧ (l.map Pc.b).Nodup := by
  have hne : (decide ((0 : Int) < l.length) = true) ↔ l ≠ [] := by
    rw [decide_eq_true_eq]
    constructor
    · rintro h rfl; simp at h
    · intro h; have := List.length_pos_iff.2 h; omega
  have hb : ∀ i, w.badAt l i = false ↔ w.pok (pcA l i) ∧ ∀ x ∈ l.take i, x.b ≠ (pcA l i).b := by
    intro i
    simp only [Wg.badAt, Bool.or_eq_false_iff, Bool.not_eq_false', wi_iff, List.any_eq_false, beq_iff_eq, Wg.pok, Wg.n]
    constructor
    · rintro ⟨h1, h2, h3⟩; exact ⟨by omega, h3⟩
    · rintro ⟨h1, h3⟩; exact ⟨by omega, by omega, h3⟩
  simp only [Wg.stk, Bool.and_eq_true, Bool.not_eq_true', anyF_false, hne, hb]
  rw [← poks_iff]
  have hnd : (l.map Pc.b).Nodup ↔ ∀ i, i < l.length → ∀ x ∈ l.take i, x.b ≠ (pcA l i).b := by
    rw [List.Nodup, List.pairwise_map, List.pairwise_iff_getElem]
    constructor
    · intro h i hi x hx
      obtain ⟨k, hk, rfl⟩ := List.mem_iff_getElem.1 hx
      rw [List.length_take] at hk
      rw [List.getElem_take, pcA_get hi]
      exact h k i (by omega) hi (by omega)
    · intro h i j hi hj hij
      have := h j hj l[i] (by
        rw [List.mem_iff_getElem]
        exact ⟨i, by rw [List.length_take]; omega, List.getElem_take⟩)
      rw [pcA_get hj] at this
      exact this
  rw [hnd]
  constructor
  · rintro ⟨h1, h2⟩
    exact ⟨h2, fun i hi => (h1 i (by omega) (by omega)).1, fun i hi => (h1 i (by omega) (by omega)).2⟩
  · rintro ⟨h2, h3, h4⟩
    exact ⟨fun i _ hi => ⟨h3 i (by omega), h4 i (by omega)⟩, h2⟩

theorem hL_iff {w : Wg} {b : Bool} : ∀ (l : List Pc) (o : Option Pc), w.hL b o l ↔ (∀ y, o = some y → 0 < l.length → w.jt b y (pcA l 0) = 0) ∧ ∀ i, i + 1 < l.length → w.jt b (pcA l i) (pcA l (i + 1)) = 0
  | [], o => by simp [Wg.hL]
  | x :: r, o => by
    have ih := hL_iff (w := w) (b := b) r (some x)
    have e0 : pcA (x :: r) 0 = x := rfl
    have e1 : ∀ i, pcA (x :: r) (i + 1) = pcA r i := fun i => rfl
    simp only [Wg.hL, ih, e0, e1, List.length_cons, Option.some.injEq, forall_eq']
    constructor
    · rintro ⟨h1, h2, h3⟩
      refine ⟨fun y hy _ => h1 y hy, fun i hi => ?_⟩
      cases i with
      | zero => rw [e0]; exact h2 (by omega)
      | succ i => rw [e1]; exact h3 i (by omega)
    · rintro ⟨h1, h2⟩
      refine ⟨fun y hy => h1 y hy (by omega), fun h => ?_, fun i hi => ?_⟩
      · have := h2 0 (by omega); rw [e0] at this; exact this
      · have := h2 (i + 1) (by omega); rw [e1] at this; exact this

theorem hld_iff {w : Wg} {b : Bool} {l : List Pc} : w.hld b l = true ↔ ∀ i, i + 1 < l.length → w.jt b (pcA l i) (pcA l (i + 1)) = 0 := by
  simp only [Wg.hld, Bool.not_eq_true', anyF_false, bne_eq_false_iff_eq]
  constructor
  · intro h i hi; exact h i (by omega) (by omega)
  · intro h i _ hi; exact h i (by omega)

theorem hld_hL {w : Wg} {b : Bool} {l : List Pc} : w.hld b l = true ↔ w.hL b none l := by
  rw [hld_iff, hL_iff]; simp

/-- A stack of just the blocks of a set. -/
def Wg.setOf (w : Wg) (s : Nat) (l : List Pc) : Prop := ∀ i : Nat, s.testBit i = true ↔ ∃ x ∈ l, x.b = (i : Int)

theorem tal_least {w : Wg} (ho : w.Ok) {b : Bool} {p : Pl} (hp : p.Ok w) : 0 ≤ (w.tal b p).1 ∧ (∀ l, w.goes b p l → 0 < (w.tal b p).1 ∧ (w.tal b p).2 ≤ w.fmL p l) ∧ (0 < (w.tal b p).1 → ∃ l, w.goes b p l ∧ w.fmL p l = (w.tal b p).2) := by
  have hc := cnt_le (hp.lt64 ho)
  obtain ⟨h1, h2, h3⟩ := tal_ext w b 6 p
  refine ⟨by rw [h1]; omega, fun l hl => ?_, fun h => ?_⟩
  · have hm := (mem_ext ho b 6 p l hp hc).2 hl
    refine ⟨?_, h2 l hm⟩
    have := List.length_pos_of_mem hm
    rw [h1]; omega
  · have : w.ext b 6 p ≠ [] := by
      intro e
      rw [e] at h1
      simp only [List.length_nil] at h1
      have h' : 0 < (w.talF b 6 p).1 := h
      omega
    obtain ⟨l, l1, l2⟩ := h3 this
    exact ⟨l, (mem_ext ho b 6 p l hp hc).1 l1, l2⟩

/-- Whether a list comes before another one, where they differ first. -/
def lexP (a c : Pc) : Prop := a.b < c.b ∨ (a.b = c.b ∧ a.u < c.u)
def lexL : List Pc → List Pc → Prop
  | [], _ => True
  | _, [] => False
  | a :: r, c :: s => lexP a c ∨ (a = c ∧ lexL r s)

end Go.Ab
/-
  The reference, walked: how many are in a set; all stacks.
-/
namespace Go.Ab
open Go.Proofs
set_option linter.unusedSimpArgs false
set_option linter.unusedVariables false
set_option maxRecDepth 100000
set_option maxHeartbeats 2000000

variable {H : Heap}


theorem size_loop (r : Nat) :
    ∀ (q j : Nat), j + q = 20 → ∀ (s n : Nat), s < 2 ^ q → n ≤ j → n + popF q s = r → ∀ E : Env, E.get 0 = I s → E.get 3 = I n →
    Option.map (finishC H.length) (execL cfg0 prog0 ⟨45, none, false, H.length⟩ (todoAt Try.f45 2) ⟨E, [], H, none⟩) = some ⟨.ret (I r), H, none⟩ := by
  intro q
  skip
  induction q with
  | zero =>
    intro j hj s n hs hn hr E g0 g3
    have hk' : ¬ (j : Int) < ((20 : Nat) : Int) := by omega
    have es : s = 0 := by simpa using hs
    subst es
    simp only [popF, Nat.add_zero] at hr
    subst hr
    simp only [loopIt, todoPast, todoAt, todoOf, firstReg, ↓reduceIte, Option.some.injEq, Nat.reduceEqDiff, reduceCtorEq, Try.f45]
    rw [execL_inLoop]
    simp (maxSteps := 1000000) (implicitDefEqProofs := false) (disch := first | rfl | omega | assumption) only [go_sem, g0, g3, ltT, ltF, leT, leF, hk']
    done
  | succ q ih =>
    intro j hj s n hs hn hr E g0 g3
    have hk' : (j : Int) < ((20 : Nat) : Int) := by omega
    have hk2 : j < 20 := by omega
    simp only [popF] at hr
    by_cases h0 : s = 0
    · subst h0
      rw [popF_zero] at hr
      have e : n = r := by omega
      subst e
      simp only [loopIt, todoPast, todoAt, todoOf, firstReg, ↓reduceIte, Option.some.injEq, Nat.reduceEqDiff, reduceCtorEq, Try.f45]
      rw [execL_inLoop]
      simp (maxSteps := 1000000) (implicitDefEqProofs := false) (disch := first | rfl | omega | assumption) only [go_sem, g0, g3, ltT, ltF, leT, leF, hk']
      done
    · have hp : (0 : Int) < (s : Int) := by omega
      have e1 : ((s : Nat) : Int).tdiv 2 = ((s / 2 : Nat) : Int) := rfl
      have e2 : ((s : Nat) : Int).tmod 2 = ((s % 2 : Nat) : Int) := rfl
      have hb : (2 : Nat) ^ (q + 1) ≤ 2 ^ 20 := Nat.pow_le_pow_right (by omega) (by omega)
      have e3 : IntKind.i64.wrap ((n : Int) + ((s % 2 : Nat) : Int)) = ((n + s % 2 : Nat) : Int) := by rw [w64 (by omega) (by omega)]; omega
      have e4 : IntKind.i64.wrap ((s / 2 : Nat) : Int) = ((s / 2 : Nat) : Int) := wN (by omega)
      simp only [loopIt, todoPast, todoAt, todoOf, firstReg, ↓reduceIte, Option.some.injEq, Nat.reduceEqDiff, reduceCtorEq, Try.f45]
      rw [execL_inLoop]
      simp (maxSteps := 1000000) (implicitDefEqProofs := false) (disch := first | rfl | omega | assumption) only [go_sem, g0, g3, ltT, ltF, leT, leF, hk', hp, e1, e2, e3, e4]
      exact ih (j + 1) (by omega) (s / 2) (n + s % 2) (by rw [Nat.pow_succ] at hs; omega) (by omega) (by omega) _ (by rfl) (by rfl)

theorem ref_Size {s : Nat} (hs : s < 2 ^ 20) (H : Heap) : callFL cfg0 prog0 false 45 [I s] H none = some ⟨.ret (I (pop s)), H, none⟩ := by
  have h1 := size_loop (H := H) (pop s) 20 0 (by omega) s 0 hs (by omega) (by simp [pop])
  refine (callFL_eq fn45 rfl (by simp [Try.f45])).trans ?_
  simp (maxSteps := 1000000) (implicitDefEqProofs := false) (disch := first | rfl | omega | assumption) only [go_sem, ltT, ltF, leT, leF]
  exact h1 _ (by rfl) (by rfl)

end Go.Ab
/-
  The reference, walked: all stacks.
-/
namespace Go.Ab
open Go.Proofs
set_option linter.unusedSimpArgs false
set_option linter.unusedVariables false
set_option maxRecDepth 100000
set_option maxHeartbeats 2000000

variable {H : Heap}


def stA (xs : List Pc) : AV := .sl false (xs.map Pc.av)
/-- What lies at the foot of a call: the list that grows, if it begins there. -/
def XO (H : Heap) (P : Nat) (outs : List (List Pc)) : AO := .grow 1 (if P = H.length then outs.map stA else [])

/-- What a call answers. -/
def stR (H : Heap) (P : Nat) (outs : List (List Pc)) : Option Done := some ⟨.ret (if P < H.length then .gsl P outs.length else .sl false (outs.map stA)), H.set P (.grow 1 (outs.map stA)), none⟩

/-- Where the list that grows lies, when a call begins. -/
def OutAt (H : Heap) (P : Nat) (v : AV) (outs : List (List Pc)) : Prop :=
  (P < H.length ∧ v = .gsl P outs.length ∧ H[P]? = some (.grow 1 (outs.map stA))) ∨ (P = H.length ∧ v = .sl true [] ∧ outs = [])

/-- A stack to go on with, and its pile. -/
structure Beg (w : Wg) (b : Bool) (s : Nat) (xs : List Pc) (p : Pl) : Prop where
  ok : p.Ok w
  px : ∀ x ∈ xs, w.pok x
  nd : (xs.map Pc.b).Nodup
  hl : w.hL b none xs
  lf : ∀ i : Nat, p.left.testBit i = true ↔ s.testBit i = true ∧ ∀ x ∈ xs, x.b ≠ (i : Int)
  tp : p.tp = xs.getLast?
  cn : xs.length + cnt p.left = cnt s

theorem hL_snoc {w : Wg} {b : Bool} {x : Pc} : ∀ (xs : List Pc) (o : Option Pc), w.hL b o (xs ++ [x]) ↔ w.hL b o xs ∧ ∀ y, (xs.getLast?.or o) = some y → w.jt b y x = 0
  | [], o => by simp [Wg.hL]
  | z :: r, o => by
    have ih := hL_snoc (w := w) (b := b) (x := x) r (some z)
    have e : ((z :: r).getLast?.or o) = (r.getLast?.or (some z)) := by
      cases r with
      | nil => rfl
      | cons a s =>
        rw [List.getLast?_cons_cons, List.getLast?_eq_some_getLast (List.cons_ne_nil a s)]
        rfl
    simp only [List.cons_append, Wg.hL, ih, e]
    exact ⟨fun ⟨a, b, c⟩ => ⟨⟨a, b⟩, c⟩, fun ⟨⟨a, b⟩, c⟩ => ⟨a, b, c⟩⟩

theorem tp_iff {p : Pl} {f : Pc → Prop} : (p.some = true → f p.top) ↔ ∀ y, p.tp = some y → f y := by
  simp only [Pl.tp]
  cases p.some <;> simp

theorem Beg.cond {w : Wg} {b : Bool} {s : Nat} {xs : List Pc} {p : Pl} (hb : Beg w b s xs p) {x : Pc} (hx : w.pok x) :
    x ∈ w.plL b p ↔ s.testBit x.b.toNat = true ∧ w.stk (xs ++ [x]) = true ∧ w.hld b (xs ++ [x]) = true := by
  have h3 := tp_iff (p := p) (f := fun y => w.jt b y x = 0)
  rw [plL_iff, h3, hb.tp, hb.lf, stk_iff, hld_hL, hL_snoc, Option.or_none]
  simp only [List.map_append, List.map_cons, List.map_nil]
  rw [List.nodup_append]
  constructor
  · rintro ⟨_, ⟨h1, h2⟩, h3⟩
    refine ⟨h1, ⟨by simp, ?_, hb.nd, List.nodup_cons.2 ⟨by simp, List.nodup_nil⟩, ?_⟩, hb.hl, h3⟩
    · intro y hy
      rcases List.mem_append.1 hy with hy | hy
      · exact hb.px y hy
      · rw [List.mem_singleton.1 hy]; exact hx
    · intro y hy z hz
      rw [List.mem_singleton.1 hz]
      obtain ⟨k, k1, rfl⟩ := List.mem_map.1 hy
      have := h2 k k1
      have := hx.1
      intro e
      exact h2 k k1 (by omega)
  · rintro ⟨h1, ⟨_, h4, _, _, h5⟩, _, h3⟩
    refine ⟨hx, ⟨h1, fun y hy e => ?_⟩, h3⟩
    have := hx.1
    exact h5 y.b (List.mem_map.2 ⟨y, hy, rfl⟩) x.b (List.mem_singleton.2 rfl) (by omega)

/-- What the reference's stacks do from a stack on. -/
def StkOk (w : Wg) (b : Bool) (s : Nat) (vb va : AV) (n : Nat) : Prop :=
  ∀ (H : Heap) (P : Nat) (v : AV) (outs : List (List Pc)) (f : Bool) (xs : List Pc) (p : Pl), Beg w b s xs p → cnt p.left = n → (f = false ∨ n ≠ 0) → OutAt H P v outs →
    (∀ o, WgAt (H.set P (.grow 1 o)) w vb va) → outs.length + (w.ext b n p).length ≤ 1000000 →
    callFL cfg0 prog0 false 69 [.agg [vb, va], I s, .bool b, .sl f (xs.map Pc.av), v] H none = stR H P (outs ++ (w.ext b n p).map (xs ++ ·))

/-- What comes of some places. -/
def Wg.extL (w : Wg) (b : Bool) (n : Nat) (xs : List Pc) (p : Pl) (l : List Pc) : List (List Pc) := (l.flatMap fun x => (w.ext b n (p.next x)).map (x :: ·)).map (xs ++ ·)

/-- All stacks of the blocks of a set. -/
def Wg.stks (w : Wg) (b : Bool) (s : Nat) : List (List Pc) := w.ext b (cnt s) ⟨s, pc0, false⟩

end Go.Ab
/-
  Best.
-/
namespace Go.Ab
open Go.Proofs
set_option linter.unusedSimpArgs false
set_option linter.unusedVariables false
set_option maxRecDepth 100000
set_option maxHeartbeats 2000000

variable {H : Heap}


theorem bst_at {w : Wg} {vb va : AV} (h : WgAt H w vb va) (ms : Memo) (p : Pl) (G : Heap) : TlAt (H ++ (.box (.agg [vb, va]) :: .box (I 0) :: .box (.agg [vb, va]) :: .map 71 (apM w.ps) :: .box (.agg (shC vb va (fcsN w.b) (vwA false) (H.length + 3))) :: .box (.ptr (H.length + 4) 0) :: .box (.func (.func 102) [] [.ptr (H.length + 10) 0, .ptr (H.length + 8) 0, .ptr (H.length + 11) 0]) :: .box (p).av :: .box (.ptr (H.length + 4) 0) :: .map 120 (kM ms) :: .box (.map (H.length + 9)) :: .box (.func (.func 102) [] [.ptr (H.length + 10) 0, .ptr (H.length + 8) 0, .ptr (H.length + 11) 0]) :: G)) (H.length + 9) (H.length + 10) (H.length + 8) (H.length + 11) (H.length + 4) (H.length + 3) w false vb va ms where
  c1 := by rw [get_at' 10]; rfl
  mp := by rw [get_at' 9]; rfl
  c2 := by rw [get_at' 8]; rfl
  c3 := by rw [get_at' 11]; rfl
  sh := ⟨by rw [get_at' 4]; rfl, by rw [get_at' 3]; rfl, h.app _⟩
  nm := by omega

theorem bst_of {w : Wg} {vb va : AV} (h : WgAt H w vb va) (ho : w.Ok) {ms : Memo} (hg : MemoG w false ms) (p : Pl) {p' : Pl} (hp : p'.Ok w) (G : Heap) :
    callFL cfg0 prog0 false 102 [p'.av, .ptr (H.length + 10) 0, .ptr (H.length + 8) 0, .ptr (H.length + 11) 0] (H ++ (.box (.agg [vb, va]) :: .box (I 0) :: .box (.agg [vb, va]) :: .map 71 (apM w.ps) :: .box (.agg (shC vb va (fcsN w.b) (vwA false) (H.length + 3))) :: .box (.ptr (H.length + 4) 0) :: .box (.func (.func 102) [] [.ptr (H.length + 10) 0, .ptr (H.length + 8) 0, .ptr (H.length + 11) 0]) :: .box (p).av :: .box (.ptr (H.length + 4) 0) :: .map 120 (kM ms) :: .box (.map (H.length + 9)) :: .box (.func (.func 102) [] [.ptr (H.length + 10) 0, .ptr (H.length + 8) 0, .ptr (H.length + 11) 0]) :: G)) none = some ⟨.ret (tlA (w.tal false p')), H ++ (.box (.agg [vb, va]) :: .box (I 0) :: .box (.agg [vb, va]) :: .map 71 (apM w.ps) :: .box (.agg (shC vb va (fcsN w.b) (vwA false) (H.length + 3))) :: .box (.ptr (H.length + 4) 0) :: .box (.func (.func 102) [] [.ptr (H.length + 10) 0, .ptr (H.length + 8) 0, .ptr (H.length + 11) 0]) :: .box (p).av :: .box (.ptr (H.length + 4) 0) :: .map 120 (kM (w.kp false ms p')) :: .box (.map (H.length + 9)) :: .box (.func (.func 102) [] [.ptr (H.length + 10) 0, .ptr (H.length + 8) 0, .ptr (H.length + 11) 0]) :: G), none⟩ := by
  rw [of_tal ho (bst_at h ms p G) hp hg, set_at' 9]
  rfl

/-- What Best answers. -/
def Wg.best (w : Wg) : Int × Option (List Pc) × Int := if w.valid then (if 0 < (w.tal false w.full).1 then ((w.tal false w.full).2, some (w.bestL w.bs.length w.full), 0) else (0, none, 4)) else (0, none, 1)
def plA : Option (List Pc) → AV
  | none => .sl true []
  | some l => .sl false (l.map Pc.av)

theorem cnt_full {n : Nat} (h : n ≤ 5) : cnt (2 ^ n - 1) = n := by
  have key : ∀ n : Nat, n < 6 → cnt (2 ^ n - 1) = n := by decide +kernel
  exact key n (by omega)

theorem wr_Best {w : Wg} {vb va : AV} (h : WgAt H w vb va) (hl : w.bs.length ≤ 1000 ∧ w.ps.length ≤ 1000) :
    callFL cfg0 prog0 false 23 [.agg [vb, va]] H none = some ⟨.ret (.tup [I w.best.1, plA w.best.2.1, I w.best.2.2]), H, none⟩ := by
  have s1 := h.bs.scal
  have s2 := h.ps.scal
  have hD := fun (e : Int) (a : AO) (G : Heap) => wd_Bests (H.length + 1) e 0 (H ++ (a :: .box (I 0) :: G)) (by rw [get_at' 1]; rfl)
  simp only [Wg.best]
  cases hv : w.valid
  · have hO := wr_openX (h.app [.box (.agg [vb, va]), .box (I 0)]) hl hv
    simp only [Bool.false_eq_true, if_false, plA]
    refine (callFL_eq fn23 rfl (by simp [Try.f23])).trans ?_
    simp (maxSteps := 1000000) (implicitDefEqProofs := false) (disch := first | rfl | omega | assumption) only [go_sem, ltT, ltF, leT, leF, s1, s2, hO, hD]
    done
  have ho := w.valid_iff.1 hv
  have hO := wr_openA (h.app [.box (.agg [vb, va]), .box (I 0)]) hl hv
  have hS := opG_in (H := H) (G0 := [.box (.agg [vb, va]), .box (I 0)]) (n := H.length + 2) (by simp) h
  have hA : ∀ G : Heap, _ := fun G => wr_all (l := H.length + 4) (m := H.length + 3) (b := false) ((show ShAt (H ++ (.box (.agg [vb, va]) :: .box (I 0) :: .box (.agg [vb, va]) :: .map 71 (apM w.ps) :: .box (.agg (shC vb va (fcsN w.b) (vwA false) (H.length + 3))) :: G)) (H.length + 4) (H.length + 3) w false vb va from ⟨by rw [get_at' 4]; rfl, by rw [get_at' 3]; rfl, h.app _⟩)) ho.n.2
  have hT := fun G => wr_tallies (H.length + 4) G
  have g0 := memG_nil w false
  have g1 := kp_g ho g0 (full_ok w)
  have g2 := kp_g ho g1 (full_ok w)
  have hF1 := fun G => bst_of h ho g0 w.full (full_ok w) G
  have hF2 := fun G => bst_of h ho g1 w.full (full_ok w) G
  have hfl : w.full = ⟨2 ^ w.bs.length - 1, pc0, false⟩ := rfl
  have hcf : cnt w.full.left = w.bs.length := cnt_full ho.n.2
  by_cases ht : 0 < (w.tal false w.full).1
  · have h1 := best_loop h ho (w.tal false w.full).2 w.bs.length (by have := ho.n.2; simp only [Wg.n] at this; omega) (w.bestL w.bs.length w.full) w.bs.length 0 (by omega) [] [] trivial _ w.full [] (full_ok w) g2 hcf ht rfl rfl
    simp only [if_true, if_pos ht, plA]
    have ek : kM [] = [] := rfl
    rw [hfl] at hF1 hF2 h1 ht ⊢
    simp only [opG, tlG, Pl.av, tlA, pc0, ek, List.map_nil, List.length_nil, List.length_append, List.length_cons, List.length_nil, Nat.zero_add, Nat.reduceAdd, Nat.add_assoc, List.append_assoc, List.cons_append, List.nil_append, List.append_nil] at hO hA hT hF1 hF2 h1 ht ⊢
    refine (callFL_eq fn23 rfl (by simp [Try.f23])).trans ?_
    simp (maxSteps := 1000000) (implicitDefEqProofs := false) (disch := first | rfl | omega | assumption) only [go_sem, ltT, ltF, leT, leF, s1, s2, hO]
    rw [chkK_of]; rotate_left; kernel_rfl
    simp (maxSteps := 1000000) (implicitDefEqProofs := false) (disch := first | rfl | omega | assumption) only [go_sem, ltT, ltF, leT, leF, s1, s2, hO, hA, hT, hF1, hF2, wr_must, ht]
    exact h1 _ (by rfl) (by rfl) (by rfl) (by rfl) (by rfl) (by rfl) (by rfl) (by rfl)
  · simp only [if_true, if_neg ht, plA]
    have ek : kM [] = [] := rfl
    rw [hfl] at hF1 ht
    simp only [opG, tlG, Pl.av, tlA, pc0, ek, List.length_append, List.length_cons, List.length_nil, Nat.zero_add, Nat.reduceAdd, Nat.add_assoc, List.append_assoc, List.cons_append, List.nil_append, List.append_nil] at hO hA hT hF1 ht ⊢
    refine (callFL_eq fn23 rfl (by simp [Try.f23])).trans ?_
    simp (maxSteps := 1000000) (implicitDefEqProofs := false) (disch := first | rfl | omega | assumption) only [go_sem, ltT, ltF, leT, leF, s1, s2, hO]
    rw [chkK_of]; rotate_left; kernel_rfl
    simp (maxSteps := 1000000) (implicitDefEqProofs := false) (disch := first | rfl | omega | assumption) only [go_sem, ltT, ltF, leT, leF, s1, s2, hO, hA, hT, hF1, wr_must, ht, hD]
    done

end Go.Ab
/-
  Sets in order; Most, Polish.
-/
namespace Go.Ab
open Go.Proofs
set_option linter.unusedSimpArgs false
set_option linter.unusedVariables false
set_option maxRecDepth 100000
set_option maxHeartbeats 2000000

variable {H : Heap}


/-- All sets, as they come. -/
def allS (n : Nat) : List Nat := List.range (2 ^ n)

theorem w_cmp : Cmp (.func 104) [] popK 1024 where
  call x y G hx hy := by
    have h1 := fun G : Heap => ones (H := G) hx
    have h2 := fun G : Heap => ones (H := G) hy
    have b1 := popF_le 20 x
    have b2 := popF_le 20 y
    have e : IntKind.i64.wrap ((pop x : Int) - (pop y : Int)) = (pop x : Int) - (pop y : Int) := w64 (by simp only [pop]; omega) (by simp only [pop]; omega)
    simp only [callVL_func, List.append_nil, popK]
    refine (callFL_eq fn104 rfl (by simp [Try.f104])).trans ?_
    simp (maxSteps := 1000000) (implicitDefEqProofs := false) (disch := first | rfl | omega | assumption) only [go_sem, h1, h2, e]
  bd x := by have := popF_le 20 x; simp only [popK, pop]; omega

def popD (n : Nat) : Int := -(pop n : Int)

theorem m_cmp : Cmp (.func 80) [] popD 1024 where
  call x y G hx hy := by
    have h1 := fun G : Heap => ones (H := G) hx
    have h2 := fun G : Heap => ones (H := G) hy
    have b1 := popF_le 20 x
    have b2 := popF_le 20 y
    have e : IntKind.i64.wrap ((pop y : Int) - (pop x : Int)) = (pop y : Int) - (pop x : Int) := w64 (by simp only [pop]; omega) (by simp only [pop]; omega)
    have e2 : popD x - popD y = (pop y : Int) - (pop x : Int) := by simp only [popD]; omega
    simp only [callVL_func, List.append_nil, e2]
    refine (callFL_eq fn80 rfl (by simp [Try.f80])).trans ?_
    simp (maxSteps := 1000000) (implicitDefEqProofs := false) (disch := first | rfl | omega | assumption) only [go_sem, h1, h2, e]
  bd x := by have := popF_le 20 x; simp only [popD, pop]; omega

theorem allS_len (n : Nat) : (allS n).length = 2 ^ n := by simp [allS]
theorem allS_small {n : Nat} (h : n ≤ 10) : Small 1024 (allS n) := by
  intro k hk
  rw [allS_len] at hk
  have : (2 : Nat) ^ n ≤ 2 ^ 10 := Nat.pow_le_pow_right (by omega) h
  have e : (allS n).getD k 0 = k := by simp [allS, hk]
  rw [e]; omega

theorem small_stab {key : Nat → Int} {B : Nat} {n : Nat} {L : List Nat} {rk : Nat → Nat} (hl : L.length = n) (hB : Small B L) (hu : ∀ k l, k < l → l < n → rk (gt L k) < rk (gt L l)) : Small B (stab key n L) := by
  obtain ⟨_, h2⟩ := stab_srt (key := key) (rk := rk) hl hu
  intro k hk
  rw [stab_len, hl] at hk
  obtain ⟨j, j1, j2, e⟩ := h2.fwd k (by omega) hk
  show gt (stab key n L) k < B
  rw [e]
  exact hB j (by omega)

theorem sets_loop (n : Nat) (hn : n ≤ 10) (m : Nat) (hm : m = 2 ^ n) (hm2 : m ≤ 1024) :
    ∀ (q j : Nat), j + q = m → ∀ (L : List Nat), L = List.range j → ∀ E : Env, E.get 2 = .gsl H.length j → E.get 5 = U m → E.get 6 = U j →
    Option.map (finK true H.length) (execL cfg0 prog0 ⟨78, none, false, H.length⟩ (todoAt Try.f78 2) ⟨E, [], H ++ [.grow 1 (L.map U)], none⟩) = some ⟨.ret (.gsl H.length m), H ++ [.grow 1 ((stab popK m (allS n)).map U)], none⟩ := by
  intro q
  have hp : H.length < (H ++ [AO.grow 1 ((allS n).map U)]).length := by simp
  have hSo := so_sort (H := H ++ [AO.grow 1 ((allS n).map U)]) w_cmp hp (n := m) (by omega) (L := allS n) (by rw [allS_len, hm]) (allS_small hn)
  have e1 : ∀ M : List Nat, GH (H ++ [AO.grow 1 ((allS n).map U)]) H.length M = H ++ [AO.grow 1 (M.map U)] := fun M => by simp [GH]
  rw [e1, e1] at hSo
  induction q with
  | zero =>
    intro j hj L hL E g2 g5 g6
    have hk' : ¬ (j : Int) < ((m : Nat) : Int) := by omega
    have ej : j = m := by omega
    subst ej
    subst hL
    have ea : List.range j = allS n := by rw [hm]; rfl
    rw [ea]
    simp only [loopIt, todoPast, todoAt, todoOf, firstReg, ↓reduceIte, Option.some.injEq, Nat.reduceEqDiff, reduceCtorEq, Try.f78]
    rw [execL_inLoop]
    simp (maxSteps := 1000000) (implicitDefEqProofs := false) (disch := first | rfl | omega | assumption) only [go_sem, g2, g5, g6, ltT, ltF, leT, leF, hk', hSo]
    done
  | succ q ih =>
    intro j hj L hL E g2 g5 g6
    have hk' : (j : Int) < ((m : Nat) : Int) := by omega
    have hk2 : j < m := by omega
    subst hL
    have hw : IntKind.u64.wrap ((j : Int) + 1) = ((j + 1 : Nat) : Int) := wrapU (n := j + 1) (by omega)
    have la : ((List.range j).map U).length = j := by simp
    have hadd : addElem (H ++ [.grow 1 ((List.range j).map U)]) 1 false (.gsl H.length j) [U j] = some (.gsl H.length (j + 1), H ++ [.grow 1 ((List.range (j + 1)).map U)]) := by
      rw [add_gsl (xs := (List.range j).map U) (by rw [get_at]; rfl) la rfl rfl (by simp; omega), set_at, List.range_succ, List.map_append]
      rfl
    simp only [loopIt, todoPast, todoAt, todoOf, firstReg, ↓reduceIte, Option.some.injEq, Nat.reduceEqDiff, reduceCtorEq, Try.f78]
    rw [execL_inLoop]
    simp (maxSteps := 1000000) (implicitDefEqProofs := false) (disch := first | rfl | omega | assumption) only [go_sem, g2, g5, g6, ltT, ltF, leT, leF, hk', hadd, hw]
    exact ih (j + 1) (by omega) (List.range j ++ [j]) List.range_succ.symm _ (by rfl) (by exact g5) (by rfl)

theorem gt_all {n k : Nat} (h : k < 2 ^ n) : gt (allS n) k = k := by simp [gt, allS, h]
theorem allS_up (n : Nat) : ∀ k l, k < l → l < 2 ^ n → id (gt (allS n) k) < id (gt (allS n) l) := fun k l h1 h2 => by
  rw [gt_all h2, gt_all (Nat.lt_trans h1 h2)]
  exact h1

def setL (n : Nat) : List Nat := stab popK (2 ^ n) (allS n)
theorem setL_len (n : Nat) : (setL n).length = 2 ^ n := by rw [setL, stab_len, allS_len]
theorem setL_srt (n : Nat) : Srt popK id (gt (setL n)) 0 (2 ^ n) ∧ Ib (gt (allS n)) (gt (setL n)) 0 (2 ^ n) := stab_srt (allS_len n) (allS_up n)
theorem setL_lt (n : Nat) : Small (2 ^ n) (setL n) := small_stab (rk := id) (allS_len n) (fun k hk => by
    rw [allS_len] at hk
    show gt (allS n) k < 2 ^ n
    rw [gt_all hk]; exact hk) (allS_up n)
theorem setL_has {n s : Nat} (h : s < 2 ^ n) : ∃ k, k < 2 ^ n ∧ gt (setL n) k = s := by
  obtain ⟨k, h1, h2, h3⟩ := (setL_srt n).2.bwd s (by omega) h
  exact ⟨k, h2, by rw [← h3, gt_all h]⟩

/-- The rank of a set among those in order. -/
def rkP (x : Nat) : Nat := pop x * 1024 + x

theorem setL_up {n : Nat} (hn : n ≤ 10) : ∀ k l, k < l → l < 2 ^ n → rkP (gt (setL n) k) < rkP (gt (setL n) l) := fun k l h1 h2 => by
  have h3 : (2 : Nat) ^ n ≤ 2 ^ 10 := Nat.pow_le_pow_right (by omega) hn
  have a := setL_lt n k (by rw [setL_len]; omega)
  have b := setL_lt n l (by rw [setL_len]; omega)
  have c := (setL_srt n).1 k l (by omega) h1 h2
  simp only [lx, popK, id] at c
  simp only [rkP, gt] at *
  omega

/-- All sets, the greatest ones first. -/
def mostL (n : Nat) : List Nat := stab popD (2 ^ n) (setL n)
theorem mostL_len (n : Nat) : (mostL n).length = 2 ^ n := by rw [mostL, stab_len, setL_len]
theorem mostL_lt {n : Nat} (hn : n ≤ 10) : Small (2 ^ n) (mostL n) := small_stab (rk := rkP) (setL_len n) (setL_lt n) (setL_up hn)
theorem wr_sets (n : Nat) (hn : n ≤ 10) (H : Heap) : callFL cfg0 prog0 false 78 [I n] H none = some ⟨.ret (.gsl H.length (2 ^ n)), H ++ [.grow 1 ((setL n).map U)], none⟩ := by
  have h2 : (2 : Nat) ^ n ≤ 2 ^ 10 := Nat.pow_le_pow_right (by omega) hn
  have h1 := sets_loop (H := H) n hn (2 ^ n) rfl (by omega) (2 ^ n) 0 (by omega) [] rfl
  have e1 := shlU (k := n) (by omega)
  have z : ¬ (n : Int) < 0 := by omega
  refine (callFL_keep fn78 rfl (by simp [Try.f78])).trans ?_
  simp (maxSteps := 1000000) (implicitDefEqProofs := false) (disch := first | rfl | omega | assumption) only [go_sem, e1, z]
  exact h1 _ (by rfl) (by rfl) (by rfl)


end Go.Ab
/-
  Most.
-/
namespace Go.Ab
open Go.Proofs
set_option linter.unusedSimpArgs false
set_option linter.unusedVariables false
set_option maxRecDepth 100000
set_option maxHeartbeats 2000000

variable {H : Heap}


def Wg.canS (w : Wg) (s : Nat) : Bool := decide (0 < (w.tal false ⟨s, pc0, false⟩).1)
def Wg.mostS (w : Wg) : Option Nat := firstF w.canS (mostL w.bs.length) 0 (mostL w.bs.length).length
def Wg.most (w : Wg) : Int × Int × Int := if w.valid then ((pop (w.mostS.getD 0) : Nat), (w.mostS.getD 0 : Nat), 0) else (0, 0, 1)

theorem firstF_lt {b : Nat → Bool} {L : List Nat} {B : Nat} (hB : Small B L) {x : Nat} (h : firstF b L 0 L.length = some x) : x < B := by
  obtain ⟨i, h1, h2, h3, _⟩ := (findF_some _ _ _ _).1 h
  split at h3
  · cases h3
    exact hB i (by omega)
  · cases h3

theorem wr_Most {w : Wg} {vb va : AV} (h : WgAt H w vb va) (hl : w.bs.length ≤ 1000 ∧ w.ps.length ≤ 1000) :
    callFL cfg0 prog0 false 29 [.agg [vb, va]] H none = some ⟨.ret (.tup [I w.most.1, I w.most.2.1, I w.most.2.2]), H, none⟩ := by
  have s1 := h.bs.scal
  have s2 := h.ps.scal
  have n1 := h.bs.len
  rw [List.length_map] at n1
  have c1 := h.bs.cel
  have hN := fun G => wd_Mostn (H.length + 1) G
  have hD := fun (e : Int) (a : AO) (G : Heap) => wd_Mosts (H.length + 1) e 0 (H ++ (a :: .box (I 0) :: G)) (by rw [get_at' 1]; rfl)
  simp only [Wg.most]
  cases hv : w.valid
  · have hO := wr_openX (h.app [.box (.agg [vb, va]), .box (I 0)]) hl hv
    simp only [Bool.false_eq_true, if_false]
    refine (callFL_eq fn29 rfl (by simp [Try.f29])).trans ?_
    simp (maxSteps := 1000000) (implicitDefEqProofs := false) (disch := first | rfl | omega | assumption) only [go_sem, ltT, ltF, leT, leF, s1, s2, hO, hD]
    done
  have ho := w.valid_iff.1 hv
  have h5 := ho.n.2
  simp only [Wg.n] at h5
  have hp2 : (2 : Nat) ^ w.bs.length ≤ 2 ^ 5 := Nat.pow_le_pow_right (by omega) h5
  have hO := wr_openA (h.app [.box (.agg [vb, va]), .box (I 0)]) hl hv
  have hS := opG_in (H := H) (G0 := [.box (.agg [vb, va]), .box (I 0)]) (n := H.length + 2) (by simp) h
  have hSe := fun G => wr_sets w.bs.length (by omega) G
  have hSo := so_sort (H := H ++ [.box (.agg [vb, va]), .box (I 0), .box (.agg [vb, va]), .map 71 (apM w.ps), .box (.agg (shC vb va (fcsN w.b) (vwA false) (H.length + 3))), .grow 1 ((setL w.bs.length).map U)]) m_cmp (p := H.length + 5) (by simp) (n := 2 ^ w.bs.length) (by omega) (L := setL w.bs.length) (setL_len _) (fun k hk => by
    have := setL_lt w.bs.length k hk
    omega)
  have e1 : ∀ (o0 o1 o2 o3 o4 o5 : AO) (M : List Nat), GH (H ++ [o0, o1, o2, o3, o4, o5]) (H.length + 5) M = H ++ [o0, o1, o2, o3, o4, .grow 1 (M.map U)] := fun o0 o1 o2 o3 o4 o5 M => by simp [GH]
  rw [e1, e1] at hSo
  have hsl : SlOk (H ++ [.box (.agg [vb, va]), .box (I 0), .box (.agg [vb, va]), .map 71 (apM w.ps), .box (.agg (shC vb va (fcsN w.b) (vwA false) (H.length + 3))), .grow 1 ((mostL w.bs.length).map U)]) 1 (.gsl (H.length + 5) (2 ^ w.bs.length)) ((mostL w.bs.length).map U) :=
    ⟨⟨by rw [get_at']; rfl, by rw [List.length_map, mostL_len]⟩, fun x hx => by obtain ⟨i, _, rfl⟩ := List.mem_map.1 hx; rfl⟩
  have hF := wr_firstU hsl (by rw [mostL_len]; omega) (.func 75) [.ptr (H.length + 4) 0] [] w.canS rfl (fun j G hj => by
    have hc := wr_can (hS (.grow 1 ((mostL w.bs.length).map U) :: G)) ho (mostL_lt (by omega) j hj)
    rw [callVL_func]
    simp only [opG, List.append_assoc, List.cons_append, List.nil_append, Nat.add_assoc, Nat.reduceAdd] at hc ⊢
    exact hc)
  have hmS : w.mostS = firstF w.canS (mostL w.bs.length) 0 (mostL w.bs.length).length := rfl
  rw [← hmS] at hF
  have hmL : stab popD (2 ^ w.bs.length) (setL w.bs.length) = mostL w.bs.length := rfl
  rw [hmL] at hSo
  simp only [if_true]
  simp only [opG, List.length_append, List.length_cons, List.length_nil, Nat.zero_add, Nat.reduceAdd, Nat.add_assoc, List.append_assoc, List.cons_append, List.nil_append, List.append_nil] at hO ⊢
  cases hm : w.mostS with
  | none =>
    rw [hm] at hF
    have hOn := fun G : Heap => ones (H := G) (x := 0) (by omega)
    simp only [firA, Option.getD_none] at hF ⊢
    refine (callFL_eq fn29 rfl (by simp [Try.f29])).trans ?_
    simp (maxSteps := 1000000) (implicitDefEqProofs := false) (disch := first | rfl | omega | assumption) only [go_sem, ltT, ltF, leT, leF, s1, s2, hO]
    simp (maxSteps := 1000000) (implicitDefEqProofs := false) (disch := first | rfl | omega | assumption) only [go_sem, ltT, ltF, leT, leF, s1, s2, n1, c1, hO, hSe, hSo, hF, hOn, hN]
    done
  | some x =>
    rw [hm] at hF
    have hxl := firstF_lt (mostL_lt (by omega)) (hmS.symm.trans hm)
    have hOn := fun G : Heap => ones (H := G) (x := x) (by omega)
    simp only [firA, Option.getD_some] at hF ⊢
    refine (callFL_eq fn29 rfl (by simp [Try.f29])).trans ?_
    simp (maxSteps := 1000000) (implicitDefEqProofs := false) (disch := first | rfl | omega | assumption) only [go_sem, ltT, ltF, leT, leF, s1, s2, hO]
    simp (maxSteps := 1000000) (implicitDefEqProofs := false) (disch := first | rfl | omega | assumption) only [go_sem, ltT, ltF, leT, leF, s1, s2, n1, c1, hO, hSe, hSo, hF, hOn, hN]
    done

end Go.Ab
