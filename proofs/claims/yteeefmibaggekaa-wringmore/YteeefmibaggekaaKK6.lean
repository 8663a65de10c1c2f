/-
  All ways to go on with a pile.
-/
import Derived.Test.YteeefmibaggekaaKK2
import Derived.Test.YteeefmibaggekaaKK5
import Derived.Test.YteeefmibaggekaaKK1
import Derived.Test.YteeefmibaggekaaKK4
namespace Go.Ab
open Go.Proofs
set_option linter.unusedSimpArgs false
set_option linter.unusedVariables false
set_option maxRecDepth 100000
set_option maxHeartbeats 2000000

variable {H : Heap}

/-! ### All ways to go on -/

/-- All ways to go on with a pile. -/
def Wg.ext (w : Wg) (b : Bool) : Nat → Pl → List (List Pc)
  | 0, _ => [[]]
  | n + 1, p => if p.left = 0 then [[]] else (w.plL b p).flatMap fun x => (w.ext b n (p.next x)).map (x :: ·)

/-- The film of going on. -/
def Wg.fmL (w : Wg) : Pl → List Pc → Int
  | _, [] => 0
  | p, x :: r => w.film p x + w.fmL (p.next x) r

/-- How many there are, and how little it is. -/
structure LeastOf (f : List Pc → Int) (L : List (List Pc)) (t : Int × Int) : Prop where
  len : t.1 = L.length
  le : ∀ l ∈ L, t.2 ≤ f l
  ex : L ≠ [] → ∃ l ∈ L, f l = t.2

theorem tal_ext (w : Wg) (b : Bool) : ∀ (n : Nat) (p : Pl), LeastOf (w.fmL p) (w.ext b n p) (w.talF b n p)
  | 0, p => ⟨rfl, fun l hl => by simp only [Wg.ext, List.mem_singleton] at hl; subst hl; exact Int.le_refl _, fun _ => ⟨[], by simp [Wg.ext], rfl⟩⟩
  | n + 1, p => by
    by_cases h0 : p.left = 0
    · simp only [Wg.ext, Wg.talF, if_pos h0]
      exact ⟨rfl, fun l hl => by simp only [List.mem_singleton] at hl; subst hl; exact Int.le_refl _, fun _ => ⟨[], by simp, rfl⟩⟩
    · simp only [Wg.ext, Wg.talF, if_neg h0]
      have key : ∀ (xs : List Pc) (L : List (List Pc)) (st : Int × Int), LeastOf (w.fmL p) L st → LeastOf (w.fmL p) (L ++ xs.flatMap fun x => (w.ext b n (p.next x)).map (x :: ·)) (xs.foldl (w.stT (w.talF b n) p) st) := by
        intro xs
        induction xs with
        | nil => intro L st h; simpa using h
        | cons x r ih =>
          intro L st h
          have hx := tal_ext w b n (p.next x)
          rw [List.flatMap_cons, List.foldl_cons, ← List.append_assoc]
          refine ih _ _ ?_
          have hf : ∀ l, w.fmL p (x :: l) = w.film p x + w.fmL (p.next x) l := fun _ => rfl
          simp only [Wg.stT]
          generalize w.ext b n (p.next x) = E at *
          generalize w.talF b n (p.next x) = t at *
          obtain ⟨t1, t2⟩ := t
          obtain ⟨s1, s2⟩ := st
          obtain ⟨e1, e2, e3⟩ := hx
          obtain ⟨d1, d2, d3⟩ := h
          simp only at e1 e2 e3 d1 d2 d3 ⊢
          by_cases ht : t1 = 0
          · have hE : E = [] := List.length_eq_zero_iff.1 (by omega)
            subst hE
            rw [if_pos ht]
            simp only [List.map_nil, List.append_nil]
            exact ⟨d1, d2, d3⟩
          · rw [if_neg ht]
            have hE : E ≠ [] := by rintro rfl; simp at e1; omega
            obtain ⟨l0, l1, l2⟩ := e3 hE
            refine ⟨by simp only [List.length_append, List.length_map]; omega, ?_, ?_⟩
            · intro l hl
              rcases List.mem_append.1 hl with hl | hl
              · have hd := d2 l hl
                have : L ≠ [] := List.ne_nil_of_mem hl
                have : s1 ≠ 0 := by
                  intro h0
                  exact this (List.length_eq_zero_iff.1 (by omega))
                simp only
                split <;> omega
              · obtain ⟨m, m1, rfl⟩ := List.mem_map.1 hl
                have := e2 m m1
                rw [hf]
                simp only
                split <;> omega
            · intro _
              simp only
              by_cases hc : s1 = 0 ∨ t2 + w.film p x < s2
              · rw [if_pos hc]
                exact ⟨x :: l0, List.mem_append_right _ (List.mem_map.2 ⟨l0, l1, rfl⟩), by rw [hf, l2]; omega⟩
              · rw [if_neg hc]
                have : L ≠ [] := by rintro rfl; simp at d1; omega
                obtain ⟨m, m1, m2⟩ := d3 this
                exact ⟨m, List.mem_append_left _ m1, m2⟩
      have := key (w.plL b p) [] (0, 0) ⟨rfl, fun l hl => by simp at hl, fun h => absurd rfl h⟩
      simpa using this

/-! ### What a way to go on is -/

theorem plU_iff {w : Wg} {b : Bool} {p : Pl} {j : Nat} {x : Pc} : ∀ (q u : Nat), x ∈ w.plU b p j u q ↔ x.b = (j : Int) ∧ (∃ k : Nat, x.u = (k : Int) ∧ u ≤ k ∧ k < u + q) ∧ w.ok1 b p x = true
  | 0, u => by
    simp only [Wg.plU, List.not_mem_nil, false_iff]
    rintro ⟨_, ⟨k, _, h1, h2⟩, _⟩
    omega
  | q + 1, u => by
    simp only [Wg.plU]
    have ih := plU_iff (w := w) (b := b) (p := p) (j := j) (x := x) q (u + 1)
    have back : (x.b = (j : Int) ∧ (∃ k : Nat, x.u = (k : Int) ∧ u ≤ k ∧ k < u + (q + 1)) ∧ w.ok1 b p x = true) ↔ (x = ⟨j, u⟩ ∧ w.ok1 b p ⟨j, u⟩ = true) ∨ (x.b = (j : Int) ∧ (∃ k : Nat, x.u = (k : Int) ∧ u + 1 ≤ k ∧ k < u + 1 + q) ∧ w.ok1 b p x = true) := by
      constructor
      · rintro ⟨h1, ⟨k, h2, h3, h4⟩, h5⟩
        by_cases hk : k = u
        · subst hk
          have : x = ⟨j, k⟩ := by obtain ⟨a, c⟩ := x; simp only at h1 h2; rw [h1, h2]
          subst this
          exact .inl ⟨rfl, h5⟩
        · exact .inr ⟨h1, ⟨k, h2, by omega, by omega⟩, h5⟩
      · rintro (⟨rfl, h⟩ | ⟨h1, ⟨k, h2, h3, h4⟩, h5⟩)
        · exact ⟨rfl, ⟨u, rfl, by omega, by omega⟩, h⟩
        · exact ⟨h1, ⟨k, h2, by omega, by omega⟩, h5⟩
    rw [back, ← ih]
    cases hok : w.ok1 b p ⟨j, u⟩
    · simp
    · simp [List.mem_cons]

theorem plB_iff {w : Wg} {b : Bool} {p : Pl} {x : Pc} : ∀ (q j : Nat), x ∈ w.plB b p j q ↔ (∃ k : Nat, x.b = (k : Int) ∧ j ≤ k ∧ k < j + q ∧ p.left.testBit k = true) ∧ (0 ≤ x.u ∧ x.u ≤ 1) ∧ w.ok1 b p x = true
  | 0, j => by
    simp only [Wg.plB, List.not_mem_nil, false_iff]
    rintro ⟨⟨k, _, h1, h2, _⟩, _⟩
    omega
  | q + 1, j => by
    have ih := plB_iff (w := w) (b := b) (p := p) (x := x) q (j + 1)
    have hU : x ∈ w.plU b p j 0 2 ↔ x.b = (j : Int) ∧ (0 ≤ x.u ∧ x.u ≤ 1) ∧ w.ok1 b p x = true := by
      rw [plU_iff]
      constructor
      · rintro ⟨h1, ⟨k, h2, h3, h4⟩, h5⟩
        exact ⟨h1, by omega, h5⟩
      · rintro ⟨h1, h2, h5⟩
        exact ⟨h1, ⟨x.u.toNat, by omega, by omega, by omega⟩, h5⟩
    simp only [Wg.plB]
    cases hb : p.left.testBit j
    · simp only [Bool.false_eq_true, if_false, ih]
      constructor
      · rintro ⟨⟨k, h1, h2, h3, h4⟩, h5⟩
        exact ⟨⟨k, h1, by omega, by omega, h4⟩, h5⟩
      · rintro ⟨⟨k, h1, h2, h3, h4⟩, h5⟩
        have : k ≠ j := by rintro rfl; rw [hb] at h4; cases h4
        exact ⟨⟨k, h1, by omega, by omega, h4⟩, h5⟩
    · simp only [if_true, List.mem_append, ih, hU]
      constructor
      · rintro (⟨h1, h2⟩ | ⟨⟨k, h1, h2, h3, h4⟩, h5⟩)
        · exact ⟨⟨j, h1, by omega, by omega, hb⟩, h2⟩
        · exact ⟨⟨k, h1, by omega, by omega, h4⟩, h5⟩
      · rintro ⟨⟨k, h1, h2, h3, h4⟩, h5⟩
        by_cases hk : k = j
        · subst hk; exact .inl ⟨h1, h5⟩
        · exact .inr ⟨⟨k, h1, by omega, by omega, h4⟩, h5⟩

theorem plL_iff {w : Wg} {b : Bool} {p : Pl} {x : Pc} : x ∈ w.plL b p ↔ w.pok x ∧ p.left.testBit x.b.toNat = true ∧ (p.some = true → w.jt b p.top x = 0) := by
  have hk : w.ok1 b p x = true ↔ (p.some = true → w.jt b p.top x = 0) := by
    simp only [Wg.ok1]
    cases p.some <;> simp
  rw [Wg.plL, plB_iff, hk]
  constructor
  · rintro ⟨⟨k, h1, h2, h3, h4⟩, h5, h6⟩
    have : x.b.toNat = k := by omega
    exact ⟨⟨by omega, by simp only [Wg.n]; omega, h5⟩, by rw [this]; exact h4, h6⟩
  · rintro ⟨⟨h1, h2, h3, h4⟩, h5, h6⟩
    simp only [Wg.n] at h2
    exact ⟨⟨x.b.toNat, by omega, by omega, by omega, h5⟩, ⟨h3, h4⟩, h6⟩

/-- Whether a list goes on with a pile to the end. -/
def Wg.goes (w : Wg) (b : Bool) : Pl → List Pc → Prop
  | p, [] => p.left = 0
  | p, x :: r => x ∈ w.plL b p ∧ w.goes b (p.next x) r

theorem goes_zero {w : Wg} {b : Bool} {p : Pl} (h : p.left = 0) (l : List Pc) : w.goes b p l ↔ l = [] := by
  cases l with
  | nil => simp [Wg.goes, h]
  | cons x r =>
    simp only [Wg.goes, reduceCtorEq, iff_false]
    rintro ⟨h1, _⟩
    have := (plL_iff.1 h1).2.1
    rw [h, Nat.zero_testBit] at this
    cases this

theorem mem_ext {w : Wg} (ho : w.Ok) (b : Bool) : ∀ (n : Nat) (p : Pl) (l : List Pc), p.Ok w → cnt p.left ≤ n → (l ∈ w.ext b n p ↔ w.goes b p l)
  | 0, p, l, hp, hc => by
    have h0 := (cnt_zero (hp.lt64 ho)).1 (by omega)
    rw [goes_zero h0]
    simp [Wg.ext]
  | n + 1, p, l, hp, hc => by
    by_cases h0 : p.left = 0
    · rw [goes_zero h0]
      simp [Wg.ext, h0]
    · simp only [Wg.ext, if_neg h0, List.mem_flatMap, List.mem_map]
      cases l with
      | nil =>
        simp only [Wg.goes, h0, iff_false]
        rintro ⟨x, _, m, _, h⟩
        cases h
      | cons y r =>
        simp only [Wg.goes]
        constructor
        · rintro ⟨x, h1, m, h2, h3⟩
          cases h3
          obtain ⟨g1, g2⟩ := next_ok ho hp h1
          exact ⟨h1, (mem_ext ho b n _ _ g1 (by omega)).1 h2⟩
        · rintro ⟨h1, h2⟩
          obtain ⟨g1, g2⟩ := next_ok ho hp h1
          exact ⟨y, h1, r, (mem_ext ho b n _ _ g1 (by omega)).2 h2, rfl⟩

theorem next_bit {w : Wg} (ho : w.Ok) {b : Bool} {p : Pl} (hp : p.Ok w) {x : Pc} (hx : x ∈ w.plL b p) (i : Nat) : (p.next x).left.testBit i = (p.left.testBit i && i != x.b.toNat) := by
  obtain ⟨h1, h2, _⟩ := plL_iff.1 hx
  have h5 := ho.n.2
  have hs := hp.lt64 ho
  have hj : x.b.toNat < 6 := by have := h1.1; have := h1.2.1; omega
  have key : ∀ j : Nat, j < 6 → ∀ s : Nat, s < 64 → s.testBit j = true → ∀ i : Nat, i < 6 → (s - 2 ^ j).testBit i = (s.testBit i && i != j) := by decide +kernel
  simp only [Pl.next]
  by_cases hi : i < 6
  · exact key _ hj _ hs h2 i hi
  · have hb : ∀ s : Nat, s < 64 → s.testBit i = false := fun s hs => Nat.testBit_lt_two_pow (Nat.lt_of_lt_of_le hs (show 2 ^ 6 ≤ 2 ^ i from Nat.pow_le_pow_right (by omega) (by omega)))
    rw [hb _ (Nat.lt_of_le_of_lt (Nat.sub_le _ _) hs), hb _ hs]
    rfl

/-- Whether all joints hold. -/
def Wg.hL (w : Wg) (b : Bool) : Option Pc → List Pc → Prop
  | _, [] => True
  | o, x :: r => (∀ y, o = some y → w.jt b y x = 0) ∧ w.hL b (some x) r
def Pl.tp (p : Pl) : Option Pc := if p.some then Option.some p.top else Option.none
theorem goes_iff {w : Wg} (ho : w.Ok) {b : Bool} : ∀ (l : List Pc) (p : Pl), p.Ok w → (w.goes b p l ↔ (∀ x ∈ l, w.pok x) ∧ (l.map Pc.b).Nodup ∧ (∀ i : Nat, p.left.testBit i = true ↔ ∃ x ∈ l, x.b = (i : Int)) ∧ w.hL b p.tp l)
  | [], p, hp => by
    simp only [Wg.goes, List.not_mem_nil, false_implies, implies_true, List.map_nil, List.nodup_nil, false_and, exists_false, iff_false, Wg.hL, and_true, true_and]
    constructor
    · intro h i; rw [h, Nat.zero_testBit]; simp
    · intro h
      refine Nat.eq_of_testBit_eq fun i => ?_
      rw [Nat.zero_testBit]
      exact Bool.eq_false_iff.2 (h i)
  | x :: r, p, hp => by
    simp only [Wg.goes, Wg.hL]
    have htp : (∀ y, p.tp = some y → w.jt b y x = 0) ↔ (p.some = true → w.jt b p.top x = 0) := by
      simp only [Pl.tp]
      cases p.some <;> simp
    constructor
    · rintro ⟨h1, h2⟩
      obtain ⟨g1, g2⟩ := next_ok ho hp h1
      obtain ⟨k1, k2, k3, k4⟩ := (goes_iff ho r (p.next x) g1).1 h2
      obtain ⟨m1, m2, m3⟩ := plL_iff.1 h1
      refine ⟨?_, ?_, ?_, htp.2 m3, k4⟩
      · intro y hy
        rcases List.mem_cons.1 hy with rfl | hy
        · exact m1
        · exact k1 y hy
      · rw [List.map_cons, List.nodup_cons]
        refine ⟨fun hm => ?_, k2⟩
        obtain ⟨y, y1, y2⟩ := List.mem_map.1 hm
        have hy := k1 y y1
        have := (k3 y.b.toNat).2 ⟨y, y1, by have := hy.1; omega⟩
        rw [next_bit ho hp h1, y2] at this
        simp at this
      · intro i
        have hb := next_bit ho hp h1 i
        have hk := k3 i
        rw [hb] at hk
        constructor
        · intro hi
          by_cases e : i = x.b.toNat
          · exact ⟨x, List.mem_cons_self .., by have := m1.1; omega⟩
          · obtain ⟨y, y1, y2⟩ := hk.1 (by simp [hi, e])
            exact ⟨y, List.mem_cons_of_mem _ y1, y2⟩
        · rintro ⟨y, y1, y2⟩
          rcases List.mem_cons.1 y1 with rfl | y1
          · have : y.b.toNat = i := by omega
            rw [← this]; exact m2
          · have := hk.2 ⟨y, y1, y2⟩
            simp only [Bool.and_eq_true] at this
            exact this.1
    · rintro ⟨h1, h2, h3, h4, h5⟩
      have hx := h1 x (List.mem_cons_self ..)
      have hm : x ∈ w.plL b p := plL_iff.2 ⟨hx, (h3 x.b.toNat).2 ⟨x, List.mem_cons_self .., by have := hx.1; omega⟩, htp.1 h4⟩
      obtain ⟨g1, g2⟩ := next_ok ho hp hm
      rw [List.map_cons, List.nodup_cons] at h2
      refine ⟨hm, (goes_iff ho r (p.next x) g1).2 ⟨fun y hy => h1 y (List.mem_cons_of_mem _ hy), h2.2, fun i => ?_, h5⟩⟩
      rw [next_bit ho hp hm]
      constructor
      · intro hi
        simp only [Bool.and_eq_true, bne_iff_ne, ne_eq] at hi
        obtain ⟨y, y1, y2⟩ := (h3 i).1 hi.1
        rcases List.mem_cons.1 y1 with rfl | y1
        · exact absurd (by omega) hi.2
        · exact ⟨y, y1, y2⟩
      · rintro ⟨y, y1, y2⟩
        have := (h3 i).2 ⟨y, List.mem_cons_of_mem _ y1, y2⟩
        simp only [Bool.and_eq_true, bne_iff_ne, ne_eq]
        refine ⟨this, fun e => h2.1 (List.mem_map.2 ⟨y, y1, ?_⟩)⟩
        have := hx.1
        omega

end Go.Ab
/-
  Stacks as lists; the least one.
-/
namespace Go.Ab
open Go.Proofs
set_option linter.unusedSimpArgs false
set_option linter.unusedVariables false
set_option maxRecDepth 100000
set_option maxHeartbeats 2000000

variable {H : Heap}

/-! ### Stacks, as lists -/

theorem pc_mem {l : List Pc} {x : Pc} (h : x ∈ l) : ∃ i, i < l.length ∧ pcA l i = x := by
  obtain ⟨i, hi, rfl⟩ := List.mem_iff_getElem.1 h
  exact ⟨i, hi, by simp [pcA, hi]⟩

theorem pcA_mem {l : List Pc} {i : Nat} (h : i < l.length) : pcA l i ∈ l := by
  simp only [pcA, List.getD_eq_getElem?_getD, List.getElem?_eq_getElem h, Option.getD_some]
  exact List.getElem_mem h

theorem pcA_get {l : List Pc} {i : Nat} (h : i < l.length) : pcA l i = l[i] := by
  simp [pcA, h]

theorem poks_iff {w : Wg} {l : List Pc} : w.poks l ↔ ∀ x ∈ l, w.pok x := by
  constructor
  · intro h x hx
    obtain ⟨i, hi, rfl⟩ := pc_mem hx
    exact h i hi
  · intro h i hi
    exact h _ (pcA_mem hi)

theorem stk_iff {w : Wg} {l : List Pc} : w.stk l = true ↔ l ≠ [] ∧ (∀ x ∈ l, w.pok x) ∧ (l.map Pc.b).Nodup := by
  have hne : (decide ((0 : Int) < l.length) = true) ↔ l ≠ [] := by
    rw [decide_eq_true_eq]
    constructor
    · rintro h rfl; simp at h
    · intro h; have := List.length_pos_iff.2 h; omega
  have hb : ∀ i, w.badAt l i = false ↔ w.pok (pcA l i) ∧ ∀ x ∈ l.take i, x.b ≠ (pcA l i).b := by
    intro i
    simp only [Wg.badAt, Bool.or_eq_false_iff, Bool.not_eq_false', wi_iff, List.any_eq_false, beq_iff_eq, Wg.pok, Wg.n]
    constructor
    · rintro ⟨h1, h2, h3⟩; exact ⟨by omega, h3⟩
    · rintro ⟨h1, h3⟩; exact ⟨by omega, by omega, h3⟩
  simp only [Wg.stk, Bool.and_eq_true, Bool.not_eq_true', anyF_false, hne, hb]
  rw [← poks_iff]
  have hnd : (l.map Pc.b).Nodup ↔ ∀ i, i < l.length → ∀ x ∈ l.take i, x.b ≠ (pcA l i).b := by
    rw [List.Nodup, List.pairwise_map, List.pairwise_iff_getElem]
    constructor
    · intro h i hi x hx
      obtain ⟨k, hk, rfl⟩ := List.mem_iff_getElem.1 hx
      rw [List.length_take] at hk
      rw [List.getElem_take, pcA_get hi]
      exact h k i (by omega) hi (by omega)
    · intro h i j hi hj hij
      have := h j hj l[i] (by
        rw [List.mem_iff_getElem]
        exact ⟨i, by rw [List.length_take]; omega, List.getElem_take⟩)
      rw [pcA_get hj] at this
      exact this
  rw [hnd]
  constructor
  · rintro ⟨h1, h2⟩
    exact ⟨h2, fun i hi => (h1 i (by omega) (by omega)).1, fun i hi => (h1 i (by omega) (by omega)).2⟩
  · rintro ⟨h2, h3, h4⟩
    exact ⟨fun i _ hi => ⟨h3 i (by omega), h4 i (by omega)⟩, h2⟩

theorem hL_iff {w : Wg} {b : Bool} : ∀ (l : List Pc) (o : Option Pc), w.hL b o l ↔ (∀ y, o = some y → 0 < l.length → w.jt b y (pcA l 0) = 0) ∧ ∀ i, i + 1 < l.length → w.jt b (pcA l i) (pcA l (i + 1)) = 0
  | [], o => by simp [Wg.hL]
  | x :: r, o => by
    have ih := hL_iff (w := w) (b := b) r (some x)
    have e0 : pcA (x :: r) 0 = x := rfl
    have e1 : ∀ i, pcA (x :: r) (i + 1) = pcA r i := fun i => rfl
    simp only [Wg.hL, ih, e0, e1, List.length_cons, Option.some.injEq, forall_eq']
    constructor
    · rintro ⟨h1, h2, h3⟩
      refine ⟨fun y hy _ => h1 y hy, fun i hi => ?_⟩
      cases i with
      | zero => rw [e0]; exact h2 (by omega)
      | succ i => rw [e1]; exact h3 i (by omega)
    · rintro ⟨h1, h2⟩
      refine ⟨fun y hy => h1 y hy (by omega), fun h => ?_, fun i hi => ?_⟩
      · have := h2 0 (by omega); rw [e0] at this; exact this
      · have := h2 (i + 1) (by omega); rw [e1] at this; exact this

theorem hld_iff {w : Wg} {b : Bool} {l : List Pc} : w.hld b l = true ↔ ∀ i, i + 1 < l.length → w.jt b (pcA l i) (pcA l (i + 1)) = 0 := by
  simp only [Wg.hld, Bool.not_eq_true', anyF_false, bne_eq_false_iff_eq]
  constructor
  · intro h i hi; exact h i (by omega) (by omega)
  · intro h i _ hi; exact h i (by omega)

theorem hld_hL {w : Wg} {b : Bool} {l : List Pc} : w.hld b l = true ↔ w.hL b none l := by
  rw [hld_iff, hL_iff]; simp

/-- A stack of just the blocks of a set. -/
def Wg.setOf (w : Wg) (s : Nat) (l : List Pc) : Prop := ∀ i : Nat, s.testBit i = true ↔ ∃ x ∈ l, x.b = (i : Int)

theorem goes_set {w : Wg} (ho : w.Ok) {b : Bool} {s : Nat} (hs : s < 2 ^ w.bs.length) (l : List Pc) : w.goes b ⟨s, pc0, false⟩ l ↔ (l = [] ∧ s = 0) ∨ (w.stk l = true ∧ w.hld b l = true ∧ w.setOf s l) := by
  rw [goes_iff ho l _ (start_ok hs), stk_iff, hld_hL]
  show _ ∧ _ ∧ w.setOf s l ∧ w.hL b none l ↔ _
  constructor
  · rintro ⟨h1, h2, h3, h4⟩
    by_cases hl : l = []
    · subst hl
      refine .inl ⟨rfl, Nat.eq_of_testBit_eq fun i => ?_⟩
      rw [Nat.zero_testBit]
      have := h3 i
      simp only [List.not_mem_nil, false_and, exists_false, iff_false] at this
      exact Bool.eq_false_iff.2 this
    · exact .inr ⟨⟨hl, h1, h2⟩, h4, h3⟩
  · rintro (⟨rfl, rfl⟩ | ⟨⟨h0, h1, h2⟩, h4, h3⟩)
    · exact ⟨fun x hx => (by cases hx), List.nodup_nil, fun i => (by simp), trivial⟩
    · exact ⟨h1, h2, h3, h4⟩

/-! ### Films -/

theorem fold_fm (w : Wg) (xs : List Pc) : ∀ (q j : Nat) (a : Int × Int) (s : Nat), j + q + 1 = xs.length → (foldF (w.flA xs) a j q).2 = a.2 + w.fmL ⟨s, pcA xs j, true⟩ (xs.drop (j + 1))
  | 0, j, a, s, h => by
    rw [List.drop_eq_nil_of_le (by omega)]
    simp [foldF, Wg.fmL]
  | q + 1, j, a, s, h => by
    have hd : xs.drop (j + 1) = pcA xs (j + 1) :: xs.drop (j + 1 + 1) := by
      rw [List.drop_eq_getElem_cons (show j + 1 < xs.length by omega), pcA_get (by omega)]
    rw [foldF, hd, fold_fm w xs q (j + 1) _ (s - 2 ^ (pcA xs (j + 1)).b.toNat) (by omega)]
    have e : w.fmL ⟨s, pcA xs j, true⟩ (pcA xs (j + 1) :: xs.drop (j + 1 + 1)) = ((w.fa (pcA xs j)).hi + (w.fb (pcA xs (j + 1))).hi) + w.fmL ⟨s - 2 ^ (pcA xs (j + 1)).b.toNat, pcA xs (j + 1), true⟩ (xs.drop (j + 1 + 1)) := rfl
    rw [e]
    simp only [Wg.flA]
    omega

theorem flm_fm (w : Wg) (s : Nat) (t : Pc) (xs : List Pc) : (w.flm xs).2 = w.fmL ⟨s, t, false⟩ xs := by
  cases xs with
  | nil => rfl
  | cons x r =>
    have h := fold_fm w (x :: r) r.length 0 (0, 0) (s - 2 ^ x.b.toNat) (by simp)
    have e : w.fmL ⟨s, t, false⟩ (x :: r) = 0 + w.fmL ⟨s - 2 ^ x.b.toNat, x, true⟩ r := rfl
    rw [e]
    simp only [Wg.flm, List.length_cons, Nat.add_sub_cancel]
    rw [h]
    rfl

/-! ### The least one -/

theorem tal_zero {w : Wg} {b : Bool} (p : Pl) (h : p.left = 0) : w.tal b p = (1, 0) := by simp only [Wg.tal, Wg.talF, h, if_true]

theorem tal_least {w : Wg} (ho : w.Ok) {b : Bool} {p : Pl} (hp : p.Ok w) : 0 ≤ (w.tal b p).1 ∧ (∀ l, w.goes b p l → 0 < (w.tal b p).1 ∧ (w.tal b p).2 ≤ w.fmL p l) ∧ (0 < (w.tal b p).1 → ∃ l, w.goes b p l ∧ w.fmL p l = (w.tal b p).2) := by
  have hc := cnt_le (hp.lt64 ho)
  obtain ⟨h1, h2, h3⟩ := tal_ext w b 6 p
  refine ⟨by rw [h1]; omega, fun l hl => ?_, fun h => ?_⟩
  · have hm := (mem_ext ho b 6 p l hp hc).2 hl
    refine ⟨?_, h2 l hm⟩
    have := List.length_pos_of_mem hm
    rw [h1]; omega
  · have : w.ext b 6 p ≠ [] := by
      intro e
      rw [e] at h1
      simp only [List.length_nil] at h1
      have h' : 0 < (w.talF b 6 p).1 := h
      omega
    obtain ⟨l, l1, l2⟩ := h3 this
    exact ⟨l, (mem_ext ho b 6 p l hp hc).1 l1, l2⟩

theorem bestL_goes {w : Wg} (ho : w.Ok) : ∀ (q : Nat) (p : Pl), p.Ok w → cnt p.left = q → 0 < (w.tal false p).1 → w.goes false p (w.bestL q p) ∧ w.fmL p (w.bestL q p) = (w.tal false p).2
  | 0, p, hp, hc, ht => by
    have h0 := (cnt_zero (hp.lt64 ho)).1 hc
    exact ⟨h0, by rw [tal_zero p h0]; rfl⟩
  | q + 1, p, hp, hc, ht => by
    have h0 : p.left ≠ 0 := fun e => by have := (cnt_zero (hp.lt64 ho)).2 e; omega
    obtain ⟨x, hx1, hx2, hx3⟩ := bestX_some ho hp h0 ht
    have hbl : w.bestL (q + 1) p = x :: w.bestL q (p.next x) := by simp only [Wg.bestL, hx1]
    have hf := List.find?_some hx1
    simp only [Wg.fits, Bool.and_eq_true, decide_eq_true_eq, beq_iff_eq] at hf
    obtain ⟨g1, g2⟩ := next_ok ho hp hx2
    obtain ⟨i1, i2⟩ := bestL_goes ho q (p.next x) g1 (by omega) hf.1
    rw [hbl]
    exact ⟨⟨hx2, i1⟩, by simp only [Wg.fmL]; rw [i2]; omega⟩

/-- Whether a list comes before another one, where they differ first. -/
def lexP (a c : Pc) : Prop := a.b < c.b ∨ (a.b = c.b ∧ a.u < c.u)
def lexL : List Pc → List Pc → Prop
  | [], _ => True
  | _, [] => False
  | a :: r, c :: s => lexP a c ∨ (a = c ∧ lexL r s)

theorem plU_lex (w : Wg) (b : Bool) (p : Pl) (j : Nat) : ∀ (q u : Nat), (w.plU b p j u q).Pairwise lexP
  | 0, u => List.Pairwise.nil
  | q + 1, u => by
    have ih := plU_lex w b p j q (u + 1)
    simp only [Wg.plU]
    split
    · refine List.pairwise_cons.2 ⟨fun y hy => ?_, ih⟩
      obtain ⟨h1, k, h2, h3, h4⟩ := mem_plU q (u + 1) hy
      exact .inr ⟨h1.symm, by simp only; omega⟩
    · exact ih

theorem plB_lex (w : Wg) (b : Bool) (p : Pl) : ∀ (q j : Nat), (w.plB b p j q).Pairwise lexP
  | 0, j => List.Pairwise.nil
  | q + 1, j => by
    have ih := plB_lex w b p q (j + 1)
    simp only [Wg.plB]
    split
    · refine List.pairwise_append.2 ⟨plU_lex w b p j 2 0, ih, fun x hx y hy => ?_⟩
      obtain ⟨h1, _⟩ := mem_plU 2 0 hx
      obtain ⟨k, k1, k2, _⟩ := mem_plB _ _ hy
      exact .inl (by omega)
    · exact ih

end Go.Ab
/-
  A stack by numbers.
-/
namespace Go.Ab
open Go.Proofs
set_option linter.unusedSimpArgs false
set_option linter.unusedVariables false
set_option maxRecDepth 100000
set_option maxHeartbeats 2000000

variable {H : Heap}


def B8 (n : Int) : AV := .int .u8 n
/-- The block of a number, and the place. -/
def mdB (n : Nat) (v : Int) : Int := (v.tdiv 2).tmod n
def mdP (n : Nat) (v : Int) : Pc := ⟨mdB n v, v.tmod 2⟩
def mdS (n : Nat) (ws : List Int) (acc : List Pc) (i : Nat) : List Pc := if !acc.any (fun x => x.b == mdB n (ws.getD i 0)) && decide (i < 40) then acc ++ [mdP n (ws.getD i 0)] else acc
def mdF (n : Nat) (ws : List Int) (acc : List Pc) (j q : Nat) : List Pc := foldF (mdS n ws) acc j q
/-- A stack by numbers. -/
def mdL (n : Nat) (ws : List Int) : List Pc := mdF n ws [] 0 ws.length
def madeL (n : Nat) (ws : List Int) : List Pc := if mdL n ws = [] then [⟨0, 0⟩] else mdL n ws

structure ByOk (ws : List Int) : Prop where
  len : ws.length ≤ 9223372036854775807
  bd : ∀ i, i < ws.length → 0 ≤ ws.getD i 0 ∧ ws.getD i 0 ≤ 255

theorem tdiv_bd {v n : Int} (h : 0 ≤ v) (hn : 0 < n) : v.tdiv n = v / n := Int.tdiv_eq_ediv_of_nonneg h
theorem tmod_bd {v n : Int} (h : 0 ≤ v) (hn : 0 < n) : 0 ≤ v.tmod n ∧ v.tmod n < n := by
  rw [Int.tmod_eq_emod_of_nonneg h]
  exact ⟨Int.emod_nonneg _ (by omega), Int.emod_lt_of_pos _ hn⟩

theorem mdB_bd {n : Nat} {v : Int} (hv : 0 ≤ v) (hn : 0 < n) : 0 ≤ mdB n v ∧ mdB n v < n := by
  refine tmod_bd ?_ (by omega)
  rw [tdiv_bd hv (by omega)]
  omega

theorem made_loop {w : Wg} {vb va : AV} (h : WgAt H w vb va) (hl : 0 < w.bs.length ∧ w.bs.length ≤ 1000) {vw : AV} {ws : List Int} (hs : SlOk H 1 vw (ws.map B8)) (hB : ByOk ws) (r : List Pc) :
    ∀ (q j : Nat), j + q = ws.length → ∀ (acc : List Pc), acc.length ≤ min j 40 → mdF w.bs.length ws acc j q = r → ∀ E : Env, E.get 2 = .ptr H.length 0 → E.get 4 = .gsl (H.length + 1) acc.length → E.get 5 = .map (H.length + 2) → E.get 10 = vw → E.get 11 = I ws.length → E.get 12 = I j →
    Option.map (finishC H.length) (execL cfg0 prog0 ⟨39, none, false, H.length⟩ (todoAt Try.f39 3) ⟨E, [], H ++ [.box (.agg [vb, va]), .grow 2 (acc.map Pc.av), .map 3 (snM acc)], none⟩) = some ⟨.ret (.sl false ((if r = [] then [⟨0, 0⟩] else r).map Pc.av)), H, none⟩ := by
  intro q
  obtain ⟨a1, a2, a3, a4, a5⟩ := hs.fF (d := 0)
  have s0 := hs.scal
  have s1 := h.bs.scal
  have s2 := h.ps.scal
  have n1 := h.bs.len
  rw [List.length_map] at n1
  have c1 := h.bs.cel
  have hbl := hB.len
  induction q with
  | zero =>
    intro j hj acc hl40 hr E g2 g4 g5 g10 g11 g12
    have hk' : ¬ (j : Int) < ((ws.length : Nat) : Int) := by omega
    simp only [mdF, foldF] at hr
    subst hr
    have la : (acc.map Pc.av).length = acc.length := List.length_map _
    have t3 : ltL H.length (acc.map Pc.av) = true := ltL_map (fun _ => rfl) acc
    have t4 : ltL 0 (acc.map Pc.av) = true := ltL_map (fun _ => rfl) acc
    have hst := fun G : Heap => law_stack (H := G) (stk_at G [⟨0, 0⟩]) (by decide)
    simp only [flatP, List.map_cons, List.map_nil, List.flatMap_cons, List.flatMap_nil, List.cons_append, List.nil_append, List.append_nil] at hst
    simp only [loopIt, todoPast, todoAt, todoOf, firstReg, ↓reduceIte, Option.some.injEq, Nat.reduceEqDiff, reduceCtorEq, Try.f39]
    rw [execL_inLoop]
    by_cases h0 : acc = []
    · subst h0
      simp (maxSteps := 1000000) (implicitDefEqProofs := false) (disch := first | rfl | omega | assumption) only [go_sem, g2, g4, g5, g10, g11, g12, ltT, ltF, leT, leF, hk', s0, hst]
    · rw [if_neg h0]
      have hne : ((acc.length : Int) == 0) = false := by
        have := List.length_pos_iff.2 h0
        simpa using (by omega : ¬ (acc.length : Int) = 0)
      simp (maxSteps := 1000000) (implicitDefEqProofs := false) (disch := first | rfl | omega | assumption) only [go_sem, g2, g4, g5, g10, g11, g12, ltT, ltF, leT, leF, hk', s0, la, t3, t4, hne]
      done
  | succ q ih =>
    intro j hj acc hl40 hr E g2 g4 g5 g10 g11 g12
    have hk' : (j : Int) < ((ws.length : Nat) : Int) := by omega
    have hk2 : j < ws.length := by omega
    simp only [mdF, foldF] at hr
    obtain ⟨v, hv⟩ : ∃ v, ws.getD j 0 = v := ⟨_, rfl⟩
    have hbd := hB.bd j (by omega)
    rw [hv] at hbd
    have hn := mdB_bd (n := w.bs.length) hbd.1 hl.1
    have hmd : mdS w.bs.length ws acc j = if !acc.any (fun x => x.b == mdB w.bs.length v) && decide (j < 40) then acc ++ [mdP w.bs.length v] else acc := by simp only [mdS, hv]
    rw [hmd] at hr
    have hlk := snM_look (mdB w.bs.length v) acc []
    have ele : acc.foldl (fun es x => putM (I x.b) (.bool true) es) [] = snM acc := rfl
    rw [ele] at hlk
    have ev1 : (B8 v).cells[0]? = some (.int .u8 v) := rfl
    have ev2 : IntKind.i64.wrap v = v := w64 (by omega) (by omega)
    have ev3 : v.tdiv 2 = v / 2 := tdiv_bd hbd.1 (by omega)
    have ev4 : IntKind.i64.wrap (v / 2) = v / 2 := w64 (by omega) (by omega)
    have ev5 : (v / 2).tmod w.bs.length = mdB w.bs.length v := by simp only [mdB, ev3]
    have ev6 : ¬ (w.bs.length : Int) = 0 := by omega
    have ev7 : IntKind.i64.wrap ((j : Int) + 1) = ((j + 1 : Nat) : Int) := by rw [w64 (by omega) (by omega)]; omega
    have lm := snM_lt acc (H.length + 3)
    rcases Bool.eq_false_or_eq_true (acc.any (fun x => x.b == mdB w.bs.length v)) with c | c
    · rw [c] at hr hlk
      simp only [Bool.not_true, Bool.false_and, Bool.false_eq_true, if_false, if_true] at hr hlk
      simp only [loopIt, todoPast, todoAt, todoOf, firstReg, ↓reduceIte, Option.some.injEq, Nat.reduceEqDiff, reduceCtorEq, Try.f39]
      rw [execL_inLoop]
      simp (maxSteps := 1000000) (implicitDefEqProofs := false) (disch := first | rfl | omega | assumption) only [go_sem, g2, g4, g5, g10, g11, g12, ltT, ltF, leT, leF, hk', s0, s1, s2, n1, c1, a1, a2, a3, a4, a5, hv, ev1, ev2, ev3, ev4, ev5, ev6, ev7, hlk]
      exact ih (j + 1) (by omega) acc (by omega) hr _ (by exact g2) (by exact g4) (by exact g5) (by exact g10) (by exact g11) (by rfl)
    · rw [c] at hr hlk
      simp only [Bool.not_false, Bool.true_and, Bool.false_eq_true, if_false, lookupM] at hr hlk
      by_cases hj4 : j < 40
      · rw [decide_eq_true hj4, if_pos rfl] at hr
        have hj4' : (j : Int) < 40 := by omega
        have hadd : ∀ o0 o2, addElem (H ++ [o0, .grow 2 (acc.map Pc.av), o2]) 2 true (.gsl (H.length + 1) acc.length) [.agg [I (mdB w.bs.length v), I (v.tmod 2)]] = some (.gsl (H.length + 1) (acc.length + 1), H ++ [o0, .grow 2 ((acc ++ [mdP w.bs.length v]).map Pc.av), o2]) := fun o0 o2 => by
          rw [add_gsl (xs := acc.map Pc.av) (by rw [get_at']; rfl) (by simp) (by rfl) (by rfl) (by simp; omega), set_at']
          simp [mdP, Pc.av]
        have hsn : putM (I (mdB w.bs.length v)) (.bool true) (snM acc) = snM (acc ++ [mdP w.bs.length v]) := by simp [snM, mdP]
        have hla : (acc ++ [mdP w.bs.length v]).length = acc.length + 1 := by simp
        have key := ih (j + 1) (by omega) (acc ++ [mdP w.bs.length v]) (by rw [hla]; omega) hr
        rw [hla] at key
        simp only [loopIt, todoPast, todoAt, todoOf, firstReg, ↓reduceIte, Option.some.injEq, Nat.reduceEqDiff, reduceCtorEq, Try.f39]
        rw [execL_inLoop]
        simp (maxSteps := 1000000) (implicitDefEqProofs := false) (disch := first | rfl | omega | assumption) only [go_sem, g2, g4, g5, g10, g11, g12, ltT, ltF, leT, leF, hk', s0, s1, s2, n1, c1, a1, a2, a3, a4, a5, hv, ev1, ev2, ev3, ev4, ev5, ev6, ev7, hlk, hj4', hsn, hadd]
        exact key _ (by exact g2) (by rfl) (by exact g5) (by exact g10) (by exact g11) (by rfl)
      · rw [decide_eq_false hj4] at hr
        simp only [Bool.false_eq_true, if_false] at hr
        have hj4' : ¬ (j : Int) < 40 := by omega
        simp only [loopIt, todoPast, todoAt, todoOf, firstReg, ↓reduceIte, Option.some.injEq, Nat.reduceEqDiff, reduceCtorEq, Try.f39]
        rw [execL_inLoop]
        simp (maxSteps := 1000000) (implicitDefEqProofs := false) (disch := first | rfl | omega | assumption) only [go_sem, g2, g4, g5, g10, g11, g12, ltT, ltF, leT, leF, hk', s0, s1, s2, n1, c1, a1, a2, a3, a4, a5, hv, ev1, ev2, ev3, ev4, ev5, ev6, ev7, hlk, hj4']
        exact ih (j + 1) (by omega) acc (by omega) hr _ (by exact g2) (by exact g4) (by exact g5) (by exact g10) (by exact g11) (by rfl)

theorem law_made {w : Wg} {vb va : AV} (h : WgAt H w vb va) (hl : 0 < w.bs.length ∧ w.bs.length ≤ 1000) {vw : AV} {ws : List Int} (hs : SlOk H 1 vw (ws.map B8)) (hB : ByOk ws) :
    callFL cfg0 prog0 false 39 [.agg [vb, va], vw] H none = some ⟨.ret (.sl false ((madeL w.bs.length ws).map Pc.av)), H, none⟩ := by
  have s0 := hs.scal
  have s1 := h.bs.scal
  have s2 := h.ps.scal
  have n0 := hs.len
  rw [List.length_map] at n0
  have h1 := made_loop h hl hs hB (mdL w.bs.length ws) ws.length 0 (by omega) [] (by simp) rfl
  have c0 := hs.cel
  refine (callFL_eq fn39 rfl (by simp [Try.f39])).trans ?_
  simp (maxSteps := 1000000) (implicitDefEqProofs := false) (disch := first | rfl | omega | assumption) only [go_sem, ltT, ltF, leT, leF, s0, s1, s2, n0, c0]
  exact h1 _ (by rfl) (by rfl) (by rfl) (by rfl) (by rfl) (by rfl)

theorem mdF_ok {n : Nat} (hn : 0 < n) {ws : List Int} (hB : ByOk ws) : (∀ p ∈ mdL n ws, (0 ≤ p.b ∧ p.b < n ∧ 0 ≤ p.u ∧ p.u ≤ 1)) ∧ ((mdL n ws).map Pc.b).Nodup := by
  have key := foldF_inv (mdS n ws) (fun _ acc => (∀ p ∈ acc, (0 ≤ p.b ∧ p.b < n ∧ 0 ≤ p.u ∧ p.u ≤ 1)) ∧ (acc.map Pc.b).Nodup) ws.length 0 [] ⟨fun p hp => (by cases hp), List.nodup_nil⟩ (fun i acc _ hi ⟨h1, h2⟩ => by
    have hbd := hB.bd i (by omega)
    simp only [mdS]
    generalize ws.getD i 0 = v at *
    split
    · rename_i hc
      simp only [Bool.and_eq_true, Bool.not_eq_true', List.any_eq_false, beq_iff_eq] at hc
      refine ⟨fun p hp => ?_, ?_⟩
      · rcases List.mem_append.1 hp with hp | hp
        · exact h1 p hp
        · rw [List.mem_singleton.1 hp]
          have a := mdB_bd (n := n) hbd.1 hn
          have b := tmod_bd hbd.1 (show (0 : Int) < 2 by omega)
          simp only [mdP]
          omega
      · rw [List.map_append, List.nodup_append]
        refine ⟨h2, List.nodup_cons.2 ⟨by simp, List.nodup_nil⟩, fun a ha b hb => ?_⟩
        rw [List.map_cons, List.map_nil, List.mem_singleton] at hb
        obtain ⟨y, hy, rfl⟩ := List.mem_map.1 ha
        rw [hb]
        exact hc.1 y hy
    · exact ⟨h1, h2⟩)
  exact key

theorem made_stk {w : Wg} (hn : 0 < w.bs.length) {ws : List Int} (hB : ByOk ws) : w.stk (madeL w.bs.length ws) = true := by
  obtain ⟨h1, h2⟩ := mdF_ok hn hB
  rw [stk_iff]
  simp only [madeL]
  split
  · refine ⟨by simp, fun x hx => ?_, by simp⟩
    rw [List.mem_singleton.1 hx]
    exact ⟨by simp, by simp only [Wg.n]; omega, by simp, by simp⟩
  · rename_i h0
    exact ⟨h0, h1, h2⟩

end Go.Ab
/-
  A stack in a truth.
-/
namespace Go.Ab
open Go.Proofs
set_option linter.unusedSimpArgs false
set_option linter.unusedVariables false
set_option maxRecDepth 100000
set_option maxHeartbeats 2000000

variable {H : Heap}


def p2 {α : Type} (p : α × α) (k : Nat) : α := if k = 0 then p.1 else p.2
def bpA (p : Bool × Bool) : AV := .agg [.bool p.1, .bool p.2]

/-- A truth: which faces are scratched, how rough they are, how long blocks are. -/
structure Tru where
  sc : List (Bool × Bool)
  ro : List (Int × Int)
  ln : List Int

structure TruAt (H : Heap) (t : Tru) (v1 v2 v3 : AV) : Prop where
  sc : SlOk H 2 v1 (t.sc.map bpA)
  ro : SlOk H 2 v2 (t.ro.map spA)
  ln : SlOk H 1 v3 (t.ln.map I)

theorem TruAt.app {t : Tru} {v1 v2 v3 : AV} (h : TruAt H t v1 v2 v3) (G : Heap) : TruAt (H ++ G) t v1 v2 v3 := ⟨h.sc.app G, h.ro.app G, h.ln.app G⟩

def Tru.s (t : Tru) (b k : Nat) : Bool := p2 (t.sc.getD b (false, false)) k
def Tru.r (t : Tru) (b k : Nat) : Int := p2 (t.ro.getD b (0, 0)) k
def Tru.l (t : Tru) (b : Nat) : Int := t.ln.getD b 0

/-- As many blocks as there are; all lengths small. -/
structure Tru.Ok (t : Tru) (n : Nat) : Prop where
  sc : t.sc.length = n
  ro : t.ro.length = n
  ln : t.ln.length = n
  br : ∀ b k, 0 ≤ t.r b k ∧ t.r b k ≤ 1000
  bl : ∀ b, 0 ≤ t.l b ∧ t.l b ≤ 1000

def Tru.sA (t : Tru) (x : Pc) : Bool := t.s x.b.toNat x.u.toNat
def Tru.sB (t : Tru) (x : Pc) : Bool := t.s x.b.toNat (1 - x.u.toNat)
def Tru.rA (t : Tru) (x : Pc) : Int := t.r x.b.toNat x.u.toNat
def Tru.rB (t : Tru) (x : Pc) : Int := t.r x.b.toNat (1 - x.u.toNat)

/-- Whether a joint does not hold. -/
def Tru.bad (t : Tru) (w : Wg) (y x : Pc) : Bool := (t.sA y || t.sB x) || w.ap x.b y.b

abbrev LkS := Bool × Int × Int
def Tru.stp (t : Tru) (w : Wg) (xs : List Pc) (st : LkS) (i : Nat) : LkS :=
  if i = 0 then (st.1, st.2.1 + t.l (pcA xs i).b.toNat, st.2.2)
  else (st.1 && !t.bad w (pcA xs (i - 1)) (pcA xs i), st.2.1 + t.l (pcA xs i).b.toNat, st.2.2 + (t.rA (pcA xs (i - 1)) + t.rB (pcA xs i)))
def Tru.lookF (t : Tru) (w : Wg) (xs : List Pc) (st : LkS) (j q : Nat) : LkS := foldF (t.stp w xs) st j q
/-- Whether a stack holds in a truth, how long it is without films, how long its films are. -/
def Tru.look (t : Tru) (w : Wg) (xs : List Pc) : LkS := t.lookF w xs (true, 0, 0) 0 xs.length

end Go.Ab
/-
  A truth by remainders.
-/
namespace Go.Ab
open Go.Proofs
set_option linter.unusedSimpArgs false
set_option linter.unusedVariables false
set_option maxRecDepth 100000
set_option maxHeartbeats 2000000

variable {H : Heap}


def B16 (n : Int) : AV := .int .u16 n
structure OfOk16 (ws : List Int) : Prop where
  len : ws.length ≤ 9223372036854775807
  bd : ∀ i, i < ws.length → 0 ≤ ws.getD i 0 ∧ ws.getD i 0 ≤ 65535

/-- What is drawn. -/
def dwV (ws : List Int) (at' : Nat) (lo hi : Int) : Int := if ws.length = 0 then lo else lo + (ws.getD (at' % ws.length) 0 + 41 * (at' : Int)).tmod (hi - lo + 1)

/-- What is drawn of a face: how rough it is, whether it is scratched; and how many were drawn. -/
def fcD (ws : List Int) (a : Nat) (f : Fc) : Int × Bool × Nat :=
  (dwV ws (a + 1) f.lo f.hi, if f.st = 2 then true else if f.st = 1 then dwV ws (a + 1 + 1) 0 1 == 1 else false, if f.st = 2 then a + 1 else if f.st = 1 then a + 1 + 1 else a + 1)

/-- What is drawn of a block. -/
def bkD (ws : List Int) (a : Nat) (b : Bk) : (Bool × Bool) × (Int × Int) × Int × Nat :=
  (((fcD ws a b.f0).2.1, (fcD ws (fcD ws a b.f0).2.2 b.f1).2.1), ((fcD ws a b.f0).1, (fcD ws (fcD ws a b.f0).2.2 b.f1).1), dwV ws ((fcD ws (fcD ws a b.f0).2.2 b.f1).2.2 + 1) b.lo b.hi, (fcD ws (fcD ws a b.f0).2.2 b.f1).2.2 + 1)

def set2 {α : Type} (p : α × α) (k : Nat) (v : α) : α × α := if k = 0 then (v, p.2) else (p.1, v)

def trS (ws : List Int) (w : Wg) (st : Nat × Tru) (i : Nat) : Nat × Tru :=
  ((bkD ws st.1 (w.b i)).2.2.2, ⟨st.2.sc ++ [(bkD ws st.1 (w.b i)).1], st.2.ro ++ [(bkD ws st.1 (w.b i)).2.1], st.2.ln ++ [(bkD ws st.1 (w.b i)).2.2.1]⟩)
def trF (ws : List Int) (w : Wg) (st : Nat × Tru) (j q : Nat) : Nat × Tru := foldF (trS ws w) st j q
/-- A truth by remainders. -/
def Wg.truly (w : Wg) (ws : List Int) : Tru := (trF ws w (0, ⟨[], [], []⟩) 0 w.bs.length).2

def truA (t : Tru) : AV := .agg [.sl false (t.sc.map bpA), .sl false (t.ro.map spA), .sl false (t.ln.map I)]

/-- A truth of a wring. -/
structure TruOf (w : Wg) (t : Tru) : Prop where
  ok : t.Ok w.bs.length
  s2 : ∀ i k, i < w.bs.length → k < 2 → ((w.b i).fc k).st = 2 → t.s i k = true
  s0 : ∀ i k, i < w.bs.length → k < 2 → ((w.b i).fc k).st = 0 → t.s i k = false
  ro : ∀ i k, i < w.bs.length → k < 2 → ((w.b i).fc k).lo ≤ t.r i k ∧ t.r i k ≤ ((w.b i).fc k).hi
  ln : ∀ i, i < w.bs.length → (w.b i).lo ≤ t.l i ∧ t.l i ≤ (w.b i).hi

theorem fc_0 (b : Bk) : b.fc 0 = b.f0 := rfl
theorem fc_1 (b : Bk) : b.fc 1 = b.f1 := rfl

/-- As truths of the first blocks. -/
structure TruTo (w : Wg) (t : Tru) (j : Nat) : Prop where
  sc : t.sc.length = j
  ro : t.ro.length = j
  ln : t.ln.length = j
  at' : ∀ i, i < j → (∀ k, k < 2 → (((w.b i).fc k).st = 2 → t.s i k = true) ∧ (((w.b i).fc k).st = 0 → t.s i k = false) ∧ ((w.b i).fc k).lo ≤ t.r i k ∧ t.r i k ≤ ((w.b i).fc k).hi) ∧ (w.b i).lo ≤ t.l i ∧ t.l i ≤ (w.b i).hi

theorem TruTo.of {w : Wg} (ho : w.Ok) {t : Tru} (h : TruTo w t w.bs.length) : TruOf w t where
  ok := by
    refine ⟨h.sc, h.ro, h.ln, fun b k => ?_, fun b => ?_⟩
    · by_cases hb : b < w.bs.length
      · have hk : t.r b k = t.r b (if k = 0 then 0 else 1) := by
          simp only [Tru.r, p2]
          by_cases e : k = 0 <;> simp [e]
        rw [hk]
        have h1 := ((h.at' b hb).1 (if k = 0 then 0 else 1) (by split <;> omega)).2.2
        have f0 := (ho.f0 b hb).sp
        have f1 := (ho.f1 b hb).sp
        by_cases e : k = 0
        · rw [if_pos e] at h1 ⊢
          rw [fc_0] at h1
          omega
        · rw [if_neg e] at h1 ⊢
          rw [fc_1] at h1
          omega
      · have : t.ro.getD b (0, 0) = (0, 0) := by
          rw [List.getD_eq_getElem?_getD, List.getElem?_eq_none (by rw [h.ro]; omega)]; rfl
        simp only [Tru.r, this, p2]
        split <;> omega
    · by_cases hb : b < w.bs.length
      · have := (h.at' b hb).2
        have := ho.sp b hb
        omega
      · have : t.ln.getD b 0 = 0 := by
          rw [List.getD_eq_getElem?_getD, List.getElem?_eq_none (by rw [h.ln]; omega)]; rfl
        simp only [Tru.l, this]
        omega
  s2 := fun i k hi hk => ((h.at' i hi).1 k hk).1
  s0 := fun i k hi hk => ((h.at' i hi).1 k hk).2.1
  ro := fun i k hi hk => ((h.at' i hi).1 k hk).2.2
  ln := fun i hi => (h.at' i hi).2

end Go.Ab
/-
  Slices of small numbers that are handed in, as the evaluator takes them.
-/
namespace Go.Ab
set_option linter.unusedSimpArgs false
set_option linter.unusedVariables false
set_option maxRecDepth 100000
open Go.Proofs Go.ChangeShapes Go.RowKit Go.WideShapes

theorem sh49 : shOf prog0 8 49 = some (.sl false (.int .u8)) := by kernel_rfl
theorem list_ofP {α : Type} {p : α → Prop} {f : α → AV} : ∀ {es : List AV}, (∀ x ∈ es, ∃ a, p a ∧ x = f a) → ∃ l : List α, es = l.map f ∧ ∀ a ∈ l, p a
  | [], _ => ⟨[], rfl, by simp⟩
  | x :: r, h => by
    obtain ⟨a, ha, rfl⟩ := h x (List.mem_cons_self ..)
    obtain ⟨l, rfl, hl⟩ := list_ofP fun y hy => h y (List.mem_cons_of_mem _ hy)
    refine ⟨a :: l, rfl, fun b hb => ?_⟩
    rcases List.mem_cons.1 hb with rfl | hb
    · exact ha
    · exact hl b hb

theorem len_of {T : Type} {enc : TypeId × Value → T} {W : World} {t e : TypeId} {v : Value} {d : DataW T} {ps : List MemPlace} {f : Bool} {es : List AV} (hu : prog0.underlying t = some (.slice e)) (h1 : Rel (Cx.start W) (.sl f es) v) (hd : DataW.Trod enc prog0 W 0 (fun _ => true) true t v d ps) : es.length ≤ 9223372036854775807 := by
  rw [Rel] at h1
  obtain ⟨a, cap, rfl, ⟨-, hc⟩, -, hy⟩ := h1
  obtain ⟨m, hm⟩ := hd
  cases m with
  | zero => simp [DataW.trod] at hm
  | succ m =>
    cases a with
    | none =>
      rcases hy with hy | ⟨b, o, sz, ys, hy, -⟩
      · have := congrArg List.length hy
        simp at this
        simp [this]
      · cases hy
    | some a =>
      simp only [DataW.trod, Value.cells, hu] at hm
      split at hm
      · rename_i h
        have : maxLen = 9223372036854775807 := rfl
        omega
      · cases hm

theorem arg_u8s {T : Type} {enc : TypeId × Value → T} {W : World} {r : Reach} {b0 : Nat} {v : Value} {d : DataW T} {ps : List MemPlace} (hval : Value.okWide prog0 W r b0 49 v) (hd : DataW.Trod enc prog0 W 0 (fun _ => true) true 49 v d ps) :
    ∃ (va : AV) (ws : List Int), Rel (Cx.start W) va v ∧ SlOk [] 1 va (ws.map B8) ∧ ByOk ws := by
  obtain ⟨f, es, h1, h2⟩ := arg_sl Try.underlying49 sh49 hval hd
  obtain ⟨ws, rfl, hw⟩ := list_ofP (p := fun n : Int => 0 ≤ n ∧ n ≤ 255) (f := B8) (es := es) fun x hx => by
    obtain ⟨_, ⟨n, rfl, hn⟩, rfl⟩ := h2 x hx
    exact ⟨n, bounds_u8 hn, rfl⟩
  have hl := len_of Try.underlying49 h1 hd
  rw [List.length_map] at hl
  exact ⟨_, ws, h1, ⟨rfl, by simp only [List.mem_map]; rintro _ ⟨x, _, rfl⟩; rfl⟩, ⟨hl, fun i hi => hw _ (by simp [hi])⟩⟩

end Go.Ab
/-
  The reference, walked: powers, sets, all.
-/
namespace Go.Ab
open Go.Proofs
set_option linter.unusedSimpArgs false
set_option linter.unusedVariables false
set_option maxRecDepth 100000
set_option maxHeartbeats 2000000

variable {H : Heap}


abbrev pw (n : Nat) : Int := ((2 ^ n : Nat) : Int)

end Go.Ab
