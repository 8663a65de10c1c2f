/-
  All ways to go on with a pile.
-/
import Derived.Test.YteeefmibaggekaaKK2
import Derived.Test.YteeefmibaggekaaKK5
import Derived.Test.YteeefmibaggekaaKK4
import Derived.Test.YteeefmibaggekaaKK3
namespace Go.Ab
open Go.Proofs
set_option linter.unusedSimpArgs false
set_option linter.unusedVariables false
set_option maxRecDepth 100000
set_option maxHeartbeats 2000000

variable {H : Heap}

/-! ### All ways to go on -/

/-- All ways to go on with a pile. -/
def Wg.ext (w : Wg) (b : Bool) : Nat → Pl → List (List Pc)
  | 0, _ => [[]]
  | n + 1, p => if p.left = 0 then [[]] else (w.plL b p).flatMap fun x => (w.ext b n (p.next x)).map (x :: ·)

/-- The film of going on. -/
def Wg.fmL (w : Wg) : Pl → List Pc → Int
  | _, [] => 0
  | p, x :: r => w.film p x + w.fmL (p.next x) r

/-- How many there are, and how little it is. -/
structure LeastOf (f : List Pc → Int) (L : List (List Pc)) (t : Int × Int) : Prop where
  len : t.1 = L.length
  le : ∀ l ∈ L, t.2 ≤ f l
  ex : L ≠ [] → ∃ l ∈ L, f l = t.2

theorem tal_ext (w : Wg) (b : Bool) : ∀ (n : Nat) (p : Pl), LeastOf (w.fmL p) (w.ext b n p) (w.talF b n p)
  | 0, p => ⟨rfl, fun l hl => by simp only [Wg.ext, List.mem_singleton] at hl; subst hl; exact Int.le_refl _, fun _ => ⟨[], by simp [Wg.ext], rfl⟩⟩
  | n + 1, p => by
    by_cases h0 : p.left = 0
    · simp only [Wg.ext, Wg.talF, if_pos h0]
      exact ⟨rfl, fun l hl => by simp only [List.mem_singleton] at hl; subst hl; exact Int.le_refl _, fun _ => ⟨[], by simp, rfl⟩⟩
    · simp only [Wg.ext, Wg.talF, if_neg h0]
      have key : ∀ (xs : List Pc) (L : List (List Pc)) (st : Int × Int), LeastOf (w.fmL p) L st → LeastOf (w.fmL p) (L ++ xs.flatMap fun x => (w.ext b n (p.next x)).map (x :: ·)) (xs.foldl (w.stT (w.talF b n) p) st) := by
        intro xs
        induction xs with
        | nil => intro L st h; simpa using h
        | cons x r ih =>
          intro L st h
          have hx := tal_ext w b n (p.next x)
          rw [List.flatMap_cons, List.foldl_cons, ← List.append_assoc]
          refine ih _ _ ?_
          have hf : ∀ l, w.fmL p (x :: l) = w.film p x + w.fmL (p.next x) l := fun _ => rfl
          simp only [Wg.stT]
          generalize w.ext b n (p.next x) = E at *
          generalize w.talF b n (p.next x) = t at *
          obtain ⟨t1, t2⟩ := t
          obtain ⟨s1, s2⟩ := st
          obtain ⟨e1, e2, e3⟩ := hx
          obtain ⟨d1, d2, d3⟩ := h
          simp only at e1 e2 e3 d1 d2 d3 ⊢
          by_cases ht : t1 = 0
          · have hE : E = [] := List.length_eq_zero_iff.1 (by omega)
            subst hE
            rw [if_pos ht]
            simp only [List.map_nil, List.append_nil]
            exact ⟨d1, d2, d3⟩
          · rw [if_neg ht]
            have hE : E ≠ [] := by rintro rfl; simp at e1; omega
            obtain ⟨l0, l1, l2⟩ := e3 hE
            refine ⟨by simp only [List.length_append, List.length_map]; omega, ?_, ?_⟩
            · intro l hl
              rcases List.mem_append.1 hl with hl | hl
              · have hd := d2 l hl
                have : L ≠ [] := List.ne_nil_of_mem hl
                have : s1 ≠ 0 := by
                  intro h0
                  exact this (List.length_eq_zero_iff.1 (by omega))
                simp only
                split <;> omega
              · obtain ⟨m, m1, rfl⟩ := List.mem_map.1 hl
                have := e2 m m1
                rw [hf]
                simp only
                split <;> omega
            · intro _
              simp only
              by_cases hc : s1 = 0 ∨ t2 + w.film p x < s2
              · rw [if_pos hc]
                exact ⟨x :: l0, List.mem_append_right _ (List.mem_map.2 ⟨l0, l1, rfl⟩), by rw [hf, l2]; omega⟩
              · rw [if_neg hc]
                have : L ≠ [] := by rintro rfl; simp at d1; omega
                obtain ⟨m, m1, m2⟩ := d3 this
                exact ⟨m, List.mem_append_left _ m1, m2⟩
      have := key (w.plL b p) [] (0, 0) ⟨rfl, fun l hl => by simp at hl, fun h => absurd rfl h⟩
      simpa using this

/-! ### What a way to go on is -/

theorem plU_iff {w : Wg} {b : Bool} {p : Pl} {j : Nat} {x : Pc} : ∀ (q u : Nat), x ∈ w.plU b p j u q ↔ x.b = (j : Int) ∧ (∃ k : Nat, x.u = (k : Int) ∧ u ≤ k ∧ k < u + q) ∧ w.ok1 b p x = true
  | 0, u => by
    simp only [Wg.plU, List.not_mem_nil, false_iff]
    rintro ⟨_, ⟨k, _, h1, h2⟩, _⟩
    omega
  | q + 1, u => by
    simp only [Wg.plU]
    have ih := plU_iff (w := w) (b := b) (p := p) (j := j) (x := x) q (u + 1)
    have back : (x.b = (j : Int) ∧ (∃ k : Nat, x.u = (k : Int) ∧ u ≤ k ∧ k < u + (q + 1)) ∧ w.ok1 b p x = true) ↔ (x = ⟨j, u⟩ ∧ w.ok1 b p ⟨j, u⟩ = true) ∨ (x.b = (j : Int) ∧ (∃ k : Nat, x.u = (k : Int) ∧ u + 1 ≤ k ∧ k < u + 1 + q) ∧ w.ok1 b p x = true) := by
      constructor
      · rintro ⟨h1, ⟨k, h2, h3, h4⟩, h5⟩
        by_cases hk : k = u
        · subst hk
          have : x = ⟨j, k⟩ := by obtain ⟨a, c⟩ := x; simp only at h1 h2; rw [h1, h2]
          subst this
          exact .inl ⟨rfl, h5⟩
        · exact .inr ⟨h1, ⟨k, h2, by omega, by omega⟩, h5⟩
      · rintro (⟨rfl, h⟩ | ⟨h1, ⟨k, h2, h3, h4⟩, h5⟩)
        · exact ⟨rfl, ⟨u, rfl, by omega, by omega⟩, h⟩
        · exact ⟨h1, ⟨k, h2, by omega, by omega⟩, h5⟩
    rw [back, ← ih]
    cases hok : w.ok1 b p ⟨j, u⟩
    · simp
    · simp [List.mem_cons]

theorem plB_iff {w : Wg} {b : Bool} {p : Pl} {x : Pc} : ∀ (q j : Nat), x ∈ w.plB b p j q ↔ (∃ k : Nat, x.b = (k : Int) ∧ j ≤ k ∧ k < j + q ∧ p.left.testBit k = true) ∧ (0 ≤ x.u ∧ x.u ≤ 1) ∧ w.ok1 b p x = true
  | 0, j => by
    simp only [Wg.plB, List.not_mem_nil, false_iff]
    rintro ⟨⟨k, _, h1, h2, _⟩, _⟩
    omega
  | q + 1, j => by
    have ih := plB_iff (w := w) (b := b) (p := p) (x := x) q (j + 1)
    have hU : x ∈ w.plU b p j 0 2 ↔ x.b = (j : Int) ∧ (0 ≤ x.u ∧ x.u ≤ 1) ∧ w.ok1 b p x = true := by
      rw [plU_iff]
      constructor
      · rintro ⟨h1, ⟨k, h2, h3, h4⟩, h5⟩
        exact ⟨h1, by omega, h5⟩
      · rintro ⟨h1, h2, h5⟩
        exact ⟨h1, ⟨x.u.toNat, by omega, by omega, by omega⟩, h5⟩
    simp only [Wg.plB]
    cases hb : p.left.testBit j
    · simp only [Bool.false_eq_true, if_false, ih]
      constructor
      · rintro ⟨⟨k, h1, h2, h3, h4⟩, h5⟩
        exact ⟨⟨k, h1, by omega, by omega, h4⟩, h5⟩
      · rintro ⟨⟨k, h1, h2, h3, h4⟩, h5⟩
        have : k ≠ j := by rintro rfl; rw [hb] at h4; cases h4
        exact ⟨⟨k, h1, by omega, by omega, h4⟩, h5⟩
    · simp only [if_true, List.mem_append, ih, hU]
      constructor
      · rintro (⟨h1, h2⟩ | ⟨⟨k, h1, h2, h3, h4⟩, h5⟩)
        · exact ⟨⟨j, h1, by omega, by omega, hb⟩, h2⟩
        · exact ⟨⟨k, h1, by omega, by omega, h4⟩, h5⟩
      · rintro ⟨⟨k, h1, h2, h3, h4⟩, h5⟩
        by_cases hk : k = j
        · subst hk; exact .inl ⟨h1, h5⟩
        · exact .inr ⟨⟨k, h1, by omega, by omega, h4⟩, h5⟩

theorem plL_iff {w : Wg} {b : Bool} {p : Pl} {x : Pc} : x ∈ w.plL b p ↔ w.pok x ∧ p.left.testBit x.b.toNat = true ∧ (p.some = true → w.jt b p.top x = 0) := by
  have hk : w.ok1 b p x = true ↔ (p.some = true → w.jt b p.top x = 0) := by
    simp only [Wg.ok1]
    cases p.some <;> simp
  rw [Wg.plL, plB_iff, hk]
  constructor
  · rintro ⟨⟨k, h1, h2, h3, h4⟩, h5, h6⟩
    have : x.b.toNat = k := by omega
    exact ⟨⟨by omega, by simp only [Wg.n]; omega, h5⟩, by rw [this]; exact h4, h6⟩
  · rintro ⟨⟨h1, h2, h3, h4⟩, h5, h6⟩
    simp only [Wg.n] at h2
    exact ⟨⟨x.b.toNat, by omega, by omega, by omega, h5⟩, ⟨h3, h4⟩, h6⟩

/-- Whether a list goes on with a pile to the end. -/
def Wg.goes (w : Wg) (b : Bool) : Pl → List Pc → Prop
  | p, [] => p.left = 0
  | p, x :: r => x ∈ w.plL b p ∧ w.goes b (p.next x) r

theorem goes_zero {w : Wg} {b : Bool} {p : Pl} (h : p.left = 0) (l : List Pc) : w.goes b p l ↔ l = [] := by
  cases l with
  | nil => simp [Wg.goes, h]
  | cons x r =>
    simp only [Wg.goes, reduceCtorEq, iff_false]
    rintro ⟨h1, _⟩
    have := (plL_iff.1 h1).2.1
    rw [h, Nat.zero_testBit] at this
    cases this

theorem mem_ext {w : Wg} (ho : w.Ok) (b : Bool) : ∀ (n : Nat) (p : Pl) (l : List Pc), p.Ok w → cnt p.left ≤ n → (l ∈ w.ext b n p ↔ w.goes b p l)
  | 0, p, l, hp, hc => by
    have h0 := (cnt_zero (hp.lt64 ho)).1 (by omega)
    rw [goes_zero h0]
    simp [Wg.ext]
  | n + 1, p, l, hp, hc => by
    by_cases h0 : p.left = 0
    · rw [goes_zero h0]
      simp [Wg.ext, h0]
    · simp only [Wg.ext, if_neg h0, List.mem_flatMap, List.mem_map]
      cases l with
      | nil =>
        simp only [Wg.goes, h0, iff_false]
        rintro ⟨x, _, m, _, h⟩
        cases h
      | cons y r =>
        simp only [Wg.goes]
        constructor
        · rintro ⟨x, h1, m, h2, h3⟩
          cases h3
          obtain ⟨g1, g2⟩ := next_ok ho hp h1
          exact ⟨h1, (mem_ext ho b n _ _ g1 (by omega)).1 h2⟩
        · rintro ⟨h1, h2⟩
          obtain ⟨g1, g2⟩ := next_ok ho hp h1
          exact ⟨y, h1, r, (mem_ext ho b n _ _ g1 (by omega)).2 h2, rfl⟩

theorem next_bit {w : Wg} (ho : w.Ok) {b : Bool} {p : Pl} (hp : p.Ok w) {x : Pc} (hx : x ∈ w.plL b p) (i : Nat) : (p.next x).left.testBit i = (p.left.testBit i && i != x.b.toNat) := by
  obtain ⟨h1, h2, _⟩ := plL_iff.1 hx
  have h5 := ho.n.2
  have hs := hp.lt64 ho
  have hj : x.b.toNat < 6 := by have := h1.1; have := h1.2.1; omega
  have key : ∀ j : Nat, j < 6 → ∀ s : Nat, s < 64 → s.testBit j = true → ∀ i : Nat, i < 6 → (s - 2 ^ j).testBit i = (s.testBit i && i != j) := by decide +kernel
  simp only [Pl.next]
  by_cases hi : i < 6
  · exact key _ hj _ hs h2 i hi
  · have hb : ∀ s : Nat, s < 64 → s.testBit i = false := fun s hs => Nat.testBit_lt_two_pow (Nat.lt_of_lt_of_le hs (show 2 ^ 6 ≤ 2 ^ i from Nat.pow_le_pow_right (by omega) (by omega)))
    rw [hb _ (Nat.lt_of_le_of_lt (Nat.sub_le _ _) hs), hb _ hs]
    rfl

/-- Whether all joints hold. -/
def Wg.hL (w : Wg) (b : Bool) : Option Pc → List Pc → Prop
  | _, [] => True
  | o, x :: r => (∀ y, o = some y → w.jt b y x = 0) ∧ w.hL b (some x) r
def Pl.tp (p : Pl) : Option Pc := if p.some then Option.some p.top else Option.none
theorem goes_iff {w : Wg} (ho : w.Ok) {b : Bool} : ∀ (l : List Pc) (p : Pl), p.Ok w → (w.goes b p l ↔ (∀ x ∈ l, w.pok x) ∧ (l.map Pc.b).Nodup ∧ (∀ i : Nat, p.left.testBit i = true ↔ ∃ x ∈ l, x.b = (i : Int)) ∧ w.hL b p.tp l)
  | [], p, hp => by
    simp only [Wg.goes, List.not_mem_nil, false_implies, implies_true, List.map_nil, List.nodup_nil, false_and, exists_false, iff_false, Wg.hL, and_true, true_and]
    constructor
    · intro h i; rw [h, Nat.zero_testBit]; simp
    · intro h
      refine Nat.eq_of_testBit_eq fun i => ?_
      rw [Nat.zero_testBit]
      exact Bool.eq_false_iff.2 (h i)
  | x :: r, p, hp => by
    simp only [Wg.goes, Wg.hL]
    have htp : (∀ y, p.tp = some y → w.jt b y x = 0) ↔ (p.some = true → w.jt b p.top x = 0) := by
      simp only [Pl.tp]
      cases p.some <;> simp
    constructor
    · rintro ⟨h1, h2⟩
      obtain ⟨g1, g2⟩ := next_ok ho hp h1
      obtain ⟨k1, k2, k3, k4⟩ := (goes_iff ho r (p.next x) g1).1 h2
      obtain ⟨m1, m2, m3⟩ := plL_iff.1 h1
      refine ⟨?_, ?_, ?_, htp.2 m3, k4⟩
      · intro y hy
        rcases List.mem_cons.1 hy with rfl | hy
        · exact m1
        · exact k1 y hy
      · rw [List.map_cons, List.nodup_cons]
        refine ⟨fun hm => ?_, k2⟩
        obtain ⟨y, y1, y2⟩ := List.mem_map.1 hm
        have hy := k1 y y1
        have := (k3 y.b.toNat).2 ⟨y, y1, by have := hy.1; omega⟩
        rw [next_bit ho hp h1, y2] at this
        simp at this
      · intro i
        have hb := next_bit ho hp h1 i
        have hk := k3 i
        rw [hb] at hk
        constructor
        · intro hi
          by_cases e : i = x.b.toNat
          · exact ⟨x, List.mem_cons_self .., by have := m1.1; omega⟩
          · obtain ⟨y, y1, y2⟩ := hk.1 (by simp [hi, e])
            exact ⟨y, List.mem_cons_of_mem _ y1, y2⟩
        · rintro ⟨y, y1, y2⟩
          rcases List.mem_cons.1 y1 with rfl | y1
          · have : y.b.toNat = i := by omega
            rw [← this]; exact m2
          · have := hk.2 ⟨y, y1, y2⟩
            simp only [Bool.and_eq_true] at this
            exact this.1
    · rintro ⟨h1, h2, h3, h4, h5⟩
      have hx := h1 x (List.mem_cons_self ..)
      have hm : x ∈ w.plL b p := plL_iff.2 ⟨hx, (h3 x.b.toNat).2 ⟨x, List.mem_cons_self .., by have := hx.1; omega⟩, htp.1 h4⟩
      obtain ⟨g1, g2⟩ := next_ok ho hp hm
      rw [List.map_cons, List.nodup_cons] at h2
      refine ⟨hm, (goes_iff ho r (p.next x) g1).2 ⟨fun y hy => h1 y (List.mem_cons_of_mem _ hy), h2.2, fun i => ?_, h5⟩⟩
      rw [next_bit ho hp hm]
      constructor
      · intro hi
        simp only [Bool.and_eq_true, bne_iff_ne, ne_eq] at hi
        obtain ⟨y, y1, y2⟩ := (h3 i).1 hi.1
        rcases List.mem_cons.1 y1 with rfl | y1
        · exact absurd (by omega) hi.2
        · exact ⟨y, y1, y2⟩
      · rintro ⟨y, y1, y2⟩
        have := (h3 i).2 ⟨y, List.mem_cons_of_mem _ y1, y2⟩
        simp only [Bool.and_eq_true, bne_iff_ne, ne_eq]
        refine ⟨this, fun e => h2.1 (List.mem_map.2 ⟨y, y1, ?_⟩)⟩
        have := hx.1
        omega

end Go.Ab
/-
  Stacks as lists; the least one.
-/
namespace Go.Ab
open Go.Proofs
set_option linter.unusedSimpArgs false
set_option linter.unusedVariables false
set_option maxRecDepth 100000
set_option maxHeartbeats 2000000

variable {H : Heap}

/-! ### Stacks, as lists -/

theorem pc_mem {l : List Pc} {x : Pc} (h : x ∈ l) : ∃ i, i < l.length ∧ pcA l i = x := by
  obtain ⟨i, hi, rfl⟩ := List.mem_iff_getElem.1 h
  exact ⟨i, hi, by simp [pcA, hi]⟩

theorem pcA_mem {l : List Pc} {i : Nat} (h : i < l.length) : pcA l i ∈ l := by
  simp only [pcA, List.getD_eq_getElem?_getD, List.getElem?_eq_getElem h, Option.getD_some]
  exact List.getElem_mem h

theorem pcA_get {l : List Pc} {i : Nat} (h : i < l.length) : pcA l i = l[i] := by
  simp [pcA, h]

theorem poks_iff {w : Wg} {l : List Pc} : w.poks l ↔ ∀ x ∈ l, w.pok x := by
  constructor
  · intro h x hx
    obtain ⟨i, hi, rfl⟩ := pc_mem hx
    exact h i hi
  · intro h i hi
    exact h _ (pcA_mem hi)

theorem stk_iff {w : Wg} {l : List Pc} : w.stk l = true ↔ l ≠ [] ∧ (∀ x ∈ l, w.pok x) ∧ (l.map Pc.b).Nodup := by
  have hne : (decide ((0 : Int) < l.length) = true) ↔ l ≠ [] := by
    rw [decide_eq_true_eq]
    constructor
    · rintro h rfl; simp at h
    · intro h; have := List.length_pos_iff.2 h; omega
  have hb : ∀ i, w.badAt l i = false ↔ w.pok (pcA l i) ∧ ∀ x ∈ l.take i, x.b ≠ (pcA l i).b := by
    intro i
    simp only [Wg.badAt, Bool.or_eq_false_iff, Bool.not_eq_false', wi_iff, List.any_eq_false, beq_iff_eq, Wg.pok, Wg.n]
    constructor
    · rintro ⟨h1, h2, h3⟩; exact ⟨by omega, h3⟩
    · rintro ⟨h1, h3⟩; exact ⟨by omega, by omega, h3⟩
  simp only [Wg.stk, Bool.and_eq_true, Bool.not_eq_true', anyF_false, hne, hb]
  rw [← poks_iff]
  have hnd : (l.map Pc.b).Nodup ↔ ∀ i, i < l.length → ∀ x ∈ l.take i, x.b ≠ (pcA l i).b := by
    rw [List.Nodup, List.pairwise_map, List.pairwise_iff_getElem]
    constructor
    · intro h i hi x hx
      obtain ⟨k, hk, rfl⟩ := List.mem_iff_getElem.1 hx
      rw [List.length_take] at hk
      rw [List.getElem_take, pcA_get hi]
      exact h k i (by omega) hi (by omega)
    · intro h i j hi hj hij
      have := h j hj l[i] (by
        rw [List.mem_iff_getElem]
        exact ⟨i, by rw [List.length_take]; omega, List.getElem_take⟩)
      rw [pcA_get hj] at this
      exact this
  rw [hnd]
  constructor
  · rintro ⟨h1, h2⟩
    exact ⟨h2, fun i hi => (h1 i (by omega) (by omega)).1, fun i hi => (h1 i (by omega) (by omega)).2⟩
  · rintro ⟨h2, h3, h4⟩
    exact ⟨fun i _ hi => ⟨h3 i (by omega), h4 i (by omega)⟩, h2⟩

theorem hL_iff {w : Wg} {b : Bool} : ∀ (l : List Pc) (o : Option Pc), w.hL b o l ↔ (∀ y, o = some y → 0 < l.length → w.jt b y (pcA l 0) = 0) ∧ ∀ i, i + 1 < l.length → w.jt b (pcA l i) (pcA l (i + 1)) = 0
  | [], o => by simp [Wg.hL]
  | x :: r, o => by
    have ih := hL_iff (w := w) (b := b) r (some x)
    have e0 : pcA (x :: r) 0 = x := rfl
    have e1 : ∀ i, pcA (x :: r) (i + 1) = pcA r i := fun i => rfl
    simp only [Wg.hL, ih, e0, e1, List.length_cons, Option.some.injEq, forall_eq']
    constructor
    · rintro ⟨h1, h2, h3⟩
      refine ⟨fun y hy _ => h1 y hy, fun i hi => ?_⟩
      cases i with
      | zero => rw [e0]; exact h2 (by omega)
      | succ i => rw [e1]; exact h3 i (by omega)
    · rintro ⟨h1, h2⟩
      refine ⟨fun y hy => h1 y hy (by omega), fun h => ?_, fun i hi => ?_⟩
      · have := h2 0 (by omega); rw [e0] at this; exact this
      · have := h2 (i + 1) (by omega); rw [e1] at this; exact this

theorem hld_iff {w : Wg} {b : Bool} {l : List Pc} : w.hld b l = true ↔ ∀ i, i + 1 < l.length → w.jt b (pcA l i) (pcA l (i + 1)) = 0 := by
  simp only [Wg.hld, Bool.not_eq_true', anyF_false, bne_eq_false_iff_eq]
  constructor
  · intro h i hi; exact h i (by omega) (by omega)
  · intro h i _ hi; exact h i (by omega)

theorem hld_hL {w : Wg} {b : Bool} {l : List Pc} : w.hld b l = true ↔ w.hL b none l := by
  rw [hld_iff, hL_iff]; simp

/-- A stack of just the blocks of a set. -/
def Wg.setOf (w : Wg) (s : Nat) (l : List Pc) : Prop := ∀ i : Nat, s.testBit i = true ↔ ∃ x ∈ l, x.b = (i : Int)

theorem goes_set {w : Wg} (ho : w.Ok) {b : Bool} {s : Nat} (hs : s < 2 ^ w.bs.length) (l : List Pc) : w.goes b ⟨s, pc0, false⟩ l ↔ (l = [] ∧ s = 0) ∨ (w.stk l = true ∧ w.hld b l = true ∧ w.setOf s l) := by
  rw [goes_iff ho l _ (start_ok hs), stk_iff, hld_hL]
  show _ ∧ _ ∧ w.setOf s l ∧ w.hL b none l ↔ _
  constructor
  · rintro ⟨h1, h2, h3, h4⟩
    by_cases hl : l = []
    · subst hl
      refine .inl ⟨rfl, Nat.eq_of_testBit_eq fun i => ?_⟩
      rw [Nat.zero_testBit]
      have := h3 i
      simp only [List.not_mem_nil, false_and, exists_false, iff_false] at this
      exact Bool.eq_false_iff.2 this
    · exact .inr ⟨⟨hl, h1, h2⟩, h4, h3⟩
  · rintro (⟨rfl, rfl⟩ | ⟨⟨h0, h1, h2⟩, h4, h3⟩)
    · exact ⟨fun x hx => (by cases hx), List.nodup_nil, fun i => (by simp), trivial⟩
    · exact ⟨h1, h2, h3, h4⟩

theorem tal_least {w : Wg} (ho : w.Ok) {b : Bool} {p : Pl} (hp : p.Ok w) : 0 ≤ (w.tal b p).1 ∧ (∀ l, w.goes b p l → 0 < (w.tal b p).1 ∧ (w.tal b p).2 ≤ w.fmL p l) ∧ (0 < (w.tal b p).1 → ∃ l, w.goes b p l ∧ w.fmL p l = (w.tal b p).2) := by
  have hc := cnt_le (hp.lt64 ho)
  obtain ⟨h1, h2, h3⟩ := tal_ext w b 6 p
  refine ⟨by rw [h1]; omega, fun l hl => ?_, fun h => ?_⟩
  · have hm := (mem_ext ho b 6 p l hp hc).2 hl
    refine ⟨?_, h2 l hm⟩
    have := List.length_pos_of_mem hm
    rw [h1]; omega
  · have : w.ext b 6 p ≠ [] := by
      intro e
      rw [e] at h1
      simp only [List.length_nil] at h1
      have h' : 0 < (w.talF b 6 p).1 := h
      omega
    obtain ⟨l, l1, l2⟩ := h3 this
    exact ⟨l, (mem_ext ho b 6 p l hp hc).1 l1, l2⟩

/-- Whether a list comes before another one, where they differ first. -/
def lexP (a c : Pc) : Prop := a.b < c.b ∨ (a.b = c.b ∧ a.u < c.u)
def lexL : List Pc → List Pc → Prop
  | [], _ => True
  | _, [] => False
  | a :: r, c :: s => lexP a c ∨ (a = c ∧ lexL r s)

end Go.Ab
/-
  A wring with the blocks of a set alone.
-/
namespace Go.Ab
open Go.Proofs
set_option linter.unusedSimpArgs false
set_option linter.unusedVariables false
set_option maxRecDepth 100000
set_option maxHeartbeats 2000000

variable {H : Heap}


/-! ### The blocks of a set, in order -/

def selL (s n : Nat) : List Nat := (List.range n).filter s.testBit
/-- How many of a set come before a block. -/
def rk (s i : Nat) : Nat := (selL s i).length

theorem sel_succ (s n : Nat) : selL s (n + 1) = selL s n ++ if s.testBit n then [n] else [] := by
  simp only [selL, List.range_succ, List.filter_append, List.filter_cons, List.filter_nil]

theorem rk_at {s : Nat} : ∀ {n i : Nat}, i < n → s.testBit i = true → rk s i < (selL s n).length ∧ (selL s n).getD (rk s i) 0 = i
  | 0, i, h, _ => by omega
  | n + 1, i, h, hb => by
    rw [sel_succ]
    by_cases e : i = n
    · subst e
      rw [hb, if_pos rfl]
      simp only [List.length_append, List.length_singleton, rk]
      exact ⟨by omega, by simp⟩
    · obtain ⟨h1, h2⟩ := rk_at (n := n) (by omega) hb
      refine ⟨by rw [List.length_append]; omega, ?_⟩
      rw [List.getD_eq_getElem?_getD, List.getElem?_append_left h1, ← List.getD_eq_getElem?_getD]
      exact h2

theorem sel_at {s : Nat} : ∀ {n k : Nat}, k < (selL s n).length → (selL s n).getD k 0 < n ∧ s.testBit ((selL s n).getD k 0) = true ∧ rk s ((selL s n).getD k 0) = k
  | 0, k, h => by simp [selL] at h
  | n + 1, k, h => by
    rw [sel_succ] at h ⊢
    by_cases hk : k < (selL s n).length
    · obtain ⟨h1, h2, h3⟩ := sel_at (n := n) hk
      have e : (selL s n ++ if s.testBit n then [n] else []).getD k 0 = (selL s n).getD k 0 := by
        rw [List.getD_eq_getElem?_getD, List.getElem?_append_left hk, ← List.getD_eq_getElem?_getD]
      rw [e]
      exact ⟨by omega, h2, h3⟩
    · cases hb : s.testBit n
      · rw [hb] at h; simp at h; omega
      · rw [hb, if_pos rfl] at h
        rw [if_pos rfl]
        simp only [List.length_append, List.length_singleton] at h
        have e : k = (selL s n).length := by omega
        subst e
        have : (selL s n ++ [n]).getD (selL s n).length 0 = n := by simp
        rw [this]
        exact ⟨by omega, hb, rfl⟩

theorem rk_inj {s i j : Nat} (hi : s.testBit i = true) (hj : s.testBit j = true) (h : rk s i = rk s j) : i = j := by
  have a := (rk_at (n := max i j + 1) (by omega) hi).2
  have b := (rk_at (n := max i j + 1) (by omega) hj).2
  rw [h] at a
  exact a.symm.trans b

theorem sel_le (s n : Nat) : (selL s n).length ≤ n := by
  have := List.length_filter_le s.testBit (List.range n)
  rw [List.length_range] at this
  exact this

def inS (s : Nat) (a : Ap) : Bool := s.testBit a.a.toNat && s.testBit a.b.toNat
def apR (s : Nat) (a : Ap) : Ap := ⟨rk s a.a.toNat, rk s a.b.toNat⟩
/-- A wring with the blocks of a set alone. -/
def Wg.only (w : Wg) (s : Nat) : Wg := ⟨(selL s w.bs.length).map w.b, (w.ps.filter (inS s)).map (apR s)⟩

/-! ### The map -/

def omM (s : Nat) : Nat → List (AV × AV)
  | 0 => []
  | j + 1 => if s.testBit j then putM (I j) (I (rk s j)) (omM s j) else omM s j

theorem I_same (a b : Int) : (I a).same (I b) = (a == b) := by simp [AV.same]

theorem omM_look (s x : Nat) : ∀ j, lookupM (I x) (omM s j) = if x < j ∧ s.testBit x = true then some (I (rk s x)) else none
  | 0 => by rw [if_neg (by omega)]; rfl
  | j + 1 => by
    simp only [omM]
    cases hb : s.testBit j
    · simp only [Bool.false_eq_true, if_false]
      rw [omM_look s x j]
      by_cases e : x = j
      · subst e; rw [if_neg (by omega), if_neg (by rw [hb]; simp)]
      · by_cases h : x < j ∧ s.testBit x = true
        · rw [if_pos h, if_pos ⟨by omega, h.2⟩]
        · rw [if_neg h, if_neg (fun g => h ⟨by omega, g.2⟩)]
    · simp only [if_true]
      rw [lookup_put, I_same, omM_look s x j]
      by_cases e : x = j
      · subst e; rw [if_pos (by simp), if_pos ⟨by omega, hb⟩]
      · rw [if_neg (by simpa using (by omega : ¬ (x : Int) = (j : Int)))]
        by_cases h : x < j ∧ s.testBit x = true
        · rw [if_pos h, if_pos ⟨by omega, h.2⟩]
        · rw [if_neg h, if_neg (fun g => h ⟨by omega, g.2⟩)]

theorem putM_lt {N : Nat} {k v : AV} (hk : k.lt N = true) (hv : v.lt N = true) : ∀ {es : List (AV × AV)}, mapLt N es = true → mapLt N (putM k v es) = true
  | [], _ => by simp [putM, mapLt, hk, hv]
  | (a, b) :: r, h => by
    simp only [mapLt, Bool.and_eq_true] at h
    simp only [putM]
    split
    · simp [mapLt, hk, hv, h.2.2]
    · simp only [mapLt, Bool.and_eq_true]; exact ⟨h.1, h.2.1, putM_lt hk hv h.2.2⟩

theorem omM_lt (s N : Nat) : ∀ j, mapLt N (omM s j) = true
  | 0 => rfl
  | j + 1 => by
    simp only [omM]
    split
    · exact putM_lt rfl rfl (omM_lt s N j)
    · exact omM_lt s N j

/-! ### The walk -/

theorem on_loop2 {w : Wg} {vb va : AV} (h : WgAt H w vb va) (ho : w.Ok) {s : Nat} (hs : s < 2 ^ 60) (o0 : AO) (ho0 : o0.lt (H.length + 6) = true) (bs : List Bk) :
    ∀ (q j : Nat), j + q = w.ps.length → ∀ (G : Heap), ∀ (acc : List Ap), acc = ((w.ps.take j).filter (inS s)).map (apR s) → ∀ E : Env, E.get 1 = I s → E.get 4 = .ptr (H.length + 1) 0 → E.get 5 = .ptr (H.length + 2) 0 → E.get 6 = .map (H.length + 3) → E.get 38 = va → E.get 39 = I w.ps.length → E.get 40 = I j →
    Option.map (finishC H.length) (execL cfg0 prog0 ⟨44, none, false, H.length⟩ (todoAt Try.f44 11) ⟨E, [], H ++ (o0 :: .box (.agg [.sl true [], .sl true []]) :: .box (.agg [.gsl (H.length + 4) bs.length, .gsl (H.length + 5) acc.length]) :: .map 3 (omM s w.bs.length) :: .grow 8 (bs.map Bk.av) :: .grow 2 (acc.map Ap.av) :: G), none⟩) = some ⟨.ret (.agg [.sl false (bs.map Bk.av), .sl false (((w.ps.filter (inS s)).map (apR s)).map Ap.av)]), H, none⟩ := by
  intro q
  obtain ⟨a1, a2, a3, a4, a5⟩ := h.ps.fF (d := ap0)
  have s2 := h.ps.scal
  have t2 := h.ps.ltn 6
  have m0 := omM_lt s (H.length + 6) w.bs.length
  have m1 : ltL 0 (bs.map Bk.av) = true := ltL_map (fun _ => rfl) bs
  have m2 : ltL H.length (bs.map Bk.av) = true := ltL_map (fun _ => rfl) bs
  have l1 : (bs.map Bk.av).length = bs.length := List.length_map _
  have hnp := ho.np
  induction q with
  | zero =>
    intro j hj G acc hacc E g1 g4 g5 g6 g38 g39 g40
    have hk' : ¬ (j : Int) < ((w.ps.length : Nat) : Int) := by omega
    have ej : j = w.ps.length := by omega
    rw [ej, List.take_length] at hacc
    rw [← hacc]
    have m3 : ltL 0 (acc.map Ap.av) = true := ltL_map (fun _ => rfl) acc
    have m4 : ltL H.length (acc.map Ap.av) = true := ltL_map (fun _ => rfl) acc
    have l2 : (acc.map Ap.av).length = acc.length := List.length_map _
    simp only [loopIt, todoPast, todoAt, todoOf, firstReg, ↓reduceIte, Option.some.injEq, Nat.reduceEqDiff, reduceCtorEq, Try.f44]
    rw [execL_inLoop]
    simp (maxSteps := 1000000) (implicitDefEqProofs := false) (disch := first | rfl | omega | assumption) only [go_sem, g1, g4, g5, g6, g38, g39, g40, ltT, ltF, leT, leF, hk', s2, t2, ho0, m0, m1, m2, m3, m4, l1, l2]
    done
  | succ q ih =>
    intro j hj G acc hacc E g1 g4 g5 g6 g38 g39 g40
    have hk' : (j : Int) < ((w.ps.length : Nat) : Int) := by omega
    have hk2 : j < w.ps.length := by omega
    have m3 : ltL 0 (acc.map Ap.av) = true := ltL_map (fun _ => rfl) acc
    obtain ⟨⟨xa, xb⟩, hxx⟩ : ∃ x, w.ps.getD j ap0 = x := ⟨_, rfl⟩
    have hap := ho.ap j (by omega)
    have hwa : w.a j = ⟨xa, xb⟩ := hxx
    rw [hwa] at hap
    simp only [Wg.n] at hap
    obtain ⟨na, rfl⟩ := Int.eq_ofNat_of_zero_le hap.1
    obtain ⟨nb, rfl⟩ := Int.eq_ofNat_of_zero_le hap.2.2.1
    have h5 := ho.n.2
    simp only [Wg.n] at h5
    have hav : ∀ a b : Int, (Ap.av ⟨a, b⟩).cells = [I a, I b] := fun _ _ => rfl
    have htk : w.ps.take (j + 1) = w.ps.take j ++ [⟨na, nb⟩] := by
      rw [List.take_succ_eq_append_getElem (by omega), ← hxx]
      simp [show j < w.ps.length by omega]
    have za : ¬ (na : Int) < 0 := by omega
    have zb : ¬ (nb : Int) < 0 := by omega
    have e1 := shrN (s := s) (j := na) (by omega)
    have e2 := bitI (s := s) (j := na) hs
    have e3 := and_one (s := s) (j := na)
    have f1 := shrN (s := s) (j := nb) (by omega)
    have f2 := bitI (s := s) (j := nb) hs
    have f3 := and_one (s := s) (j := nb)
    have hin : inS s ⟨na, nb⟩ = (s.testBit na && s.testBit nb) := rfl
    have key := fun (G : Heap) (acc' : List Ap) (h' : acc' = ((w.ps.take (j + 1)).filter (inS s)).map (apR s)) => ih (j + 1) (by omega) G acc' h'
    rw [htk, List.filter_append, List.filter_cons, List.filter_nil, hin, List.map_append, ← hacc] at key
    cases c1 : s.testBit na
    · rw [c1] at e3 key
      simp only [Bool.false_and, Bool.false_eq_true, if_false, List.map_nil, List.append_nil] at key
      simp only [loopIt, todoPast, todoAt, todoOf, firstReg, ↓reduceIte, Option.some.injEq, Nat.reduceEqDiff, reduceCtorEq, Try.f44]
      rw [execL_inLoop]
      simp (maxSteps := 1000000) (implicitDefEqProofs := false) (disch := first | rfl | omega | assumption) only [go_sem, g1, g4, g5, g6, g38, g39, g40, ltT, ltF, leT, leF, hk', s2, t2, ho0, m0, m1, m3, a1, a2, a3, a4, a5, hxx, hav, za, zb, e1, e2, e3, f1, f2, f3]
      exact key _ acc rfl _ (by rfl) (by rfl) (by rfl) (by rfl) (by rfl) (by rfl) (by rfl)
    · cases c2 : s.testBit nb
      · rw [c1] at e3 key
        rw [c2] at f3 key
        simp only [Bool.and_false, Bool.false_eq_true, if_false, List.map_nil, List.append_nil] at key
        simp only [loopIt, todoPast, todoAt, todoOf, firstReg, ↓reduceIte, Option.some.injEq, Nat.reduceEqDiff, reduceCtorEq, Try.f44]
        rw [execL_inLoop]
        simp (maxSteps := 1000000) (implicitDefEqProofs := false) (disch := first | rfl | omega | assumption) only [go_sem, g1, g4, g5, g6, g38, g39, g40, ltT, ltF, leT, leF, hk', s2, t2, ho0, m0, m1, m3, a1, a2, a3, a4, a5, hxx, hav, za, zb, e1, e2, e3, f1, f2, f3]
        exact key _ acc rfl _ (by rfl) (by rfl) (by rfl) (by rfl) (by rfl) (by rfl) (by rfl)
      · rw [c1] at e3 key
        rw [c2] at f3 key
        simp only [Bool.and_true, if_true, List.map_cons, List.map_nil] at key
        have k1 := omM_look s na w.bs.length
        have k2 := omM_look s nb w.bs.length
        rw [if_pos ⟨by omega, c1⟩] at k1
        rw [if_pos ⟨by omega, c2⟩] at k2
        have hr : apR s ⟨na, nb⟩ = ⟨rk s na, rk s nb⟩ := rfl
        rw [hr] at key
        have hal : acc.length ≤ 10 := by
          have := List.length_filter_le (inS s) (w.ps.take j)
          have h2 : (w.ps.take j).length ≤ w.ps.length := by rw [List.length_take]; omega
          rw [hacc, List.length_map]; omega
        have hadd : ∀ (o0 o1 o2 o3 o4 : AO) (G : Heap), addElem (H ++ (o0 :: o1 :: o2 :: o3 :: o4 :: .grow 2 (acc.map Ap.av) :: G)) 2 true (.gsl (H.length + 5) acc.length) [.agg [I (rk s na), I (rk s nb)]] = some (.gsl (H.length + 5) (acc.length + 1), H ++ (o0 :: o1 :: o2 :: o3 :: o4 :: .grow 2 ((acc ++ [(⟨rk s na, rk s nb⟩ : Ap)]).map Ap.av) :: G)) := fun o0 o1 o2 o3 o4 G => by
          rw [add_gsl (xs := acc.map Ap.av) (by rw [get_at']; rfl) (by simp) (by rfl) (by rfl) (by simp; omega), set_at']
          simp [Ap.av]
        have hla : (acc ++ [(⟨rk s na, rk s nb⟩ : Ap)]).length = acc.length + 1 := by simp
        have key' := fun G => key G _ rfl
        rw [hla] at key'
        simp only [loopIt, todoPast, todoAt, todoOf, firstReg, ↓reduceIte, Option.some.injEq, Nat.reduceEqDiff, reduceCtorEq, Try.f44]
        rw [execL_inLoop]
        simp (maxSteps := 1000000) (implicitDefEqProofs := false) (disch := first | rfl | omega | assumption) only [go_sem, g1, g4, g5, g6, g38, g39, g40, ltT, ltF, leT, leF, hk', s2, t2, ho0, m0, m1, m3, a1, a2, a3, a4, a5, hxx, hav, za, zb, e1, e2, e3, f1, f2, f3, k1, k2, hadd]
        exact key' _ _ (by rfl) (by rfl) (by rfl) (by rfl) (by rfl) (by rfl) (by rfl)

theorem on_loop1 {w : Wg} {vb va : AV} (h : WgAt H w vb va) (ho : w.Ok) {s : Nat} (hs : s < 2 ^ 60) :
    ∀ (q j : Nat), j + q = w.bs.length → ∀ (G : Heap), ∀ (acc : List Bk), acc = (selL s j).map w.b → ∀ E : Env, E.get 1 = I s → E.get 2 = .ptr H.length 0 → E.get 4 = .ptr (H.length + 1) 0 → E.get 5 = .ptr (H.length + 2) 0 → E.get 6 = .map (H.length + 3) → E.get 13 = vb → E.get 14 = I w.bs.length → E.get 15 = I j →
    Option.map (finishC H.length) (execL cfg0 prog0 ⟨44, none, false, H.length⟩ (todoAt Try.f44 4) ⟨E, [], H ++ (.box (.agg [vb, va]) :: .box (.agg [.sl true [], .sl true []]) :: .box (.agg [.gsl (H.length + 4) acc.length, .gsl (H.length + 5) 0]) :: .map 3 (omM s j) :: .grow 8 (acc.map Bk.av) :: .grow 2 [] :: G), none⟩) = some ⟨.ret (.agg [.sl false ((w.only s).bs.map Bk.av), .sl false ((w.only s).ps.map Ap.av)]), H, none⟩ := by
  intro q
  obtain ⟨a1, a2, a3, a4, a5⟩ := h.bs.fF (d := bk0)
  have s1 := h.bs.scal
  have s2 := h.ps.scal
  have t1 := h.bs.ltn 6
  have t2 := h.ps.ltn 6
  have m0 := fun j => omM_lt s (H.length + 6) j
  have n2 := h.ps.len
  rw [List.length_map] at n2
  have c2 := h.ps.cel
  have h5 := ho.n.2
  simp only [Wg.n] at h5
  induction q with
  | zero =>
    intro j hj G acc hacc E g1 g2 g4 g5 g6 g13 g14 g15
    have hk' : ¬ (j : Int) < ((w.bs.length : Nat) : Int) := by omega
    have ej : j = w.bs.length := by omega
    subst ej
    have m1 : ltL 0 (acc.map Bk.av) = true := ltL_map (fun _ => rfl) acc
    have eb : (w.only s).bs = acc := hacc.symm
    have u1 : (AO.box (.agg [vb, va])).lt (H.length + 6) = true := by simp [AO.lt, AV.lt, ltL, t1, t2]
    have h1 := fun G => on_loop2 h ho hs (.box (.agg [vb, va])) u1 acc w.ps.length 0 (by omega) G [] rfl
    rw [eb]
    simp only [List.map_nil, List.length_nil] at h1
    simp only [loopIt, todoPast, todoAt, todoOf, firstReg, ↓reduceIte, Option.some.injEq, Nat.reduceEqDiff, reduceCtorEq, Try.f44]
    rw [execL_inLoop]
    simp (maxSteps := 1000000) (implicitDefEqProofs := false) (disch := first | rfl | omega | assumption) only [go_sem, g1, g2, g4, g5, g6, g13, g14, g15, ltT, ltF, leT, leF, hk', s1, s2, t1, t2, m0, m1, n2, c2]
    exact h1 _ _ (by rfl) (by rfl) (by rfl) (by rfl) (by rfl) (by rfl) (by rfl)
  | succ q ih =>
    intro j hj G acc hacc E g1 g2 g4 g5 g6 g13 g14 g15
    have hk' : (j : Int) < ((w.bs.length : Nat) : Int) := by omega
    have hk2 : j < w.bs.length := by omega
    have m1 : ltL 0 (acc.map Bk.av) = true := ltL_map (fun _ => rfl) acc
    obtain ⟨x, hxx⟩ : ∃ x, w.bs.getD j bk0 = x := ⟨_, rfl⟩
    have hwx : w.b j = x := hxx
    have hav : ∀ x : Bk, x.av.cells = [I x.lo, I x.hi, I x.f0.lo, I x.f0.hi, I x.f0.st, I x.f1.lo, I x.f1.hi, I x.f1.st] := fun _ => rfl
    have hla : acc.length = rk s j := by rw [hacc, List.length_map]; rfl
    have hle := sel_le s j
    have z : ¬ (j : Int) < 0 := by omega
    have e1 := shrN (s := s) (j := j) (by omega)
    have e2 := bitI (s := s) (j := j) hs
    have e3 := and_one (s := s) (j := j)
    have key := fun (G : Heap) (acc' : List Bk) (h' : acc' = (selL s (j + 1)).map w.b) => ih (j + 1) (by omega) G acc' h'
    rw [sel_succ, List.map_append, ← hacc] at key
    simp only [omM] at key
    cases c1 : s.testBit j
    · rw [c1] at e3 key
      simp only [Bool.false_eq_true, if_false, List.map_nil, List.append_nil] at key
      simp only [loopIt, todoPast, todoAt, todoOf, firstReg, ↓reduceIte, Option.some.injEq, Nat.reduceEqDiff, reduceCtorEq, Try.f44]
      rw [execL_inLoop]
      simp (maxSteps := 1000000) (implicitDefEqProofs := false) (disch := first | rfl | omega | assumption) only [go_sem, g1, g2, g4, g5, g6, g13, g14, g15, ltT, ltF, leT, leF, hk', s1, s2, t1, t2, m0, m1, a1, a2, a3, a4, a5, hxx, hav, z, e1, e2, e3]
      exact key _ acc rfl _ (by rfl) (by rfl) (by rfl) (by rfl) (by rfl) (by rfl) (by rfl) (by rfl)
    · rw [c1] at e3 key
      simp only [if_true, List.map_cons, List.map_nil, hwx] at key
      have hal : acc.length ≤ 5 := by rw [hla]; simp only [rk]; omega
      have hadd : ∀ (o0 o1 o2 o3 o5 : AO) (G : Heap), addElem (H ++ (o0 :: o1 :: o2 :: o3 :: .grow 8 (acc.map Bk.av) :: o5 :: G)) 8 true (.gsl (H.length + 4) acc.length) [.agg [I x.lo, I x.hi, I x.f0.lo, I x.f0.hi, I x.f0.st, I x.f1.lo, I x.f1.hi, I x.f1.st]] = some (.gsl (H.length + 4) (acc.length + 1), H ++ (o0 :: o1 :: o2 :: o3 :: .grow 8 ((acc ++ [x]).map Bk.av) :: o5 :: G)) := fun o0 o1 o2 o3 o5 G => by
        rw [add_gsl (xs := acc.map Bk.av) (by rw [get_at']; rfl) (by simp) (by rfl) (by rfl) (by simp; omega), set_at']
        simp [Bk.av]
      have hlx : (acc ++ [x]).length = acc.length + 1 := by simp
      have key' := fun G => key G _ rfl
      rw [hlx] at key'
      rw [← hla] at key'
      simp only [loopIt, todoPast, todoAt, todoOf, firstReg, ↓reduceIte, Option.some.injEq, Nat.reduceEqDiff, reduceCtorEq, Try.f44]
      rw [execL_inLoop]
      simp (maxSteps := 1000000) (implicitDefEqProofs := false) (disch := first | rfl | omega | assumption) only [go_sem, g1, g2, g4, g5, g6, g13, g14, g15, ltT, ltF, leT, leF, hk', s1, s2, t1, t2, m0, m1, a1, a2, a3, a4, a5, hxx, hav, z, e1, e2, e3, hadd]
      exact key' _ _ (by rfl) (by rfl) (by rfl) (by rfl) (by rfl) (by rfl) (by rfl) (by rfl)

theorem law_only {w : Wg} {vb va : AV} (h : WgAt H w vb va) (ho : w.Ok) {s : Nat} (hs : s < 2 ^ 60) :
    callFL cfg0 prog0 false 44 [.agg [vb, va], I s] H none = some ⟨.ret (.agg [.sl false ((w.only s).bs.map Bk.av), .sl false ((w.only s).ps.map Ap.av)]), H, none⟩ := by
  have s1 := h.bs.scal
  have s2 := h.ps.scal
  have t1 := h.bs.ltn 4
  have t2 := h.ps.ltn 4
  have n1 := h.bs.len
  rw [List.length_map] at n1
  have c1 := h.bs.cel
  have h1 := fun G => on_loop1 h ho hs w.bs.length 0 (by omega) G [] rfl
  simp only [List.map_nil, List.length_nil, omM] at h1
  refine (callFL_eq fn44 rfl (by simp [Try.f44])).trans ?_
  simp (maxSteps := 1000000) (implicitDefEqProofs := false) (disch := first | rfl | omega | assumption) only [go_sem, ltT, ltF, leT, leF, s1, s2, t1, t2, n1, c1]
  exact h1 _ _ (by rfl) (by rfl) (by rfl) (by rfl) (by rfl) (by rfl) (by rfl) (by rfl)

end Go.Ab
/-
  The reference, walked: powers, sets, all.
-/
namespace Go.Ab
open Go.Proofs
set_option linter.unusedSimpArgs false
set_option linter.unusedVariables false
set_option maxRecDepth 100000
set_option maxHeartbeats 2000000

variable {H : Heap}


theorem pow_le {j n : Nat} (h : j ≤ n) : (2 : Nat) ^ j ≤ 2 ^ n := Nat.pow_le_pow_right (by omega) h
theorem wN {m : Nat} (h : m < 2 ^ 62) : IntKind.i64.wrap (m : Int) = m := w64 (by omega) (by omega)
abbrev pw (n : Nat) : Int := ((2 ^ n : Nat) : Int)

end Go.Ab
/-
  The reference, walked: how many are in a set; all stacks.
-/
namespace Go.Ab
open Go.Proofs
set_option linter.unusedSimpArgs false
set_option linter.unusedVariables false
set_option maxRecDepth 100000
set_option maxHeartbeats 2000000

variable {H : Heap}


theorem size_loop (r : Nat) :
    ∀ (q j : Nat), j + q = 20 → ∀ (s n : Nat), s < 2 ^ q → n ≤ j → n + popF q s = r → ∀ E : Env, E.get 0 = I s → E.get 3 = I n →
    Option.map (finishC H.length) (execL cfg0 prog0 ⟨45, none, false, H.length⟩ (todoAt Try.f45 2) ⟨E, [], H, none⟩) = some ⟨.ret (I r), H, none⟩ := by
  intro q
  skip
  induction q with
  | zero =>
    intro j hj s n hs hn hr E g0 g3
    have hk' : ¬ (j : Int) < ((20 : Nat) : Int) := by omega
    have es : s = 0 := by simpa using hs
    subst es
    simp only [popF, Nat.add_zero] at hr
    subst hr
    simp only [loopIt, todoPast, todoAt, todoOf, firstReg, ↓reduceIte, Option.some.injEq, Nat.reduceEqDiff, reduceCtorEq, Try.f45]
    rw [execL_inLoop]
    simp (maxSteps := 1000000) (implicitDefEqProofs := false) (disch := first | rfl | omega | assumption) only [go_sem, g0, g3, ltT, ltF, leT, leF, hk']
    done
  | succ q ih =>
    intro j hj s n hs hn hr E g0 g3
    have hk' : (j : Int) < ((20 : Nat) : Int) := by omega
    have hk2 : j < 20 := by omega
    simp only [popF] at hr
    by_cases h0 : s = 0
    · subst h0
      rw [popF_zero] at hr
      have e : n = r := by omega
      subst e
      simp only [loopIt, todoPast, todoAt, todoOf, firstReg, ↓reduceIte, Option.some.injEq, Nat.reduceEqDiff, reduceCtorEq, Try.f45]
      rw [execL_inLoop]
      simp (maxSteps := 1000000) (implicitDefEqProofs := false) (disch := first | rfl | omega | assumption) only [go_sem, g0, g3, ltT, ltF, leT, leF, hk']
      done
    · have hp : (0 : Int) < (s : Int) := by omega
      have e1 : ((s : Nat) : Int).tdiv 2 = ((s / 2 : Nat) : Int) := rfl
      have e2 : ((s : Nat) : Int).tmod 2 = ((s % 2 : Nat) : Int) := rfl
      have hb : (2 : Nat) ^ (q + 1) ≤ 2 ^ 20 := Nat.pow_le_pow_right (by omega) (by omega)
      have e3 : IntKind.i64.wrap ((n : Int) + ((s % 2 : Nat) : Int)) = ((n + s % 2 : Nat) : Int) := by rw [w64 (by omega) (by omega)]; omega
      have e4 : IntKind.i64.wrap ((s / 2 : Nat) : Int) = ((s / 2 : Nat) : Int) := wN (by omega)
      simp only [loopIt, todoPast, todoAt, todoOf, firstReg, ↓reduceIte, Option.some.injEq, Nat.reduceEqDiff, reduceCtorEq, Try.f45]
      rw [execL_inLoop]
      simp (maxSteps := 1000000) (implicitDefEqProofs := false) (disch := first | rfl | omega | assumption) only [go_sem, g0, g3, ltT, ltF, leT, leF, hk', hp, e1, e2, e3, e4]
      exact ih (j + 1) (by omega) (s / 2) (n + s % 2) (by rw [Nat.pow_succ] at hs; omega) (by omega) (by omega) _ (by rfl) (by rfl)

theorem ref_Size {s : Nat} (hs : s < 2 ^ 20) (H : Heap) : callFL cfg0 prog0 false 45 [I s] H none = some ⟨.ret (I (pop s)), H, none⟩ := by
  have h1 := size_loop (H := H) (pop s) 20 0 (by omega) s 0 hs (by omega) (by simp [pop])
  refine (callFL_eq fn45 rfl (by simp [Try.f45])).trans ?_
  simp (maxSteps := 1000000) (implicitDefEqProofs := false) (disch := first | rfl | omega | assumption) only [go_sem, ltT, ltF, leT, leF]
  exact h1 _ (by rfl) (by rfl)

end Go.Ab
/-
  The reference, walked: all stacks.
-/
namespace Go.Ab
open Go.Proofs
set_option linter.unusedSimpArgs false
set_option linter.unusedVariables false
set_option maxRecDepth 100000
set_option maxHeartbeats 2000000

variable {H : Heap}


def stA (xs : List Pc) : AV := .sl false (xs.map Pc.av)
/-- What lies at the foot of a call: the list that grows, if it begins there. -/
def XO (H : Heap) (P : Nat) (outs : List (List Pc)) : AO := .grow 1 (if P = H.length then outs.map stA else [])

/-- What a call answers. -/
def stR (H : Heap) (P : Nat) (outs : List (List Pc)) : Option Done := some ⟨.ret (if P < H.length then .gsl P outs.length else .sl false (outs.map stA)), H.set P (.grow 1 (outs.map stA)), none⟩

/-- Where the list that grows lies, when a call begins. -/
def OutAt (H : Heap) (P : Nat) (v : AV) (outs : List (List Pc)) : Prop :=
  (P < H.length ∧ v = .gsl P outs.length ∧ H[P]? = some (.grow 1 (outs.map stA))) ∨ (P = H.length ∧ v = .sl true [] ∧ outs = [])

/-- A stack to go on with, and its pile. -/
structure Beg (w : Wg) (b : Bool) (s : Nat) (xs : List Pc) (p : Pl) : Prop where
  ok : p.Ok w
  px : ∀ x ∈ xs, w.pok x
  nd : (xs.map Pc.b).Nodup
  hl : w.hL b none xs
  lf : ∀ i : Nat, p.left.testBit i = true ↔ s.testBit i = true ∧ ∀ x ∈ xs, x.b ≠ (i : Int)
  tp : p.tp = xs.getLast?
  cn : xs.length + cnt p.left = cnt s

theorem hL_snoc {w : Wg} {b : Bool} {x : Pc} : ∀ (xs : List Pc) (o : Option Pc), w.hL b o (xs ++ [x]) ↔ w.hL b o xs ∧ ∀ y, (xs.getLast?.or o) = some y → w.jt b y x = 0
  | [], o => by simp [Wg.hL]
  | z :: r, o => by
    have ih := hL_snoc (w := w) (b := b) (x := x) r (some z)
    have e : ((z :: r).getLast?.or o) = (r.getLast?.or (some z)) := by
      cases r with
      | nil => rfl
      | cons a s =>
        rw [List.getLast?_cons_cons, List.getLast?_eq_some_getLast (List.cons_ne_nil a s)]
        rfl
    simp only [List.cons_append, Wg.hL, ih, e]
    exact ⟨fun ⟨a, b, c⟩ => ⟨⟨a, b⟩, c⟩, fun ⟨⟨a, b⟩, c⟩ => ⟨a, b, c⟩⟩

theorem tp_iff {p : Pl} {f : Pc → Prop} : (p.some = true → f p.top) ↔ ∀ y, p.tp = some y → f y := by
  simp only [Pl.tp]
  cases p.some <;> simp

theorem Beg.cond {w : Wg} {b : Bool} {s : Nat} {xs : List Pc} {p : Pl} (hb : Beg w b s xs p) {x : Pc} (hx : w.pok x) :
    x ∈ w.plL b p ↔ s.testBit x.b.toNat = true ∧ w.stk (xs ++ [x]) = true ∧ w.hld b (xs ++ [x]) = true := by
  have h3 := tp_iff (p := p) (f := fun y => w.jt b y x = 0)
  rw [plL_iff, h3, hb.tp, hb.lf, stk_iff, hld_hL, hL_snoc, Option.or_none]
  simp only [List.map_append, List.map_cons, List.map_nil]
  rw [List.nodup_append]
  constructor
  · rintro ⟨_, ⟨h1, h2⟩, h3⟩
    refine ⟨h1, ⟨by simp, ?_, hb.nd, List.nodup_cons.2 ⟨by simp, List.nodup_nil⟩, ?_⟩, hb.hl, h3⟩
    · intro y hy
      rcases List.mem_append.1 hy with hy | hy
      · exact hb.px y hy
      · rw [List.mem_singleton.1 hy]; exact hx
    · intro y hy z hz
      rw [List.mem_singleton.1 hz]
      obtain ⟨k, k1, rfl⟩ := List.mem_map.1 hy
      have := h2 k k1
      have := hx.1
      intro e
      exact h2 k k1 (by omega)
  · rintro ⟨h1, ⟨_, h4, _, _, h5⟩, _, h3⟩
    refine ⟨hx, ⟨h1, fun y hy e => ?_⟩, h3⟩
    have := hx.1
    exact h5 y.b (List.mem_map.2 ⟨y, hy, rfl⟩) x.b (List.mem_singleton.2 rfl) (by omega)

/-- What the reference's stacks do from a stack on. -/
def StkOk (w : Wg) (b : Bool) (s : Nat) (vb va : AV) (n : Nat) : Prop :=
  ∀ (H : Heap) (P : Nat) (v : AV) (outs : List (List Pc)) (f : Bool) (xs : List Pc) (p : Pl), Beg w b s xs p → cnt p.left = n → (f = false ∨ n ≠ 0) → OutAt H P v outs →
    (∀ o, WgAt (H.set P (.grow 1 o)) w vb va) → outs.length + (w.ext b n p).length ≤ 1000000 →
    callFL cfg0 prog0 false 69 [.agg [vb, va], I s, .bool b, .sl f (xs.map Pc.av), v] H none = stR H P (outs ++ (w.ext b n p).map (xs ++ ·))

/-- What comes of some places. -/
def Wg.extL (w : Wg) (b : Bool) (n : Nat) (xs : List Pc) (p : Pl) (l : List Pc) : List (List Pc) := (l.flatMap fun x => (w.ext b n (p.next x)).map (x :: ·)).map (xs ++ ·)

/-- All stacks of the blocks of a set. -/
def Wg.stks (w : Wg) (b : Bool) (s : Nat) : List (List Pc) := w.ext b (cnt s) ⟨s, pc0, false⟩

end Go.Ab
/-
  The reference, walked: can, Count, Hope, Best.
-/
namespace Go.Ab
open Go.Proofs
set_option linter.unusedSimpArgs false
set_option linter.unusedVariables false
set_option maxRecDepth 100000
set_option maxHeartbeats 2000000

variable {H : Heap}


theorem full_pos {w : Wg} (ho : w.Ok) : 2 ^ w.bs.length - 1 ≠ 0 := by
  have h1 := ho.n.1
  simp only [Wg.n] at h1
  have : 2 ^ 1 ≤ 2 ^ w.bs.length := Nat.pow_le_pow_right (by omega) h1
  omega

def minF (f : List Pc → Int) (L : List (List Pc)) (m : List Pc) (j q : Nat) : List Pc := foldF (fun m i => if f (L.getD i []) < f m then L.getD i [] else m) m j q

end Go.Ab
