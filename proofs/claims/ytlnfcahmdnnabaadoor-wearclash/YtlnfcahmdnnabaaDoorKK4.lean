/-
  Lengths that can be: truths, and what is told of them.
-/
import Derived.Test.YtlnfcahmdnnabaaDoorKK2
import Derived.Test.YtlnfcahmdnnabaaDoorKK3
namespace Go.Ab
open Go.Proofs
set_option linter.unusedSimpArgs false
set_option linter.unusedVariables false
set_option maxRecDepth 100000

variable {H : Heap}

/-- From one length to another one. -/
def EvZ.go (e : EvZ) (x y : Int) : Prop := match e with
  | .takes lo hi => x - hi ≤ y ∧ y ≤ x - lo
  | .read lo hi => lo ≤ x ∧ x ≤ hi ∧ y = x
  | .nothing => y = x

def inP (p : Int × Int) (x : Int) : Prop := p.1 ≤ x ∧ x ≤ p.2

/-- A truth: lengths, at first and after each event. -/
structure Wea.Tr (w : Wea) (r : Nat) (q : Int × Int) (l : Nat → Int) : Prop where
  first : inP q (l 0)
  step : ∀ i, i < w.es.length → (w.evz r i).go (l i) (l (i + 1))

/-- A set is a span that is not empty. -/
def isSp (S : Int → Prop) (p : Int × Int) : Prop := p.1 ≤ p.2 ∧ ∀ x, S x ↔ inP p x

theorem isSp_uniq {S : Int → Prop} {p q : Int × Int} (h : isSp S p) (g : isSp S q) : p = q := by
  have h1 := (g.2 p.1).1 ((h.2 _).2 ⟨Int.le_refl _, h.1⟩)
  have h2 := (g.2 p.2).1 ((h.2 _).2 ⟨h.1, Int.le_refl _⟩)
  have h3 := (h.2 q.1).1 ((g.2 _).2 ⟨Int.le_refl _, g.1⟩)
  have h4 := (h.2 q.2).1 ((g.2 _).2 ⟨g.1, Int.le_refl _⟩)
  have := h.1
  have := g.1
  simp only [inP] at h1 h2 h3 h4
  ext <;> omega

/-- A pair of numbers tells a set: its ends, or that it is empty, by far. -/
def tells (S : Int → Prop) (far : Int) (p : Int × Int) : Prop := isSp S p ∨ (∀ x, ¬ S x) ∧ far < p.1 - p.2

theorem tells_some {S : Int → Prop} {far : Int} {p : Int × Int} (h : tells S far p) (hf : 0 ≤ far) : p.1 ≤ p.2 ↔ ∃ x, S x := by
  rcases h with h | ⟨h1, h2⟩
  · exact ⟨fun _ => ⟨p.1, (h.2 _).2 ⟨Int.le_refl _, h.1⟩⟩, fun _ => h.1⟩
  · exact ⟨fun _ => by omega, fun ⟨x, hx⟩ => absurd hx (h1 x)⟩

theorem tells_sp {S : Int → Prop} {far : Int} {p : Int × Int} (h : tells S far p) (hs : ∃ x, S x) : isSp S p := by
  rcases h with h | ⟨h1, h2⟩
  · exact h
  · obtain ⟨x, hx⟩ := hs
    exact absurd hx (h1 x)

theorem tells_cong {S T : Int → Prop} {f : Int} {p : Int × Int} (h : ∀ x, S x ↔ T x) (k : tells S f p) : tells T f p := by
  have : S = T := funext fun x => propext (h x)
  exact this ▸ k

theorem tells_less {S : Int → Prop} {f g : Int} {p : Int × Int} (k : tells S f p) (h : g ≤ f) : tells S g p := by
  rcases k with k | ⟨k1, k2⟩
  · exact .inl k
  · exact .inr ⟨k1, by omega⟩

theorem bothP_eq (p q : Int × Int) : bothP p q = if max p.1 q.1 ≤ min p.2 q.2 then (max p.1 q.1, min p.2 q.2) else (1048576, -1048576) := by
  have h1 : mx p.1 q.1 = max p.1 q.1 := by simp only [mx]; split <;> omega
  have h2 : mn p.2 q.2 = min p.2 q.2 := by simp only [mn]; split <;> omega
  simp only [bothP, h1, h2]

theorem bothP_tells {S T : Int → Prop} {f g : Int} {p q : Int × Int} (h : tells S f p) (k : tells T g q) (hf : 0 ≤ f) (hg : 0 ≤ g) : tells (fun x => S x ∧ T x) 2000000 (bothP p q) := by
  rw [bothP_eq]
  rcases h with h | ⟨h1, h2⟩
  · rcases k with k | ⟨k1, k2⟩
    · split
      · rename_i hc
        refine .inl ⟨hc, fun x => ?_⟩
        simp only [h.2, k.2, inP]
        omega
      · rename_i hc
        refine .inr ⟨fun x hx => ?_, by simp⟩
        simp only [h.2, k.2, inP] at hx
        omega
    · rw [if_neg (by omega)]
      exact .inr ⟨fun x hx => k1 x hx.2, by simp⟩
  · rw [if_neg (by omega)]
    exact .inr ⟨fun x hx => h1 x hx.1, by simp⟩

/-- An event as they are of valid blocks. -/
def EvZ.fine (e : EvZ) : Prop := match e with
  | .takes lo hi => 0 ≤ lo ∧ lo ≤ hi ∧ hi ≤ 60
  | .read lo hi => lo ≤ hi
  | .nothing => True

theorem aft_tells {S : Int → Prop} {f : Int} {p : Int × Int} {e : EvZ} (he : e.fine) (h : tells S f p) (hf : 60 ≤ f) (hf2 : f ≤ 2000000) : tells (fun y => ∃ x, S x ∧ e.go x y) (f - 60) (e.aft p) := by
  cases e with
  | takes lo hi =>
    obtain ⟨h1, h2, h3⟩ := he
    rcases h with h | ⟨k1, k2⟩
    · refine .inl ⟨by have := h.1; show p.1 - hi ≤ p.2 - lo; omega, fun y => ?_⟩
      simp only [h.2, EvZ.go, EvZ.aft, inP]
      have := h.1
      refine ⟨fun ⟨x, hx⟩ => by omega, fun hy => ⟨max p.1 (y + lo), by omega⟩⟩
    · exact .inr ⟨fun y ⟨x, hx, _⟩ => k1 x hx, by show f - 60 < p.1 - hi - (p.2 - lo); omega⟩
  | read lo hi =>
    have hr : tells (fun x => inP (lo, hi) x) 0 (lo, hi) := .inl ⟨he, fun _ => Iff.rfl⟩
    refine tells_less (tells_cong (fun y => ?_) (bothP_tells h hr (by omega) (by omega))) (by omega)
    simp only [EvZ.go, inP]
    refine ⟨fun ⟨a, b, c⟩ => ⟨y, a, b, c, rfl⟩, fun ⟨x, a, b, c, d⟩ => ?_⟩
    subst d
    exact ⟨a, b, c⟩
  | nothing =>
    refine tells_less (tells_cong (fun y => ?_) h) (by omega)
    simp only [EvZ.go]
    exact ⟨fun h => ⟨y, h, rfl⟩, fun ⟨x, h, e⟩ => e ▸ h⟩

theorem bef_tells {S : Int → Prop} {f : Int} {p : Int × Int} {e : EvZ} (he : e.fine) (h : tells S f p) (hf : 60 ≤ f) (hf2 : f ≤ 2000000) : tells (fun x => ∃ y, S y ∧ e.go x y) (f - 60) (e.bef p) := by
  cases e with
  | takes lo hi =>
    obtain ⟨h1, h2, h3⟩ := he
    rcases h with h | ⟨k1, k2⟩
    · refine .inl ⟨by have := h.1; show p.1 + lo ≤ p.2 + hi; omega, fun y => ?_⟩
      simp only [h.2, EvZ.go, EvZ.bef, inP]
      have := h.1
      refine ⟨fun ⟨x, hx⟩ => by omega, fun hy => ⟨max p.1 (y - hi), by omega⟩⟩
    · exact .inr ⟨fun y ⟨x, hx, _⟩ => k1 x hx, by show f - 60 < p.1 + lo - (p.2 + hi); omega⟩
  | read lo hi =>
    have hr : tells (fun x => inP (lo, hi) x) 0 (lo, hi) := .inl ⟨he, fun _ => Iff.rfl⟩
    refine tells_less (tells_cong (fun y => ?_) (bothP_tells h hr (by omega) (by omega))) (by omega)
    simp only [EvZ.go, inP]
    refine ⟨fun ⟨a, b, c⟩ => ⟨y, a, b, c, rfl⟩, fun ⟨x, a, b, c, d⟩ => ?_⟩
    subst d
    exact ⟨a, b, c⟩
  | nothing =>
    refine tells_less (tells_cong (fun y => ?_) h) (by omega)
    simp only [EvZ.go]
    exact ⟨fun h => ⟨y, h, rfl⟩, fun ⟨x, h, e⟩ => e ▸ h⟩

theorem evz_fine {w : Wea} (ho : w.Ok) (r : Nat) {i : Nat} (hi : i < w.es.length) : (w.evz r i).fine := by
  rcases Wea.evz_cases ho r hi with ⟨lo, hi', h, a, b, c⟩ | ⟨lo, hi', h, a, b, c⟩ | h <;> rw [h]
  · exact ⟨a, b, c⟩
  · exact b
  · trivial

/-- Up to an event. -/
def Wea.Pre (w : Wea) (r : Nat) (q : Int × Int) (i : Nat) (l : Nat → Int) : Prop := inP q (l 0) ∧ ∀ j, j < i → (w.evz r j).go (l j) (l (j + 1))

/-- The lengths that can be up to an event, and those that can be at all. -/
def Wea.fS (w : Wea) (r : Nat) (q : Int × Int) (i : Nat) (x : Int) : Prop := ∃ l, w.Pre r q i l ∧ l i = x
def Wea.aS (w : Wea) (r : Nat) (q : Int × Int) (i : Nat) (x : Int) : Prop := ∃ l, w.Tr r q l ∧ l i = x

theorem fwd_tells {w : Wea} (ho : w.Ok) (r : Nat) {q : Int × Int} (hq : q.1 ≤ q.2) : ∀ i, i ≤ w.es.length → tells (w.fS r q i) (1990000 - 60 * i) (w.fwd r q i)
  | 0, _ => by
    refine .inl ⟨hq, fun x => ⟨?_, fun h => ⟨fun _ => x, ⟨h, by omega⟩, rfl⟩⟩⟩
    rintro ⟨l, ⟨h, -⟩, rfl⟩
    exact h
  | i + 1, hi => by
    have h8 := ho.many
    have ih := fwd_tells ho r hq i (by omega)
    have := aft_tells (evz_fine ho r (show i < w.es.length by omega)) ih (by omega) (by omega)
    refine tells_less (tells_cong (fun y => ?_) this) (by omega)
    constructor
    · rintro ⟨x, ⟨l, ⟨h1, h2⟩, rfl⟩, h3⟩
      refine ⟨fun k => if k ≤ i then l k else y, ⟨by simpa using h1, fun j hj => ?_⟩, by simp [show ¬ i + 1 ≤ i by omega]⟩
      by_cases hji : j = i
      · subst hji
        simpa [show ¬ j + 1 ≤ j by omega] using h3
      · have := h2 j (by omega)
        simpa [show j ≤ i by omega, show j + 1 ≤ i by omega] using this
    · rintro ⟨l, ⟨h1, h2⟩, rfl⟩
      exact ⟨l i, ⟨l, ⟨h1, fun j hj => h2 j (by omega)⟩, rfl⟩, h2 i (by omega)⟩

theorem bk_tells {w : Wea} (ho : w.Ok) (r : Nat) {q : Int × Int} (hq : q.1 ≤ q.2) : ∀ m, m ≤ w.es.length → tells (w.aS r q (w.es.length - m)) (1980000 - 60 * m) (w.bk r q m)
  | 0, _ => by
    have h8 := ho.many
    refine tells_less (tells_cong (fun x => ?_) (fwd_tells ho r hq w.es.length (Nat.le_refl _))) (by omega)
    exact ⟨fun ⟨l, ⟨h1, h2⟩, h3⟩ => ⟨l, ⟨h1, h2⟩, h3⟩, fun ⟨l, ⟨h1, h2⟩, h3⟩ => ⟨l, ⟨h1, h2⟩, h3⟩⟩
  | m + 1, hm => by
    have h8 := ho.many
    obtain ⟨k, hk⟩ : ∃ k, w.es.length - 1 - m = k := ⟨_, rfl⟩
    have hk1 : w.es.length - m = k + 1 := by omega
    have hk2 : w.es.length - (m + 1) = k := by omega
    have ih := bk_tells ho r hq m (by omega)
    have hf := fwd_tells ho r hq k (by omega)
    have hb := bef_tells (evz_fine ho r (show k < w.es.length by omega)) ih (by omega) (by omega)
    have := bothP_tells hf hb (by omega) (by omega)
    rw [hk2]
    simp only [Wea.bk, hk]
    rw [hk1] at this
    refine tells_less (tells_cong (fun x => ?_) this) (by omega)
    constructor
    · rintro ⟨⟨l, ⟨h1, h2⟩, rfl⟩, y, ⟨l', ⟨g1, g2⟩, rfl⟩, h3⟩
      refine ⟨fun j => if j ≤ k then l j else l' j, ⟨by simpa using h1, fun j hj => ?_⟩, by simp⟩
      rcases Nat.lt_trichotomy j k with hjk | hjk | hjk
      · have := h2 j hjk
        simpa [show j ≤ k by omega, show j + 1 ≤ k by omega] using this
      · subst hjk
        simpa [show ¬ j + 1 ≤ j by omega] using h3
      · have := g2 j hj
        simpa [show ¬ j ≤ k by omega, show ¬ j + 1 ≤ k by omega] using this
    · rintro ⟨l, h, rfl⟩
      exact ⟨⟨l, ⟨h.first, fun j hj => h.step j (by omega)⟩, rfl⟩, l (k + 1), ⟨l, h, rfl⟩, h.step k (by omega)⟩

theorem at_tells {w : Wea} (ho : w.Ok) (r : Nat) {q : Int × Int} (hq : q.1 ≤ q.2) {i : Nat} (hi : i ≤ w.es.length) : tells (w.aS r q i) 1000000 (w.at r q i) := by
  have h8 := ho.many
  have := bk_tells ho r hq (w.es.length - i) (by omega)
  rw [show w.es.length - (w.es.length - i) = i by omega] at this
  simp only [Wea.at, if_pos hi]
  exact tells_less this (by omega)

theorem canB_iff {w : Wea} (ho : w.Ok) (r : Nat) {q : Int × Int} (hq : q.1 ≤ q.2) : w.canB r q = true ↔ ∃ l, w.Tr r q l := by
  have := tells_some (at_tells ho r hq (Nat.zero_le _)) (by omega)
  simp only [Wea.canB, decide_eq_true_eq, this]
  exact ⟨fun ⟨x, l, h, _⟩ => ⟨l, h⟩, fun ⟨l, h⟩ => ⟨_, l, h, rfl⟩⟩

theorem at_sp {w : Wea} (ho : w.Ok) {r : Nat} {q : Int × Int} (hq : q.1 ≤ q.2) (hc : ∃ l, w.Tr r q l) {i : Nat} (hi : i ≤ w.es.length) : isSp (w.aS r q i) (w.at r q i) := by
  obtain ⟨l, h⟩ := hc
  exact tells_sp (at_tells ho r hq hi) ⟨_, l, h, rfl⟩

theorem L_ok {w : Wea} (ho : w.Ok) : w.L.1 ≤ w.L.2 := ho.len.2.1

theorem can_iff {w : Wea} (ho : w.Ok) : w.can = true ↔ ∃ l, w.Tr w.rd w.L l := canB_iff ho w.rd (L_ok ho)

theorem at_in {w : Wea} (ho : w.Ok) {l : Nat → Int} (h : w.Tr w.rd w.L l) {i : Nat} (hi : i ≤ w.es.length) : inP (w.at w.rd w.L i) (l i) :=
  ((at_sp ho (L_ok ho) ⟨l, h⟩ hi).2 _).1 ⟨l, h, rfl⟩

theorem at_of {w : Wea} (ho : w.Ok) (hc : w.can = true) {i : Nat} (hi : i ≤ w.es.length) {x : Int} (hx : inP (w.at w.rd w.L i) x) : ∃ l, w.Tr w.rd w.L l ∧ l i = x :=
  ((at_sp ho (L_ok ho) ((can_iff ho).1 hc) hi).2 _).2 hx

theorem at_le {w : Wea} (ho : w.Ok) (hc : w.can = true) {i : Nat} (hi : i ≤ w.es.length) : (w.at w.rd w.L i).1 ≤ (w.at w.rd w.L i).2 := (at_sp ho (L_ok ho) ((can_iff ho).1 hc) hi).1

/-- What was lost: least, and most, in a truth. -/
theorem outK_sp {w : Wea} (ho : w.Ok) (f : Int) : ∀ k : Nat, (∀ j : Nat, j < k → ∃ l, w.Tr w.rd w.L l ∧ l 0 = f + j) → 0 < k →
    (∃ l, w.Tr w.rd w.L l ∧ l 0 - l w.es.length = (w.outK f k).1) ∧ (∃ l, w.Tr w.rd w.L l ∧ l 0 - l w.es.length = (w.outK f k).2) ∧
    ∀ l, w.Tr w.rd w.L l → f ≤ l 0 → l 0 < f + k → inP (w.outK f k) (l 0 - l w.es.length)
  | 0, _, h => absurd h (by omega)
  | k + 1, ht, _ => by
    obtain ⟨l0, g0, e0⟩ := ht k (by omega)
    have hq : ((f + k, f + k) : Int × Int).1 ≤ ((f + k, f + k) : Int × Int).2 := Int.le_refl _
    have up : ∀ {l}, w.Tr w.rd (f + k, f + k) l → w.Tr w.rd w.L l := fun {l} h => ⟨by have h1 := h.first; have h2 := g0.first; simp only [inP] at h1 h2 ⊢; omega, h.step⟩
    have hT0 : w.Tr w.rd (f + k, f + k) l0 := ⟨by simp only [inP]; omega, g0.step⟩
    have hs := at_sp ho hq ⟨l0, hT0⟩ (Nat.le_refl w.es.length)
    obtain ⟨la, ga, ea⟩ := (hs.2 _).2 ⟨Int.le_refl _, hs.1⟩
    obtain ⟨lb, gb, eb⟩ := (hs.2 _).2 ⟨hs.1, Int.le_refl _⟩
    have fa := ga.first
    have fb := gb.first
    simp only [inP] at fa fb
    have hfb : 0 ≤ f + k ∧ f + k ≤ 300 := by have h2 := g0.first; have := ho.len; simp only [inP, Wea.L] at h2; omega
    have hbd := at_bd' ho (q := (f + k, f + k)) (by have h2 := g0.first; have := ho.len; simp only [inP, Wea.L] at h2; simp only [bd]; omega) (Nat.le_refl w.es.length)
    have key : ∀ (st : Int × Int), w.lostF st (f + k) = (min st.1 (lb 0 - lb w.es.length), max st.2 (la 0 - la w.es.length)) := by
      intro st
      simp only [Wea.lostF, mn, mx]
      rw [show lb 0 - lb w.es.length = f + k - (w.at w.rd (f + k, f + k) w.es.length).2 by omega, show la 0 - la w.es.length = f + k - (w.at w.rd (f + k, f + k) w.es.length).1 by omega]
      ext <;> simp only [] <;> split <;> omega
    have hin : ∀ l, w.Tr w.rd w.L l → l 0 = f + k → lb 0 - lb w.es.length ≤ l 0 - l w.es.length ∧ l 0 - l w.es.length ≤ la 0 - la w.es.length := by
      intro l hl h0
      have := (hs.2 (l w.es.length)).1 ⟨l, ⟨by simp only [inP]; omega, hl.step⟩, rfl⟩
      simp only [inP] at this
      omega
    simp only [Wea.outK, key]
    by_cases hk : 0 < k
    · obtain ⟨⟨l1, h1, e1⟩, ⟨l2, h2, e2⟩, h3⟩ := outK_sp ho f k (fun j hj => ht j (by omega)) hk
      refine ⟨?_, ?_, ?_⟩
      · by_cases hc : (w.outK f k).1 ≤ lb 0 - lb w.es.length
        · exact ⟨l1, h1, by omega⟩
        · exact ⟨lb, up gb, by omega⟩
      · by_cases hc : la 0 - la w.es.length ≤ (w.outK f k).2
        · exact ⟨l2, h2, by omega⟩
        · exact ⟨la, up ga, by omega⟩
      · intro l hl h4 h5
        simp only [inP]
        by_cases h6 : l 0 = f + k
        · have := hin l hl h6
          omega
        · have := h3 l hl h4 (by omega)
          simp only [inP] at this
          omega
    · have hk0 : k = 0 := by omega
      subst hk0
      simp only [Wea.outK]
      have h1 : -1073741824 ≤ la 0 - la w.es.length ∧ lb 0 - lb w.es.length ≤ 1073741824 := by
        simp only [bd] at hbd
        omega
      refine ⟨⟨lb, up gb, by omega⟩, ⟨la, up ga, by omega⟩, ?_⟩
      intro l hl h4 h5
      have := hin l hl (by omega)
      simp only [inP]
      omega

/-- The ends of a set. -/
def hull (S : Int → Prop) (p : Int × Int) : Prop := S p.1 ∧ S p.2 ∧ ∀ x, S x → inP p x

theorem hull_uniq {S : Int → Prop} {p q : Int × Int} (h : hull S p) (g : hull S q) : p = q := by
  have h1 := h.2.2 _ g.1
  have h2 := h.2.2 _ g.2.1
  have h3 := g.2.2 _ h.1
  have h4 := g.2.2 _ h.2.1
  simp only [inP] at h1 h2 h3 h4
  ext <;> omega

theorem hull_sub {S T : Int → Prop} {p q : Int × Int} (h : hull S p) (g : hull T q) (hs : ∀ x, S x → T x) : q.1 ≤ p.1 ∧ p.2 ≤ q.2 := by
  have h1 := g.2.2 _ (hs _ h.1)
  have h2 := g.2.2 _ (hs _ h.2.1)
  simp only [inP] at h1 h2
  omega

theorem hull_cong {S T : Int → Prop} {p : Int × Int} (h : ∀ x, S x ↔ T x) (k : hull S p) : hull T p := by
  have : S = T := funext fun x => propext (h x)
  exact this ▸ k

/-- What can be lost. -/
def Wea.dS (w : Wea) (x : Int) : Prop := ∃ l, w.Tr w.rd w.L l ∧ l 0 - l w.es.length = x

theorem gate_can {w : Wea} (hv : w.valid = true) (hc : w.can = true) : w.gate 0 true = 0 := by
  simp only [Wea.gate, hv, hc, if_true, (show (0 : Int) ≤ 10 by decide)]

theorem lost_hull {w : Wea} (hv : w.valid = true) (hc : w.can = true) : hull w.dS w.lostP := by
  have ho := w.valid_iff.1 hv
  have hs := at_sp ho (L_ok ho) ((can_iff ho).1 hc) (Nat.zero_le w.es.length)
  have h1 := hs.1
  simp only [Wea.lostP, gate_can hv hc, if_true]
  obtain ⟨⟨la, a1, a2⟩, ⟨lb, b1, b2⟩, h3⟩ := outK_sp ho (w.at w.rd w.L 0).1 ((w.at w.rd w.L 0).2 - (w.at w.rd w.L 0).1 + 1).toNat (fun j hj => (hs.2 _).2 ⟨by omega, by omega⟩) (by omega)
  refine ⟨⟨la, a1, a2⟩, ⟨lb, b1, b2⟩, ?_⟩
  rintro x ⟨l, hl, rfl⟩
  have := (hs.2 (l 0)).1 ⟨l, hl, rfl⟩
  simp only [inP] at this
  exact h3 l hl this.1 (by omega)

theorem rd_bit (w : Wea) (i : Nat) : w.rd.testBit i = (decide (i < w.es.length) && decide ((w.ev i).k = 1)) := maskN_bit _ _ _

/-- From one length to another one, by an event. -/
def Ev.go (e : Ev) (u : Int × Int) (x y : Int) : Prop :=
  if e.k = 0 then x - e.u * u.2 ≤ y ∧ y ≤ x - e.u * u.1 else if e.k = 2 then x - e.hi ≤ y ∧ y ≤ x - e.lo else if e.k = 1 then e.lo ≤ x ∧ x ≤ e.hi ∧ y = x else y = x

abbrev Wea.U (w : Wea) : Int × Int := (w.ulo, w.uhi)

theorem evz_go {w : Wea} {i : Nat} (hi : i < w.es.length) (x y : Int) : (w.evz w.rd i).go x y ↔ (w.ev i).go w.U x y := by
  simp only [Wea.evz, Ev.go, rd_bit, hi, decide_true, Bool.true_and]
  by_cases h0 : (w.ev i).k = 0
  · simp only [h0, if_true, EvZ.go]
  · by_cases h2 : (w.ev i).k = 2
    · simp only [h2, if_true, if_false, EvZ.go, (show ¬ (2 : Int) = 0 by decide)]
    · by_cases h1 : (w.ev i).k = 1
      · simp only [h1, if_true, if_false, EvZ.go, (show ¬ (1 : Int) = 0 by decide), (show ¬ (1 : Int) = 2 by decide), decide_true]
      · simp only [h0, h1, h2, if_false, EvZ.go, decide_false, Bool.false_eq_true]

/-- A truth of all readings. -/
def Wea.T (w : Wea) (l : Nat → Int) : Prop := inP w.L (l 0) ∧ ∀ i, i < w.es.length → (w.ev i).go w.U (l i) (l (i + 1))

theorem T_iff (w : Wea) (l : Nat → Int) : w.Tr w.rd w.L l ↔ w.T l :=
  ⟨fun h => ⟨h.first, fun i hi => (evz_go hi _ _).1 (h.step i hi)⟩, fun h => ⟨h.1, fun i hi => (evz_go hi _ _).2 (h.2 i hi)⟩⟩

theorem canT {w : Wea} (ho : w.Ok) : w.can = true ↔ ∃ l, w.T l := by
  rw [can_iff ho]
  exact ⟨fun ⟨l, h⟩ => ⟨l, (T_iff w l).1 h⟩, fun ⟨l, h⟩ => ⟨l, (T_iff w l).2 h⟩⟩

theorem atT {w : Wea} (ho : w.Ok) (hc : w.can = true) {i : Nat} (hi : i ≤ w.es.length) : isSp (fun x => ∃ l, w.T l ∧ l i = x) (w.at w.rd w.L i) := by
  have := at_sp ho (L_ok ho) ((can_iff ho).1 hc) hi
  refine ⟨this.1, fun x => ?_⟩
  rw [← this.2 x]
  exact ⟨fun ⟨l, h, e⟩ => ⟨l, (T_iff w l).2 h, e⟩, fun ⟨l, h, e⟩ => ⟨l, (T_iff w l).1 h, e⟩⟩

theorem lostT {w : Wea} (hv : w.valid = true) (hc : w.can = true) : hull (fun x => ∃ l, w.T l ∧ l 0 - l w.es.length = x) w.lostP := by
  refine hull_cong (fun x => ?_) (lost_hull hv hc)
  exact ⟨fun ⟨l, h, e⟩ => ⟨l, (T_iff w l).1 h, e⟩, fun ⟨l, h, e⟩ => ⟨l, (T_iff w l).2 h, e⟩⟩

theorem at_inT {w : Wea} (ho : w.Ok) {l : Nat → Int} (h : w.T l) {i : Nat} (hi : i ≤ w.es.length) : inP (w.at w.rd w.L i) (l i) := at_in ho ((T_iff w l).2 h) hi

theorem at_ofT {w : Wea} (ho : w.Ok) (hc : w.can = true) {i : Nat} (hi : i ≤ w.es.length) {x : Int} (hx : inP (w.at w.rd w.L i) x) : ∃ l, w.T l ∧ l i = x := ((atT ho hc hi).2 x).2 hx

theorem lost_inT {w : Wea} (hv : w.valid = true) (hc : w.can = true) {l : Nat → Int} (h : w.T l) : inP w.lostP (l 0 - l w.es.length) := (lostT hv hc).2.2 _ ⟨l, h, rfl⟩

/-! ### An event more, at the end -/

def Wea.snoc (w : Wea) (e : Ev) : Wea := { w with es := w.es ++ [e] }

theorem snoc_len (w : Wea) (e : Ev) : (w.snoc e).es.length = w.es.length + 1 := by simp [Wea.snoc]

theorem snoc_ev (w : Wea) (e : Ev) {i : Nat} (hi : i < w.es.length) : (w.snoc e).ev i = w.ev i := by
  simp only [Wea.snoc, Wea.ev, List.getD, List.getElem?_append_left hi]

theorem snoc_end (w : Wea) (e : Ev) : (w.snoc e).ev w.es.length = e := by
  simp only [Wea.snoc, Wea.ev, List.getD, List.getElem?_concat_length, Option.getD_some]

theorem snoc_T (w : Wea) (e : Ev) (l : Nat → Int) : (w.snoc e).T l ↔ w.T l ∧ e.go w.U (l w.es.length) (l (w.es.length + 1)) := by
  constructor
  · rintro ⟨h1, h2⟩
    refine ⟨⟨h1, fun i hi => ?_⟩, ?_⟩
    · have := h2 i (by rw [snoc_len]; omega)
      rw [snoc_ev w e hi] at this
      exact this
    · have := h2 w.es.length (by rw [snoc_len]; omega)
      rw [snoc_end] at this
      exact this
  · rintro ⟨⟨h1, h2⟩, h3⟩
    refine ⟨h1, fun i hi => ?_⟩
    rw [snoc_len] at hi
    by_cases h : i = w.es.length
    · subst h
      rw [snoc_end]
      exact h3
    · rw [snoc_ev w e (by omega)]
      exact h2 i (by omega)

theorem snoc_ok {w : Wea} {e : Ev} (ho : w.Ok) (hn : w.es.length < 8) (he : e.ok = true) : (w.snoc e).Ok where
  len := ho.len
  use := ho.use
  many := by rw [snoc_len]; omega
  ev i hi := by
    rw [snoc_len] at hi
    by_cases h : i = w.es.length
    · subst h
      rw [snoc_end]
      exact (Ev.ok_iff e).1 he
    · rw [snoc_ev w e (by omega)]
      exact ho.ev i (by omega)

/-- A reading. -/
def rdE (p : Int × Int) : Ev := ⟨1, 0, p.1, p.2⟩

theorem rdE_go (p u : Int × Int) (x y : Int) : (rdE p).go u x y ↔ inP p x ∧ y = x := by
  simp only [rdE, Ev.go, inP]
  simp
  exact ⟨fun h => ⟨⟨h.1, h.2.1⟩, h.2.2⟩, fun h => ⟨h.1.1, h.1.2, h.2⟩⟩

theorem rd_T (w : Wea) (p : Int × Int) (l : Nat → Int) : (w.snoc (rdE p)).T l ↔ w.T l ∧ inP p (l w.es.length) ∧ l (w.es.length + 1) = l w.es.length := by
  rw [snoc_T, rdE_go]

/-- Truths beyond their end are free. -/
theorem T_cong {w : Wea} {l k : Nat → Int} (h : ∀ i, i ≤ w.es.length → l i = k i) (hl : w.T l) : w.T k := by
  refine ⟨by rw [← h 0 (by omega)]; exact hl.1, fun i hi => ?_⟩
  rw [← h i (by omega), ← h (i + 1) (by omega)]
  exact hl.2 i hi

theorem rd_ext {w : Wea} {p : Int × Int} {l : Nat → Int} (hl : w.T l) (hp : inP p (l w.es.length)) : ∃ k, (w.snoc (rdE p)).T k ∧ ∀ i, i ≤ w.es.length → k i = l i := by
  refine ⟨fun i => if i ≤ w.es.length then l i else l w.es.length, (rd_T w p _).2 ⟨T_cong (fun i hi => by simp [hi]) hl, by simpa using hp, by simp [show ¬ w.es.length + 1 ≤ w.es.length by omega]⟩, fun i hi => by simp [hi]⟩

theorem rd_can {w : Wea} (ho : w.Ok) (hn : w.es.length < 8) {p : Int × Int} (hp : (rdE p).ok = true) : (w.snoc (rdE p)).can = true ↔ ∃ l, w.T l ∧ inP p (l w.es.length) := by
  rw [canT (snoc_ok ho hn hp)]
  refine ⟨fun ⟨l, h⟩ => ?_, fun ⟨l, h, g⟩ => ?_⟩
  · obtain ⟨h1, h2, -⟩ := (rd_T w p l).1 h
    exact ⟨l, h1, h2⟩
  · obtain ⟨k, hk, -⟩ := rd_ext h g
    exact ⟨k, hk⟩

theorem rd_can' {w : Wea} (ho : w.Ok) (hc : w.can = true) (hn : w.es.length < 8) {p : Int × Int} (hp : (rdE p).ok = true) : (w.snoc (rdE p)).can = true ↔ max w.lastP.1 p.1 ≤ min w.lastP.2 p.2 := by
  have hs := atT ho hc (Nat.le_refl w.es.length)
  rw [rd_can ho hn hp]
  constructor
  · rintro ⟨l, h1, h2⟩
    have := at_inT ho h1 (Nat.le_refl _)
    simp only [inP] at this h2
    simp only [Wea.lastP]
    omega
  · intro h
    obtain ⟨l, h1, h2⟩ := at_ofT ho hc (Nat.le_refl w.es.length) (x := max w.lastP.1 p.1) (by simp only [inP, Wea.lastP] at h ⊢; omega)
    exact ⟨l, h1, by simp only [inP]; omega⟩

theorem rd_at {w : Wea} (ho : w.Ok) (hc : w.can = true) (hn : w.es.length < 8) {p : Int × Int} (hp : (rdE p).ok = true) (hy : max w.lastP.1 p.1 ≤ min w.lastP.2 p.2) :
    (w.snoc (rdE p)).at (w.snoc (rdE p)).rd (w.snoc (rdE p)).L (w.es.length + 1) = (max w.lastP.1 p.1, min w.lastP.2 p.2) := by
  have hs := atT (snoc_ok ho hn hp) ((rd_can' ho hc hn hp).2 hy) (i := w.es.length + 1) (by rw [snoc_len]; omega)
  refine isSp_uniq hs ⟨hy, fun x => ?_⟩
  constructor
  · rintro ⟨l, h, rfl⟩
    obtain ⟨h1, h2, h3⟩ := (rd_T w p l).1 h
    have := at_inT ho h1 (Nat.le_refl _)
    simp only [inP, h3, Wea.lastP] at this h2 ⊢
    omega
  · intro hx
    simp only [inP] at hx
    obtain ⟨l, h1, h2⟩ := at_ofT ho hc (Nat.le_refl w.es.length) (x := x) (by simp only [inP, Wea.lastP] at hx ⊢; omega)
    obtain ⟨k, h3, h4⟩ := rd_ext (p := p) h1 (by rw [h2]; simp only [inP]; omega)
    refine ⟨k, h3, ?_⟩
    obtain ⟨-, -, h5⟩ := (rd_T w p k).1 h3
    rw [h5, h4 _ (Nat.le_refl _), h2]

theorem rd_lost {w : Wea} (hv : w.valid = true) (hc : w.can = true) (hn : w.es.length < 8) {p : Int × Int} (hp : (rdE p).ok = true) (h1 : p.1 ≤ w.lastP.1) (h2 : w.lastP.2 ≤ p.2) : (w.snoc (rdE p)).lostP = w.lostP := by
  have ho := w.valid_iff.1 hv
  have hoy := snoc_ok ho hn hp
  have hle := (atT ho hc (Nat.le_refl w.es.length)).1
  have hcy := (rd_can' ho hc hn hp).2 (by simp only [Wea.lastP] at h1 h2 ⊢; omega)
  refine hull_uniq (hull_cong (fun x => ?_) (lostT ((w.snoc (rdE p)).valid_iff.2 hoy) hcy)) (lostT hv hc)
  rw [snoc_len]
  constructor
  · rintro ⟨l, h, rfl⟩
    obtain ⟨g1, g2, g3⟩ := (rd_T w p l).1 h
    exact ⟨l, g1, by rw [g3]⟩
  · rintro ⟨l, h, rfl⟩
    have := at_inT ho h (Nat.le_refl _)
    obtain ⟨k, h3, h4⟩ := rd_ext (p := p) h (by simp only [inP, Wea.lastP] at this h1 h2 ⊢; omega)
    obtain ⟨-, -, h5⟩ := (rd_T w p k).1 h3
    exact ⟨k, h3, by rw [h5, h4 _ (Nat.le_refl _), h4 0 (by omega)]⟩

end Go.Ab
/-
  What is valid; far too much; the examples of the document.
-/
namespace Go.Ab
open Go.Proofs
set_option linter.unusedSimpArgs false
set_option linter.unusedVariables false
set_option maxRecDepth 100000

variable {H : Heap}

theorem rWear_loop {w : Wea} {ve : AV} (h : WeaAt H w ve) (hl : w.es.length ≤ 8) :
    ∀ (q j : Nat), j + q = w.es.length → ∀ E : Env, E.get 1 = .ptr H.length 0 → E.get 3 = I j →
    Option.map (finishC H.length) (execL cfg0 prog0 ⟨33, none, false, H.length⟩ (todoAt Tryd.f33 4) ⟨E, [], H ++ [.box (.agg [I w.llo, I w.lhi, I w.ulo, I w.uhi, ve])], none⟩) = some ⟨.ret (.bool !anyF (fun i => !(w.es.getD i ev0).ok) j q), H, none⟩ := by
  intro q
  have s1 := h.es.scal
  have hln := h.es.len
  obtain ⟨a1, a2, a3, a4, a5⟩ := h.es.fA (d := ev0)
  induction q with
  | zero =>
    intro j hj  E g1 g3
    have hk' : ¬ (j : Int) < ((w.es.length : Nat) : Int) := by omega
    simp only [loopIt, todoPast, todoAt, todoOf, firstReg, ↓reduceIte, Option.some.injEq, Nat.reduceEqDiff, reduceCtorEq, Tryd.f33]
    rw [execL_inLoop]
    simp (maxSteps := 1000000) (implicitDefEqProofs := false) (disch := first | rfl | omega | assumption) only [go_sem, ↓reduceIte, Nat.reduceEqDiff, Nat.reduceAdd, Nat.reduceLeDiff, Nat.reduceBEq, Nat.reduceMul, Nat.reduceLT, Int.reduceLT, Int.reduceLE, Int.reduceToNat, Int.reduceNeg, Int.reduceEq, Int.reduceMul, reduceCtorEq, Int.reduceBEq, Int.reduceBNe, Int.reduceAdd, Int.reduceSub, g1, g3, ltT, ltF, leT, leF, hk', hln, anyF, s1, List.length_map]
  | succ q ih =>
    intro j hj  E g1 g3
    have hk' : (j : Int) < ((w.es.length : Nat) : Int) := by omega
    have hk2 : j < w.es.length := by omega
    have hb := fun G => ref_event (w.es.getD j ev0) G
    have hr : readPart (w.es.getD j ev0).av.cells 0 ⟨.struct [(0, 3), (1, 3), (2, 23)], 4, 32, some (.agg #[.int .i64 0, .int .i64 0, .int .i64 0, .int .i64 0])⟩ = some (w.es.getD j ev0).av := rfl
    simp only [anyF]
    simp only [loopIt, todoPast, todoAt, todoOf, firstReg, ↓reduceIte, Option.some.injEq, Nat.reduceEqDiff, reduceCtorEq, Tryd.f33]
    rw [execL_inLoop]
    rcases Bool.eq_false_or_eq_true (w.es.getD j ev0).ok with hc | hc
    · simp (maxSteps := 1000000) (implicitDefEqProofs := false) (disch := first | rfl | omega | assumption) only [go_sem, ↓reduceIte, Nat.reduceEqDiff, Nat.reduceAdd, Nat.reduceLeDiff, Nat.reduceBEq, Nat.reduceMul, Nat.reduceLT, Int.reduceLT, Int.reduceLE, Int.reduceToNat, Int.reduceNeg, Int.reduceEq, Int.reduceMul, reduceCtorEq, Int.reduceBEq, Int.reduceBNe, Int.reduceAdd, Int.reduceSub, g1, g3, ltT, ltF, leT, leF, hk', hln, a1, a2, a3, a4, hr, hb, hc, List.length_map]
      exact ih (j + 1) (by omega) _ (by exact g1) (by rfl)
    · simp (maxSteps := 1000000) (implicitDefEqProofs := false) (disch := first | rfl | omega | assumption) only [go_sem, ↓reduceIte, Nat.reduceEqDiff, Nat.reduceAdd, Nat.reduceLeDiff, Nat.reduceBEq, Nat.reduceMul, Nat.reduceLT, Int.reduceLT, Int.reduceLE, Int.reduceToNat, Int.reduceNeg, Int.reduceEq, Int.reduceMul, reduceCtorEq, Int.reduceBEq, Int.reduceBNe, Int.reduceAdd, Int.reduceSub, g1, g3, ltT, ltF, leT, leF, hk', hln, a1, a2, a3, a4, hr, hb, hc, List.length_map]

theorem ref_Wear {w : Wea} {ve : AV} (h : WeaAt H w ve) : callFL cfg0 prog0 false 33 [w.av ve] H none = some ⟨.ret (.bool w.valid), H, none⟩ := by
  have s1 := h.es.scal
  have hln := h.es.len
  rw [List.length_map] at hln
  have hs1 := fun G : Heap => ref_span w.llo w.lhi 0 300 G
  have hs2 := fun G : Heap => ref_span w.ulo w.uhi 0 3 G
  simp only [Wea.av, Wea.valid, Wea.good]
  rcases Bool.eq_false_or_eq_true (spB (w.llo, w.lhi) 0 300) with c1 | c1
  · have b1 := spB_iff.1 c1
    simp only at b1
    by_cases c2 : w.lhi - w.llo ≤ 20
    · have c2' : ¬ 20 < w.lhi - w.llo := by omega
      rcases Bool.eq_false_or_eq_true (spB (w.ulo, w.uhi) 0 3) with c3 | c3
      · by_cases c4 : (w.es.length : Int) ≤ 8
        · have c4' : ¬ (8 : Int) < w.es.length := by omega
          refine (callFL_eq fn33 rfl (by simp [Tryd.f33])).trans ?_
          simp (maxSteps := 1000000) (implicitDefEqProofs := false) (disch := first | rfl | omega | assumption) only [go_sem, ↓reduceIte, Nat.reduceEqDiff, Nat.reduceAdd, Nat.reduceLeDiff, Nat.reduceBEq, Nat.reduceMul, Nat.reduceLT, Int.reduceLT, Int.reduceLE, Int.reduceToNat, Int.reduceNeg, Int.reduceEq, Int.reduceMul, reduceCtorEq, Int.reduceBEq, Int.reduceBNe, Int.reduceAdd, Int.reduceSub, ltT, ltF, leT, leF, s1, hs1, hs2, c1, c2, c2', c3, c4, c4', hln]
          exact rWear_loop h (by omega) w.es.length 0 (by omega) _ (by rfl) (by rfl)
        · have c4' : (8 : Int) < w.es.length := by omega
          refine (callFL_eq fn33 rfl (by simp [Tryd.f33])).trans ?_
          simp (maxSteps := 1000000) (implicitDefEqProofs := false) (disch := first | rfl | omega | assumption) only [go_sem, ↓reduceIte, Nat.reduceEqDiff, Nat.reduceAdd, Nat.reduceLeDiff, Nat.reduceBEq, Nat.reduceMul, Nat.reduceLT, Int.reduceLT, Int.reduceLE, Int.reduceToNat, Int.reduceNeg, Int.reduceEq, Int.reduceMul, reduceCtorEq, Int.reduceBEq, Int.reduceBNe, Int.reduceAdd, Int.reduceSub, ltT, ltF, leT, leF, s1, hs1, hs2, c1, c2, c2', c3, c4, c4', hln]
      · refine (callFL_eq fn33 rfl (by simp [Tryd.f33])).trans ?_
        simp (maxSteps := 1000000) (implicitDefEqProofs := false) (disch := first | rfl | omega | assumption) only [go_sem, ↓reduceIte, Nat.reduceEqDiff, Nat.reduceAdd, Nat.reduceLeDiff, Nat.reduceBEq, Nat.reduceMul, Nat.reduceLT, Int.reduceLT, Int.reduceLE, Int.reduceToNat, Int.reduceNeg, Int.reduceEq, Int.reduceMul, reduceCtorEq, Int.reduceBEq, Int.reduceBNe, Int.reduceAdd, Int.reduceSub, ltT, ltF, leT, leF, s1, hs1, hs2, c1, c2, c2', c3, hln]
    · have c2' : 20 < w.lhi - w.llo := by omega
      refine (callFL_eq fn33 rfl (by simp [Tryd.f33])).trans ?_
      simp (maxSteps := 1000000) (implicitDefEqProofs := false) (disch := first | rfl | omega | assumption) only [go_sem, ↓reduceIte, Nat.reduceEqDiff, Nat.reduceAdd, Nat.reduceLeDiff, Nat.reduceBEq, Nat.reduceMul, Nat.reduceLT, Int.reduceLT, Int.reduceLE, Int.reduceToNat, Int.reduceNeg, Int.reduceEq, Int.reduceMul, reduceCtorEq, Int.reduceBEq, Int.reduceBNe, Int.reduceAdd, Int.reduceSub, ltT, ltF, leT, leF, s1, hs1, hs2, c1, c2, c2', hln]
  · refine (callFL_eq fn33 rfl (by simp [Tryd.f33])).trans ?_
    simp (maxSteps := 1000000) (implicitDefEqProofs := false) (disch := first | rfl | omega | assumption) only [go_sem, ↓reduceIte, Nat.reduceEqDiff, Nat.reduceAdd, Nat.reduceLeDiff, Nat.reduceBEq, Nat.reduceMul, Nat.reduceLT, Int.reduceLT, Int.reduceLE, Int.reduceToNat, Int.reduceNeg, Int.reduceEq, Int.reduceMul, reduceCtorEq, Int.reduceBEq, Int.reduceBNe, Int.reduceAdd, Int.reduceSub, ltT, ltF, leT, leF, s1, hs1, hs2, c1, hln]

theorem law_span (a b : Int) (H : Heap) : callFL cfg0 prog0 false 32 [I a, I b] H none = some ⟨.ret (.agg [I a, I b]), H, none⟩ := by
  refine (callFL_eq fn32 rfl (by simp [Tryd.f32])).trans ?_
  simp (maxSteps := 1000000) (implicitDefEqProofs := false) (disch := first | rfl | omega | assumption) only [go_sem, ↓reduceIte, Nat.reduceEqDiff, Nat.reduceAdd, Nat.reduceLeDiff, Nat.reduceBEq, Nat.reduceMul, Nat.reduceLT, Int.reduceLT, Int.reduceLE, Int.reduceToNat, Int.reduceNeg, Int.reduceEq, Int.reduceMul, reduceCtorEq, Int.reduceBEq, Int.reduceBNe, Int.reduceAdd, Int.reduceSub, ltT, ltF, leT, leF]

theorem law_uses (a : Int) (H : Heap) : callFL cfg0 prog0 false 39 [I a] H none = some ⟨.ret (.agg [I 0, I a, I 0, I 0]), H, none⟩ := by
  refine (callFL_eq fn39 rfl (by simp [Tryd.f39])).trans ?_
  simp (maxSteps := 1000000) (implicitDefEqProofs := false) (disch := first | rfl | omega | assumption) only [go_sem, ↓reduceIte, Nat.reduceEqDiff, Nat.reduceAdd, Nat.reduceLeDiff, Nat.reduceBEq, Nat.reduceMul, Nat.reduceLT, Int.reduceLT, Int.reduceLE, Int.reduceToNat, Int.reduceNeg, Int.reduceEq, Int.reduceMul, reduceCtorEq, Int.reduceBEq, Int.reduceBNe, Int.reduceAdd, Int.reduceSub, ltT, ltF, leT, leF]

theorem law_read (a b : Int) (H : Heap) : callFL cfg0 prog0 false 35 [I a, I b] H none = some ⟨.ret (.agg [I 1, I 0, I a, I b]), H, none⟩ := by
  refine (callFL_eq fn35 rfl (by simp [Tryd.f35])).trans ?_
  simp (maxSteps := 1000000) (implicitDefEqProofs := false) (disch := first | rfl | omega | assumption) only [go_sem, ↓reduceIte, Nat.reduceEqDiff, Nat.reduceAdd, Nat.reduceLeDiff, Nat.reduceBEq, Nat.reduceMul, Nat.reduceLT, Int.reduceLT, Int.reduceLE, Int.reduceToNat, Int.reduceNeg, Int.reduceEq, Int.reduceMul, reduceCtorEq, Int.reduceBEq, Int.reduceBNe, Int.reduceAdd, Int.reduceSub, ltT, ltF, leT, leF, law_span]

theorem law_lap (a b : Int) (H : Heap) : callFL cfg0 prog0 false 78 [I a, I b] H none = some ⟨.ret (.agg [I 2, I 0, I a, I b]), H, none⟩ := by
  refine (callFL_eq fn78 rfl (by simp [Tryd.f78])).trans ?_
  simp (maxSteps := 1000000) (implicitDefEqProofs := false) (disch := first | rfl | omega | assumption) only [go_sem, ↓reduceIte, Nat.reduceEqDiff, Nat.reduceAdd, Nat.reduceLeDiff, Nat.reduceBEq, Nat.reduceMul, Nat.reduceLT, Int.reduceLT, Int.reduceLE, Int.reduceToNat, Int.reduceNeg, Int.reduceEq, Int.reduceMul, reduceCtorEq, Int.reduceBEq, Int.reduceBNe, Int.reduceAdd, Int.reduceSub, ltT, ltF, leT, leF, law_span]

theorem law_inside (n a b : Int) (H : Heap) : callFL cfg0 prog0 false 30 [I n, .agg [I a, I b]] H none = some ⟨.ret (.bool (wi n a b)), H, none⟩ := by
  refine (callFL_eq fn30 rfl (by simp [Tryd.f30])).trans ?_
  simp (maxSteps := 1000000) (implicitDefEqProofs := false) (disch := first | rfl | omega | assumption) only [go_sem, ↓reduceIte, Nat.reduceEqDiff, Nat.reduceAdd, Nat.reduceLeDiff, Nat.reduceBEq, Nat.reduceMul, Nat.reduceLT, Int.reduceLT, Int.reduceLE, Int.reduceToNat, Int.reduceNeg, Int.reduceEq, Int.reduceMul, reduceCtorEq, Int.reduceBEq, Int.reduceBNe, Int.reduceAdd, Int.reduceSub, ltT, ltF, leT, leF, wi]
  repeat' ((with_reducible first
      | refine cond_ifb (fun hc hd he => ?_) (fun hc hd he => ?_)
      | refine guard_ifb (fun hc hd he => ?_) (fun hc hd he => ?_)
      | refine cond_dec (fun hc hd he => ?_) (fun hc hd he => ?_)
      | refine guard_dec (fun hc hd he => ?_) (fun hc hd he => ?_)
      | refine cond_ndec (fun hc hd he => ?_) (fun hc hd he => ?_)
      | refine guard_ndec (fun hc hd he => ?_) (fun hc hd he => ?_)
      | refine cond_not (fun hc hd he => ?_) (fun hc hd he => ?_)
      | refine guard_not (fun hc hd he => ?_) (fun hc hd he => ?_)
      | refine cond_beq (fun hc hd he => ?_) (fun hc hd he => ?_)
      | refine guard_beq (fun hc hd he => ?_) (fun hc hd he => ?_)
      | refine cond_bne (fun hc hd he => ?_) (fun hc hd he => ?_)
      | refine guard_bne (fun hc hd he => ?_) (fun hc hd he => ?_)
      | refine cond_split (fun hc hd he => ?_) (fun hc hd he => ?_)
      | refine guard_split (fun hc hd he => ?_) (fun hc hd he => ?_)
      | refine call_beq (fun hc hd he => ?_) (fun hc hd he => ?_)
      | refine call_ifb (fun hc hd he => ?_) (fun hc hd he => ?_)
      | refine call_ifd (fun hc hd he => ?_) (fun hc hd he => ?_)
      | refine call_dec (fun hc hd he => ?_) (fun hc hd he => ?_)) <;> try simp (maxSteps := 1000000) (implicitDefEqProofs := false) (disch := first | rfl | omega | assumption) only [go_sem, ↓reduceIte, Nat.reduceEqDiff, Nat.reduceAdd, Nat.reduceLeDiff, Nat.reduceBEq, Nat.reduceMul, Nat.reduceLT, Int.reduceLT, Int.reduceLE, Int.reduceToNat, Int.reduceNeg, Int.reduceEq, Int.reduceMul, reduceCtorEq, Int.reduceBEq, Int.reduceBNe, Int.reduceAdd, Int.reduceSub, ltT, ltF, leT, leF, hc, he, wi])

def Wea.farB (w : Wea) (m : Int) : Bool := decide ((40 : Int) < if (w.es.length : Int) < m then m else w.es.length)

theorem Wea.farB_false {w : Wea} {m : Int} (h : w.farB m = false) : w.es.length ≤ 40 ∧ m ≤ 40 := by
  simp only [Wea.farB, decide_eq_false_iff_not] at h
  split at h <;> omega

theorem law_far {w : Wea} {ve v : AV} {l : List Int} (h : WeaAt H w ve) (hv : SlOk H 1 v (l.map I)) : callFL cfg0 prog0 false 12 [w.av ve, v] H none = some ⟨.ret (.bool (w.farB l.length)), H, none⟩ := by
  have s1 := h.es.scal
  have s2 := hv.scal
  simp only [Wea.av]
  refine (callFL_eq fn12 rfl (by simp [Tryd.f12])).trans ?_
  simp (maxSteps := 1000000) (implicitDefEqProofs := false) (disch := first | rfl | omega | assumption) only [go_sem, ↓reduceIte, Nat.reduceEqDiff, Nat.reduceAdd, Nat.reduceLeDiff, Nat.reduceBEq, Nat.reduceMul, Nat.reduceLT, Int.reduceLT, Int.reduceLE, Int.reduceToNat, Int.reduceNeg, Int.reduceEq, Int.reduceMul, reduceCtorEq, Int.reduceBEq, Int.reduceBNe, Int.reduceAdd, Int.reduceSub, s1, s2, h.es.len, hv.len, Wea.farB, List.length_map]

theorem law_fine {w : Wea} {ve : AV} (h : WeaAt H w ve) : callFL cfg0 prog0 false 28 [w.av ve] H none = some ⟨.ret (.bool (!w.farB 0 && w.valid)), H, none⟩ := by
  have s1 := h.es.scal
  have hF := fun G : Heap => law_far (h.app G) (v := .sl true []) (l := []) ⟨rfl, by simp⟩
  have hV := fun G : Heap => ref_Wear (h.app G)
  simp only [Wea.av, List.length_nil, Int.natCast_zero] at hF hV ⊢
  refine (callFL_eq fn28 rfl (by simp [Tryd.f28])).trans ?_
  cases hf : w.farB 0
  · rw [hf] at hF
    simp (maxSteps := 1000000) (implicitDefEqProofs := false) (disch := first | rfl | omega | assumption) only [go_sem, ↓reduceIte, Nat.reduceEqDiff, Nat.reduceAdd, Nat.reduceLeDiff, Nat.reduceBEq, Nat.reduceMul, Nat.reduceLT, Int.reduceLT, Int.reduceLE, Int.reduceToNat, Int.reduceNeg, Int.reduceEq, Int.reduceMul, reduceCtorEq, Int.reduceBEq, Int.reduceBNe, Int.reduceAdd, Int.reduceSub, ltT, ltF, leT, leF, s1, hF, hV]
  · rw [hf] at hF
    simp (maxSteps := 1000000) (implicitDefEqProofs := false) (disch := first | rfl | omega | assumption) only [go_sem, ↓reduceIte, Nat.reduceEqDiff, Nat.reduceAdd, Nat.reduceLeDiff, Nat.reduceBEq, Nat.reduceMul, Nat.reduceLT, Int.reduceLT, Int.reduceLE, Int.reduceToNat, Int.reduceNeg, Int.reduceEq, Int.reduceMul, reduceCtorEq, Int.reduceBEq, Int.reduceBNe, Int.reduceAdd, Int.reduceSub, ltT, ltF, leT, leF, s1, hF, hV]

def smp : Wea := ⟨100, 102, 0, 2, [⟨0, 10, 0, 0⟩, ⟨1, 0, 85, 95⟩, ⟨0, 5, 0, 0⟩, ⟨2, 0, 3, 4⟩, ⟨1, 0, 80, 88⟩]⟩
def smpV : AV := .sl true (smp.es.map Ev.av)
def smp2 : Wea := ⟨100, 102, 0, 2, [⟨0, 10, 0, 0⟩, ⟨1, 0, 85, 95⟩, ⟨0, 5, 0, 0⟩, ⟨2, 0, 3, 4⟩, ⟨1, 0, 80, 88⟩, ⟨1, 0, 89, 90⟩]⟩

theorem smp_at (H : Heap) : WeaAt H smp smpV := ⟨⟨rfl, by simp [Ev.av, AV.cells]⟩⟩

theorem law_sample (H : Heap) : callFL cfg0 prog0 false 40 [.sl true []] H none = some ⟨.ret (smp.av smpV), H, none⟩ := by
  have hE : ∀ G : Heap, addElem G 4 true (.sl true [.agg [I 0, I 10, I 0, I 0], .agg [I 1, I 0, I 85, I 95], .agg [I 0, I 5, I 0, I 0], .agg [I 2, I 0, I 3, I 4], .agg [I 1, I 0, I 80, I 88]]) [] = some (.sl true [.agg [I 0, I 10, I 0, I 0], .agg [I 1, I 0, I 85, I 95], .agg [I 0, I 5, I 0, I 0], .agg [I 2, I 0, I 3, I 4], .agg [I 1, I 0, I 80, I 88]], G) := fun G => rfl
  refine (callFL_eq fn40 rfl (by simp [Tryd.f40])).trans ?_
  simp (maxSteps := 1000000) (implicitDefEqProofs := false) (disch := first | rfl | omega | assumption) only [go_sem, ↓reduceIte, Nat.reduceEqDiff, Nat.reduceAdd, Nat.reduceLeDiff, Nat.reduceBEq, Nat.reduceMul, Nat.reduceLT, Int.reduceLT, Int.reduceLE, Int.reduceToNat, Int.reduceNeg, Int.reduceEq, Int.reduceMul, reduceCtorEq, Int.reduceBEq, Int.reduceBNe, Int.reduceAdd, Int.reduceSub, ltT, ltF, leT, leF, law_span, law_uses, law_read, law_lap, hE, Wea.av, smpV, smp, Ev.av]

def smpV2 : AV := .sl false (smp2.es.map Ev.av)
theorem smp2_at (H : Heap) : WeaAt H smp2 smpV2 := ⟨⟨rfl, by simp [Ev.av, AV.cells]⟩⟩

theorem law_sample2 (H : Heap) : callFL cfg0 prog0 false 40 [.sl true [.agg [I 1, I 0, I 89, I 90]]] H none = some ⟨.ret (smp2.av smpV2), H, none⟩ := by
  have hE : ∀ G : Heap, addElem G 4 true (.sl true [.agg [I 0, I 10, I 0, I 0], .agg [I 1, I 0, I 85, I 95], .agg [I 0, I 5, I 0, I 0], .agg [I 2, I 0, I 3, I 4], .agg [I 1, I 0, I 80, I 88]]) [.agg [I 1, I 0, I 89, I 90]] = some (.gsl G.length 6, G ++ [.grow 4 [.agg [I 0, I 10, I 0, I 0], .agg [I 1, I 0, I 85, I 95], .agg [I 0, I 5, I 0, I 0], .agg [I 2, I 0, I 3, I 4], .agg [I 1, I 0, I 80, I 88], .agg [I 1, I 0, I 89, I 90]]]) := fun G => rfl
  refine (callFL_eq fn40 rfl (by simp [Tryd.f40])).trans ?_
  simp (maxSteps := 1000000) (implicitDefEqProofs := false) (disch := first | rfl | omega | assumption) only [go_sem, ↓reduceIte, Nat.reduceEqDiff, Nat.reduceAdd, Nat.reduceLeDiff, Nat.reduceBEq, Nat.reduceMul, Nat.reduceLT, Int.reduceLT, Int.reduceLE, Int.reduceToNat, Int.reduceNeg, Int.reduceEq, Int.reduceMul, reduceCtorEq, Int.reduceBEq, Int.reduceBNe, Int.reduceAdd, Int.reduceSub, ltT, ltF, leT, leF, law_span, law_uses, law_read, law_lap, hE, Wea.av, smpV2, smp2, Ev.av]

theorem smp_af : smp.afterP 2 = (83, 92) ∧ smp.gate 0 (wi 2 0 (smp.es.length - 1)) = 0 := by decide +kernel
theorem smp_lo : smp.lostP = (12, 22) ∧ smp.gate 0 true = 0 := by decide +kernel
theorem smp_be : smp.sureP 90 = 24 ∧ smp.perP 90 = 31 ∧ smp.gate 0 (wi 90 (-1000) 1000) = 0 := by decide +kernel
theorem smp_un : smp.untilP 76 = (2, 0) ∧ (smp.untilP 81).2 = 4 := by decide +kernel
theorem smp_da : smp.dayP 70 [3, 2, 1] = (2, 0) := by decide +kernel
theorem smp_fi : smp.fitsP (80, 80) = 1 ∧ smp.gate 0 (spB (80, 80) (-1000) 1000) = 0 := by decide +kernel
theorem smp_cl : smp2.clashP (insS popK smp2.S 0 smp2.S.length) = (48, 0) := by decide +kernel

theorem smp_ok : smp2.S.length = 8 ∧ (∀ s ∈ smp2.S, s < 256) ∧ (insS popK smp2.S 0 smp2.S.length).length = 8 ∧ (∀ s ∈ insS popK smp2.S 0 smp2.S.length, s < 256) ∧ smp2.canB ((insS popK smp2.S 0 smp2.S.length).getD 7 0) smp2.L = false := by decide +kernel

theorem small_of {B : Nat} {L : List Nat} (h : ∀ s ∈ L, s < B) : Small B L := by
  intro k hk
  have e : L.getD k 0 = L[k] := by simp [hk]
  rw [e]
  exact h _ (List.getElem_mem hk)

theorem law_awake (H : Heap) : callFL cfg0 prog0 false 13 [] H none = some ⟨.ret (.bool true), H, none⟩ := by
  have h1 := fun G : Heap => we_After (smp_at G) (by decide) 2
  have h2 := fun G : Heap => we_Lost (smp_at G) (by decide)
  have h3 := fun G : Heap => we_Below (smp_at G) (by decide) 90
  have h4 := fun G : Heap => we_Until (smp_at G) (by decide) 76
  have h5 := fun G : Heap => we_Until (smp_at G) (by decide) 81
  have h6 := fun G : Heap => we_Day (smp_at G) (by decide) (v := .sl true ([3, 2, 1].map I)) (l := [3, 2, 1]) ⟨rfl, by simp [I, AV.cells]⟩ (by decide) 70
  have h7 := fun G : Heap => we_Fits (smp_at G) (by decide) (80, 80)
  obtain ⟨k1, k2, k3, k4, k5⟩ := smp_ok
  have h8 := fun G : Heap => we_Clash (smp2_at G) (by decide) (M := insS popK smp2.S 0 smp2.S.length) (fun _ _ => ⟨sorts_short (small_of k2) (by omega), by rw [k3, k1], small_of k4, 7, by rw [k3]; decide, k5⟩)
  simp only [smp_af.1, smp_af.2] at h1
  simp only [smp_lo.1, smp_lo.2] at h2
  simp only [smp_be.1, smp_be.2.1, smp_be.2.2] at h3
  simp only [smp_un.1] at h4
  simp only [smp_un.2] at h5
  simp only [smp_da] at h6
  simp only [smp_fi.1, smp_fi.2] at h7
  simp only [smp_cl] at h8
  have hS := law_sample
  have hS2 := law_sample2
  have e1 : smp.av smpV = .agg [I 100, I 102, I 0, I 2, smpV] := rfl
  have e2 : smp2.av smpV2 = .agg [I 100, I 102, I 0, I 2, smpV2] := rfl
  have s1 : smpV.scalar = true := rfl
  have s2 : smpV.cells = [smpV] := rfl
  rw [e1] at hS
  rw [e2] at hS2
  simp only [e1] at h1 h2 h3 h4 h5 h6 h7
  simp only [e2] at h8
  clear k1 k2 k3 k4 k5 e1 e2
  generalize smpV = sv at *
  generalize smpV2 = sw at *
  generalize (smp.untilP 81).1 = u at *
  simp only [List.map_cons, List.map_nil] at h6
  refine (callFL_eq fn13 rfl (by simp [Tryd.f13])).trans ?_
  simp (maxSteps := 1000000) (implicitDefEqProofs := false) (disch := first | rfl | omega | assumption) only [go_sem, ↓reduceIte, Nat.reduceEqDiff, Nat.reduceAdd, Nat.reduceLeDiff, Nat.reduceBEq, Nat.reduceMul, Nat.reduceLT, Int.reduceLT, Int.reduceLE, Int.reduceToNat, Int.reduceNeg, Int.reduceEq, Int.reduceMul, reduceCtorEq, Int.reduceBEq, Int.reduceBNe, Int.reduceAdd, Int.reduceSub, hS, s1, s2, h1, h2, h3, h4, h5, h6, law_span, law_read]
  rw [chkK_of]; rotate_left; kernel_rfl
  simp (maxSteps := 1000000) (implicitDefEqProofs := false) (disch := first | rfl | omega | assumption) only [go_sem, ↓reduceIte, Nat.reduceEqDiff, Nat.reduceAdd, Nat.reduceLeDiff, Nat.reduceBEq, Nat.reduceMul, Nat.reduceLT, Int.reduceLT, Int.reduceLE, Int.reduceToNat, Int.reduceNeg, Int.reduceEq, Int.reduceMul, reduceCtorEq, Int.reduceBEq, Int.reduceBNe, Int.reduceAdd, Int.reduceSub, hS, hS2, s1, s2, h1, h2, h3, h4, h5, h6, h7, h8, law_span, law_read]
  rw [chkK_of]; rotate_left; kernel_rfl
  simp (maxSteps := 1000000) (implicitDefEqProofs := false) (disch := first | rfl | omega | assumption) only [go_sem, ↓reduceIte, Nat.reduceEqDiff, Nat.reduceAdd, Nat.reduceLeDiff, Nat.reduceBEq, Nat.reduceMul, Nat.reduceLT, Int.reduceLT, Int.reduceLE, Int.reduceToNat, Int.reduceNeg, Int.reduceEq, Int.reduceMul, reduceCtorEq, Int.reduceBEq, Int.reduceBNe, Int.reduceAdd, Int.reduceSub, hS, hS2, s1, s2, h1, h2, h3, h4, h5, h6, h7, h8, law_span, law_read]

end Go.Ab
/-
  The reference, walked: powers, sets, steps.
-/
namespace Go.Ab
open Go.Proofs
set_option linter.unusedSimpArgs false
set_option linter.unusedVariables false
set_option maxRecDepth 100000

variable {H : Heap}

theorem ld_ne {k m : Nat} {o : Option Nat} {r : Lds} (h : m ≠ k) : getAt (addLd k o r) m = getAt r m := by
  cases o
  · rfl
  · simp only [addLd, getAt]; rw [if_neg (Ne.symm h)]

theorem ld_eq {k : Nat} {o : Option Nat} {r : Lds} : getAt (addLd k o r) k = o.or (getAt r k) := by
  cases o
  · simp [addLd]
  · simp [addLd, getAt]

/-- What lies at a slice that was there before has not turned by what is made later. -/
theorem SlOk.old {sz : Nat} {v : AV} {xs : List AV} (h : SlOk H sz v xs) (A B : Heap) : pairM (some (H ++ A, H ++ B)) (gslOf v) = true := by
  rcases h.obj with hg | ⟨l, hg, hlt, hget⟩
  · rw [hg]; rfl
  · rw [hg, pairM_some]
    have hs : ∀ l : List AV, sameL l l = true := fun l => by
      induction l with
      | nil => rfl
      | cons x r ih => simp [sameL, AV.same_refl, ih]
    simp only [sameAt, List.getElem?_append_left hlt, hget, AO.same, hs]
    simp

theorem or_none' (o : Option Nat) : o.or none = o := by cases o <;> rfl

theorem pow_le {j n : Nat} (h : j ≤ n) : (2 : Nat) ^ j ≤ 2 ^ n := Nat.pow_le_pow_right (by omega) h

theorem wN {m : Nat} (h : m < 2 ^ 62) : IntKind.i64.wrap (m : Int) = m := w64 (by omega) (by omega)

abbrev pw (n : Nat) : Int := ((2 ^ n : Nat) : Int)

theorem power_loop (n : Nat) (hn : n ≤ 60) :
    ∀ (q j : Nat), j + q = n → ∀ E : Env, E.get 0 = I n → E.get 3 = I (pw j) → E.get 4 = I j →
    Option.map (finishC H.length) (execL cfg0 prog0 ⟨54, none, false, H.length⟩ (todoAt Tryd.f54 3) ⟨E, [], H, none⟩) = some ⟨.ret (I (pw n)), H, none⟩ := by
  intro q
  skip
  induction q with
  | zero =>
    intro j hj  E g0 g3 g4
    have hk' : ¬ (j : Int) < ((n : Nat) : Int) := by omega
    have ej : j = n := by omega
    subst ej
    simp only [loopIt, todoPast, todoAt, todoOf, firstReg, ↓reduceIte, Option.some.injEq, Nat.reduceEqDiff, reduceCtorEq, Tryd.f54]
    rw [execL_inLoop]
    simp (maxSteps := 1000000) (implicitDefEqProofs := false) (disch := first | rfl | omega | assumption) only [go_sem, ↓reduceIte, Nat.reduceEqDiff, Nat.reduceAdd, Nat.reduceLeDiff, Nat.reduceBEq, Nat.reduceMul, Nat.reduceLT, Int.reduceLT, Int.reduceLE, Int.reduceToNat, Int.reduceNeg, Int.reduceEq, Int.reduceMul, reduceCtorEq, Int.reduceBEq, Int.reduceBNe, Int.reduceAdd, Int.reduceSub, g0, g3, g4, ltT, ltF, leT, leF, hk']
  | succ q ih =>
    intro j hj  E g0 g3 g4
    have hk' : (j : Int) < ((n : Nat) : Int) := by omega
    have hk2 : j < n := by omega
    have p1 := pow_le (show j + 1 ≤ 60 by omega)
    have e1 : (2 : Int) * ((2 ^ j : Nat) : Int) = ((2 ^ (j + 1) : Nat) : Int) := by rw [Nat.pow_succ]; omega
    have e2 := wN (m := 2 ^ (j + 1)) (by omega)
    simp only [loopIt, todoPast, todoAt, todoOf, firstReg, ↓reduceIte, Option.some.injEq, Nat.reduceEqDiff, reduceCtorEq, Tryd.f54]
    rw [execL_inLoop]
    simp (maxSteps := 1000000) (implicitDefEqProofs := false) (disch := first | rfl | omega | assumption) only [go_sem, ↓reduceIte, Nat.reduceEqDiff, Nat.reduceAdd, Nat.reduceLeDiff, Nat.reduceBEq, Nat.reduceMul, Nat.reduceLT, Int.reduceLT, Int.reduceLE, Int.reduceToNat, Int.reduceNeg, Int.reduceEq, Int.reduceMul, reduceCtorEq, Int.reduceBEq, Int.reduceBNe, Int.reduceAdd, Int.reduceSub, g0, g3, g4, ltT, ltF, leT, leF, hk', e1, e2]
    exact ih (j + 1) (by omega) _ (by exact g0) (by rfl) (by rfl)

theorem ref_power (n : Nat) (hn : n ≤ 60) (H : Heap) : callFL cfg0 prog0 false 54 [I n] H none = some ⟨.ret (I (pw n)), H, none⟩ := by
  refine (callFL_eq fn54 rfl (by simp [Tryd.f54])).trans ?_
  simp (maxSteps := 1000000) (implicitDefEqProofs := false) (disch := first | rfl | omega | assumption) only [go_sem, ↓reduceIte, Nat.reduceEqDiff, Nat.reduceAdd, Nat.reduceLeDiff, Nat.reduceBEq, Nat.reduceMul, Nat.reduceLT, Int.reduceLT, Int.reduceLE, Int.reduceToNat, Int.reduceNeg, Int.reduceEq, Int.reduceMul, reduceCtorEq, Int.reduceBEq, Int.reduceBNe, Int.reduceAdd, Int.reduceSub, ltT, ltF, leT, leF]
  exact power_loop n hn n 0 (by omega) _ (by rfl) (by rfl) (by rfl)

theorem ref_Has {s n : Nat} (hs : s < 2 ^ 60) (hn : n ≤ 60) (H : Heap) : callFL cfg0 prog0 false 74 [I s, I n] H none = some ⟨.ret (.bool (s.testBit n)), H, none⟩ := by
  have hp := fun G : Heap => ref_power n hn G
  have p1 := pow_le hn
  have p2 : 0 < (2 : Nat) ^ n := Nat.two_pow_pos n
  have e1 : ((s : Nat) : Int).tdiv ((2 ^ n : Nat) : Int) = ((s / 2 ^ n : Nat) : Int) := rfl
  have e2 : ((s / 2 ^ n : Nat) : Int).tmod 2 = ((s / 2 ^ n % 2 : Nat) : Int) := rfl
  have e3 : (((s / 2 ^ n % 2 : Nat) : Int) == 1) = s.testBit n := by
    rw [Nat.testBit_eq_decide_div_mod_eq]
    have : s / 2 ^ n % 2 = 0 ∨ s / 2 ^ n % 2 = 1 := by omega
    rcases this with h | h <;> rw [h] <;> rfl
  have z : ((2 ^ n : Nat) : Int) ≠ 0 := by omega
  have d := div_lt (j := n) hs
  have e4 : IntKind.i64.wrap ((s / 2 ^ n : Nat) : Int) = ((s / 2 ^ n : Nat) : Int) := wN (by omega)
  refine (callFL_eq fn74 rfl (by simp [Tryd.f74])).trans ?_
  simp (maxSteps := 1000000) (implicitDefEqProofs := false) (disch := first | rfl | omega | assumption) only [go_sem, ↓reduceIte, Nat.reduceEqDiff, Nat.reduceAdd, Nat.reduceLeDiff, Nat.reduceBEq, Nat.reduceMul, Nat.reduceLT, Int.reduceLT, Int.reduceLE, Int.reduceToNat, Int.reduceNeg, Int.reduceEq, Int.reduceMul, reduceCtorEq, Int.reduceBEq, Int.reduceBNe, Int.reduceAdd, Int.reduceSub, ltT, ltF, leT, leF, hp, e1, e2, e3, e4, z]

def takP (w : Wea) (e : Ev) : Int × Int := if e.k = 0 then (e.u * w.ulo, e.u * w.uhi) else if e.k = 2 then (e.lo, e.hi) else (0, 0)

theorem ref_takes {w : Wea} {ve : AV} (h : WeaAt H w ve) (ho : w.Ok) (e : Ev) (he : e.ok = true) : callFL cfg0 prog0 false 92 [w.av ve, e.av] H none = some ⟨.ret (KV (takP w e)), H, none⟩ := by
  have s1 := h.es.scal
  have hu := ho.use
  simp only [Wea.av, Ev.av, takP]
  rcases (Ev.ok_iff e).1 he with ⟨k0, k1⟩ | ⟨k0, k1⟩ | ⟨k0, k1⟩
  · have b1 := mul_bd k1 (show 0 ≤ w.ulo ∧ w.ulo ≤ 3 by omega)
    have b2 := mul_bd k1 (show 0 ≤ w.uhi ∧ w.uhi ≤ 3 by omega)
    refine (callFL_eq fn92 rfl (by simp [Tryd.f92])).trans ?_
    simp (maxSteps := 1000000) (implicitDefEqProofs := false) (disch := first | rfl | omega | assumption) only [go_sem, ↓reduceIte, Nat.reduceEqDiff, Nat.reduceAdd, Nat.reduceLeDiff, Nat.reduceBEq, Nat.reduceMul, Nat.reduceLT, Int.reduceLT, Int.reduceLE, Int.reduceToNat, Int.reduceNeg, Int.reduceEq, Int.reduceMul, reduceCtorEq, Int.reduceBEq, Int.reduceBNe, Int.reduceAdd, Int.reduceSub, ltT, ltF, leT, leF, s1, k0]
  · refine (callFL_eq fn92 rfl (by simp [Tryd.f92])).trans ?_
    simp (maxSteps := 1000000) (implicitDefEqProofs := false) (disch := first | rfl | omega | assumption) only [go_sem, ↓reduceIte, Nat.reduceEqDiff, Nat.reduceAdd, Nat.reduceLeDiff, Nat.reduceBEq, Nat.reduceMul, Nat.reduceLT, Int.reduceLT, Int.reduceLE, Int.reduceToNat, Int.reduceNeg, Int.reduceEq, Int.reduceMul, reduceCtorEq, Int.reduceBEq, Int.reduceBNe, Int.reduceAdd, Int.reduceSub, ltT, ltF, leT, leF, s1, k0]
  · refine (callFL_eq fn92 rfl (by simp [Tryd.f92])).trans ?_
    simp (maxSteps := 1000000) (implicitDefEqProofs := false) (disch := first | rfl | omega | assumption) only [go_sem, ↓reduceIte, Nat.reduceEqDiff, Nat.reduceAdd, Nat.reduceLeDiff, Nat.reduceBEq, Nat.reduceMul, Nat.reduceLT, Int.reduceLT, Int.reduceLE, Int.reduceToNat, Int.reduceNeg, Int.reduceEq, Int.reduceMul, reduceCtorEq, Int.reduceBEq, Int.reduceBNe, Int.reduceAdd, Int.reduceSub, ltT, ltF, leT, leF, s1, k0]

/-- One step of the reference. -/
def nxE (w : Wea) (e : Ev) (b : Bool) (l : Int × Int) : Int × Int :=
  if (decide (e.k = 1) && b) = true then (max (l.1 - (takP w e).2) e.lo, min (l.2 - (takP w e).1) e.hi) else (l.1 - (takP w e).2, l.2 - (takP w e).1)

theorem takP_bd {w : Wea} (ho : w.Ok) {e : Ev} (he : e.ok = true) : 0 ≤ (takP w e).1 ∧ (takP w e).1 ≤ (takP w e).2 ∧ (takP w e).2 ≤ 60 := by
  have hu := ho.use
  simp only [takP]
  rcases (Ev.ok_iff e).1 he with ⟨k0, k1⟩ | ⟨k0, k1⟩ | ⟨k0, k1⟩
  · have b1 := mul_bd k1 (show 0 ≤ w.ulo ∧ w.ulo ≤ 3 by omega)
    have b2 := mul_bd k1 (show 0 ≤ w.uhi ∧ w.uhi ≤ 3 by omega)
    have b3 : e.u * w.ulo ≤ e.u * w.uhi := Int.mul_le_mul_of_nonneg_left (by omega) (by omega)
    rw [if_pos k0]
    simp only
    omega
  · rw [if_neg (by omega), if_neg (by omega)]
    simp only
    omega
  · rw [if_neg (by omega), if_pos k0]
    simp only
    omega

theorem ref_next {w : Wea} {ve : AV} (h : WeaAt H w ve) (ho : w.Ok) (e : Ev) (he : e.ok = true) (l : Int × Int) (hb : bd 1000000 l) (b : Bool) :
    callFL cfg0 prog0 false 84 [w.av ve, KV l, e.av, .bool b] H none = some ⟨.ret (KV (nxE w e b l)), H, none⟩ := by
  have s1 := h.es.scal
  have hT := fun G : Heap => ref_takes (h.app G) ho e he
  obtain ⟨t1, t2, t3⟩ := takP_bd ho he
  simp only [bd] at hb
  have hmx : ∀ a c : Int, (if a < c then c else a) = max a c := by intro a c; split <;> omega
  have hmn : ∀ a c : Int, (if c < a then c else a) = min a c := by intro a c; split <;> omega
  simp only [Wea.av, Ev.av, nxE] at hT ⊢
  generalize takP w e = t at *
  by_cases hk : e.k = 1
  · have hk' : (e.k == 1) = true := beq_iff_eq.2 hk
    have dk : decide (e.k = 1) = true := decide_eq_true hk
    cases b
    · refine (callFL_eq fn84 rfl (by simp [Tryd.f84])).trans ?_
      simp (maxSteps := 1000000) (implicitDefEqProofs := false) (disch := first | rfl | omega | assumption) only [go_sem, ↓reduceIte, Nat.reduceEqDiff, Nat.reduceAdd, Nat.reduceLeDiff, Nat.reduceBEq, Nat.reduceMul, Nat.reduceLT, Int.reduceLT, Int.reduceLE, Int.reduceToNat, Int.reduceNeg, Int.reduceEq, Int.reduceMul, reduceCtorEq, Int.reduceBEq, Int.reduceBNe, Int.reduceAdd, Int.reduceSub, ltT, ltF, leT, leF, s1, hT, dk, hk', hmx, hmn, Bool.true_and, Bool.and_true]
      done
    · refine (callFL_eq fn84 rfl (by simp [Tryd.f84])).trans ?_
      simp (maxSteps := 1000000) (implicitDefEqProofs := false) (disch := first | rfl | omega | assumption) only [go_sem, ↓reduceIte, Nat.reduceEqDiff, Nat.reduceAdd, Nat.reduceLeDiff, Nat.reduceBEq, Nat.reduceMul, Nat.reduceLT, Int.reduceLT, Int.reduceLE, Int.reduceToNat, Int.reduceNeg, Int.reduceEq, Int.reduceMul, reduceCtorEq, Int.reduceBEq, Int.reduceBNe, Int.reduceAdd, Int.reduceSub, ltT, ltF, leT, leF, s1, hT, dk, hk', hmx, hmn, Bool.true_and, Bool.and_true]
      done
  · have hk' : (e.k == 1) = false := beq_eq_false_iff_ne.2 hk
    have dk : decide (e.k = 1) = false := decide_eq_false hk
    refine (callFL_eq fn84 rfl (by simp [Tryd.f84])).trans ?_
    simp (maxSteps := 1000000) (implicitDefEqProofs := false) (disch := first | rfl | omega | assumption) only [go_sem, ↓reduceIte, Nat.reduceEqDiff, Nat.reduceAdd, Nat.reduceLeDiff, Nat.reduceBEq, Nat.reduceMul, Nat.reduceLT, Int.reduceLT, Int.reduceLE, Int.reduceToNat, Int.reduceNeg, Int.reduceEq, Int.reduceMul, reduceCtorEq, Int.reduceBEq, Int.reduceBNe, Int.reduceAdd, Int.reduceSub, ltT, ltF, leT, leF, s1, hT, dk, hk', hmx, hmn, Bool.false_and]
    done

/-- The reference's run. -/
def Wea.runP (w : Wea) (s : Nat) (l : Int × Int) : Nat → Nat → Int × Int
  | _, 0 => l
  | i, q + 1 => if l.1 ≤ l.2 then w.runP s (nxE w (w.ev i) (s.testBit i) l) (i + 1) q else l

theorem nxE_bd {w : Wea} (ho : w.Ok) {e : Ev} (he : e.ok = true) (b : Bool) {l : Int × Int} {K : Int} (hK : 1000 ≤ K) (h : bd K l) : bd (K + 60) (nxE w e b l) := by
  obtain ⟨t1, t2, t3⟩ := takP_bd ho he
  simp only [bd, nxE] at h ⊢
  by_cases hk : e.k = 1
  · rcases (Ev.ok_iff e).1 he with ⟨k0, k1⟩ | ⟨k0, k1⟩ | ⟨k0, k1⟩
    · omega
    · split <;> simp only <;> omega
    · omega
  · simp only [hk, decide_false, Bool.false_and, Bool.false_eq_true, if_false]
    omega

theorem ok_ev {w : Wea} (ho : w.Ok) {i : Nat} (hi : i < w.es.length) : (w.ev i).ok = true := (Ev.ok_iff _).2 (ho.ev i hi)

theorem run_loop {w : Wea} {ve : AV} (h : WeaAt H w ve) (ho : w.Ok) (s : Nat) (hs : s < 2 ^ 60) (n : Nat) (hn : n ≤ w.es.length) :
    ∀ (q j : Nat), j + q = n → ∀ (l : Int × Int), bd (100000 + 60 * j) l → ∀ E : Env, E.get 3 = I n → E.get 4 = I s → E.get 5 = .ptr H.length 0 → E.get 6 = .ptr (H.length + 1) 0 → E.get 10 = .ptr (H.length + 2) 0 → E.get 11 = I j →
    Option.map (finishC H.length) (execL cfg0 prog0 ⟨50, none, false, H.length⟩ (todoAt Tryd.f50 2) ⟨E, [], H ++ [.box (w.av ve), .box (KV l), .box (KV (0, 0))], none⟩) = some ⟨.ret (KV (w.runP s l j q)), H, none⟩ := by
  intro q
  have h8 := ho.many
  have s1 := h.es.scal
  obtain ⟨a1, a2, a3, a4, a5⟩ := h.es.fA (d := ev0)
  simp only [Wea.av]
  induction q with
  | zero =>
    intro j hj l hl E g3 g4 g5 g6 g10 g11
    have hk' : ¬ (j : Int) < ((n : Nat) : Int) := by omega
    simp only [loopIt, todoPast, todoAt, todoOf, firstReg, ↓reduceIte, Option.some.injEq, Nat.reduceEqDiff, reduceCtorEq, Tryd.f50]
    rw [execL_inLoop]
    simp (maxSteps := 1000000) (implicitDefEqProofs := false) (disch := first | rfl | omega | assumption) only [go_sem, ↓reduceIte, Nat.reduceEqDiff, Nat.reduceAdd, Nat.reduceLeDiff, Nat.reduceBEq, Nat.reduceMul, Nat.reduceLT, Int.reduceLT, Int.reduceLE, Int.reduceToNat, Int.reduceNeg, Int.reduceEq, Int.reduceMul, reduceCtorEq, Int.reduceBEq, Int.reduceBNe, Int.reduceAdd, Int.reduceSub, g3, g4, g5, g6, g10, g11, ltT, ltF, leT, leF, hk', s1, Wea.runP]
    done
  | succ q ih =>
    intro j hj l hl E g3 g4 g5 g6 g10 g11
    have hk' : (j : Int) < ((n : Nat) : Int) := by omega
    have hk2 : j < n := by omega
    simp only [Wea.runP]
    have hj8 : j < w.es.length := by omega
    have hH := fun G : Heap => ref_Has hs (show j ≤ 60 by omega) G
    have hN := fun G : Heap => ref_next (h.app G) ho (w.es.getD j ev0) (ok_ev ho hj8) l (bd_mono (by omega) hl) (s.testBit j)
    have hr : readPart (w.es.getD j ev0).av.cells 0 ⟨.struct [(0, 3), (1, 3), (2, 23)], 4, 32, some (.agg #[.int .i64 0, .int .i64 0, .int .i64 0, .int .i64 0])⟩ = some (w.es.getD j ev0).av := rfl
    have hb' := nxE_bd ho (ok_ev ho hj8) (s.testBit j) (by omega) hl
    have o1 := h.es.old
    have o2 := fun (k : Int) (off : Nat) => ptrOf_elA (k := k) (off := off) h.es
    simp only [Wea.av] at hN
    by_cases hc : l.1 ≤ l.2
    · skip
      simp only [loopIt, todoPast, todoAt, todoOf, firstReg, ↓reduceIte, Option.some.injEq, Nat.reduceEqDiff, reduceCtorEq, Tryd.f50]
      rw [execL_inLoop]
      simp (maxSteps := 1000000) (implicitDefEqProofs := false) (disch := first | rfl | omega | assumption) only [go_sem, ↓reduceIte, Nat.reduceEqDiff, Nat.reduceAdd, Nat.reduceLeDiff, Nat.reduceBEq, Nat.reduceMul, Nat.reduceLT, Int.reduceLT, Int.reduceLE, Int.reduceToNat, Int.reduceNeg, Int.reduceEq, Int.reduceMul, reduceCtorEq, Int.reduceBEq, Int.reduceBNe, Int.reduceAdd, Int.reduceSub, g3, g4, g5, g6, g10, g11, ltT, ltF, leT, leF, hk', s1, hc]
      rw [chkK_of]; rotate_left; kernel_rfl
      simp (maxSteps := 1000000) (implicitDefEqProofs := false) (disch := first | rfl | omega | assumption) only [go_sem, ↓reduceIte, Nat.reduceEqDiff, Nat.reduceAdd, Nat.reduceLeDiff, Nat.reduceBEq, Nat.reduceMul, Nat.reduceLT, Int.reduceLT, Int.reduceLE, Int.reduceToNat, Int.reduceNeg, Int.reduceEq, Int.reduceMul, reduceCtorEq, Int.reduceBEq, Int.reduceBNe, Int.reduceAdd, Int.reduceSub, g3, g4, g5, g6, g10, g11, ltT, ltF, leT, leF, hk', s1, hc, a1, a2, a3, a4, hr, hH, hN, o1, o2, ld_ne, ld_eq, or_none']
      exact ih (j + 1) (by omega) _ (bd_mono (by omega) hb') _ (by exact g3) (by exact g4) (by exact g5) (by exact g6) (by exact g10) (by rfl)
    · skip
      simp only [loopIt, todoPast, todoAt, todoOf, firstReg, ↓reduceIte, Option.some.injEq, Nat.reduceEqDiff, reduceCtorEq, Tryd.f50]
      rw [execL_inLoop]
      simp (maxSteps := 1000000) (implicitDefEqProofs := false) (disch := first | rfl | omega | assumption) only [go_sem, ↓reduceIte, Nat.reduceEqDiff, Nat.reduceAdd, Nat.reduceLeDiff, Nat.reduceBEq, Nat.reduceMul, Nat.reduceLT, Int.reduceLT, Int.reduceLE, Int.reduceToNat, Int.reduceNeg, Int.reduceEq, Int.reduceMul, reduceCtorEq, Int.reduceBEq, Int.reduceBNe, Int.reduceAdd, Int.reduceSub, g3, g4, g5, g6, g10, g11, ltT, ltF, leT, leF, hk', s1, hc]

end Go.Ab
/-
  What the reference's runs tell.
-/
namespace Go.Ab
open Go.Proofs
set_option linter.unusedSimpArgs false
set_option linter.unusedVariables false
set_option maxRecDepth 100000

variable {H : Heap}

theorem nx_tells {w : Wea} (ho : w.Ok) {S : Int → Prop} {l : Int × Int} (h : isSp S l) (s : Nat) {i : Nat} (hi : i < w.es.length) : tells (fun y => ∃ x, S x ∧ (w.evz s i).go x y) 0 (nxE w (w.ev i) (s.testBit i) l) := by
  have hle := h.1
  have hu := ho.use
  simp only [nxE, takP, Wea.evz, h.2]
  rcases ho.ev i hi with ⟨k0, k1⟩ | ⟨k0, k1⟩ | ⟨k0, k1⟩
  · have b3 : (w.ev i).u * w.ulo ≤ (w.ev i).u * w.uhi := Int.mul_le_mul_of_nonneg_left (by omega) (by omega)
    simp only [k0, if_true, (show ¬ (0 : Int) = 1 by decide), decide_false, Bool.false_and, Bool.false_eq_true, if_false, EvZ.go, inP]
    refine .inl ⟨by simp only; omega, fun y => ?_⟩
    simp only [inP]
    exact ⟨fun ⟨x, hx⟩ => by omega, fun hy => ⟨max l.1 (y + (w.ev i).u * w.ulo), by omega⟩⟩
  · cases hb : s.testBit i
    · simp only [k0, if_true, (show ¬ (1 : Int) = 0 by decide), (show ¬ (1 : Int) = 2 by decide), decide_true, Bool.and_false, Bool.false_eq_true, if_false, EvZ.go, inP]
      refine .inl ⟨by simp only; omega, fun y => ?_⟩
      simp only [inP]
      exact ⟨fun ⟨x, hx⟩ => by omega, fun hy => ⟨y, by omega⟩⟩
    · simp only [k0, if_true, (show ¬ (1 : Int) = 0 by decide), (show ¬ (1 : Int) = 2 by decide), decide_true, Bool.and_true, Bool.false_eq_true, if_false, EvZ.go, inP]
      by_cases hc : max (l.1 - 0) (w.ev i).lo ≤ min (l.2 - 0) (w.ev i).hi
      · refine .inl ⟨hc, fun y => ?_⟩
        simp only [inP]
        exact ⟨fun ⟨x, hx⟩ => by omega, fun hy => ⟨y, by omega⟩⟩
      · exact .inr ⟨fun y ⟨x, hx⟩ => by omega, by simp only; omega⟩
  · simp only [k0, if_true, (show ¬ (2 : Int) = 0 by decide), (show ¬ (2 : Int) = 1 by decide), decide_false, Bool.false_and, Bool.false_eq_true, if_false, EvZ.go, inP]
    refine .inl ⟨by simp only; omega, fun y => ?_⟩
    simp only [inP]
    exact ⟨fun ⟨x, hx⟩ => by omega, fun hy => ⟨max l.1 (y + (w.ev i).lo), by omega⟩⟩

/-- From some lengths on, through some events. -/
def Wea.rS (w : Wea) (s : Nat) (S : Int → Prop) (i q : Nat) (y : Int) : Prop := ∃ k : Nat → Int, S (k i) ∧ (∀ j, i ≤ j → j < i + q → (w.evz s j).go (k j) (k (j + 1))) ∧ k (i + q) = y

theorem run_tells {w : Wea} (ho : w.Ok) (s : Nat) : ∀ (q i : Nat) (S : Int → Prop) (l : Int × Int), i + q ≤ w.es.length → tells S 0 l → tells (w.rS s S i q) 0 (w.runP s l i q)
  | 0, i, S, l, _, h => by
    refine tells_cong (fun y => ?_) h
    exact ⟨fun hy => ⟨fun _ => y, hy, by omega, rfl⟩, fun ⟨k, h1, _, h3⟩ => h3 ▸ h1⟩
  | q + 1, i, S, l, hi, h => by
    simp only [Wea.runP]
    split
    · rename_i hc
      have hs : isSp S l := tells_sp h ((tells_some h (by omega)).1 hc)
      have ih := run_tells ho s q (i + 1) _ _ (by omega) (nx_tells ho hs s (show i < w.es.length by omega))
      refine tells_cong (fun y => ?_) ih
      constructor
      · rintro ⟨k, ⟨x, h1, h2⟩, h3, h4⟩
        refine ⟨fun j => if j ≤ i then x else k j, by simpa using h1, fun j h5 h6 => ?_, ?_⟩
        · by_cases hj : j = i
          · subst hj
            simpa [show ¬ j + 1 ≤ j by omega] using h2
          · have := h3 j (by omega) (by omega)
            simpa [show ¬ j ≤ i by omega, show ¬ j + 1 ≤ i by omega] using this
        · rw [← h4]
          simp [show ¬ i + (q + 1) ≤ i by omega, show i + 1 + q = i + (q + 1) by omega]
      · rintro ⟨k, h1, h2, h3⟩
        exact ⟨k, ⟨k i, h1, h2 i (by omega) (by omega)⟩, fun j h4 h5 => h2 j (by omega) (by omega), by rw [← h3, show i + 1 + q = i + (q + 1) by omega]⟩
    · rename_i hc
      have hn : ∀ x, ¬ S x := fun x hx => hc ((tells_some h (by omega)).2 ⟨x, hx⟩)
      exact .inr ⟨fun y ⟨k, h1, _⟩ => hn _ h1, by omega⟩

/-- The set of all events. -/
def Wea.ev1 (w : Wea) : Nat := 2 ^ w.es.length - 1

theorem ev1_bit (w : Wea) (i : Nat) : w.ev1.testBit i = decide (i < w.es.length) := Nat.testBit_two_pow_sub_one ..

theorem ev1_go {w : Wea} (ho : w.Ok) {i : Nat} (hi : i < w.es.length) (x y : Int) : (w.evz w.ev1 i).go x y ↔ (w.ev i).go w.U x y := by
  simp only [Wea.evz, Ev.go, ev1_bit, hi, decide_true]
  rcases ho.ev i hi with ⟨k0, k1⟩ | ⟨k0, k1⟩ | ⟨k0, k1⟩
  · simp only [k0, if_true, EvZ.go]
  · simp only [k0, if_true, if_false, EvZ.go, (show ¬ (1 : Int) = 0 by decide), (show ¬ (1 : Int) = 2 by decide)]
  · simp only [k0, if_true, if_false, EvZ.go, (show ¬ (2 : Int) = 0 by decide)]

/-- By all events. -/
def Wea.rT (w : Wea) (S : Int → Prop) (i q : Nat) (y : Int) : Prop := ∃ k : Nat → Int, S (k i) ∧ (∀ j, i ≤ j → j < i + q → (w.ev j).go w.U (k j) (k (j + 1))) ∧ k (i + q) = y

theorem runT {w : Wea} (ho : w.Ok) {q i : Nat} {l : Int × Int} (hl : l.1 ≤ l.2) (h : i + q ≤ w.es.length) : tells (w.rT (inP l) i q) 0 (w.runP w.ev1 l i q) := by
  refine tells_cong (fun y => ?_) (run_tells ho w.ev1 q i (inP l) l h (.inl ⟨hl, fun _ => Iff.rfl⟩))
  constructor
  · rintro ⟨k, h1, h2, h3⟩
    exact ⟨k, h1, fun j a b => (ev1_go ho (by omega) _ _).1 (h2 j a b), h3⟩
  · rintro ⟨k, h1, h2, h3⟩
    exact ⟨k, h1, fun j a b => (ev1_go ho (by omega) _ _).2 (h2 j a b), h3⟩

theorem canR {w : Wea} (ho : w.Ok) : decide ((w.runP w.ev1 w.L 0 w.es.length).1 ≤ (w.runP w.ev1 w.L 0 w.es.length).2) = w.can := by
  have h := tells_some (runT ho (i := 0) (q := w.es.length) (L_ok ho) (by omega)) (by omega)
  rw [Bool.eq_iff_iff, decide_eq_true_eq, canT ho, h]
  constructor
  · rintro ⟨x, k, h1, h2, h3⟩
    exact ⟨k, h1, fun i hi => h2 i (by omega) (by omega)⟩
  · rintro ⟨l, h1, h2⟩
    exact ⟨_, l, h1, fun i _ hi => h2 i (by omega), rfl⟩

/-- The lengths that can be, at some place. -/
def Wea.aT (w : Wea) (i : Nat) (x : Int) : Prop := ∃ l, w.T l ∧ l i = x

/-- A length there is that can be, if it can be up to there and from there on. -/
theorem aT_iff {w : Wea} {i : Nat} (hi : i ≤ w.es.length) (x : Int) : w.aT i x ↔ w.rT (inP w.L) 0 i x ∧ ∃ y, w.rT (inP (x, x)) i (w.es.length - i) y := by
  constructor
  · rintro ⟨l, h, rfl⟩
    exact ⟨⟨l, h.1, fun j _ hj => h.2 j (by omega), by rw [Nat.zero_add]⟩, _, l, ⟨Int.le_refl _, Int.le_refl _⟩, fun j _ hj => h.2 j (by omega), rfl⟩
  · rintro ⟨⟨k, h1, h2, h3⟩, y, k', g1, g2, -⟩
    simp only [inP] at g1
    rw [Nat.zero_add] at h3
    refine ⟨fun j => if j ≤ i then k j else k' j, ⟨by simpa using h1, fun j hj => ?_⟩, by simpa using h3⟩
    rcases Nat.lt_trichotomy j i with hji | hji | hji
    · have := h2 j (by omega) (by omega)
      simpa [show j ≤ i by omega, show j + 1 ≤ i by omega] using this
    · subst hji
      have := g2 j (by omega) (by omega)
      have e : k j = k' j := by omega
      simpa [show ¬ j + 1 ≤ j by omega, e] using this
    · have := g2 j (by omega) (by omega)
      simpa [show ¬ j ≤ i by omega, show ¬ j + 1 ≤ i by omega] using this

/-- The ends of what is told up to a number; none yet. -/
def hullTo (S : Int → Prop) (x : Int) (b : Bool) (p : Int × Int) : Prop := if b then hull (fun y => S y ∧ y < x) p else p = (0, 0) ∧ ∀ y, S y → ¬ y < x

theorem hullTo_step {S : Int → Prop} {x : Int} {b : Bool} {p : Int × Int} (h : hullTo S x b p) (hx : S x) : hullTo S (x + 1) true (if b then p.1 else x, x) := by
  simp only [hullTo, if_true]
  cases b
  · simp only [hullTo, Bool.false_eq_true, if_false] at h ⊢
    exact ⟨⟨hx, by omega⟩, ⟨hx, by omega⟩, fun y ⟨h1, h2⟩ => by have := h.2 y h1; simp only [inP]; omega⟩
  · simp only [hullTo, if_true] at h ⊢
    obtain ⟨h1, h2, h3⟩ := h
    refine ⟨⟨h1.1, by have := h1.2; simp only; omega⟩, ⟨hx, by omega⟩, fun y ⟨g1, g2⟩ => ?_⟩
    by_cases hy : y = x
    · have := h1.2
      simp only [inP]
      omega
    · have := h3 y ⟨g1, by omega⟩
      simp only [inP] at this ⊢
      omega

theorem hullTo_skip {S : Int → Prop} {x : Int} {b : Bool} {p : Int × Int} (h : hullTo S x b p) (hx : ¬ S x) : hullTo S (x + 1) b p := by
  have e : ∀ y, (S y ∧ y < x + 1) ↔ S y ∧ y < x := fun y => ⟨fun ⟨h1, h2⟩ => ⟨h1, by
    by_cases hy : y = x
    · subst hy; exact absurd h1 hx
    · omega⟩, fun ⟨h1, h2⟩ => ⟨h1, by omega⟩⟩
  cases b
  · simp only [hullTo, Bool.false_eq_true, if_false] at h ⊢
    refine ⟨h.1, fun y h1 h2 => h.2 y h1 ((e y).1 ⟨h1, h2⟩).2⟩
  · simp only [hullTo, if_true] at h ⊢
    exact hull_cong (fun y => (e y).symm) h

end Go.Ab
/-
  The reference, walked: runs, errors, lengths.
-/
namespace Go.Ab
open Go.Proofs
set_option linter.unusedSimpArgs false
set_option linter.unusedVariables false
set_option maxRecDepth 100000

variable {H : Heap}

theorem ref_run {w : Wea} {ve : AV} (h : WeaAt H w ve) (ho : w.Ok) (s : Nat) (hs : s < 2 ^ 60) {l : Int × Int} (hb : bd 100000 l) {i n : Nat} (hi : i ≤ n) (hn : n ≤ w.es.length) :
    callFL cfg0 prog0 false 50 [w.av ve, KV l, I i, I n, I s] H none = some ⟨.ret (KV (w.runP s l i (n - i))), H, none⟩ := by
  have s1 := h.es.scal
  have hr := run_loop h ho s hs n hn (n - i) i (by omega)
  simp only [Wea.av] at hr ⊢
  refine (callFL_eq fn50 rfl (by simp [Tryd.f50])).trans ?_
  simp (maxSteps := 1000000) (implicitDefEqProofs := false) (disch := first | rfl | omega | assumption) only [go_sem, ↓reduceIte, Nat.reduceEqDiff, Nat.reduceAdd, Nat.reduceLeDiff, Nat.reduceBEq, Nat.reduceMul, Nat.reduceLT, Int.reduceLT, Int.reduceLE, Int.reduceToNat, Int.reduceNeg, Int.reduceEq, Int.reduceMul, reduceCtorEq, Int.reduceBEq, Int.reduceBNe, Int.reduceAdd, Int.reduceSub, ltT, ltF, leT, leF, s1]
  exact hr l (bd_mono (by omega) hb) _ (by rfl) (by rfl) (by rfl) (by rfl) (by rfl) (by rfl)

theorem ev1_lt {w : Wea} (ho : w.Ok) : w.ev1 < 2 ^ 60 := by
  have h8 := ho.many
  have := pow_le h8
  simp only [Wea.ev1]
  omega

theorem ref_every {w : Wea} {ve : AV} (h : WeaAt H w ve) (ho : w.Ok) : callFL cfg0 prog0 false 51 [w.av ve] H none = some ⟨.ret (I w.ev1), H, none⟩ := by
  have s1 := h.es.scal
  have s2 := h.es.len
  rw [List.length_map] at s2
  have h8 := ho.many
  have hp := fun G : Heap => ref_power w.es.length (by omega) G
  have p1 := pow_le h8
  have p2 : 0 < (2 : Nat) ^ w.es.length := Nat.two_pow_pos _
  have e1 : pw w.es.length - 1 = (w.ev1 : Int) := by simp only [pw, Wea.ev1]; omega
  have e2 := wN (m := w.ev1) (by have := ev1_lt ho; omega)
  simp only [Wea.av]
  refine (callFL_eq fn51 rfl (by simp [Tryd.f51])).trans ?_
  simp (maxSteps := 1000000) (implicitDefEqProofs := false) (disch := first | rfl | omega | assumption) only [go_sem, ↓reduceIte, Nat.reduceEqDiff, Nat.reduceAdd, Nat.reduceLeDiff, Nat.reduceBEq, Nat.reduceMul, Nat.reduceLT, Int.reduceLT, Int.reduceLE, Int.reduceToNat, Int.reduceNeg, Int.reduceEq, Int.reduceMul, reduceCtorEq, Int.reduceBEq, Int.reduceBNe, Int.reduceAdd, Int.reduceSub, ltT, ltF, leT, leF, s1, s2, hp, e1, e2]
  done

theorem ref_can {w : Wea} {ve : AV} (h : WeaAt H w ve) (ho : w.Ok) (s : Nat) (hs : s < 2 ^ 60) {l : Int × Int} (hb : bd 100000 l) :
    callFL cfg0 prog0 false 73 [w.av ve, KV l, I s] H none = some ⟨.ret (.bool (decide ((w.runP s l 0 w.es.length).1 ≤ (w.runP s l 0 w.es.length).2))), H, none⟩ := by
  have s1 := h.es.scal
  have s2 := h.es.len
  rw [List.length_map] at s2
  have hR := fun G : Heap => ref_run (h.app G) ho s hs hb (Nat.zero_le w.es.length) (Nat.le_refl _)
  simp only [Wea.av, Nat.sub_zero, Int.natCast_zero] at hR ⊢
  refine (callFL_eq fn73 rfl (by simp [Tryd.f73])).trans ?_
  simp (maxSteps := 1000000) (implicitDefEqProofs := false) (disch := first | rfl | omega | assumption) only [go_sem, ↓reduceIte, Nat.reduceEqDiff, Nat.reduceAdd, Nat.reduceLeDiff, Nat.reduceBEq, Nat.reduceMul, Nat.reduceLT, Int.reduceLT, Int.reduceLE, Int.reduceToNat, Int.reduceNeg, Int.reduceEq, Int.reduceMul, reduceCtorEq, Int.reduceBEq, Int.reduceBNe, Int.reduceAdd, Int.reduceSub, ltT, ltF, leT, leF, s1, s2, hR]
  done

theorem L_bd5 {w : Wea} (ho : w.Ok) : bd 100000 w.L := by
  have := ho.len
  simp only [bd, Wea.L]
  omega

theorem ref_check {w : Wea} {ve : AV} (h : WeaAt H w ve) (many : Int) (b : Bool) :
    callFL cfg0 prog0 false 45 [w.av ve, I many, .bool b] H none = some ⟨.ret (I (w.gate many b)), H, none⟩ := by
  have s1 := h.es.scal
  have hV := fun G : Heap => ref_Wear (h.app G)
  have hav : w.av ve = .agg [I w.llo, I w.lhi, I w.ulo, I w.uhi, ve] := rfl
  simp only [Wea.gate, hav] at hV ⊢
  rcases Bool.eq_false_or_eq_true w.valid with hv | hv
  rotate_left
  · simp only [hv, Bool.false_eq_true, if_false] at hV ⊢
    refine (callFL_eq fn45 rfl (by simp [Tryd.f45])).trans ?_
    simp (maxSteps := 1000000) (implicitDefEqProofs := false) (disch := first | rfl | omega | assumption) only [go_sem, ↓reduceIte, Nat.reduceEqDiff, Nat.reduceAdd, Nat.reduceLeDiff, Nat.reduceBEq, Nat.reduceMul, Nat.reduceLT, Int.reduceLT, Int.reduceLE, Int.reduceToNat, Int.reduceNeg, Int.reduceEq, Int.reduceMul, reduceCtorEq, Int.reduceBEq, Int.reduceBNe, Int.reduceAdd, Int.reduceSub, ltT, ltF, leT, leF, s1, hV]
    done
  · have ho := w.valid_iff.1 hv
    have hE := fun G : Heap => ref_every (h.app G) ho
    have hC := fun G : Heap => ref_can (h.app G) ho w.ev1 (ev1_lt ho) (L_bd5 ho)
    rw [canR ho] at hC
    simp only [hv, if_true, hav, Wea.L] at hV hE hC ⊢
    by_cases hm : many ≤ 10
    · have hm' : ¬ 10 < many := by omega
      cases b
      · simp only [hm, if_true, Bool.false_eq_true, if_false]
        refine (callFL_eq fn45 rfl (by simp [Tryd.f45])).trans ?_
        simp (maxSteps := 1000000) (implicitDefEqProofs := false) (disch := first | rfl | omega | assumption) only [go_sem, ↓reduceIte, Nat.reduceEqDiff, Nat.reduceAdd, Nat.reduceLeDiff, Nat.reduceBEq, Nat.reduceMul, Nat.reduceLT, Int.reduceLT, Int.reduceLE, Int.reduceToNat, Int.reduceNeg, Int.reduceEq, Int.reduceMul, reduceCtorEq, Int.reduceBEq, Int.reduceBNe, Int.reduceAdd, Int.reduceSub, ltT, ltF, leT, leF, s1, hV, hm']
        done
      · simp only [hm, if_true]
        rcases Bool.eq_false_or_eq_true w.can with hc | hc
        · simp only [hc, if_true] at hC ⊢
          refine (callFL_eq fn45 rfl (by simp [Tryd.f45])).trans ?_
          simp (maxSteps := 1000000) (implicitDefEqProofs := false) (disch := first | rfl | omega | assumption) only [go_sem, ↓reduceIte, Nat.reduceEqDiff, Nat.reduceAdd, Nat.reduceLeDiff, Nat.reduceBEq, Nat.reduceMul, Nat.reduceLT, Int.reduceLT, Int.reduceLE, Int.reduceToNat, Int.reduceNeg, Int.reduceEq, Int.reduceMul, reduceCtorEq, Int.reduceBEq, Int.reduceBNe, Int.reduceAdd, Int.reduceSub, ltT, ltF, leT, leF, s1, hV, hm']
          rw [chkK_of]; rotate_left; kernel_rfl
          simp (maxSteps := 1000000) (implicitDefEqProofs := false) (disch := first | rfl | omega | assumption) only [go_sem, ↓reduceIte, Nat.reduceEqDiff, Nat.reduceAdd, Nat.reduceLeDiff, Nat.reduceBEq, Nat.reduceMul, Nat.reduceLT, Int.reduceLT, Int.reduceLE, Int.reduceToNat, Int.reduceNeg, Int.reduceEq, Int.reduceMul, reduceCtorEq, Int.reduceBEq, Int.reduceBNe, Int.reduceAdd, Int.reduceSub, ltT, ltF, leT, leF, s1, hV, hm', hE, hC]
          done
        · simp only [hc, Bool.false_eq_true, if_false] at hC ⊢
          refine (callFL_eq fn45 rfl (by simp [Tryd.f45])).trans ?_
          simp (maxSteps := 1000000) (implicitDefEqProofs := false) (disch := first | rfl | omega | assumption) only [go_sem, ↓reduceIte, Nat.reduceEqDiff, Nat.reduceAdd, Nat.reduceLeDiff, Nat.reduceBEq, Nat.reduceMul, Nat.reduceLT, Int.reduceLT, Int.reduceLE, Int.reduceToNat, Int.reduceNeg, Int.reduceEq, Int.reduceMul, reduceCtorEq, Int.reduceBEq, Int.reduceBNe, Int.reduceAdd, Int.reduceSub, ltT, ltF, leT, leF, s1, hV, hm']
          rw [chkK_of]; rotate_left; kernel_rfl
          simp (maxSteps := 1000000) (implicitDefEqProofs := false) (disch := first | rfl | omega | assumption) only [go_sem, ↓reduceIte, Nat.reduceEqDiff, Nat.reduceAdd, Nat.reduceLeDiff, Nat.reduceBEq, Nat.reduceMul, Nat.reduceLT, Int.reduceLT, Int.reduceLE, Int.reduceToNat, Int.reduceNeg, Int.reduceEq, Int.reduceMul, reduceCtorEq, Int.reduceBEq, Int.reduceBNe, Int.reduceAdd, Int.reduceSub, ltT, ltF, leT, leF, s1, hV, hm', hE, hC]
          done
    · have hm' : 10 < many := by omega
      simp only [hm, if_false]
      refine (callFL_eq fn45 rfl (by simp [Tryd.f45])).trans ?_
      simp (maxSteps := 1000000) (implicitDefEqProofs := false) (disch := first | rfl | omega | assumption) only [go_sem, ↓reduceIte, Nat.reduceEqDiff, Nat.reduceAdd, Nat.reduceLeDiff, Nat.reduceBEq, Nat.reduceMul, Nat.reduceLT, Int.reduceLT, Int.reduceLE, Int.reduceToNat, Int.reduceNeg, Int.reduceEq, Int.reduceMul, reduceCtorEq, Int.reduceBEq, Int.reduceBNe, Int.reduceAdd, Int.reduceSub, ltT, ltF, leT, leF, s1, hV, hm']
      done

end Go.Ab
/-
  The reference, walked: after.
-/
namespace Go.Ab
open Go.Proofs
set_option linter.unusedSimpArgs false
set_option linter.unusedVariables false
set_option maxRecDepth 100000

variable {H : Heap}

theorem runP_bd {w : Wea} (ho : w.Ok) (s : Nat) : ∀ (q i : Nat) {l : Int × Int} {K : Int}, i + q ≤ w.es.length → 1000 ≤ K → bd K l → bd (K + 60 * q) (w.runP s l i q)
  | 0, i, l, K, _, _, h => bd_mono (by omega) h
  | q + 1, i, l, K, hi, hK, h => by
    simp only [Wea.runP]
    split
    · exact bd_mono (by omega) (runP_bd ho s q (i + 1) (by omega) (by omega) (nxE_bd ho (ok_ev ho (by omega)) (s.testBit i) hK h))
    · exact bd_mono (by omega) h

/-- All has been gone through: what is told is what can be. -/
theorem hullTo_end {w : Wea} (ho : w.Ok) (hc : w.can = true) {m : Nat} (hm : m ≤ w.es.length) {x : Int} (hx : ∀ y, w.aT m y → y < x) {b : Bool} {p : Int × Int} (h : hullTo (w.aT m) x b p) : p = w.at w.rd w.L m := by
  have hs := atT ho hc hm
  have h1 : w.aT m (w.at w.rd w.L m).1 := (hs.2 _).2 ⟨Int.le_refl _, hs.1⟩
  have h2 : w.aT m (w.at w.rd w.L m).2 := (hs.2 _).2 ⟨hs.1, Int.le_refl _⟩
  cases b
  · simp only [hullTo, Bool.false_eq_true, if_false] at h
    exact absurd (hx _ h1) (h.2 _ h1)
  · simp only [hullTo, if_true] at h
    exact hull_uniq h ⟨⟨h1, hx _ h1⟩, ⟨h2, hx _ h2⟩, fun y hy => (hs.2 y).1 hy.1⟩

theorem after_loop {w : Wea} {ve : AV} (h : WeaAt H w ve) (ho : w.Ok) (hcan : w.can = true) (m : Nat) (hm : m ≤ w.es.length) (s : Int × Int) (hs : isSp (w.rT (inP w.L) 0 m) s) (hsb : bd 2000 s) :
    ∀ (q j : Nat), j + q = (s.2 - s.1 + 1).toNat → ∀ (out : Int × Int), ∀ (b : Bool), ∀ (G : Heap), hullTo (w.aT m) (s.1 + j) b out → ∀ E : Env, E.get 1 = I m → E.get 2 = .ptr H.length 0 → E.get 4 = .ptr (H.length + 1) 0 → E.get 5 = .ptr (H.length + 2) 0 → E.get 6 = .ptr (H.length + 3) 0 → E.get 7 = .bool b → E.get 8 = I (s.1 + j) →
    Option.map (finishC H.length) (execL cfg0 prog0 ⟨47, none, false, H.length⟩ (todoAt Tryd.f47 4) ⟨E, [], H ++ (.box (.agg [I w.llo, I w.lhi, I w.ulo, I w.uhi, ve]) :: .box (KV (0, 0)) :: .box (KV s) :: .box (KV out) :: G), none⟩) = some ⟨.ret (KV (w.at w.rd w.L m)), H, none⟩ := by
  intro q
  have h8 := ho.many
  have s1 := h.es.scal
  have s2 := h.es.len
  rw [List.length_map] at s2
  have t1 := h.es.ltn 4
  have t2 := h.es.lt0
  have hle := hs.1
  induction q with
  | zero =>
    intro j hj out b G hI E g1 g2 g4 g5 g6 g7 g8
    have hk' : ¬ (j : Int) < (((s.2 - s.1 + 1).toNat : Nat) : Int) := by omega
    have ej : s.1 + (j : Int) = s.2 + 1 := by omega
    rw [ej] at hI g8
    simp only [loopIt, todoPast, todoAt, todoOf, firstReg, ↓reduceIte, Option.some.injEq, Nat.reduceEqDiff, reduceCtorEq, Tryd.f47]
    rw [execL_inLoop]
    have hk2 : ¬ s.2 + 1 ≤ s.2 := by omega
    have he := hullTo_end ho hcan hm (fun y hy => by have := (hs.2 y).1 ((aT_iff hm y).1 hy).1; simp only [inP] at this; omega) hI
    subst he
    simp (maxSteps := 1000000) (implicitDefEqProofs := false) (disch := first | rfl | omega | assumption) only [go_sem, ↓reduceIte, Nat.reduceEqDiff, Nat.reduceAdd, Nat.reduceLeDiff, Nat.reduceBEq, Nat.reduceMul, Nat.reduceLT, Int.reduceLT, Int.reduceLE, Int.reduceToNat, Int.reduceNeg, Int.reduceEq, Int.reduceMul, reduceCtorEq, Int.reduceBEq, Int.reduceBNe, Int.reduceAdd, Int.reduceSub, g1, g2, g4, g5, g6, g7, g8, ltT, ltF, leT, leF, hk', s1, s2, t1, hk2]
    done
  | succ q ih =>
    intro j hj out b G hI E g1 g2 g4 g5 g6 g7 g8
    have hk' : (j : Int) < (((s.2 - s.1 + 1).toNat : Nat) : Int) := by omega
    have hk2 : j < (s.2 - s.1 + 1).toNat := by omega
    obtain ⟨x, hx⟩ : ∃ x, s.1 + (j : Int) = x := ⟨_, rfl⟩
    have hx2 : s.1 + ((j + 1 : Nat) : Int) = x + 1 := by omega
    have hxs : s.1 ≤ x ∧ x ≤ s.2 := by omega
    have hsb' := hsb
    simp only [bd] at hsb'
    rw [hx] at hI g8
    have hin : inP s x := hxs
    have hE := fun G : Heap => ref_every (h.app G) ho
    have hR := fun G : Heap => ref_run (h.app G) ho w.ev1 (ev1_lt ho) (l := (x, x)) (by simp only [bd]; omega) hm (Nat.le_refl _)
    have hT := tells_some (runT ho (l := (x, x)) (i := m) (q := w.es.length - m) (Int.le_refl _) (by omega)) (by omega)
    have hA : w.aT m x ↔ (w.runP w.ev1 (x, x) m (w.es.length - m)).1 ≤ (w.runP w.ev1 (x, x) m (w.es.length - m)).2 := by
      rw [hT, aT_iff hm]
      exact ⟨fun h => h.2, fun h => ⟨(hs.2 x).2 hin, h⟩⟩
    simp only [Wea.av] at hE hR
    generalize w.runP w.ev1 (x, x) m (w.es.length - m) = X at hR hA
    by_cases hc : X.1 ≤ X.2
    · have hc' : ¬ X.2 < X.1 := by omega
      have hst := hullTo_step hI (hA.2 hc)
      cases b
      · skip
        simp only [loopIt, todoPast, todoAt, todoOf, firstReg, ↓reduceIte, Option.some.injEq, Nat.reduceEqDiff, reduceCtorEq, Tryd.f47]
        rw [execL_inLoop]
        simp (maxSteps := 1000000) (implicitDefEqProofs := false) (disch := first | rfl | omega | assumption) only [go_sem, ↓reduceIte, Nat.reduceEqDiff, Nat.reduceAdd, Nat.reduceLeDiff, Nat.reduceBEq, Nat.reduceMul, Nat.reduceLT, Int.reduceLT, Int.reduceLE, Int.reduceToNat, Int.reduceNeg, Int.reduceEq, Int.reduceMul, reduceCtorEq, Int.reduceBEq, Int.reduceBNe, Int.reduceAdd, Int.reduceSub, g1, g2, g4, g5, g6, g7, g8, ltT, ltF, leT, leF, hk', s1, s2, t1, hE, hR, hc, hc', hxs.2]
        rw [chkK_of]; rotate_left; kernel_rfl
        simp (maxSteps := 1000000) (implicitDefEqProofs := false) (disch := first | rfl | omega | assumption) only [go_sem, ↓reduceIte, Nat.reduceEqDiff, Nat.reduceAdd, Nat.reduceLeDiff, Nat.reduceBEq, Nat.reduceMul, Nat.reduceLT, Int.reduceLT, Int.reduceLE, Int.reduceToNat, Int.reduceNeg, Int.reduceEq, Int.reduceMul, reduceCtorEq, Int.reduceBEq, Int.reduceBNe, Int.reduceAdd, Int.reduceSub, g1, g2, g4, g5, g6, g7, g8, ltT, ltF, leT, leF, hk', s1, s2, t1, hE, hR, hc, hc', hxs.2]
        exact ih (j + 1) (by omega) (x, x) true [.box (KV X)] (by rw [hx2]; exact hst) _ (by rfl) (by rfl) (by rfl) (by rfl) (by rfl) (by rfl) (by rw [hx2]; rfl)
      · skip
        simp only [loopIt, todoPast, todoAt, todoOf, firstReg, ↓reduceIte, Option.some.injEq, Nat.reduceEqDiff, reduceCtorEq, Tryd.f47]
        rw [execL_inLoop]
        simp (maxSteps := 1000000) (implicitDefEqProofs := false) (disch := first | rfl | omega | assumption) only [go_sem, ↓reduceIte, Nat.reduceEqDiff, Nat.reduceAdd, Nat.reduceLeDiff, Nat.reduceBEq, Nat.reduceMul, Nat.reduceLT, Int.reduceLT, Int.reduceLE, Int.reduceToNat, Int.reduceNeg, Int.reduceEq, Int.reduceMul, reduceCtorEq, Int.reduceBEq, Int.reduceBNe, Int.reduceAdd, Int.reduceSub, g1, g2, g4, g5, g6, g7, g8, ltT, ltF, leT, leF, hk', s1, s2, t1, hE, hR, hc, hc', hxs.2]
        rw [chkK_of]; rotate_left; kernel_rfl
        simp (maxSteps := 1000000) (implicitDefEqProofs := false) (disch := first | rfl | omega | assumption) only [go_sem, ↓reduceIte, Nat.reduceEqDiff, Nat.reduceAdd, Nat.reduceLeDiff, Nat.reduceBEq, Nat.reduceMul, Nat.reduceLT, Int.reduceLT, Int.reduceLE, Int.reduceToNat, Int.reduceNeg, Int.reduceEq, Int.reduceMul, reduceCtorEq, Int.reduceBEq, Int.reduceBNe, Int.reduceAdd, Int.reduceSub, g1, g2, g4, g5, g6, g7, g8, ltT, ltF, leT, leF, hk', s1, s2, t1, hE, hR, hc, hc', hxs.2]
        exact ih (j + 1) (by omega) (out.1, x) true [.box (KV X)] (by rw [hx2]; exact hst) _ (by rfl) (by rfl) (by rfl) (by rfl) (by rfl) (by rfl) (by rw [hx2]; rfl)
    · have hc' : X.2 < X.1 := by omega
      have hst := hullTo_skip hI (fun h => hc (hA.1 h))
      simp only [loopIt, todoPast, todoAt, todoOf, firstReg, ↓reduceIte, Option.some.injEq, Nat.reduceEqDiff, reduceCtorEq, Tryd.f47]
      rw [execL_inLoop]
      simp (maxSteps := 1000000) (implicitDefEqProofs := false) (disch := first | rfl | omega | assumption) only [go_sem, ↓reduceIte, Nat.reduceEqDiff, Nat.reduceAdd, Nat.reduceLeDiff, Nat.reduceBEq, Nat.reduceMul, Nat.reduceLT, Int.reduceLT, Int.reduceLE, Int.reduceToNat, Int.reduceNeg, Int.reduceEq, Int.reduceMul, reduceCtorEq, Int.reduceBEq, Int.reduceBNe, Int.reduceAdd, Int.reduceSub, g1, g2, g4, g5, g6, g7, g8, ltT, ltF, leT, leF, hk', s1, s2, t1, hE, hR, hc, hc', hxs.2]
      rw [chkK_of]; rotate_left; kernel_rfl
      simp (maxSteps := 1000000) (implicitDefEqProofs := false) (disch := first | rfl | omega | assumption) only [go_sem, ↓reduceIte, Nat.reduceEqDiff, Nat.reduceAdd, Nat.reduceLeDiff, Nat.reduceBEq, Nat.reduceMul, Nat.reduceLT, Int.reduceLT, Int.reduceLE, Int.reduceToNat, Int.reduceNeg, Int.reduceEq, Int.reduceMul, reduceCtorEq, Int.reduceBEq, Int.reduceBNe, Int.reduceAdd, Int.reduceSub, g1, g2, g4, g5, g6, g7, g8, ltT, ltF, leT, leF, hk', s1, s2, t1, hE, hR, hc, hc', hxs.2]
      exact ih (j + 1) (by omega) out b [.box (KV X)] (by rw [hx2]; exact hst) _ (by rfl) (by rfl) (by rfl) (by rfl) (by rfl) (by rfl) (by rw [hx2]; rfl)

end Go.Ab
/-
  The reference, walked: its answers on lengths.
-/
namespace Go.Ab
open Go.Proofs
set_option linter.unusedSimpArgs false
set_option linter.unusedVariables false
set_option maxRecDepth 100000

variable {H : Heap}

theorem ref_after {w : Wea} {ve : AV} (h : WeaAt H w ve) (ho : w.Ok) (hcan : w.can = true) {m : Nat} (hm : m ≤ w.es.length) :
    callFL cfg0 prog0 false 47 [w.av ve, I m] H none = some ⟨.ret (KV (w.at w.rd w.L m)), H, none⟩ := by
  have s1 := h.es.scal
  have h8 := ho.many
  have hE := fun G : Heap => ref_every (h.app G) ho
  have hR := fun G : Heap => ref_run (h.app G) ho w.ev1 (ev1_lt ho) (L_bd5 ho) (Nat.zero_le m) hm
  have hlen := ho.len
  have hb := runP_bd ho w.ev1 m 0 (by omega) (Int.le_refl _) (show bd 1000 w.L by simp only [bd, Wea.L]; omega)
  have hT := runT ho (i := 0) (q := m) (L_ok ho) (by omega)
  have hs : isSp (w.rT (inP w.L) 0 m) (w.runP w.ev1 w.L 0 m) := by
    obtain ⟨l, h1⟩ := (canT ho).1 hcan
    exact tells_sp hT ⟨l m, l, h1.1, fun j _ hj => h1.2 j (by omega), by rw [Nat.zero_add]⟩
  simp only [Wea.av, Nat.sub_zero, Int.natCast_zero, Wea.L] at hE hR ⊢
  change isSp _ (w.runP w.ev1 (w.llo, w.lhi) 0 m) at hs
  change bd _ (w.runP w.ev1 (w.llo, w.lhi) 0 m) at hb
  have hlp := fun s hs hb => after_loop h ho hcan m hm s hs hb (s.2 - s.1 + 1).toNat 0 (by omega)
  generalize w.runP w.ev1 (w.llo, w.lhi) 0 m = s at hR hs hb
  have hsl := hs.1
  have e0 : s.1 + ((0 : Nat) : Int) = s.1 := by omega
  refine (callFL_eq fn47 rfl (by simp [Tryd.f47])).trans ?_
  simp (maxSteps := 1000000) (implicitDefEqProofs := false) (disch := first | rfl | omega | assumption) only [go_sem, ↓reduceIte, Nat.reduceEqDiff, Nat.reduceAdd, Nat.reduceLeDiff, Nat.reduceBEq, Nat.reduceMul, Nat.reduceLT, Int.reduceLT, Int.reduceLE, Int.reduceToNat, Int.reduceNeg, Int.reduceEq, Int.reduceMul, reduceCtorEq, Int.reduceBEq, Int.reduceBNe, Int.reduceAdd, Int.reduceSub, ltT, ltF, leT, leF, s1]
  rw [chkK_of]; rotate_left; kernel_rfl
  simp (maxSteps := 1000000) (implicitDefEqProofs := false) (disch := first | rfl | omega | assumption) only [go_sem, ↓reduceIte, Nat.reduceEqDiff, Nat.reduceAdd, Nat.reduceLeDiff, Nat.reduceBEq, Nat.reduceMul, Nat.reduceLT, Int.reduceLT, Int.reduceLE, Int.reduceToNat, Int.reduceNeg, Int.reduceEq, Int.reduceMul, reduceCtorEq, Int.reduceBEq, Int.reduceBNe, Int.reduceAdd, Int.reduceSub, ltT, ltF, leT, leF, s1, hE, hR]
  have hlp' := hlp s hs (bd_mono (by omega) hb) (0, 0) false []
  rw [e0] at hlp'
  refine hlp' ?_ _ (by rfl) (by rfl) (by rfl) (by rfl) (by rfl) (by rfl) (by rfl)
  simp only [hullTo, Bool.false_eq_true, if_false]
  refine ⟨trivial, fun y hy => ?_⟩
  have := (hs.2 y).1 ((aT_iff hm y).1 hy).1
  simp only [inP] at this
  omega

theorem ref_Event {w : Wea} {ve : AV} (h : WeaAt H w ve) (hl : w.es.length ≤ 1000) (n : Int) : callFL cfg0 prog0 false 46 [w.av ve, I n] H none = some ⟨.ret (.bool (wi n 0 (w.es.length - 1))), H, none⟩ := by
  have s1 := h.es.scal
  have s2 := h.es.len
  rw [List.length_map] at s2
  have hI := fun (n lo hi : Int) (G : Heap) => ref_in n lo hi G
  simp only [Wea.av]
  refine (callFL_eq fn46 rfl (by simp [Tryd.f46])).trans ?_
  simp (maxSteps := 1000000) (implicitDefEqProofs := false) (disch := first | rfl | omega | assumption) only [go_sem, ↓reduceIte, Nat.reduceEqDiff, Nat.reduceAdd, Nat.reduceLeDiff, Nat.reduceBEq, Nat.reduceMul, Nat.reduceLT, Int.reduceLT, Int.reduceLE, Int.reduceToNat, Int.reduceNeg, Int.reduceEq, Int.reduceMul, reduceCtorEq, Int.reduceBEq, Int.reduceBNe, Int.reduceAdd, Int.reduceSub, ltT, ltF, leT, leF, s1, s2, hI]

theorem gate_ok {w : Wea} {d : Int} {b : Bool} (h : w.gate d b = 0) : w.valid = true ∧ d ≤ 10 ∧ b = true ∧ w.can = true := by
  simp only [Wea.gate] at h
  cases hv : w.valid <;> simp [hv] at h
  by_cases hd : d ≤ 10 <;> simp [hd] at h
  cases b <;> simp at h
  cases hc : w.can <;> simp [hc] at h
  exact ⟨rfl, hd, rfl, rfl⟩

theorem ref_After {w : Wea} {ve : AV} (h : WeaAt H w ve) (hl : w.es.length ≤ 1000) (n : Int) :
    callFL cfg0 prog0 false 15 [w.av ve, I n] H none = some ⟨.ret (.tup [KV (w.afterP n), I (w.gate 0 (wi n 0 (w.es.length - 1)))]), H, none⟩ := by
  have s1 := h.es.scal
  have hE := fun G : Heap => ref_Event (h.app G) hl n
  have hC := fun (G : Heap) => ref_check (h.app G) 0 (wi n 0 (w.es.length - 1))
  simp only [Wea.av, Wea.afterP] at hE hC ⊢
  by_cases hg : w.gate 0 (wi n 0 (w.es.length - 1)) = 0
  · obtain ⟨hv, -, hi, hc⟩ := gate_ok hg
    have ho := w.valid_iff.1 hv
    have hi' := wi_iff.1 hi
    have hA := fun G : Heap => ref_after (h.app G) ho hc (m := n.toNat + 1) (by omega)
    have e1 : ((n.toNat + 1 : Nat) : Int) = n + 1 := by omega
    rw [e1] at hA
    simp only [Wea.av] at hA
    simp only [hg, if_true] at hC ⊢
    refine (callFL_eq fn15 rfl (by simp [Tryd.f15])).trans ?_
    simp (maxSteps := 1000000) (implicitDefEqProofs := false) (disch := first | rfl | omega | assumption) only [go_sem, ↓reduceIte, Nat.reduceEqDiff, Nat.reduceAdd, Nat.reduceLeDiff, Nat.reduceBEq, Nat.reduceMul, Nat.reduceLT, Int.reduceLT, Int.reduceLE, Int.reduceToNat, Int.reduceNeg, Int.reduceEq, Int.reduceMul, reduceCtorEq, Int.reduceBEq, Int.reduceBNe, Int.reduceAdd, Int.reduceSub, ltT, ltF, leT, leF, s1]
    rw [chkK_of]; rotate_left; kernel_rfl
    simp (maxSteps := 1000000) (implicitDefEqProofs := false) (disch := first | rfl | omega | assumption) only [go_sem, ↓reduceIte, Nat.reduceEqDiff, Nat.reduceAdd, Nat.reduceLeDiff, Nat.reduceBEq, Nat.reduceMul, Nat.reduceLT, Int.reduceLT, Int.reduceLE, Int.reduceToNat, Int.reduceNeg, Int.reduceEq, Int.reduceMul, reduceCtorEq, Int.reduceBEq, Int.reduceBNe, Int.reduceAdd, Int.reduceSub, ltT, ltF, leT, leF, s1, hE, hC, hA]
    done
  · have hg' : ((w.gate 0 (wi n 0 (w.es.length - 1))) != 0) = true := bne_iff_ne.2 hg
    simp only [hg, if_false]
    refine (callFL_eq fn15 rfl (by simp [Tryd.f15])).trans ?_
    simp (maxSteps := 1000000) (implicitDefEqProofs := false) (disch := first | rfl | omega | assumption) only [go_sem, ↓reduceIte, Nat.reduceEqDiff, Nat.reduceAdd, Nat.reduceLeDiff, Nat.reduceBEq, Nat.reduceMul, Nat.reduceLT, Int.reduceLT, Int.reduceLE, Int.reduceToNat, Int.reduceNeg, Int.reduceEq, Int.reduceMul, reduceCtorEq, Int.reduceBEq, Int.reduceBNe, Int.reduceAdd, Int.reduceSub, ltT, ltF, leT, leF, s1]
    rw [chkK_of]; rotate_left; kernel_rfl
    simp (maxSteps := 1000000) (implicitDefEqProofs := false) (disch := first | rfl | omega | assumption) only [go_sem, ↓reduceIte, Nat.reduceEqDiff, Nat.reduceAdd, Nat.reduceLeDiff, Nat.reduceBEq, Nat.reduceMul, Nat.reduceLT, Int.reduceLT, Int.reduceLE, Int.reduceToNat, Int.reduceNeg, Int.reduceEq, Int.reduceMul, reduceCtorEq, Int.reduceBEq, Int.reduceBNe, Int.reduceAdd, Int.reduceSub, ltT, ltF, leT, leF, s1, hE, hC, hg']
    done

theorem ref_Fits {w : Wea} {ve : AV} (h : WeaAt H w ve) (hl : w.es.length ≤ 1000) (p : Int × Int) :
    callFL cfg0 prog0 false 21 [w.av ve, KV p] H none = some ⟨.ret (.tup [I (w.fitsP p), I (w.gate 0 (spB p (-1000) 1000))]), H, none⟩ := by
  have s1 := h.es.scal
  have s2 := h.es.len
  rw [List.length_map] at s2
  have hE := fun G : Heap => ref_Shows p.1 p.2 G
  have hC := fun (G : Heap) => ref_check (h.app G) 0 (spB p (-1000) 1000)
  simp only [Wea.av, Wea.fitsP] at hE hC ⊢
  by_cases hg : w.gate 0 (spB p (-1000) 1000) = 0
  · obtain ⟨hv, -, hi, hc⟩ := gate_ok hg
    have ho := w.valid_iff.1 hv
    have hi' := spB_iff.1 hi
    have hA := fun G : Heap => ref_after (h.app G) ho hc (Nat.le_refl w.es.length)
    have hab := at_bd ho (Nat.le_refl w.es.length)
    have hle := at_le ho hc (Nat.le_refl w.es.length)
    simp only [Wea.av] at hA
    simp only [hg, if_true, Wea.lastP, bothP_eq] at hC ⊢
    generalize w.at w.rd w.L w.es.length = q at *
    obtain ⟨a, b⟩ := q
    obtain ⟨c, d⟩ := p
    simp only [bd] at *
    by_cases h1 : c ≤ a ∧ b ≤ d
    · have r1 : (if (if max a c ≤ min b d then (max a c, min b d) else (1048576, -1048576)) = (a, b) then (2 : Int) else if (if max a c ≤ min b d then (max a c, min b d) else (1048576, -1048576)).1 ≤ (if max a c ≤ min b d then (max a c, min b d) else (1048576, -1048576)).2 then 1 else 0) = 2 := by
        rw [if_pos]
        rw [if_pos (by omega), Prod.mk.injEq]
        omega
      rw [r1]
      refine (callFL_eq fn21 rfl (by simp [Tryd.f21])).trans ?_
      simp (maxSteps := 1000000) (implicitDefEqProofs := false) (disch := first | rfl | omega | assumption) only [go_sem, ↓reduceIte, Nat.reduceEqDiff, Nat.reduceAdd, Nat.reduceLeDiff, Nat.reduceBEq, Nat.reduceMul, Nat.reduceLT, Int.reduceLT, Int.reduceLE, Int.reduceToNat, Int.reduceNeg, Int.reduceEq, Int.reduceMul, reduceCtorEq, Int.reduceBEq, Int.reduceBNe, Int.reduceAdd, Int.reduceSub, ltT, ltF, leT, leF, s1, s2]
      rw [chkK_of]; rotate_left; kernel_rfl
      simp (maxSteps := 1000000) (implicitDefEqProofs := false) (disch := first | rfl | omega | assumption) only [go_sem, ↓reduceIte, Nat.reduceEqDiff, Nat.reduceAdd, Nat.reduceLeDiff, Nat.reduceBEq, Nat.reduceMul, Nat.reduceLT, Int.reduceLT, Int.reduceLE, Int.reduceToNat, Int.reduceNeg, Int.reduceEq, Int.reduceMul, reduceCtorEq, Int.reduceBEq, Int.reduceBNe, Int.reduceAdd, Int.reduceSub, ltT, ltF, leT, leF, s1, s2, hE, hC, hA, h1.1, h1.2]
      done
    · have hne : ¬ (max a c = a ∧ min b d = b) := by omega
      by_cases h2 : b < c ∨ d < a
      · have r1 : (if (if max a c ≤ min b d then (max a c, min b d) else (1048576, -1048576)) = (a, b) then (2 : Int) else if (if max a c ≤ min b d then (max a c, min b d) else (1048576, -1048576)).1 ≤ (if max a c ≤ min b d then (max a c, min b d) else (1048576, -1048576)).2 then 1 else 0) = 0 := by
          rw [if_neg (show ¬ max a c ≤ min b d by omega), if_neg, if_neg (by simp)]
          rw [Prod.mk.injEq]
          omega
        rw [r1]
        by_cases h3 : c ≤ a
        · have h4 : ¬ b ≤ d := by omega
          have h5 : ¬ b < c := by omega
          have h6 : d < a := by omega
          refine (callFL_eq fn21 rfl (by simp [Tryd.f21])).trans ?_
          simp (maxSteps := 1000000) (implicitDefEqProofs := false) (disch := first | rfl | omega | assumption) only [go_sem, ↓reduceIte, Nat.reduceEqDiff, Nat.reduceAdd, Nat.reduceLeDiff, Nat.reduceBEq, Nat.reduceMul, Nat.reduceLT, Int.reduceLT, Int.reduceLE, Int.reduceToNat, Int.reduceNeg, Int.reduceEq, Int.reduceMul, reduceCtorEq, Int.reduceBEq, Int.reduceBNe, Int.reduceAdd, Int.reduceSub, ltT, ltF, leT, leF, s1, s2]
          rw [chkK_of]; rotate_left; kernel_rfl
          simp (maxSteps := 1000000) (implicitDefEqProofs := false) (disch := first | rfl | omega | assumption) only [go_sem, ↓reduceIte, Nat.reduceEqDiff, Nat.reduceAdd, Nat.reduceLeDiff, Nat.reduceBEq, Nat.reduceMul, Nat.reduceLT, Int.reduceLT, Int.reduceLE, Int.reduceToNat, Int.reduceNeg, Int.reduceEq, Int.reduceMul, reduceCtorEq, Int.reduceBEq, Int.reduceBNe, Int.reduceAdd, Int.reduceSub, ltT, ltF, leT, leF, s1, s2, hE, hC, hA, h3, h4, h5, h6]
          done
        · by_cases h5 : b < c
          · refine (callFL_eq fn21 rfl (by simp [Tryd.f21])).trans ?_
            simp (maxSteps := 1000000) (implicitDefEqProofs := false) (disch := first | rfl | omega | assumption) only [go_sem, ↓reduceIte, Nat.reduceEqDiff, Nat.reduceAdd, Nat.reduceLeDiff, Nat.reduceBEq, Nat.reduceMul, Nat.reduceLT, Int.reduceLT, Int.reduceLE, Int.reduceToNat, Int.reduceNeg, Int.reduceEq, Int.reduceMul, reduceCtorEq, Int.reduceBEq, Int.reduceBNe, Int.reduceAdd, Int.reduceSub, ltT, ltF, leT, leF, s1, s2]
            rw [chkK_of]; rotate_left; kernel_rfl
            simp (maxSteps := 1000000) (implicitDefEqProofs := false) (disch := first | rfl | omega | assumption) only [go_sem, ↓reduceIte, Nat.reduceEqDiff, Nat.reduceAdd, Nat.reduceLeDiff, Nat.reduceBEq, Nat.reduceMul, Nat.reduceLT, Int.reduceLT, Int.reduceLE, Int.reduceToNat, Int.reduceNeg, Int.reduceEq, Int.reduceMul, reduceCtorEq, Int.reduceBEq, Int.reduceBNe, Int.reduceAdd, Int.reduceSub, ltT, ltF, leT, leF, s1, s2, hE, hC, hA, h3, h5]
            done
          · have h6 : d < a := by omega
            refine (callFL_eq fn21 rfl (by simp [Tryd.f21])).trans ?_
            simp (maxSteps := 1000000) (implicitDefEqProofs := false) (disch := first | rfl | omega | assumption) only [go_sem, ↓reduceIte, Nat.reduceEqDiff, Nat.reduceAdd, Nat.reduceLeDiff, Nat.reduceBEq, Nat.reduceMul, Nat.reduceLT, Int.reduceLT, Int.reduceLE, Int.reduceToNat, Int.reduceNeg, Int.reduceEq, Int.reduceMul, reduceCtorEq, Int.reduceBEq, Int.reduceBNe, Int.reduceAdd, Int.reduceSub, ltT, ltF, leT, leF, s1, s2]
            rw [chkK_of]; rotate_left; kernel_rfl
            simp (maxSteps := 1000000) (implicitDefEqProofs := false) (disch := first | rfl | omega | assumption) only [go_sem, ↓reduceIte, Nat.reduceEqDiff, Nat.reduceAdd, Nat.reduceLeDiff, Nat.reduceBEq, Nat.reduceMul, Nat.reduceLT, Int.reduceLT, Int.reduceLE, Int.reduceToNat, Int.reduceNeg, Int.reduceEq, Int.reduceMul, reduceCtorEq, Int.reduceBEq, Int.reduceBNe, Int.reduceAdd, Int.reduceSub, ltT, ltF, leT, leF, s1, s2, hE, hC, hA, h3, h5, h6]
            done
      · have r1 : (if (if max a c ≤ min b d then (max a c, min b d) else (1048576, -1048576)) = (a, b) then (2 : Int) else if (if max a c ≤ min b d then (max a c, min b d) else (1048576, -1048576)).1 ≤ (if max a c ≤ min b d then (max a c, min b d) else (1048576, -1048576)).2 then 1 else 0) = 1 := by
          have hm : max a c ≤ min b d := by omega
          simp only [hm, if_true, Prod.mk.injEq, hne, if_false]
        rw [r1]
        have h5 : ¬ b < c := by omega
        have h6 : ¬ d < a := by omega
        by_cases h3 : c ≤ a
        · have h4 : ¬ b ≤ d := by omega
          refine (callFL_eq fn21 rfl (by simp [Tryd.f21])).trans ?_
          simp (maxSteps := 1000000) (implicitDefEqProofs := false) (disch := first | rfl | omega | assumption) only [go_sem, ↓reduceIte, Nat.reduceEqDiff, Nat.reduceAdd, Nat.reduceLeDiff, Nat.reduceBEq, Nat.reduceMul, Nat.reduceLT, Int.reduceLT, Int.reduceLE, Int.reduceToNat, Int.reduceNeg, Int.reduceEq, Int.reduceMul, reduceCtorEq, Int.reduceBEq, Int.reduceBNe, Int.reduceAdd, Int.reduceSub, ltT, ltF, leT, leF, s1, s2]
          rw [chkK_of]; rotate_left; kernel_rfl
          simp (maxSteps := 1000000) (implicitDefEqProofs := false) (disch := first | rfl | omega | assumption) only [go_sem, ↓reduceIte, Nat.reduceEqDiff, Nat.reduceAdd, Nat.reduceLeDiff, Nat.reduceBEq, Nat.reduceMul, Nat.reduceLT, Int.reduceLT, Int.reduceLE, Int.reduceToNat, Int.reduceNeg, Int.reduceEq, Int.reduceMul, reduceCtorEq, Int.reduceBEq, Int.reduceBNe, Int.reduceAdd, Int.reduceSub, ltT, ltF, leT, leF, s1, s2, hE, hC, hA, h3, h4, h5, h6]
          done
        · refine (callFL_eq fn21 rfl (by simp [Tryd.f21])).trans ?_
          simp (maxSteps := 1000000) (implicitDefEqProofs := false) (disch := first | rfl | omega | assumption) only [go_sem, ↓reduceIte, Nat.reduceEqDiff, Nat.reduceAdd, Nat.reduceLeDiff, Nat.reduceBEq, Nat.reduceMul, Nat.reduceLT, Int.reduceLT, Int.reduceLE, Int.reduceToNat, Int.reduceNeg, Int.reduceEq, Int.reduceMul, reduceCtorEq, Int.reduceBEq, Int.reduceBNe, Int.reduceAdd, Int.reduceSub, ltT, ltF, leT, leF, s1, s2]
          rw [chkK_of]; rotate_left; kernel_rfl
          simp (maxSteps := 1000000) (implicitDefEqProofs := false) (disch := first | rfl | omega | assumption) only [go_sem, ↓reduceIte, Nat.reduceEqDiff, Nat.reduceAdd, Nat.reduceLeDiff, Nat.reduceBEq, Nat.reduceMul, Nat.reduceLT, Int.reduceLT, Int.reduceLE, Int.reduceToNat, Int.reduceNeg, Int.reduceEq, Int.reduceMul, reduceCtorEq, Int.reduceBEq, Int.reduceBNe, Int.reduceAdd, Int.reduceSub, ltT, ltF, leT, leF, s1, s2, hE, hC, hA, h3, h5, h6]
          done
  · have hg' : ((w.gate 0 (spB p (-1000) 1000)) != 0) = true := bne_iff_ne.2 hg
    simp only [hg, if_false]
    refine (callFL_eq fn21 rfl (by simp [Tryd.f21])).trans ?_
    simp (maxSteps := 1000000) (implicitDefEqProofs := false) (disch := first | rfl | omega | assumption) only [go_sem, ↓reduceIte, Nat.reduceEqDiff, Nat.reduceAdd, Nat.reduceLeDiff, Nat.reduceBEq, Nat.reduceMul, Nat.reduceLT, Int.reduceLT, Int.reduceLE, Int.reduceToNat, Int.reduceNeg, Int.reduceEq, Int.reduceMul, reduceCtorEq, Int.reduceBEq, Int.reduceBNe, Int.reduceAdd, Int.reduceSub, ltT, ltF, leT, leF, s1]
    rw [chkK_of]; rotate_left; kernel_rfl
    simp (maxSteps := 1000000) (implicitDefEqProofs := false) (disch := first | rfl | omega | assumption) only [go_sem, ↓reduceIte, Nat.reduceEqDiff, Nat.reduceAdd, Nat.reduceLeDiff, Nat.reduceBEq, Nat.reduceMul, Nat.reduceLT, Int.reduceLT, Int.reduceLE, Int.reduceToNat, Int.reduceNeg, Int.reduceEq, Int.reduceMul, reduceCtorEq, Int.reduceBEq, Int.reduceBNe, Int.reduceAdd, Int.reduceSub, ltT, ltF, leT, leF, s1, hE, hC, hg']
    done

end Go.Ab
