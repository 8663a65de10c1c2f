/-
  Lengths that can be: truths, and what is told of them.
-/
import Derived.Test.YtlnfcahmdnnabaaDoorKK2
import Derived.Test.YtlnfcahmdnnabaaDoorKK3
namespace Go.Ab
open Go.Proofs
set_option linter.unusedSimpArgs false
set_option linter.unusedVariables false
set_option maxRecDepth 100000

variable {H : Heap}

/-- From one length to another one. -/
def EvZ.go (e : EvZ) (x y : Int) : Prop := match e with
  | .takes lo hi => x - hi ≤ y ∧ y ≤ x - lo
  | .read lo hi => lo ≤ x ∧ x ≤ hi ∧ y = x
  | .nothing => y = x

def inP (p : Int × Int) (x : Int) : Prop := p.1 ≤ x ∧ x ≤ p.2

/-- A truth: lengths, at first and after each event. -/
structure Wea.Tr (w : Wea) (r : Nat) (q : Int × Int) (l : Nat → Int) : Prop where
  first : inP q (l 0)
  step : ∀ i, i < w.es.length → (w.evz r i).go (l i) (l (i + 1))

/-- A set is a span that is not empty. -/
def isSp (S : Int → Prop) (p : Int × Int) : Prop := p.1 ≤ p.2 ∧ ∀ x, S x ↔ inP p x

theorem isSp_uniq {S : Int → Prop} {p q : Int × Int} (h : isSp S p) (g : isSp S q) : p = q := by
  have h1 := (g.2 p.1).1 ((h.2 _).2 ⟨Int.le_refl _, h.1⟩)
  have h2 := (g.2 p.2).1 ((h.2 _).2 ⟨h.1, Int.le_refl _⟩)
  have h3 := (h.2 q.1).1 ((g.2 _).2 ⟨Int.le_refl _, g.1⟩)
  have h4 := (h.2 q.2).1 ((g.2 _).2 ⟨g.1, Int.le_refl _⟩)
  have := h.1
  have := g.1
  simp only [inP] at h1 h2 h3 h4
  ext <;> omega

/-- A pair of numbers tells a set: its ends, or that it is empty, by far. -/
def tells (S : Int → Prop) (far : Int) (p : Int × Int) : Prop := isSp S p ∨ (∀ x, ¬ S x) ∧ far < p.1 - p.2

theorem tells_some {S : Int → Prop} {far : Int} {p : Int × Int} (h : tells S far p) (hf : 0 ≤ far) : p.1 ≤ p.2 ↔ ∃ x, S x := by
  rcases h with h | ⟨h1, h2⟩
  · exact ⟨fun _ => ⟨p.1, (h.2 _).2 ⟨Int.le_refl _, h.1⟩⟩, fun _ => h.1⟩
  · exact ⟨fun _ => by omega, fun ⟨x, hx⟩ => absurd hx (h1 x)⟩

theorem tells_sp {S : Int → Prop} {far : Int} {p : Int × Int} (h : tells S far p) (hs : ∃ x, S x) : isSp S p := by
  rcases h with h | ⟨h1, h2⟩
  · exact h
  · obtain ⟨x, hx⟩ := hs
    exact absurd hx (h1 x)

theorem tells_cong {S T : Int → Prop} {f : Int} {p : Int × Int} (h : ∀ x, S x ↔ T x) (k : tells S f p) : tells T f p := by
  have : S = T := funext fun x => propext (h x)
  exact this ▸ k

theorem tells_less {S : Int → Prop} {f g : Int} {p : Int × Int} (k : tells S f p) (h : g ≤ f) : tells S g p := by
  rcases k with k | ⟨k1, k2⟩
  · exact .inl k
  · exact .inr ⟨k1, by omega⟩

theorem bothP_eq (p q : Int × Int) : bothP p q = if max p.1 q.1 ≤ min p.2 q.2 then (max p.1 q.1, min p.2 q.2) else (1048576, -1048576) := by
  have h1 : mx p.1 q.1 = max p.1 q.1 := by simp only [mx]; split <;> omega
  have h2 : mn p.2 q.2 = min p.2 q.2 := by simp only [mn]; split <;> omega
  simp only [bothP, h1, h2]

theorem bothP_tells {S T : Int → Prop} {f g : Int} {p q : Int × Int} (h : tells S f p) (k : tells T g q) (hf : 0 ≤ f) (hg : 0 ≤ g) : tells (fun x => S x ∧ T x) 2000000 (bothP p q) := by
  rw [bothP_eq]
  rcases h with h | ⟨h1, h2⟩
  · rcases k with k | ⟨k1, k2⟩
    · split
      · rename_i hc
        refine .inl ⟨hc, fun x => ?_⟩
        simp only [h.2, k.2, inP]
        omega
      · rename_i hc
        refine .inr ⟨fun x hx => ?_, by simp⟩
        simp only [h.2, k.2, inP] at hx
        omega
    · rw [if_neg (by omega)]
      exact .inr ⟨fun x hx => k1 x hx.2, by simp⟩
  · rw [if_neg (by omega)]
    exact .inr ⟨fun x hx => h1 x hx.1, by simp⟩

/-- An event as they are of valid blocks. -/
def EvZ.fine (e : EvZ) : Prop := match e with
  | .takes lo hi => 0 ≤ lo ∧ lo ≤ hi ∧ hi ≤ 60
  | .read lo hi => lo ≤ hi
  | .nothing => True

theorem aft_tells {S : Int → Prop} {f : Int} {p : Int × Int} {e : EvZ} (he : e.fine) (h : tells S f p) (hf : 60 ≤ f) (hf2 : f ≤ 2000000) : tells (fun y => ∃ x, S x ∧ e.go x y) (f - 60) (e.aft p) := by
  cases e with
  | takes lo hi =>
    obtain ⟨h1, h2, h3⟩ := he
    rcases h with h | ⟨k1, k2⟩
    · refine .inl ⟨by have := h.1; show p.1 - hi ≤ p.2 - lo; omega, fun y => ?_⟩
      simp only [h.2, EvZ.go, EvZ.aft, inP]
      have := h.1
      refine ⟨fun ⟨x, hx⟩ => by omega, fun hy => ⟨max p.1 (y + lo), by omega⟩⟩
    · exact .inr ⟨fun y ⟨x, hx, _⟩ => k1 x hx, by show f - 60 < p.1 - hi - (p.2 - lo); omega⟩
  | read lo hi =>
    have hr : tells (fun x => inP (lo, hi) x) 0 (lo, hi) := .inl ⟨he, fun _ => Iff.rfl⟩
    refine tells_less (tells_cong (fun y => ?_) (bothP_tells h hr (by omega) (by omega))) (by omega)
    simp only [EvZ.go, inP]
    refine ⟨fun ⟨a, b, c⟩ => ⟨y, a, b, c, rfl⟩, fun ⟨x, a, b, c, d⟩ => ?_⟩
    subst d
    exact ⟨a, b, c⟩
  | nothing =>
    refine tells_less (tells_cong (fun y => ?_) h) (by omega)
    simp only [EvZ.go]
    exact ⟨fun h => ⟨y, h, rfl⟩, fun ⟨x, h, e⟩ => e ▸ h⟩

theorem bef_tells {S : Int → Prop} {f : Int} {p : Int × Int} {e : EvZ} (he : e.fine) (h : tells S f p) (hf : 60 ≤ f) (hf2 : f ≤ 2000000) : tells (fun x => ∃ y, S y ∧ e.go x y) (f - 60) (e.bef p) := by
  cases e with
  | takes lo hi =>
    obtain ⟨h1, h2, h3⟩ := he
    rcases h with h | ⟨k1, k2⟩
    · refine .inl ⟨by have := h.1; show p.1 + lo ≤ p.2 + hi; omega, fun y => ?_⟩
      simp only [h.2, EvZ.go, EvZ.bef, inP]
      have := h.1
      refine ⟨fun ⟨x, hx⟩ => by omega, fun hy => ⟨max p.1 (y - hi), by omega⟩⟩
    · exact .inr ⟨fun y ⟨x, hx, _⟩ => k1 x hx, by show f - 60 < p.1 + lo - (p.2 + hi); omega⟩
  | read lo hi =>
    have hr : tells (fun x => inP (lo, hi) x) 0 (lo, hi) := .inl ⟨he, fun _ => Iff.rfl⟩
    refine tells_less (tells_cong (fun y => ?_) (bothP_tells h hr (by omega) (by omega))) (by omega)
    simp only [EvZ.go, inP]
    refine ⟨fun ⟨a, b, c⟩ => ⟨y, a, b, c, rfl⟩, fun ⟨x, a, b, c, d⟩ => ?_⟩
    subst d
    exact ⟨a, b, c⟩
  | nothing =>
    refine tells_less (tells_cong (fun y => ?_) h) (by omega)
    simp only [EvZ.go]
    exact ⟨fun h => ⟨y, h, rfl⟩, fun ⟨x, h, e⟩ => e ▸ h⟩

theorem evz_fine {w : Wea} (ho : w.Ok) (r : Nat) {i : Nat} (hi : i < w.es.length) : (w.evz r i).fine := by
  rcases Wea.evz_cases ho r hi with ⟨lo, hi', h, a, b, c⟩ | ⟨lo, hi', h, a, b, c⟩ | h <;> rw [h]
  · exact ⟨a, b, c⟩
  · exact b
  · trivial

/-- Up to an event. -/
def Wea.Pre (w : Wea) (r : Nat) (q : Int × Int) (i : Nat) (l : Nat → Int) : Prop := inP q (l 0) ∧ ∀ j, j < i → (w.evz r j).go (l j) (l (j + 1))

/-- The lengths that can be up to an event, and those that can be at all. -/
def Wea.fS (w : Wea) (r : Nat) (q : Int × Int) (i : Nat) (x : Int) : Prop := ∃ l, w.Pre r q i l ∧ l i = x
def Wea.aS (w : Wea) (r : Nat) (q : Int × Int) (i : Nat) (x : Int) : Prop := ∃ l, w.Tr r q l ∧ l i = x

theorem fwd_tells {w : Wea} (ho : w.Ok) (r : Nat) {q : Int × Int} (hq : q.1 ≤ q.2) : ∀ i, i ≤ w.es.length → tells (w.fS r q i) (1990000 - 60 * i) (w.fwd r q i)
  | 0, _ => by
    refine .inl ⟨hq, fun x => ⟨?_, fun h => ⟨fun _ => x, ⟨h, by omega⟩, rfl⟩⟩⟩
    rintro ⟨l, ⟨h, -⟩, rfl⟩
    exact h
  | i + 1, hi => by
    have h8 := ho.many
    have ih := fwd_tells ho r hq i (by omega)
    have := aft_tells (evz_fine ho r (show i < w.es.length by omega)) ih (by omega) (by omega)
    refine tells_less (tells_cong (fun y => ?_) this) (by omega)
    constructor
    · rintro ⟨x, ⟨l, ⟨h1, h2⟩, rfl⟩, h3⟩
      refine ⟨fun k => if k ≤ i then l k else y, ⟨by simpa using h1, fun j hj => ?_⟩, by simp [show ¬ i + 1 ≤ i by omega]⟩
      by_cases hji : j = i
      · subst hji
        simpa [show ¬ j + 1 ≤ j by omega] using h3
      · have := h2 j (by omega)
        simpa [show j ≤ i by omega, show j + 1 ≤ i by omega] using this
    · rintro ⟨l, ⟨h1, h2⟩, rfl⟩
      exact ⟨l i, ⟨l, ⟨h1, fun j hj => h2 j (by omega)⟩, rfl⟩, h2 i (by omega)⟩

theorem bk_tells {w : Wea} (ho : w.Ok) (r : Nat) {q : Int × Int} (hq : q.1 ≤ q.2) : ∀ m, m ≤ w.es.length → tells (w.aS r q (w.es.length - m)) (1980000 - 60 * m) (w.bk r q m)
  | 0, _ => by
    have h8 := ho.many
    refine tells_less (tells_cong (fun x => ?_) (fwd_tells ho r hq w.es.length (Nat.le_refl _))) (by omega)
    exact ⟨fun ⟨l, ⟨h1, h2⟩, h3⟩ => ⟨l, ⟨h1, h2⟩, h3⟩, fun ⟨l, ⟨h1, h2⟩, h3⟩ => ⟨l, ⟨h1, h2⟩, h3⟩⟩
  | m + 1, hm => by
    have h8 := ho.many
    obtain ⟨k, hk⟩ : ∃ k, w.es.length - 1 - m = k := ⟨_, rfl⟩
    have hk1 : w.es.length - m = k + 1 := by omega
    have hk2 : w.es.length - (m + 1) = k := by omega
    have ih := bk_tells ho r hq m (by omega)
    have hf := fwd_tells ho r hq k (by omega)
    have hb := bef_tells (evz_fine ho r (show k < w.es.length by omega)) ih (by omega) (by omega)
    have := bothP_tells hf hb (by omega) (by omega)
    rw [hk2]
    simp only [Wea.bk, hk]
    rw [hk1] at this
    refine tells_less (tells_cong (fun x => ?_) this) (by omega)
    constructor
    · rintro ⟨⟨l, ⟨h1, h2⟩, rfl⟩, y, ⟨l', ⟨g1, g2⟩, rfl⟩, h3⟩
      refine ⟨fun j => if j ≤ k then l j else l' j, ⟨by simpa using h1, fun j hj => ?_⟩, by simp⟩
      rcases Nat.lt_trichotomy j k with hjk | hjk | hjk
      · have := h2 j hjk
        simpa [show j ≤ k by omega, show j + 1 ≤ k by omega] using this
      · subst hjk
        simpa [show ¬ j + 1 ≤ j by omega] using h3
      · have := g2 j hj
        simpa [show ¬ j ≤ k by omega, show ¬ j + 1 ≤ k by omega] using this
    · rintro ⟨l, h, rfl⟩
      exact ⟨⟨l, ⟨h.first, fun j hj => h.step j (by omega)⟩, rfl⟩, l (k + 1), ⟨l, h, rfl⟩, h.step k (by omega)⟩

theorem at_tells {w : Wea} (ho : w.Ok) (r : Nat) {q : Int × Int} (hq : q.1 ≤ q.2) {i : Nat} (hi : i ≤ w.es.length) : tells (w.aS r q i) 1000000 (w.at r q i) := by
  have h8 := ho.many
  have := bk_tells ho r hq (w.es.length - i) (by omega)
  rw [show w.es.length - (w.es.length - i) = i by omega] at this
  simp only [Wea.at, if_pos hi]
  exact tells_less this (by omega)

theorem canB_iff {w : Wea} (ho : w.Ok) (r : Nat) {q : Int × Int} (hq : q.1 ≤ q.2) : w.canB r q = true ↔ ∃ l, w.Tr r q l := by
  have := tells_some (at_tells ho r hq (Nat.zero_le _)) (by omega)
  simp only [Wea.canB, decide_eq_true_eq, this]
  exact ⟨fun ⟨x, l, h, _⟩ => ⟨l, h⟩, fun ⟨l, h⟩ => ⟨_, l, h, rfl⟩⟩

theorem at_sp {w : Wea} (ho : w.Ok) {r : Nat} {q : Int × Int} (hq : q.1 ≤ q.2) (hc : ∃ l, w.Tr r q l) {i : Nat} (hi : i ≤ w.es.length) : isSp (w.aS r q i) (w.at r q i) := by
  obtain ⟨l, h⟩ := hc
  exact tells_sp (at_tells ho r hq hi) ⟨_, l, h, rfl⟩

theorem L_ok {w : Wea} (ho : w.Ok) : w.L.1 ≤ w.L.2 := ho.len.2.1

theorem can_iff {w : Wea} (ho : w.Ok) : w.can = true ↔ ∃ l, w.Tr w.rd w.L l := canB_iff ho w.rd (L_ok ho)

theorem at_in {w : Wea} (ho : w.Ok) {l : Nat → Int} (h : w.Tr w.rd w.L l) {i : Nat} (hi : i ≤ w.es.length) : inP (w.at w.rd w.L i) (l i) :=
  ((at_sp ho (L_ok ho) ⟨l, h⟩ hi).2 _).1 ⟨l, h, rfl⟩

theorem at_of {w : Wea} (ho : w.Ok) (hc : w.can = true) {i : Nat} (hi : i ≤ w.es.length) {x : Int} (hx : inP (w.at w.rd w.L i) x) : ∃ l, w.Tr w.rd w.L l ∧ l i = x :=
  ((at_sp ho (L_ok ho) ((can_iff ho).1 hc) hi).2 _).2 hx

theorem at_le {w : Wea} (ho : w.Ok) (hc : w.can = true) {i : Nat} (hi : i ≤ w.es.length) : (w.at w.rd w.L i).1 ≤ (w.at w.rd w.L i).2 := (at_sp ho (L_ok ho) ((can_iff ho).1 hc) hi).1

/-- What was lost: least, and most, in a truth. -/
theorem outK_sp {w : Wea} (ho : w.Ok) (f : Int) : ∀ k : Nat, (∀ j : Nat, j < k → ∃ l, w.Tr w.rd w.L l ∧ l 0 = f + j) → 0 < k →
    (∃ l, w.Tr w.rd w.L l ∧ l 0 - l w.es.length = (w.outK f k).1) ∧ (∃ l, w.Tr w.rd w.L l ∧ l 0 - l w.es.length = (w.outK f k).2) ∧
    ∀ l, w.Tr w.rd w.L l → f ≤ l 0 → l 0 < f + k → inP (w.outK f k) (l 0 - l w.es.length)
  | 0, _, h => absurd h (by omega)
  | k + 1, ht, _ => by
    obtain ⟨l0, g0, e0⟩ := ht k (by omega)
    have hq : ((f + k, f + k) : Int × Int).1 ≤ ((f + k, f + k) : Int × Int).2 := Int.le_refl _
    have up : ∀ {l}, w.Tr w.rd (f + k, f + k) l → w.Tr w.rd w.L l := fun {l} h => ⟨by have h1 := h.first; have h2 := g0.first; simp only [inP] at h1 h2 ⊢; omega, h.step⟩
    have hT0 : w.Tr w.rd (f + k, f + k) l0 := ⟨by simp only [inP]; omega, g0.step⟩
    have hs := at_sp ho hq ⟨l0, hT0⟩ (Nat.le_refl w.es.length)
    obtain ⟨la, ga, ea⟩ := (hs.2 _).2 ⟨Int.le_refl _, hs.1⟩
    obtain ⟨lb, gb, eb⟩ := (hs.2 _).2 ⟨hs.1, Int.le_refl _⟩
    have fa := ga.first
    have fb := gb.first
    simp only [inP] at fa fb
    have hfb : 0 ≤ f + k ∧ f + k ≤ 300 := by have h2 := g0.first; have := ho.len; simp only [inP, Wea.L] at h2; omega
    have hbd := at_bd' ho (q := (f + k, f + k)) (by have h2 := g0.first; have := ho.len; simp only [inP, Wea.L] at h2; simp only [bd]; omega) (Nat.le_refl w.es.length)
    have key : ∀ (st : Int × Int), w.lostF st (f + k) = (min st.1 (lb 0 - lb w.es.length), max st.2 (la 0 - la w.es.length)) := by
      intro st
      simp only [Wea.lostF, mn, mx]
      rw [show lb 0 - lb w.es.length = f + k - (w.at w.rd (f + k, f + k) w.es.length).2 by omega, show la 0 - la w.es.length = f + k - (w.at w.rd (f + k, f + k) w.es.length).1 by omega]
      ext <;> simp only [] <;> split <;> omega
    have hin : ∀ l, w.Tr w.rd w.L l → l 0 = f + k → lb 0 - lb w.es.length ≤ l 0 - l w.es.length ∧ l 0 - l w.es.length ≤ la 0 - la w.es.length := by
      intro l hl h0
      have := (hs.2 (l w.es.length)).1 ⟨l, ⟨by simp only [inP]; omega, hl.step⟩, rfl⟩
      simp only [inP] at this
      omega
    simp only [Wea.outK, key]
    by_cases hk : 0 < k
    · obtain ⟨⟨l1, h1, e1⟩, ⟨l2, h2, e2⟩, h3⟩ := outK_sp ho f k (fun j hj => ht j (by omega)) hk
      refine ⟨?_, ?_, ?_⟩
      · by_cases hc : (w.outK f k).1 ≤ lb 0 - lb w.es.length
        · exact ⟨l1, h1, by omega⟩
        · exact ⟨lb, up gb, by omega⟩
      · by_cases hc : la 0 - la w.es.length ≤ (w.outK f k).2
        · exact ⟨l2, h2, by omega⟩
        · exact ⟨la, up ga, by omega⟩
      · intro l hl h4 h5
        simp only [inP]
        by_cases h6 : l 0 = f + k
        · have := hin l hl h6
          omega
        · have := h3 l hl h4 (by omega)
          simp only [inP] at this
          omega
    · have hk0 : k = 0 := by omega
      subst hk0
      simp only [Wea.outK]
      have h1 : -1073741824 ≤ la 0 - la w.es.length ∧ lb 0 - lb w.es.length ≤ 1073741824 := by
        simp only [bd] at hbd
        omega
      refine ⟨⟨lb, up gb, by omega⟩, ⟨la, up ga, by omega⟩, ?_⟩
      intro l hl h4 h5
      have := hin l hl (by omega)
      simp only [inP]
      omega

/-- The ends of a set. -/
def hull (S : Int → Prop) (p : Int × Int) : Prop := S p.1 ∧ S p.2 ∧ ∀ x, S x → inP p x

theorem hull_uniq {S : Int → Prop} {p q : Int × Int} (h : hull S p) (g : hull S q) : p = q := by
  have h1 := h.2.2 _ g.1
  have h2 := h.2.2 _ g.2.1
  have h3 := g.2.2 _ h.1
  have h4 := g.2.2 _ h.2.1
  simp only [inP] at h1 h2 h3 h4
  ext <;> omega

theorem hull_sub {S T : Int → Prop} {p q : Int × Int} (h : hull S p) (g : hull T q) (hs : ∀ x, S x → T x) : q.1 ≤ p.1 ∧ p.2 ≤ q.2 := by
  have h1 := g.2.2 _ (hs _ h.1)
  have h2 := g.2.2 _ (hs _ h.2.1)
  simp only [inP] at h1 h2
  omega

theorem hull_cong {S T : Int → Prop} {p : Int × Int} (h : ∀ x, S x ↔ T x) (k : hull S p) : hull T p := by
  have : S = T := funext fun x => propext (h x)
  exact this ▸ k

/-- What can be lost. -/
def Wea.dS (w : Wea) (x : Int) : Prop := ∃ l, w.Tr w.rd w.L l ∧ l 0 - l w.es.length = x

theorem gate_can {w : Wea} (hv : w.valid = true) (hc : w.can = true) : w.gate 0 true = 0 := by
  simp only [Wea.gate, hv, hc, if_true, (show (0 : Int) ≤ 10 by decide)]

theorem lost_hull {w : Wea} (hv : w.valid = true) (hc : w.can = true) : hull w.dS w.lostP := by
  have ho := w.valid_iff.1 hv
  have hs := at_sp ho (L_ok ho) ((can_iff ho).1 hc) (Nat.zero_le w.es.length)
  have h1 := hs.1
  simp only [Wea.lostP, gate_can hv hc, if_true]
  obtain ⟨⟨la, a1, a2⟩, ⟨lb, b1, b2⟩, h3⟩ := outK_sp ho (w.at w.rd w.L 0).1 ((w.at w.rd w.L 0).2 - (w.at w.rd w.L 0).1 + 1).toNat (fun j hj => (hs.2 _).2 ⟨by omega, by omega⟩) (by omega)
  refine ⟨⟨la, a1, a2⟩, ⟨lb, b1, b2⟩, ?_⟩
  rintro x ⟨l, hl, rfl⟩
  have := (hs.2 (l 0)).1 ⟨l, hl, rfl⟩
  simp only [inP] at this
  exact h3 l hl this.1 (by omega)

theorem rd_bit (w : Wea) (i : Nat) : w.rd.testBit i = (decide (i < w.es.length) && decide ((w.ev i).k = 1)) := maskN_bit _ _ _

/-- From one length to another one, by an event. -/
def Ev.go (e : Ev) (u : Int × Int) (x y : Int) : Prop :=
  if e.k = 0 then x - e.u * u.2 ≤ y ∧ y ≤ x - e.u * u.1 else if e.k = 2 then x - e.hi ≤ y ∧ y ≤ x - e.lo else if e.k = 1 then e.lo ≤ x ∧ x ≤ e.hi ∧ y = x else y = x

abbrev Wea.U (w : Wea) : Int × Int := (w.ulo, w.uhi)

theorem evz_go {w : Wea} {i : Nat} (hi : i < w.es.length) (x y : Int) : (w.evz w.rd i).go x y ↔ (w.ev i).go w.U x y := by
  simp only [Wea.evz, Ev.go, rd_bit, hi, decide_true, Bool.true_and]
  by_cases h0 : (w.ev i).k = 0
  · simp only [h0, if_true, EvZ.go]
  · by_cases h2 : (w.ev i).k = 2
    · simp only [h2, if_true, if_false, EvZ.go, (show ¬ (2 : Int) = 0 by decide)]
    · by_cases h1 : (w.ev i).k = 1
      · simp only [h1, if_true, if_false, EvZ.go, (show ¬ (1 : Int) = 0 by decide), (show ¬ (1 : Int) = 2 by decide), decide_true]
      · simp only [h0, h1, h2, if_false, EvZ.go, decide_false, Bool.false_eq_true]

/-- A truth of all readings. -/
def Wea.T (w : Wea) (l : Nat → Int) : Prop := inP w.L (l 0) ∧ ∀ i, i < w.es.length → (w.ev i).go w.U (l i) (l (i + 1))

theorem T_iff (w : Wea) (l : Nat → Int) : w.Tr w.rd w.L l ↔ w.T l :=
  ⟨fun h => ⟨h.first, fun i hi => (evz_go hi _ _).1 (h.step i hi)⟩, fun h => ⟨h.1, fun i hi => (evz_go hi _ _).2 (h.2 i hi)⟩⟩

theorem canT {w : Wea} (ho : w.Ok) : w.can = true ↔ ∃ l, w.T l := by
  rw [can_iff ho]
  exact ⟨fun ⟨l, h⟩ => ⟨l, (T_iff w l).1 h⟩, fun ⟨l, h⟩ => ⟨l, (T_iff w l).2 h⟩⟩

theorem atT {w : Wea} (ho : w.Ok) (hc : w.can = true) {i : Nat} (hi : i ≤ w.es.length) : isSp (fun x => ∃ l, w.T l ∧ l i = x) (w.at w.rd w.L i) := by
  have := at_sp ho (L_ok ho) ((can_iff ho).1 hc) hi
  refine ⟨this.1, fun x => ?_⟩
  rw [← this.2 x]
  exact ⟨fun ⟨l, h, e⟩ => ⟨l, (T_iff w l).2 h, e⟩, fun ⟨l, h, e⟩ => ⟨l, (T_iff w l).1 h, e⟩⟩

theorem lostT {w : Wea} (hv : w.valid = true) (hc : w.can = true) : hull (fun x => ∃ l, w.T l ∧ l 0 - l w.es.length = x) w.lostP := by
  refine hull_cong (fun x => ?_) (lost_hull hv hc)
  exact ⟨fun ⟨l, h, e⟩ => ⟨l, (T_iff w l).1 h, e⟩, fun ⟨l, h, e⟩ => ⟨l, (T_iff w l).2 h, e⟩⟩

theorem at_inT {w : Wea} (ho : w.Ok) {l : Nat → Int} (h : w.T l) {i : Nat} (hi : i ≤ w.es.length) : inP (w.at w.rd w.L i) (l i) := at_in ho ((T_iff w l).2 h) hi

theorem at_ofT {w : Wea} (ho : w.Ok) (hc : w.can = true) {i : Nat} (hi : i ≤ w.es.length) {x : Int} (hx : inP (w.at w.rd w.L i) x) : ∃ l, w.T l ∧ l i = x := ((atT ho hc hi).2 x).2 hx

theorem lost_inT {w : Wea} (hv : w.valid = true) (hc : w.can = true) {l : Nat → Int} (h : w.T l) : inP w.lostP (l 0 - l w.es.length) := (lostT hv hc).2.2 _ ⟨l, h, rfl⟩

/-! ### An event more, at the end -/

def Wea.snoc (w : Wea) (e : Ev) : Wea := { w with es := w.es ++ [e] }

theorem snoc_len (w : Wea) (e : Ev) : (w.snoc e).es.length = w.es.length + 1 := by simp [Wea.snoc]

theorem snoc_ev (w : Wea) (e : Ev) {i : Nat} (hi : i < w.es.length) : (w.snoc e).ev i = w.ev i := by
  simp only [Wea.snoc, Wea.ev, List.getD, List.getElem?_append_left hi]

theorem snoc_end (w : Wea) (e : Ev) : (w.snoc e).ev w.es.length = e := by
  simp only [Wea.snoc, Wea.ev, List.getD, List.getElem?_concat_length, Option.getD_some]

theorem snoc_T (w : Wea) (e : Ev) (l : Nat → Int) : (w.snoc e).T l ↔ w.T l ∧ e.go w.U (l w.es.length) (l (w.es.length + 1)) := by
  constructor
  · rintro ⟨h1, h2⟩
    refine ⟨⟨h1, fun i hi => ?_⟩, ?_⟩
    · have := h2 i (by rw [snoc_len]; omega)
      rw [snoc_ev w e hi] at this
      exact this
    · have := h2 w.es.length (by rw [snoc_len]; omega)
      rw [snoc_end] at this
      exact this
  · rintro ⟨⟨h1, h2⟩, h3⟩
    refine ⟨h1, fun i hi => ?_⟩
    rw [snoc_len] at hi
    by_cases h : i = w.es.length
    · subst h
      rw [snoc_end]
      exact h3
    · rw [snoc_ev w e (by omega)]
      exact h2 i (by omega)

theorem snoc_ok {w : Wea} {e : Ev} (ho : w.Ok) (hn : w.es.length < 8) (he : e.ok = true) : (w.snoc e).Ok where
  len := ho.len
  use := ho.use
  many := by rw [snoc_len]; omega
  ev i hi := by
    rw [snoc_len] at hi
    by_cases h : i = w.es.length
    · subst h
      rw [snoc_end]
      exact (Ev.ok_iff e).1 he
    · rw [snoc_ev w e (by omega)]
      exact ho.ev i (by omega)

/-- A reading. -/
def rdE (p : Int × Int) : Ev := ⟨1, 0, p.1, p.2⟩

theorem rdE_go (p u : Int × Int) (x y : Int) : (rdE p).go u x y ↔ inP p x ∧ y = x := by
  simp only [rdE, Ev.go, inP]
  simp
  exact ⟨fun h => ⟨⟨h.1, h.2.1⟩, h.2.2⟩, fun h => ⟨h.1.1, h.1.2, h.2⟩⟩

theorem rd_T (w : Wea) (p : Int × Int) (l : Nat → Int) : (w.snoc (rdE p)).T l ↔ w.T l ∧ inP p (l w.es.length) ∧ l (w.es.length + 1) = l w.es.length := by
  rw [snoc_T, rdE_go]

/-- Truths beyond their end are free. -/
theorem T_cong {w : Wea} {l k : Nat → Int} (h : ∀ i, i ≤ w.es.length → l i = k i) (hl : w.T l) : w.T k := by
  refine ⟨by rw [← h 0 (by omega)]; exact hl.1, fun i hi => ?_⟩
  rw [← h i (by omega), ← h (i + 1) (by omega)]
  exact hl.2 i hi

theorem rd_ext {w : Wea} {p : Int × Int} {l : Nat → Int} (hl : w.T l) (hp : inP p (l w.es.length)) : ∃ k, (w.snoc (rdE p)).T k ∧ ∀ i, i ≤ w.es.length → k i = l i := by
  refine ⟨fun i => if i ≤ w.es.length then l i else l w.es.length, (rd_T w p _).2 ⟨T_cong (fun i hi => by simp [hi]) hl, by simpa using hp, by simp [show ¬ w.es.length + 1 ≤ w.es.length by omega]⟩, fun i hi => by simp [hi]⟩

theorem rd_can {w : Wea} (ho : w.Ok) (hn : w.es.length < 8) {p : Int × Int} (hp : (rdE p).ok = true) : (w.snoc (rdE p)).can = true ↔ ∃ l, w.T l ∧ inP p (l w.es.length) := by
  rw [canT (snoc_ok ho hn hp)]
  refine ⟨fun ⟨l, h⟩ => ?_, fun ⟨l, h, g⟩ => ?_⟩
  · obtain ⟨h1, h2, -⟩ := (rd_T w p l).1 h
    exact ⟨l, h1, h2⟩
  · obtain ⟨k, hk, -⟩ := rd_ext h g
    exact ⟨k, hk⟩

theorem rd_can' {w : Wea} (ho : w.Ok) (hc : w.can = true) (hn : w.es.length < 8) {p : Int × Int} (hp : (rdE p).ok = true) : (w.snoc (rdE p)).can = true ↔ max w.lastP.1 p.1 ≤ min w.lastP.2 p.2 := by
  have hs := atT ho hc (Nat.le_refl w.es.length)
  rw [rd_can ho hn hp]
  constructor
  · rintro ⟨l, h1, h2⟩
    have := at_inT ho h1 (Nat.le_refl _)
    simp only [inP] at this h2
    simp only [Wea.lastP]
    omega
  · intro h
    obtain ⟨l, h1, h2⟩ := at_ofT ho hc (Nat.le_refl w.es.length) (x := max w.lastP.1 p.1) (by simp only [inP, Wea.lastP] at h ⊢; omega)
    exact ⟨l, h1, by simp only [inP]; omega⟩

theorem rd_at {w : Wea} (ho : w.Ok) (hc : w.can = true) (hn : w.es.length < 8) {p : Int × Int} (hp : (rdE p).ok = true) (hy : max w.lastP.1 p.1 ≤ min w.lastP.2 p.2) :
    (w.snoc (rdE p)).at (w.snoc (rdE p)).rd (w.snoc (rdE p)).L (w.es.length + 1) = (max w.lastP.1 p.1, min w.lastP.2 p.2) := by
  have hs := atT (snoc_ok ho hn hp) ((rd_can' ho hc hn hp).2 hy) (i := w.es.length + 1) (by rw [snoc_len]; omega)
  refine isSp_uniq hs ⟨hy, fun x => ?_⟩
  constructor
  · rintro ⟨l, h, rfl⟩
    obtain ⟨h1, h2, h3⟩ := (rd_T w p l).1 h
    have := at_inT ho h1 (Nat.le_refl _)
    simp only [inP, h3, Wea.lastP] at this h2 ⊢
    omega
  · intro hx
    simp only [inP] at hx
    obtain ⟨l, h1, h2⟩ := at_ofT ho hc (Nat.le_refl w.es.length) (x := x) (by simp only [inP, Wea.lastP] at hx ⊢; omega)
    obtain ⟨k, h3, h4⟩ := rd_ext (p := p) h1 (by rw [h2]; simp only [inP]; omega)
    refine ⟨k, h3, ?_⟩
    obtain ⟨-, -, h5⟩ := (rd_T w p k).1 h3
    rw [h5, h4 _ (Nat.le_refl _), h2]

theorem rd_lost {w : Wea} (hv : w.valid = true) (hc : w.can = true) (hn : w.es.length < 8) {p : Int × Int} (hp : (rdE p).ok = true) (h1 : p.1 ≤ w.lastP.1) (h2 : w.lastP.2 ≤ p.2) : (w.snoc (rdE p)).lostP = w.lostP := by
  have ho := w.valid_iff.1 hv
  have hoy := snoc_ok ho hn hp
  have hle := (atT ho hc (Nat.le_refl w.es.length)).1
  have hcy := (rd_can' ho hc hn hp).2 (by simp only [Wea.lastP] at h1 h2 ⊢; omega)
  refine hull_uniq (hull_cong (fun x => ?_) (lostT ((w.snoc (rdE p)).valid_iff.2 hoy) hcy)) (lostT hv hc)
  rw [snoc_len]
  constructor
  · rintro ⟨l, h, rfl⟩
    obtain ⟨g1, g2, g3⟩ := (rd_T w p l).1 h
    exact ⟨l, g1, by rw [g3]⟩
  · rintro ⟨l, h, rfl⟩
    have := at_inT ho h (Nat.le_refl _)
    obtain ⟨k, h3, h4⟩ := rd_ext (p := p) h (by simp only [inP, Wea.lastP] at this h1 h2 ⊢; omega)
    obtain ⟨-, -, h5⟩ := (rd_T w p k).1 h3
    exact ⟨k, h3, by rw [h5, h4 _ (Nat.le_refl _), h4 0 (by omega)]⟩

end Go.Ab
/-
  What is valid; far too much; the examples of the document.
-/
namespace Go.Ab
open Go.Proofs
set_option linter.unusedSimpArgs false
set_option linter.unusedVariables false
set_option maxRecDepth 100000

variable {H : Heap}

theorem rWear_loop {w : Wea} {ve : AV} (h : WeaAt H w ve) (hl : w.es.length ≤ 8) :
    ∀ (q j : Nat), j + q = w.es.length → ∀ E : Env, E.get 1 = .ptr H.length 0 → E.get 3 = I j →
    Option.map (finishC H.length) (execL cfg0 prog0 ⟨33, none, false, H.length⟩ (todoAt Tryd.f33 4) ⟨E, [], H ++ [.box (.agg [I w.llo, I w.lhi, I w.ulo, I w.uhi, ve])], none⟩) = some ⟨.ret (.bool !anyF (fun i => !(w.es.getD i ev0).ok) j q), H, none⟩ := by
  intro q
  have s1 := h.es.scal
  have hln := h.es.len
  obtain ⟨a1, a2, a3, a4, a5⟩ := h.es.fA (d := ev0)
  induction q with
  | zero =>
    intro j hj  E g1 g3
    have hk' : ¬ (j : Int) < ((w.es.length : Nat) : Int) := by omega
    simp only [loopIt, todoPast, todoAt, todoOf, firstReg, ↓reduceIte, Option.some.injEq, Nat.reduceEqDiff, reduceCtorEq, Tryd.f33]
    rw [execL_inLoop]
    simp (maxSteps := 1000000) (implicitDefEqProofs := false) (disch := first | rfl | omega | assumption) only [go_sem, g1, g3, ltT, ltF, leT, leF, hk', hln, anyF, s1, List.length_map]
  | succ q ih =>
    intro j hj  E g1 g3
    have hk' : (j : Int) < ((w.es.length : Nat) : Int) := by omega
    have hk2 : j < w.es.length := by omega
    have hb := fun G => ref_event (w.es.getD j ev0) G
    have hr : readPart (w.es.getD j ev0).av.cells 0 ⟨.struct [(0, 3), (1, 3), (2, 23)], 4, 32, some (.agg #[.int .i64 0, .int .i64 0, .int .i64 0, .int .i64 0])⟩ = some (w.es.getD j ev0).av := rfl
    simp only [anyF]
    simp only [loopIt, todoPast, todoAt, todoOf, firstReg, ↓reduceIte, Option.some.injEq, Nat.reduceEqDiff, reduceCtorEq, Tryd.f33]
    rw [execL_inLoop]
    rcases Bool.eq_false_or_eq_true (w.es.getD j ev0).ok with hc | hc
    · simp (maxSteps := 1000000) (implicitDefEqProofs := false) (disch := first | rfl | omega | assumption) only [go_sem, g1, g3, ltT, ltF, leT, leF, hk', hln, a1, a2, a3, a4, hr, hb, hc, List.length_map]
      exact ih (j + 1) (by omega) _ (by exact g1) (by rfl)
    · simp (maxSteps := 1000000) (implicitDefEqProofs := false) (disch := first | rfl | omega | assumption) only [go_sem, g1, g3, ltT, ltF, leT, leF, hk', hln, a1, a2, a3, a4, hr, hb, hc, List.length_map]

theorem ref_Wear {w : Wea} {ve : AV} (h : WeaAt H w ve) : callFL cfg0 prog0 false 33 [w.av ve] H none = some ⟨.ret (.bool w.valid), H, none⟩ := by
  have s1 := h.es.scal
  have hln := h.es.len
  rw [List.length_map] at hln
  have hs1 := fun G : Heap => ref_span w.llo w.lhi 0 300 G
  have hs2 := fun G : Heap => ref_span w.ulo w.uhi 0 3 G
  simp only [Wea.av, Wea.valid, Wea.good]
  rcases Bool.eq_false_or_eq_true (spB (w.llo, w.lhi) 0 300) with c1 | c1
  · have b1 := spB_iff.1 c1
    simp only at b1
    by_cases c2 : w.lhi - w.llo ≤ 20
    · have c2' : ¬ 20 < w.lhi - w.llo := by omega
      rcases Bool.eq_false_or_eq_true (spB (w.ulo, w.uhi) 0 3) with c3 | c3
      · by_cases c4 : (w.es.length : Int) ≤ 8
        · have c4' : ¬ (8 : Int) < w.es.length := by omega
          refine (callFL_eq fn33 rfl (by simp [Tryd.f33])).trans ?_
          simp (maxSteps := 1000000) (implicitDefEqProofs := false) (disch := first | rfl | omega | assumption) only [go_sem, ltT, ltF, leT, leF, s1, hs1, hs2, c1, c2, c2', c3, c4, c4', hln]
          exact rWear_loop h (by omega) w.es.length 0 (by omega) _ (by rfl) (by rfl)
        · have c4' : (8 : Int) < w.es.length := by omega
          refine (callFL_eq fn33 rfl (by simp [Tryd.f33])).trans ?_
          simp (maxSteps := 1000000) (implicitDefEqProofs := false) (disch := first | rfl | omega | assumption) only [go_sem, ltT, ltF, leT, leF, s1, hs1, hs2, c1, c2, c2', c3, c4, c4', hln]
      · refine (callFL_eq fn33 rfl (by simp [Tryd.f33])).trans ?_
        simp (maxSteps := 1000000) (implicitDefEqProofs := false) (disch := first | rfl | omega | assumption) only [go_sem, ltT, ltF, leT, leF, s1, hs1, hs2, c1, c2, c2', c3, hln]
    · have c2' : 20 < w.lhi - w.llo := by omega
      refine (callFL_eq fn33 rfl (by simp [Tryd.f33])).trans ?_
      simp (maxSteps := 1000000) (implicitDefEqProofs := false) (disch := first | rfl | omega | assumption) only [go_sem, ltT, ltF, leT, leF, s1, hs1, hs2, c1, c2, c2', hln]
  · refine (callFL_eq fn33 rfl (by simp [Tryd.f33])).trans ?_
    simp (maxSteps := 1000000) (implicitDefEqProofs := false) (disch := first | rfl | omega | assumption) only [go_sem, ltT, ltF, leT, leF, s1, hs1, hs2, c1, hln]

theorem law_span (a b : Int) (H : Heap) : callFL cfg0 prog0 false 32 [I a, I b] H none = some ⟨.ret (.agg [I a, I b]), H, none⟩ := by
  refine (callFL_eq fn32 rfl (by simp [Tryd.f32])).trans ?_
  simp (maxSteps := 1000000) (implicitDefEqProofs := false) (disch := first | rfl | omega | assumption) only [go_sem, ltT, ltF, leT, leF]

theorem law_uses (a : Int) (H : Heap) : callFL cfg0 prog0 false 39 [I a] H none = some ⟨.ret (.agg [I 0, I a, I 0, I 0]), H, none⟩ := by
  refine (callFL_eq fn39 rfl (by simp [Tryd.f39])).trans ?_
  simp (maxSteps := 1000000) (implicitDefEqProofs := false) (disch := first | rfl | omega | assumption) only [go_sem, ltT, ltF, leT, leF]

theorem law_read (a b : Int) (H : Heap) : callFL cfg0 prog0 false 35 [I a, I b] H none = some ⟨.ret (.agg [I 1, I 0, I a, I b]), H, none⟩ := by
  refine (callFL_eq fn35 rfl (by simp [Tryd.f35])).trans ?_
  simp (maxSteps := 1000000) (implicitDefEqProofs := false) (disch := first | rfl | omega | assumption) only [go_sem, ltT, ltF, leT, leF, law_span]

theorem law_lap (a b : Int) (H : Heap) : callFL cfg0 prog0 false 78 [I a, I b] H none = some ⟨.ret (.agg [I 2, I 0, I a, I b]), H, none⟩ := by
  refine (callFL_eq fn78 rfl (by simp [Tryd.f78])).trans ?_
  simp (maxSteps := 1000000) (implicitDefEqProofs := false) (disch := first | rfl | omega | assumption) only [go_sem, ltT, ltF, leT, leF, law_span]

theorem law_inside (n a b : Int) (H : Heap) : callFL cfg0 prog0 false 30 [I n, .agg [I a, I b]] H none = some ⟨.ret (.bool (wi n a b)), H, none⟩ := by
  refine (callFL_eq fn30 rfl (by simp [Tryd.f30])).trans ?_
  simp (maxSteps := 1000000) (implicitDefEqProofs := false) (disch := first | rfl | omega | assumption) only [go_sem, ltT, ltF, leT, leF, wi]
  repeat' ((with_reducible first
      | refine cond_ifb (fun hc hd he => ?_) (fun hc hd he => ?_)
      | refine guard_ifb (fun hc hd he => ?_) (fun hc hd he => ?_)
      | refine cond_dec (fun hc hd he => ?_) (fun hc hd he => ?_)
      | refine guard_dec (fun hc hd he => ?_) (fun hc hd he => ?_)
      | refine cond_ndec (fun hc hd he => ?_) (fun hc hd he => ?_)
      | refine guard_ndec (fun hc hd he => ?_) (fun hc hd he => ?_)
      | refine cond_not (fun hc hd he => ?_) (fun hc hd he => ?_)
      | refine guard_not (fun hc hd he => ?_) (fun hc hd he => ?_)
      | refine cond_beq (fun hc hd he => ?_) (fun hc hd he => ?_)
      | refine guard_beq (fun hc hd he => ?_) (fun hc hd he => ?_)
      | refine cond_bne (fun hc hd he => ?_) (fun hc hd he => ?_)
      | refine guard_bne (fun hc hd he => ?_) (fun hc hd he => ?_)
      | refine cond_split (fun hc hd he => ?_) (fun hc hd he => ?_)
      | refine guard_split (fun hc hd he => ?_) (fun hc hd he => ?_)
      | refine call_beq (fun hc hd he => ?_) (fun hc hd he => ?_)
      | refine call_ifb (fun hc hd he => ?_) (fun hc hd he => ?_)
      | refine call_ifd (fun hc hd he => ?_) (fun hc hd he => ?_)
      | refine call_dec (fun hc hd he => ?_) (fun hc hd he => ?_)) <;> try simp (maxSteps := 1000000) (implicitDefEqProofs := false) (disch := first | rfl | omega | assumption) only [go_sem, ltT, ltF, leT, leF, hc, he, wi])

def Wea.farB (w : Wea) (m : Int) : Bool := decide ((40 : Int) < if (w.es.length : Int) < m then m else w.es.length)

theorem Wea.farB_false {w : Wea} {m : Int} (h : w.farB m = false) : w.es.length ≤ 40 ∧ m ≤ 40 := by
  simp only [Wea.farB, decide_eq_false_iff_not] at h
  split at h <;> omega

theorem law_far {w : Wea} {ve v : AV} {l : List Int} (h : WeaAt H w ve) (hv : SlOk H 1 v (l.map I)) : callFL cfg0 prog0 false 12 [w.av ve, v] H none = some ⟨.ret (.bool (w.farB l.length)), H, none⟩ := by
  have s1 := h.es.scal
  have s2 := hv.scal
  simp only [Wea.av]
  refine (callFL_eq fn12 rfl (by simp [Tryd.f12])).trans ?_
  simp (maxSteps := 1000000) (implicitDefEqProofs := false) (disch := first | rfl | omega | assumption) only [go_sem, s1, s2, h.es.len, hv.len, Wea.farB, List.length_map]

theorem law_fine {w : Wea} {ve : AV} (h : WeaAt H w ve) : callFL cfg0 prog0 false 28 [w.av ve] H none = some ⟨.ret (.bool (!w.farB 0 && w.valid)), H, none⟩ := by
  have s1 := h.es.scal
  have hF := fun G : Heap => law_far (h.app G) (v := .sl true []) (l := []) ⟨rfl, by simp⟩
  have hV := fun G : Heap => ref_Wear (h.app G)
  simp only [Wea.av, List.length_nil, Int.natCast_zero] at hF hV ⊢
  refine (callFL_eq fn28 rfl (by simp [Tryd.f28])).trans ?_
  cases hf : w.farB 0
  · rw [hf] at hF
    simp (maxSteps := 1000000) (implicitDefEqProofs := false) (disch := first | rfl | omega | assumption) only [go_sem, ltT, ltF, leT, leF, s1, hF, hV]
  · rw [hf] at hF
    simp (maxSteps := 1000000) (implicitDefEqProofs := false) (disch := first | rfl | omega | assumption) only [go_sem, ltT, ltF, leT, leF, s1, hF, hV]

def smp : Wea := ⟨100, 102, 0, 2, [⟨0, 10, 0, 0⟩, ⟨1, 0, 85, 95⟩, ⟨0, 5, 0, 0⟩, ⟨2, 0, 3, 4⟩, ⟨1, 0, 80, 88⟩]⟩
def smpV : AV := .sl true (smp.es.map Ev.av)
def smp2 : Wea := ⟨100, 102, 0, 2, [⟨0, 10, 0, 0⟩, ⟨1, 0, 85, 95⟩, ⟨0, 5, 0, 0⟩, ⟨2, 0, 3, 4⟩, ⟨1, 0, 80, 88⟩, ⟨1, 0, 89, 90⟩]⟩

theorem smp_at (H : Heap) : WeaAt H smp smpV := ⟨⟨rfl, by simp [Ev.av, AV.cells]⟩⟩

theorem law_sample (H : Heap) : callFL cfg0 prog0 false 40 [.sl true []] H none = some ⟨.ret (smp.av smpV), H, none⟩ := by
  have hE : ∀ G : Heap, addElem G 4 true (.sl true [.agg [I 0, I 10, I 0, I 0], .agg [I 1, I 0, I 85, I 95], .agg [I 0, I 5, I 0, I 0], .agg [I 2, I 0, I 3, I 4], .agg [I 1, I 0, I 80, I 88]]) [] = some (.sl true [.agg [I 0, I 10, I 0, I 0], .agg [I 1, I 0, I 85, I 95], .agg [I 0, I 5, I 0, I 0], .agg [I 2, I 0, I 3, I 4], .agg [I 1, I 0, I 80, I 88]], G) := fun G => rfl
  refine (callFL_eq fn40 rfl (by simp [Tryd.f40])).trans ?_
  simp (maxSteps := 1000000) (implicitDefEqProofs := false) (disch := first | rfl | omega | assumption) only [go_sem, ltT, ltF, leT, leF, law_span, law_uses, law_read, law_lap, hE, Wea.av, smpV, smp, Ev.av]

def smpV2 : AV := .sl false (smp2.es.map Ev.av)
theorem smp2_at (H : Heap) : WeaAt H smp2 smpV2 := ⟨⟨rfl, by simp [Ev.av, AV.cells]⟩⟩

theorem law_sample2 (H : Heap) : callFL cfg0 prog0 false 40 [.sl true [.agg [I 1, I 0, I 89, I 90]]] H none = some ⟨.ret (smp2.av smpV2), H, none⟩ := by
  have hE : ∀ G : Heap, addElem G 4 true (.sl true [.agg [I 0, I 10, I 0, I 0], .agg [I 1, I 0, I 85, I 95], .agg [I 0, I 5, I 0, I 0], .agg [I 2, I 0, I 3, I 4], .agg [I 1, I 0, I 80, I 88]]) [.agg [I 1, I 0, I 89, I 90]] = some (.gsl G.length 6, G ++ [.grow 4 [.agg [I 0, I 10, I 0, I 0], .agg [I 1, I 0, I 85, I 95], .agg [I 0, I 5, I 0, I 0], .agg [I 2, I 0, I 3, I 4], .agg [I 1, I 0, I 80, I 88], .agg [I 1, I 0, I 89, I 90]]]) := fun G => rfl
  refine (callFL_eq fn40 rfl (by simp [Tryd.f40])).trans ?_
  simp (maxSteps := 1000000) (implicitDefEqProofs := false) (disch := first | rfl | omega | assumption) only [go_sem, ltT, ltF, leT, leF, law_span, law_uses, law_read, law_lap, hE, Wea.av, smpV2, smp2, Ev.av]

theorem smp_af : smp.afterP 2 = (83, 92) ∧ smp.gate 0 (wi 2 0 (smp.es.length - 1)) = 0 := by decide +kernel
theorem smp_lo : smp.lostP = (12, 22) ∧ smp.gate 0 true = 0 := by decide +kernel
theorem smp_be : smp.sureP 90 = 24 ∧ smp.perP 90 = 31 ∧ smp.gate 0 (wi 90 (-1000) 1000) = 0 := by decide +kernel
theorem smp_un : smp.untilP 76 = (2, 0) ∧ (smp.untilP 81).2 = 4 := by decide +kernel
theorem smp_da : smp.dayP 70 [3, 2, 1] = (2, 0) := by decide +kernel
theorem smp_fi : smp.fitsP (80, 80) = 1 ∧ smp.gate 0 (spB (80, 80) (-1000) 1000) = 0 := by decide +kernel
theorem smp_cl : smp2.clashP (insS popK smp2.S 0 smp2.S.length) = (48, 0) := by decide +kernel

theorem smp_ok : smp2.S.length = 8 ∧ (∀ s ∈ smp2.S, s < 256) ∧ (insS popK smp2.S 0 smp2.S.length).length = 8 ∧ (∀ s ∈ insS popK smp2.S 0 smp2.S.length, s < 256) ∧ smp2.canB ((insS popK smp2.S 0 smp2.S.length).getD 7 0) smp2.L = false := by decide +kernel

theorem small_of {B : Nat} {L : List Nat} (h : ∀ s ∈ L, s < B) : Small B L := by
  intro k hk
  have e : L.getD k 0 = L[k] := by simp [hk]
  rw [e]
  exact h _ (List.getElem_mem hk)

theorem law_awake (H : Heap) : callFL cfg0 prog0 false 13 [] H none = some ⟨.ret (.bool true), H, none⟩ := by
  have h1 := fun G : Heap => we_After (smp_at G) (by decide) 2
  have h2 := fun G : Heap => we_Lost (smp_at G) (by decide)
  have h3 := fun G : Heap => we_Below (smp_at G) (by decide) 90
  have h4 := fun G : Heap => we_Until (smp_at G) (by decide) 76
  have h5 := fun G : Heap => we_Until (smp_at G) (by decide) 81
  have h6 := fun G : Heap => we_Day (smp_at G) (by decide) (v := .sl true ([3, 2, 1].map I)) (l := [3, 2, 1]) ⟨rfl, by simp [I, AV.cells]⟩ (by decide) 70
  have h7 := fun G : Heap => we_Fits (smp_at G) (by decide) (80, 80)
  obtain ⟨k1, k2, k3, k4, k5⟩ := smp_ok
  have h8 := fun G : Heap => we_Clash (smp2_at G) (by decide) (M := insS popK smp2.S 0 smp2.S.length) (fun _ _ => ⟨sorts_short (small_of k2) (by omega), by rw [k3, k1], small_of k4, 7, by rw [k3]; decide, k5⟩)
  simp only [smp_af.1, smp_af.2] at h1
  simp only [smp_lo.1, smp_lo.2] at h2
  simp only [smp_be.1, smp_be.2.1, smp_be.2.2] at h3
  simp only [smp_un.1] at h4
  simp only [smp_un.2] at h5
  simp only [smp_da] at h6
  simp only [smp_fi.1, smp_fi.2] at h7
  simp only [smp_cl] at h8
  have hS := law_sample
  have hS2 := law_sample2
  have e1 : smp.av smpV = .agg [I 100, I 102, I 0, I 2, smpV] := rfl
  have e2 : smp2.av smpV2 = .agg [I 100, I 102, I 0, I 2, smpV2] := rfl
  have s1 : smpV.scalar = true := rfl
  have s2 : smpV.cells = [smpV] := rfl
  rw [e1] at hS
  rw [e2] at hS2
  simp only [e1] at h1 h2 h3 h4 h5 h6 h7
  simp only [e2] at h8
  clear k1 k2 k3 k4 k5 e1 e2
  generalize smpV = sv at *
  generalize smpV2 = sw at *
  generalize (smp.untilP 81).1 = u at *
  simp only [List.map_cons, List.map_nil] at h6
  refine (callFL_eq fn13 rfl (by simp [Tryd.f13])).trans ?_
  simp (maxSteps := 1000000) (implicitDefEqProofs := false) (disch := first | rfl | omega | assumption) only [go_sem, hS, s1, s2, h1, h2, h3, h4, h5, h6, law_span, law_read]
  rw [chkK_of]; rotate_left; kernel_rfl
  simp (maxSteps := 1000000) (implicitDefEqProofs := false) (disch := first | rfl | omega | assumption) only [go_sem, hS, hS2, s1, s2, h1, h2, h3, h4, h5, h6, h7, h8, law_span, law_read]
  rw [chkK_of]; rotate_left; kernel_rfl
  simp (maxSteps := 1000000) (implicitDefEqProofs := false) (disch := first | rfl | omega | assumption) only [go_sem, hS, hS2, s1, s2, h1, h2, h3, h4, h5, h6, h7, h8, law_span, law_read]

end Go.Ab
/-
  WearShort, walked: its loops.
-/
namespace Go.Ab
open Go.Proofs
set_option linter.unusedSimpArgs false
set_option linter.unusedVariables false
set_option maxRecDepth 100000

variable {H : Heap}

def U8 (n : Int) : AV := .int .u8 n

/-- Days, by numbers. -/
def daysD (l : List Int) : List Int := (l.take 10).map (· % 21)

theorem daysD_len (l : List Int) : (daysD l).length ≤ 10 := by simp [daysD]; omega

theorem emod21 (n : Int) : 0 ≤ n % 21 ∧ n % 21 < 21 := ⟨Int.emod_nonneg n (by decide), Int.emod_lt_of_pos n (by decide)⟩

theorem daysD_bd (l : List Int) : ∀ i, i < (daysD l).length → 0 ≤ (daysD l).getD i 0 ∧ (daysD l).getD i 0 ≤ 20 := by
  intro i hi
  have : (daysD l).getD i 0 ∈ daysD l := by simp [hi]
  simp only [daysD, List.mem_map] at this
  obtain ⟨x, _, hx⟩ := this
  have := emod21 x
  simp only [daysD] at hx ⊢
  omega

theorem daysD_off (l : List Int) : offB (daysD l) = false := by
  rw [offB, anyF_false]
  intro i _ hi
  have := daysD_bd l i (by omega)
  rw [Bool.not_eq_false', wi_iff]
  exact this

theorem take_snoc (l : List Int) {j : Nat} (h : j < l.length) : l.take (j + 1) = l.take j ++ [l.getD j 0] := by
  rw [List.take_add_one, List.getD, List.getElem?_eq_getElem h]; rfl

theorem days_loop {l : List Int} {v : AV} (hv : SlOk H 1 v (l.map U8)) (hl : l.length ≤ 9223372036854775807) (hu : ∀ i, i < l.length → 0 ≤ l.getD i 0 ∧ l.getD i 0 ≤ 255) (o : AO) (a3 a9 a10 a11 a12 a13 a14 a15 a16 : AV) (K : List Item) (R : Option Done) (hK : ∀ E : Env, E.get 4 = .ptr H.length 0 → E.get 9 = a9 → E.get 10 = a10 → E.get 11 = a11 → E.get 12 = a12 → E.get 13 = a13 → E.get 14 = a14 → E.get 15 = a15 → E.get 16 = a16 → E.get 17 = .gsl (H.length + 1) (daysD l).length → Option.map (finishC H.length) (execL cfg0 prog0 ⟨7, none, false, H.length⟩ K ⟨E, [], H ++ [o, .grow 1 ((daysD l).map I)], none⟩) = R)  :
    ∀ (q j : Nat), j + q = l.length → ∀ (xs : List AV), ∀ (m : Nat), xs = (daysD (l.take j)).map I → m = xs.length → ∀ E : Env, E.get 3 = a3 → E.get 4 = .ptr H.length 0 → E.get 9 = a9 → E.get 10 = a10 → E.get 11 = a11 → E.get 12 = a12 → E.get 13 = a13 → E.get 14 = a14 → E.get 15 = a15 → E.get 16 = a16 → E.get 17 = .gsl (H.length + 1) m → E.get 60 = v → E.get 61 = I l.length → E.get 62 = I j →
    Option.map (finishC H.length) (execL cfg0 prog0 ⟨7, none, false, H.length⟩ (loopIt Tryd.f7 9 :: .inBlock 0 :: K) ⟨E, [], H ++ [o, .grow 1 xs], none⟩) = R := by
  intro q
  obtain ⟨b1, b2, b3, b4, b5⟩ := hv.fA (d := 0)
  induction q with
  | zero =>
    intro j hj xs m hx hm E g3 g4 g9 g10 g11 g12 g13 g14 g15 g16 g17 g60 g61 g62
    have hk' : ¬ (j : Int) < ((l.length : Nat) : Int) := by omega
    have ej : j = l.length := by omega
    have hx2 : xs = (daysD l).map I := by rw [hx, List.take_of_length_le (by omega)]
    have hm2 : m = (daysD l).length := by rw [hm, hx2, List.length_map]
    subst hm2
    subst hx2
    simp only [loopIt, todoPast, todoAt, todoOf, firstReg, ↓reduceIte, Option.some.injEq, Nat.reduceEqDiff, reduceCtorEq, Tryd.f7]
    rw [execL_inLoop]
    simp (maxSteps := 1000000) (implicitDefEqProofs := false) (disch := first | rfl | omega | assumption) only [go_sem, g3, g4, g9, g10, g11, g12, g13, g14, g15, g16, g17, g60, g61, g62, ltT, ltF, leT, leF, hk']
    exact hK _ (by exact g4) (by exact g9) (by exact g10) (by exact g11) (by exact g12) (by exact g13) (by exact g14) (by exact g15) (by exact g16) (by exact g17)
  | succ q ih =>
    intro j hj xs m hx hm E g3 g4 g9 g10 g11 g12 g13 g14 g15 g16 g17 g60 g61 g62
    have hk' : (j : Int) < ((l.length : Nat) : Int) := by omega
    have hk2 : j < l.length := by omega
    have hu1 := hu j hk2
    have hn := emod21 (l.getD j 0)
    have e1 : (l.getD j 0).tmod 21 = l.getD j 0 % 21 := Int.tmod_eq_emod_of_nonneg hu1.1
    by_cases hj10 : j < 10
    · have hc : (j : Int) < 10 := by omega
      have ed : daysD (l.take (j + 1)) = daysD (l.take j) ++ [l.getD j 0 % 21] := by
        have h1 : (l.take (j + 1)).take 10 = l.take (j + 1) := List.take_of_length_le (by rw [List.length_take]; omega)
        have h2 : (l.take j).take 10 = l.take j := List.take_of_length_le (by rw [List.length_take]; omega)
        simp only [daysD]
        rw [h1, h2, take_snoc l hk2, List.map_append]
        rfl
      have hml : xs.length ≤ 10 := by rw [hx, List.length_map]; exact daysD_len _
      have hof : ∀ x : Int, addElem (H ++ [o, .grow 1 xs]) 1 false (.gsl (H.length + 1) m) [I x] = some (.gsl (H.length + 1) (m + 1), H ++ [o, .grow 1 (xs ++ [I x])]) := by
        intro x
        rw [add_gsl (by simp [get_at']) hm.symm rfl rfl (by simp; omega), set_at']
        rfl
      simp only [loopIt, todoPast, todoAt, todoOf, firstReg, ↓reduceIte, Option.some.injEq, Nat.reduceEqDiff, reduceCtorEq, Tryd.f7]
      rw [execL_inLoop]
      simp (maxSteps := 1000000) (implicitDefEqProofs := false) (disch := first | rfl | omega | assumption) only [go_sem, g3, g4, g9, g10, g11, g12, g13, g14, g15, g16, g17, g60, g61, g62, ltT, ltF, leT, leF, hk', b1, b2, b3, b4, U8, hc, e1, hof]
      exact ih (j + 1) (by omega) _ (m + 1) (by rw [ed, hx, List.map_append]; rfl) (by rw [hm, List.length_append]; rfl) _ (by exact g3) (by exact g4) (by exact g9) (by exact g10) (by exact g11) (by exact g12) (by exact g13) (by exact g14) (by exact g15) (by exact g16) (by rfl) (by exact g60) (by exact g61) (by rfl)
    · have hc : ¬ (j : Int) < 10 := by omega
      have ed : daysD (l.take (j + 1)) = daysD (l.take j) := by
        have h1 : (l.take (j + 1)).take 10 = l.take 10 := by rw [List.take_take, Nat.min_eq_left (by omega)]
        have h2 : (l.take j).take 10 = l.take 10 := by rw [List.take_take, Nat.min_eq_left (by omega)]
        simp only [daysD, h1, h2]
      simp only [loopIt, todoPast, todoAt, todoOf, firstReg, ↓reduceIte, Option.some.injEq, Nat.reduceEqDiff, reduceCtorEq, Tryd.f7]
      rw [execL_inLoop]
      simp (maxSteps := 1000000) (implicitDefEqProofs := false) (disch := first | rfl | omega | assumption) only [go_sem, g3, g4, g9, g10, g11, g12, g13, g14, g15, g16, g17, g60, g61, g62, ltT, ltF, leT, leF, hk', b1, b2, b3, b4, U8, hc]
      exact ih (j + 1) (by omega) xs m (by rw [ed]; exact hx) hm _ (by exact g3) (by exact g4) (by exact g9) (by exact g10) (by exact g11) (by exact g12) (by exact g13) (by exact g14) (by exact g15) (by exact g16) (by exact g17) (by exact g60) (by exact g61) (by rfl)

theorem at_zero_L {w : Wea} (h : w.es.length = 0) (r : Nat) (q : Int × Int) : w.at r q 0 = q := by
  simp only [Wea.at, Nat.zero_le, if_true, h, Nat.sub_zero, Wea.bk, Wea.fwd]

/-- The length after so many events; at first: what is known of it. -/
def Wea.lst (w : Wea) (j : Nat) : Int × Int := if j = 0 then w.L else w.at w.rd w.L j

theorem lst_last (w : Wea) : w.lst w.es.length = w.lastP := by
  simp only [Wea.lst, Wea.lastP]
  by_cases h : w.es.length = 0
  · rw [if_pos h, h, at_zero_L h]
  · rw [if_neg h]

theorem after_ok {w : Wea} (hv : w.valid = true) (hc : w.can = true) {j : Nat} (hj : j < w.es.length) : w.afterP j = w.at w.rd w.L (j + 1) ∧ w.gate 0 (wi j 0 (w.es.length - 1)) = 0 := by
  have hi : wi (j : Int) 0 (w.es.length - 1) = true := wi_iff.2 ⟨by omega, by omega⟩
  have hg : w.gate 0 (wi j 0 (w.es.length - 1)) = 0 := by
    simp only [Wea.gate, hv, hi, hc, if_true, (show (0 : Int) ≤ 10 by decide)]
  exact ⟨by simp only [Wea.afterP, hg, if_true, Int.toNat_natCast], hg⟩

theorem ltI (l : List Int) (n : Nat) : ltL n (l.map I) = true := by
  induction l with
  | nil => rfl
  | cons x l ih => simpa [ltL, AV.lt] using ih

theorem lst_succ (w : Wea) (j : Nat) : w.lst (j + 1) = w.at w.rd w.L (j + 1) := by simp only [Wea.lst]; rw [if_neg (by omega)]

theorem short_loop {w : Wea} {ve : AV} (h : WeaAt H w ve) (hv : w.valid = true) (hcan : w.can = true) (lim : Int) (D : List Int) (a13 a14 a15 a16 a20 a21 : Int) (K : List Item) (R : Option Done) (hK : ∀ E : Env, E.get 4 = .ptr H.length 0 → E.get 9 = I lim → E.get 13 = I a13 → E.get 14 = I a14 → E.get 15 = I a15 → E.get 16 = I a16 → E.get 17 = .gsl (H.length + 1) D.length → E.get 20 = I a20 → E.get 21 = I a21 → E.get 22 = .ptr (H.length + 2) 0 → Option.map (finishC H.length) (execL cfg0 prog0 ⟨7, none, false, H.length⟩ K ⟨E, [], H ++ [.box (.agg [I w.llo, I w.lhi, I w.ulo, I w.uhi, ve]), .grow 1 (D.map I), .box (KV (w.lst w.es.length))], none⟩) = R)  :
    ∀ (q j : Nat), j + q = w.es.length → ∀ (G : Heap), ∀ E : Env, E.get 4 = .ptr H.length 0 → E.get 9 = I lim → E.get 10 = I (maskN (sureF (w.at w.rd w.L) lim) w.es.length) → E.get 11 = I (maskN (perF (w.at w.rd w.L) lim) w.es.length) → E.get 13 = I a13 → E.get 14 = I a14 → E.get 15 = I a15 → E.get 16 = I a16 → E.get 17 = .gsl (H.length + 1) D.length → E.get 20 = I a20 → E.get 21 = I a21 → E.get 22 = .ptr (H.length + 2) 0 → E.get 125 = I w.es.length → E.get 126 = I j →
    Option.map (finishC H.length) (execL cfg0 prog0 ⟨7, none, false, H.length⟩ (loopIt Tryd.f7 19 :: .inBlock 2 :: K) ⟨E, [], H ++ (.box (.agg [I w.llo, I w.lhi, I w.ulo, I w.uhi, ve]) :: .grow 1 (D.map I) :: .box (KV (w.lst j)) :: G), none⟩) = R := by
  intro q
  have ho := w.valid_iff.1 hv
  have h8 := ho.many
  have s1 := h.es.scal
  have t1 := h.es.ltn 3
  have t2 := h.es.lt0
  have t3 := fun n => ltI D n
  induction q with
  | zero =>
    intro j hj G E g4 g9 g10 g11 g13 g14 g15 g16 g17 g20 g21 g22 g125 g126
    have hk' : ¬ (j : Int) < ((w.es.length : Nat) : Int) := by omega
    have ej : j = w.es.length := by omega
    subst ej
    simp only [loopIt, todoPast, todoAt, todoOf, firstReg, ↓reduceIte, Option.some.injEq, Nat.reduceEqDiff, reduceCtorEq, Tryd.f7]
    rw [execL_inLoop]
    simp (maxSteps := 1000000) (implicitDefEqProofs := false) (disch := first | rfl | omega | assumption) only [go_sem, g4, g9, g10, g11, g13, g14, g15, g16, g17, g20, g21, g22, g125, g126, ltT, ltF, leT, leF, hk', s1, t1, t3]
    exact hK _ (by rfl) (by rfl) (by rfl) (by rfl) (by rfl) (by rfl) (by rfl) (by rfl) (by rfl) (by rfl)
  | succ q ih =>
    intro j hj G E g4 g9 g10 g11 g13 g14 g15 g16 g17 g20 g21 g22 g125 g126
    have hk' : (j : Int) < ((w.es.length : Nat) : Int) := by omega
    have hk2 : j < w.es.length := by omega
    simp only [loopIt, todoPast, todoAt, todoOf, firstReg, ↓reduceIte, Option.some.injEq, Nat.reduceEqDiff, reduceCtorEq, Tryd.f7]
    rw [execL_inLoop]
    have hA := fun (G : Heap) => we_After (h.app G) (by omega) j
    obtain ⟨hA1, hA2⟩ := after_ok hv hcan hk2
    simp only [hA1, hA2, Wea.av] at hA
    have m1 := maskN_lt (sureF (w.at w.rd w.L) lim) w.es.length
    have m2 := maskN_lt (perF (w.at w.rd w.L) lim) w.es.length
    have hp : (2 : Nat) ^ w.es.length ≤ 2 ^ 8 := Nat.pow_le_pow_right (by omega) (by omega)
    have hb1 := bitI (j := j) (show maskN (sureF (w.at w.rd w.L) lim) w.es.length < 2 ^ 60 by omega)
    have hb2 := bitI (j := j) (show maskN (perF (w.at w.rd w.L) lim) w.es.length < 2 ^ 60 by omega)
    have c1 := maskN_bit (sureF (w.at w.rd w.L) lim) j w.es.length
    have c2 := maskN_bit (perF (w.at w.rd w.L) lim) j w.es.length
    simp only [hk2, decide_true, Bool.true_and] at c1 c2
    have hsh := fun (s : Nat) => shrN (s := s) (j := j) (by omega)
    have hlst := lst_succ w j
    have hab := at_bd ho (show j + 1 ≤ w.es.length by omega)
    simp only [sureF, perF] at c1 c2
    generalize w.at w.rd w.L (j + 1) = p at hA hlst hab c1 c2
    simp (maxSteps := 1000000) (implicitDefEqProofs := false) (disch := first | rfl | omega | assumption) only [go_sem, g4, g9, g10, g11, g13, g14, g15, g16, g17, g20, g21, g22, g125, g126, ltT, ltF, leT, leF, hk', s1, t1, t3, hA, hb1, hb2, hsh, and_one, c1, c2]
    rw [chkK_of]; rotate_left; kernel_rfl
    simp (maxSteps := 1000000) (implicitDefEqProofs := false) (disch := first | rfl | omega | assumption) only [go_sem, g4, g9, g10, g11, g13, g14, g15, g16, g17, g20, g21, g22, g125, g126, ltT, ltF, leT, leF, hk', s1, t1, t3, hA, hb1, hb2, hsh, and_one, c1, c2, bne_self_eq_false]
    have ih' := ih (j + 1) (by omega)
    rw [hlst] at ih'
    exact ih' [.box (.agg [I p.1, I p.2])] _ (by rfl) (by rfl) (by rfl) (by rfl) (by rfl) (by rfl) (by rfl) (by rfl) (by rfl) (by rfl) (by rfl) (by rfl) (by rfl) (by rfl)

end Go.Ab
/-
  WearShort, walked: on which day.
-/
namespace Go.Ab
open Go.Proofs
set_option linter.unusedSimpArgs false
set_option linter.unusedVariables false
set_option maxRecDepth 100000

variable {H : Heap}

def dayC (u lim : Int) (D : List Int) (x : Int) (j : Nat) : Bool := decide (leftD u D x (j + 1) < lim)
def dayQ (u lim : Int) (D : List Int) (x : Int) : Int × Int := if firstN (dayC u lim D x) 0 D.length < D.length then ((firstN (dayC u lim D x) 0 D.length : Nat), 0) else (0, 4)
def dayG (u lim : Int) (D : List Int) (x : Int) (j : Nat) : Prop := firstN (dayC u lim D x) 0 D.length = firstN (dayC u lim D x) j (D.length - j)

theorem dayQ_end {u lim : Int} {D : List Int} {x : Int} (h : dayG u lim D x D.length) : dayQ u lim D x = (0, 4) := by
  simp only [dayG, Nat.sub_self, firstN] at h
  simp only [dayQ, h, Nat.lt_irrefl, if_false]

theorem dayQ_hit {u lim : Int} {D : List Int} {x : Int} {j : Nat} (h : dayG u lim D x j) (hj : j < D.length) (hc : leftD u D x (j + 1) < lim) : dayQ u lim D x = ((j : Int), 0) := by
  have e : D.length - j = (D.length - j - 1) + 1 := by omega
  have hb : dayC u lim D x j = true := by simp only [dayC, decide_eq_true_eq]; exact hc
  rw [dayG, e, firstN, hb, if_pos rfl] at h
  simp only [dayQ, h, hj, if_true]

theorem dayG_step {u lim : Int} {D : List Int} {x : Int} {j : Nat} (h : dayG u lim D x j) (hj : j < D.length) (hc : ¬ leftD u D x (j + 1) < lim) : dayG u lim D x (j + 1) := by
  have e : D.length - j = (D.length - (j + 1)) + 1 := by omega
  have hb : dayC u lim D x j = false := by simp only [dayC, decide_eq_false_iff_not]; exact hc
  rw [dayG, e, firstN, hb] at h
  exact h

theorem day_loop {w : Wea} {ve : AV} (hu : 0 ≤ w.uhi ∧ w.uhi ≤ 3) (lim : Int) (hlim : -100 ≤ lim ∧ lim ≤ 400) (D : List Int) (hDl : D.length ≤ 10) (hD : ∀ i, i < D.length → 0 ≤ D.getD i 0 ∧ D.getD i 0 ≤ 20) (x : Int) (hx : -4000000 ≤ x ∧ x ≤ 4000000) (s : Int × Int) :
    ∀ (q j : Nat), j + q = D.length → dayG w.uhi lim D x j → ∀ E : Env, E.get 4 = .ptr H.length 0 → E.get 9 = I lim → E.get 20 = I (dayQ w.uhi lim D x).1 → E.get 21 = I (dayQ w.uhi lim D x).2 → E.get 26 = I (leftD w.uhi D x j) → E.get 236 = .gsl (H.length + 1) D.length → E.get 237 = I D.length → E.get 238 = I j →
    Option.map (finishC H.length) (execL cfg0 prog0 ⟨7, none, false, H.length⟩ (todoAt Tryd.f7 32) ⟨E, [], H ++ [.box (.agg [I w.llo, I w.lhi, I w.ulo, I w.uhi, ve]), .grow 1 (D.map I), .box (KV s)], none⟩) = some ⟨.ret (.bool true), H, none⟩ := by
  intro q
  have hS : SlOk (H ++ [.box (.agg [I w.llo, I w.lhi, I w.ulo, I w.uhi, ve]), .grow 1 (D.map I), .box (KV s)]) 1 (.gsl (H.length + 1) D.length) (D.map I) := ⟨⟨by simp [get_at'], by simp⟩, by simp [AV.cells]⟩
  obtain ⟨b1, b2, b3, b4, b5⟩ := hS.fA (d := 0)
  have hle := leftD_bd hu hD x
  induction q with
  | zero =>
    intro j hj hg E g4 g9 g20 g21 g26 g236 g237 g238
    have hk' : ¬ (j : Int) < ((D.length : Nat) : Int) := by omega
    have ej : j = D.length := by omega
    subst ej
    have hq := dayQ_end hg
    simp only [loopIt, todoPast, todoAt, todoOf, firstReg, ↓reduceIte, Option.some.injEq, Nat.reduceEqDiff, reduceCtorEq, Tryd.f7]
    rw [execL_inLoop]
    simp (maxSteps := 1000000) (implicitDefEqProofs := false) (disch := first | rfl | omega | assumption) only [go_sem, g4, g9, g20, g21, g26, g236, g237, g238, ltT, ltF, leT, leF, hk', hq, law_awake]
  | succ q ih =>
    intro j hj hg E g4 g9 g20 g21 g26 g236 g237 g238
    have hk' : (j : Int) < ((D.length : Nat) : Int) := by omega
    have hk2 : j < D.length := by omega
    have hle1 := hle (j + 1) (by omega)
    have hle0 := hle j (by omega)
    have hm := mul_bd (hD j hk2) hu
    have e1 : leftD w.uhi D x j - D.getD j 0 * w.uhi = leftD w.uhi D x (j + 1) := rfl
    by_cases hc : leftD w.uhi D x (j + 1) < lim
    · have hq := dayQ_hit hg hk2 hc
      simp only [loopIt, todoPast, todoAt, todoOf, firstReg, ↓reduceIte, Option.some.injEq, Nat.reduceEqDiff, reduceCtorEq, Tryd.f7]
      rw [execL_inLoop]
      simp (maxSteps := 1000000) (implicitDefEqProofs := false) (disch := first | rfl | omega | assumption) only [go_sem, g4, g9, g20, g21, g26, g236, g237, g238, ltT, ltF, leT, leF, hk', b1, b2, b3, b4, b5, e1, hc, hq, law_awake]
    · have hg' := dayG_step hg hk2 hc
      simp only [loopIt, todoPast, todoAt, todoOf, firstReg, ↓reduceIte, Option.some.injEq, Nat.reduceEqDiff, reduceCtorEq, Tryd.f7]
      rw [execL_inLoop]
      simp (maxSteps := 1000000) (implicitDefEqProofs := false) (disch := first | rfl | omega | assumption) only [go_sem, g4, g9, g20, g21, g26, g236, g237, g238, ltT, ltF, leT, leF, hk', b1, b2, b3, b4, b5, e1, hc, law_awake]
      exact ih (j + 1) (by omega) hg' _ (by exact g4) (by exact g9) (by exact g20) (by exact g21) (by rfl) (by exact g236) (by exact g237) (by rfl)


def untN (u d : Int) : Int := if u = 0 then 100 else mn 100 (d.tdiv u)

theorem untN_facts {u d : Int} (hu : 0 ≤ u ∧ u ≤ 3) (hd : 0 ≤ d) : 0 ≤ untN u d ∧ untN u d ≤ 100 ∧ 0 ≤ d - untN u d * u ∧ (untN u d < 100 → d - (untN u d + 1) * u < 0) := by
  have hc : u = 0 ∨ u = 1 ∨ u = 2 ∨ u = 3 := by omega
  rcases hc with rfl | rfl | rfl | rfl
  · simp [untN]; omega
  · simp only [untN, mn, Int.tdiv_eq_ediv_of_nonneg hd]
    simp
    omega
  · simp only [untN, mn, Int.tdiv_eq_ediv_of_nonneg hd]
    simp
    omega
  · simp only [untN, mn, Int.tdiv_eq_ediv_of_nonneg hd]
    simp
    omega

theorem untN_mono {u d e : Int} (hu : 0 ≤ u ∧ u ≤ 3) (hd : 0 ≤ d) (he : d ≤ e) : untN u d ≤ untN u e := by
  have hc : u = 0 ∨ u = 1 ∨ u = 2 ∨ u = 3 := by omega
  have he0 : 0 ≤ e := by omega
  rcases hc with rfl | rfl | rfl | rfl
  · simp [untN]
  · simp only [untN, mn, Int.tdiv_eq_ediv_of_nonneg hd, Int.tdiv_eq_ediv_of_nonneg he0]
    simp
    omega
  · simp only [untN, mn, Int.tdiv_eq_ediv_of_nonneg hd, Int.tdiv_eq_ediv_of_nonneg he0]
    simp
    omega
  · simp only [untN, mn, Int.tdiv_eq_ediv_of_nonneg hd, Int.tdiv_eq_ediv_of_nonneg he0]
    simp
    omega

end Go.Ab
/-
  WearShort, walked.
-/
namespace Go.Ab
open Go.Proofs
set_option linter.unusedSimpArgs false
set_option linter.unusedVariables false
set_option maxRecDepth 100000

variable {H : Heap}

theorem rem420 {n : Int} (h : 0 ≤ n) : n.tmod 420 = n % 420 ∧ 0 ≤ n % 420 ∧ n % 420 < 420 := ⟨Int.tmod_eq_emod_of_nonneg h, Int.emod_nonneg _ (by decide), Int.emod_lt_of_pos _ (by decide)⟩
theorem rem50 {n : Int} (h : 0 ≤ n) : n.tmod 50 = n % 50 ∧ 0 ≤ n % 50 ∧ n % 50 < 50 := ⟨Int.tmod_eq_emod_of_nonneg h, Int.emod_nonneg _ (by decide), Int.emod_lt_of_pos _ (by decide)⟩

theorem mul_bd3 {m u : Int} (hm : 0 ≤ m ∧ m ≤ 100) (hu : 0 ≤ u ∧ u ≤ 3) : 0 ≤ m * u ∧ m * u ≤ 300 := by
  have hc : u = 0 ∨ u = 1 ∨ u = 2 ∨ u = 3 := by omega
  rcases hc with rfl | rfl | rfl | rfl <;> omega
theorem mul_bd4 {m u : Int} (hm : 0 ≤ m ∧ m ≤ 100) (hu : 0 ≤ u ∧ u ≤ 3) : 0 ≤ (m + 1) * u ∧ (m + 1) * u ≤ 303 := by
  have hc : u = 0 ∨ u = 1 ∨ u = 2 ∨ u = 3 := by omega
  rcases hc with rfl | rfl | rfl | rfl <;> omega

theorem gate0 {w : Wea} (hv : w.valid = true) (hc : w.can = true) {d : Int} (hd : d ≤ 10) {b : Bool} (hb : b = true) : w.gate d b = 0 := by
  simp only [Wea.gate, hv, hc, hd, hb, if_true]

theorem dayP_can {w : Wea} {lim : Int} {D : List Int} (hg : w.gate D.length (dayOk lim D) = 0) : w.dayP lim D = dayQ w.uhi lim D w.lastP.1 := by
  simp only [Wea.dayP, hg, if_true]
  rfl

theorem untilP_can {w : Wea} {lim : Int} (hg : w.gate 0 (wi lim (-1000) 1000) = 0) : w.untilP lim = if lim ≤ w.lastP.1 then (untN w.uhi (w.lastP.1 - lim), 0) else (0, 4) := by
  simp only [Wea.untilP, hg, if_true]
  rfl

theorem law_WearShort {w : Wea} {ve v : AV} (h : WeaAt H w ve) {l : List Int} (hv' : SlOk H 1 v (l.map U8)) (hll : l.length ≤ 9223372036854775807) (hb : ∀ i, i < l.length → 0 ≤ l.getD i 0 ∧ l.getD i 0 ≤ 255) (n k : Int) (hn : 0 ≤ n ∧ n ≤ 65535) (hk : 0 ≤ k ∧ k ≤ 255) :
    callFL cfg0 prog0 false 7 [w.av ve, .int .u16 n, v, .int .u8 k] H none = some ⟨.ret (.bool true), H, none⟩ := by
  have s1 := h.es.scal
  have s2 := hv'.scal
  have s3 := hv'.len
  rw [List.length_map] at s3
  have hF := fun G : Heap => law_fine (h.app G)
  obtain ⟨r1, r2, r3⟩ := rem420 hn.1
  obtain ⟨q1, q2, q3⟩ := rem50 hk.1
  have hav : w.av ve = .agg [I w.llo, I w.lhi, I w.ulo, I w.uhi, ve] := rfl
  rw [hav]
  cases hf : (!w.farB 0 && w.valid)
  · simp only [hf, Wea.av] at hF
    refine (callFL_eq fn7 rfl (by simp [Tryd.f7])).trans ?_
    simp (maxSteps := 1000000) (implicitDefEqProofs := false) (disch := first | rfl | omega | assumption) only [go_sem, ltT, ltF, leT, leF, s1, s2, s3, hF, law_awake]
    done
  · simp only [Bool.and_eq_true, Bool.not_eq_true'] at hf
    obtain ⟨hfar, hv⟩ := hf
    have ho := w.valid_iff.1 hv
    have h8 := ho.many
    have hl : w.es.length ≤ 1000 := by omega
    obtain ⟨lim, hlim⟩ : ∃ lim, n % 420 - 60 = lim := ⟨_, rfl⟩
    obtain ⟨lim2, hlim2⟩ : ∃ lim2, lim - k % 50 = lim2 := ⟨_, rfl⟩
    have hB := fun G : Heap => we_Below (h.app G) hl lim
    have hU := fun G : Heap => we_Until (h.app G) hl lim
    have hU2 := fun G : Heap => we_Until (h.app G) hl lim2
    have hDl := daysD_len l
    have hS : ∀ (o : AO), SlOk (H ++ [o, .grow 1 ((daysD l).map I)]) 1 (.gsl (H.length + 1) (daysD l).length) ((daysD l).map I) := fun o => ⟨⟨by simp [get_at'], by simp⟩, by simp [AV.cells]⟩
    have hD := fun (o : AO) => we_Day (h.app [o, .grow 1 ((daysD l).map I)]) hl (hS o) (by omega) lim
    have w1 : wi lim (-1000) 1000 = true := wi_iff.2 ⟨by omega, by omega⟩
    have w2 : wi lim2 (-1000) 1000 = true := wi_iff.2 ⟨by omega, by omega⟩
    have hoff := daysD_off l
    have hdk : dayOk lim (daysD l) = true := by simp [dayOk, w1, hoff]
    have c10 : ((daysD l).length : Int) ≤ 10 := by omega
    rcases Bool.eq_false_or_eq_true w.can with hc | hc
    rotate_left
    · simp only [hfar, hv, Wea.av, Wea.sureP, Wea.perP, Wea.untilP, Wea.dayP, Wea.gate, w1, w2, hdk, c10, hc, if_true, if_false, Bool.false_eq_true, (show (0 : Int) ≤ 10 by decide), (show ¬ (10 : Int) = 0 by decide), Bool.not_false, Bool.and_self] at hF hB hU hU2 hD
      refine (callFL_eq fn7 rfl (by simp [Tryd.f7])).trans ?_
      simp (maxSteps := 1000000) (implicitDefEqProofs := false) (disch := first | rfl | omega | assumption) only [go_sem, ltT, ltF, leT, leF, s1, s2, s3, hF, hB, hU, hU2, law_awake, r1, q1, hlim, hlim2]
      refine days_loop hv' hll hb _ _ _ _ _ _ _ _ _ _ _ _ ?_ l.length 0 (by omega) [] 0 rfl rfl _ (by rfl) (by rfl) (by rfl) (by rfl) (by rfl) (by rfl) (by rfl) (by rfl) (by rfl) (by rfl) (by rfl) (by rfl) (by rfl) (by rfl)
      intro E e4 e9 e10 e11 e12 e13 e14 e15 e16 e17
      simp (maxSteps := 1000000) (implicitDefEqProofs := false) (disch := first | rfl | omega | assumption) only [go_sem, ltT, ltF, leT, leF, e9, e10, e11, e12, e13, e14, e15, e16, e17, e4, hD, law_awake]
    · have g1 := gate0 hv hc (d := 0) (by decide) w1
      have g2 := gate0 hv hc (d := 0) (by decide) w2
      have g3 := gate0 hv hc c10 hdk
      have u1 := untilP_can g1
      have u2 := untilP_can g2
      have d1 := dayP_can g3
      simp only [hfar, hv, Wea.av, Wea.sureP, Wea.perP, u1, u2, d1, g1, g2, g3, if_true, if_false, Bool.false_eq_true, Bool.not_false, Bool.and_self] at hF hB hU hU2 hD
      have s4 := h.es.len
      rw [List.length_map] at s4
      have hu0 : 0 ≤ w.uhi ∧ w.uhi ≤ 3 := by have := ho.use; omega
      have hab := at_bd ho (Nat.le_refl _)
      simp only [bd] at hab
      have hlb : -4000000 ≤ w.lastP.1 ∧ w.lastP.1 ≤ 4000000 := by simp only [Wea.lastP]; omega
      by_cases hc1 : lim ≤ w.lastP.1
      · have hc2 : lim2 ≤ w.lastP.1 := by omega
        obtain ⟨n1, n2, n3, n4⟩ := untN_facts hu0 (show 0 ≤ w.lastP.1 - lim by omega)
        have n5 := untN_mono hu0 (show 0 ≤ w.lastP.1 - lim by omega) (show w.lastP.1 - lim ≤ w.lastP.1 - lim2 by omega)
        simp only [hc1, hc2, if_true] at hU hU2
        generalize untN w.uhi (w.lastP.1 - lim) = m1 at hU n1 n2 n3 n4 n5
        generalize untN w.uhi (w.lastP.1 - lim2) = m2 at hU2 n5
        refine (callFL_eq fn7 rfl (by simp [Tryd.f7])).trans ?_
        simp (maxSteps := 1000000) (implicitDefEqProofs := false) (disch := first | rfl | omega | assumption) only [go_sem, ltT, ltF, leT, leF, s1, s2, s3, hF, hB, hU, hU2, law_awake, r1, q1, hlim, hlim2]
        refine days_loop hv' hll hb _ _ _ _ _ _ _ _ _ _ _ _ ?_ l.length 0 (by omega) [] 0 rfl rfl _ (by rfl) (by rfl) (by rfl) (by rfl) (by rfl) (by rfl) (by rfl) (by rfl) (by rfl) (by rfl) (by rfl) (by rfl) (by rfl) (by rfl)
        intro E e4 e9 e10 e11 e12 e13 e14 e15 e16 e17
        simp (maxSteps := 1000000) (implicitDefEqProofs := false) (disch := first | rfl | omega | assumption) only [go_sem, ltT, ltF, leT, leF, e9, e10, e11, e12, e13, e14, e15, e16, e17, e4, hD, law_awake, s1, s2, s3, s4]
        refine short_loop h hv hc lim (daysD l) _ _ _ _ _ _ _ _ ?_ w.es.length 0 (by omega) [] _ (by exact e4) (by exact e9) (by exact e10) (by exact e11) (by exact e13) (by exact e14) (by exact e15) (by exact e16) (by exact e17) (by rfl) (by rfl) (by rfl) (by rfl) (by rfl)
        intro E f4 f9 f13 f14 f15 f16 f17 f20 f21 f22
        rw [lst_last]
        have p1 : 0 ≤ m1 * w.uhi ∧ m1 * w.uhi ≤ 300 := mul_bd3 ⟨n1, n2⟩ hu0
        have p2 : 0 ≤ (m1 + 1) * w.uhi ∧ (m1 + 1) * w.uhi ≤ 303 := mul_bd4 ⟨n1, n2⟩ hu0
        have k1 : ¬ m1 < 0 := by omega
        have k2 : ¬ 100 < m1 := by omega
        have k3 : ¬ w.lastP.1 - m1 * w.uhi < lim := by omega
        have k5 : ¬ m2 < m1 := by omega
        have dg : dayG w.uhi lim (daysD l) w.lastP.1 0 := rfl
        by_cases hm : m1 < 100
        · have k4 : ¬ lim ≤ w.lastP.1 - (m1 + 1) * w.uhi := by have := n4 hm; omega
          simp (maxSteps := 1000000) (implicitDefEqProofs := false) (disch := first | rfl | omega | assumption) only [go_sem, ltT, ltF, leT, leF, f4, f9, f13, f14, f15, f16, f17, f20, f21, f22, hc1, k1, k2, k3, k4, k5, hm]
          exact day_loop hu0 lim (by omega) (daysD l) hDl (daysD_bd l) w.lastP.1 hlb _ (daysD l).length 0 (by omega) dg _ (by exact f4) (by exact f9) (by exact f20) (by exact f21) (by rfl) (by rfl) (by rfl) (by rfl)
        · simp (maxSteps := 1000000) (implicitDefEqProofs := false) (disch := first | rfl | omega | assumption) only [go_sem, ltT, ltF, leT, leF, f4, f9, f13, f14, f15, f16, f17, f20, f21, f22, hc1, k1, k2, k3, k5, hm]
          exact day_loop hu0 lim (by omega) (daysD l) hDl (daysD_bd l) w.lastP.1 hlb _ (daysD l).length 0 (by omega) dg _ (by exact f4) (by exact f9) (by exact f20) (by exact f21) (by rfl) (by rfl) (by rfl) (by rfl)
      · simp only [hc1, if_false] at hU
        obtain ⟨m2, z2, hm2⟩ : ∃ m2 z2 : Int, (if lim2 ≤ w.lastP.1 then (untN w.uhi (w.lastP.1 - lim2), (0 : Int)) else (0, 4)) = (m2, z2) := ⟨_, _, rfl⟩
        simp only [hm2] at hU2
        have dg : dayG w.uhi lim (daysD l) w.lastP.1 0 := rfl
        refine (callFL_eq fn7 rfl (by simp [Tryd.f7])).trans ?_
        simp (maxSteps := 1000000) (implicitDefEqProofs := false) (disch := first | rfl | omega | assumption) only [go_sem, ltT, ltF, leT, leF, s1, s2, s3, hF, hB, hU, hU2, law_awake, r1, q1, hlim, hlim2]
        refine days_loop hv' hll hb _ _ _ _ _ _ _ _ _ _ _ _ ?_ l.length 0 (by omega) [] 0 rfl rfl _ (by rfl) (by rfl) (by rfl) (by rfl) (by rfl) (by rfl) (by rfl) (by rfl) (by rfl) (by rfl) (by rfl) (by rfl) (by rfl) (by rfl)
        intro E e4 e9 e10 e11 e12 e13 e14 e15 e16 e17
        simp (maxSteps := 1000000) (implicitDefEqProofs := false) (disch := first | rfl | omega | assumption) only [go_sem, ltT, ltF, leT, leF, e9, e10, e11, e12, e13, e14, e15, e16, e17, e4, hD, law_awake, s1, s2, s3, s4]
        refine short_loop h hv hc lim (daysD l) _ _ _ _ _ _ _ _ ?_ w.es.length 0 (by omega) [] _ (by exact e4) (by exact e9) (by exact e10) (by exact e11) (by exact e13) (by exact e14) (by exact e15) (by exact e16) (by exact e17) (by rfl) (by rfl) (by rfl) (by rfl) (by rfl)
        intro E f4 f9 f13 f14 f15 f16 f17 f20 f21 f22
        rw [lst_last]
        simp (maxSteps := 1000000) (implicitDefEqProofs := false) (disch := first | rfl | omega | assumption) only [go_sem, ltT, ltF, leT, leF, f4, f9, f13, f14, f15, f16, f17, f20, f21, f22, hc1]
        exact day_loop hu0 lim (by omega) (daysD l) hDl (daysD_bd l) w.lastP.1 hlb _ (daysD l).length 0 (by omega) dg _ (by exact f4) (by exact f9) (by exact f20) (by exact f21) (by rfl) (by rfl) (by rfl) (by rfl)

end Go.Ab
/-
  The reference, walked: powers, sets, steps.
-/
namespace Go.Ab
open Go.Proofs
set_option linter.unusedSimpArgs false
set_option linter.unusedVariables false
set_option maxRecDepth 100000

variable {H : Heap}

theorem ld_ne {k m : Nat} {o : Option Nat} {r : Lds} (h : m ≠ k) : getAt (addLd k o r) m = getAt r m := by
  cases o
  · rfl
  · simp only [addLd, getAt]; rw [if_neg (Ne.symm h)]

theorem ld_eq {k : Nat} {o : Option Nat} {r : Lds} : getAt (addLd k o r) k = o.or (getAt r k) := by
  cases o
  · simp [addLd]
  · simp [addLd, getAt]

/-- What lies at a slice that was there before has not turned by what is made later. -/
theorem SlOk.old {sz : Nat} {v : AV} {xs : List AV} (h : SlOk H sz v xs) (A B : Heap) : pairM (some (H ++ A, H ++ B)) (gslOf v) = true := by
  rcases h.obj with hg | ⟨l, hg, hlt, hget⟩
  · rw [hg]; rfl
  · rw [hg, pairM_some]
    have hs : ∀ l : List AV, sameL l l = true := fun l => by
      induction l with
      | nil => rfl
      | cons x r ih => simp [sameL, AV.same_refl, ih]
    simp only [sameAt, List.getElem?_append_left hlt, hget, AO.same, hs]
    simp

theorem or_none' (o : Option Nat) : o.or none = o := by cases o <;> rfl

theorem pow_le {j n : Nat} (h : j ≤ n) : (2 : Nat) ^ j ≤ 2 ^ n := Nat.pow_le_pow_right (by omega) h

theorem wN {m : Nat} (h : m < 2 ^ 62) : IntKind.i64.wrap (m : Int) = m := w64 (by omega) (by omega)

abbrev pw (n : Nat) : Int := ((2 ^ n : Nat) : Int)

theorem power_loop (n : Nat) (hn : n ≤ 60) :
    ∀ (q j : Nat), j + q = n → ∀ E : Env, E.get 0 = I n → E.get 3 = I (pw j) → E.get 4 = I j →
    Option.map (finishC H.length) (execL cfg0 prog0 ⟨54, none, false, H.length⟩ (todoAt Tryd.f54 3) ⟨E, [], H, none⟩) = some ⟨.ret (I (pw n)), H, none⟩ := by
  intro q
  skip
  induction q with
  | zero =>
    intro j hj  E g0 g3 g4
    have hk' : ¬ (j : Int) < ((n : Nat) : Int) := by omega
    have ej : j = n := by omega
    subst ej
    simp only [loopIt, todoPast, todoAt, todoOf, firstReg, ↓reduceIte, Option.some.injEq, Nat.reduceEqDiff, reduceCtorEq, Tryd.f54]
    rw [execL_inLoop]
    simp (maxSteps := 1000000) (implicitDefEqProofs := false) (disch := first | rfl | omega | assumption) only [go_sem, g0, g3, g4, ltT, ltF, leT, leF, hk']
  | succ q ih =>
    intro j hj  E g0 g3 g4
    have hk' : (j : Int) < ((n : Nat) : Int) := by omega
    have hk2 : j < n := by omega
    have p1 := pow_le (show j + 1 ≤ 60 by omega)
    have e1 : (2 : Int) * ((2 ^ j : Nat) : Int) = ((2 ^ (j + 1) : Nat) : Int) := by rw [Nat.pow_succ]; omega
    have e2 := wN (m := 2 ^ (j + 1)) (by omega)
    simp only [loopIt, todoPast, todoAt, todoOf, firstReg, ↓reduceIte, Option.some.injEq, Nat.reduceEqDiff, reduceCtorEq, Tryd.f54]
    rw [execL_inLoop]
    simp (maxSteps := 1000000) (implicitDefEqProofs := false) (disch := first | rfl | omega | assumption) only [go_sem, g0, g3, g4, ltT, ltF, leT, leF, hk', e1, e2]
    exact ih (j + 1) (by omega) _ (by exact g0) (by rfl) (by rfl)

theorem ref_power (n : Nat) (hn : n ≤ 60) (H : Heap) : callFL cfg0 prog0 false 54 [I n] H none = some ⟨.ret (I (pw n)), H, none⟩ := by
  refine (callFL_eq fn54 rfl (by simp [Tryd.f54])).trans ?_
  simp (maxSteps := 1000000) (implicitDefEqProofs := false) (disch := first | rfl | omega | assumption) only [go_sem, ltT, ltF, leT, leF]
  exact power_loop n hn n 0 (by omega) _ (by rfl) (by rfl) (by rfl)

theorem ref_Has {s n : Nat} (hs : s < 2 ^ 60) (hn : n ≤ 60) (H : Heap) : callFL cfg0 prog0 false 74 [I s, I n] H none = some ⟨.ret (.bool (s.testBit n)), H, none⟩ := by
  have hp := fun G : Heap => ref_power n hn G
  have p1 := pow_le hn
  have p2 : 0 < (2 : Nat) ^ n := Nat.two_pow_pos n
  have e1 : ((s : Nat) : Int).tdiv ((2 ^ n : Nat) : Int) = ((s / 2 ^ n : Nat) : Int) := rfl
  have e2 : ((s / 2 ^ n : Nat) : Int).tmod 2 = ((s / 2 ^ n % 2 : Nat) : Int) := rfl
  have e3 : (((s / 2 ^ n % 2 : Nat) : Int) == 1) = s.testBit n := by
    rw [Nat.testBit_eq_decide_div_mod_eq]
    have : s / 2 ^ n % 2 = 0 ∨ s / 2 ^ n % 2 = 1 := by omega
    rcases this with h | h <;> rw [h] <;> rfl
  have z : ((2 ^ n : Nat) : Int) ≠ 0 := by omega
  have d := div_lt (j := n) hs
  have e4 : IntKind.i64.wrap ((s / 2 ^ n : Nat) : Int) = ((s / 2 ^ n : Nat) : Int) := wN (by omega)
  refine (callFL_eq fn74 rfl (by simp [Tryd.f74])).trans ?_
  simp (maxSteps := 1000000) (implicitDefEqProofs := false) (disch := first | rfl | omega | assumption) only [go_sem, ltT, ltF, leT, leF, hp, e1, e2, e3, e4, z]

def takP (w : Wea) (e : Ev) : Int × Int := if e.k = 0 then (e.u * w.ulo, e.u * w.uhi) else if e.k = 2 then (e.lo, e.hi) else (0, 0)

theorem ref_takes {w : Wea} {ve : AV} (h : WeaAt H w ve) (ho : w.Ok) (e : Ev) (he : e.ok = true) : callFL cfg0 prog0 false 92 [w.av ve, e.av] H none = some ⟨.ret (KV (takP w e)), H, none⟩ := by
  have s1 := h.es.scal
  have hu := ho.use
  simp only [Wea.av, Ev.av, takP]
  rcases (Ev.ok_iff e).1 he with ⟨k0, k1⟩ | ⟨k0, k1⟩ | ⟨k0, k1⟩
  · have b1 := mul_bd k1 (show 0 ≤ w.ulo ∧ w.ulo ≤ 3 by omega)
    have b2 := mul_bd k1 (show 0 ≤ w.uhi ∧ w.uhi ≤ 3 by omega)
    refine (callFL_eq fn92 rfl (by simp [Tryd.f92])).trans ?_
    simp (maxSteps := 1000000) (implicitDefEqProofs := false) (disch := first | rfl | omega | assumption) only [go_sem, ltT, ltF, leT, leF, s1, k0]
  · refine (callFL_eq fn92 rfl (by simp [Tryd.f92])).trans ?_
    simp (maxSteps := 1000000) (implicitDefEqProofs := false) (disch := first | rfl | omega | assumption) only [go_sem, ltT, ltF, leT, leF, s1, k0]
  · refine (callFL_eq fn92 rfl (by simp [Tryd.f92])).trans ?_
    simp (maxSteps := 1000000) (implicitDefEqProofs := false) (disch := first | rfl | omega | assumption) only [go_sem, ltT, ltF, leT, leF, s1, k0]

/-- One step of the reference. -/
def nxE (w : Wea) (e : Ev) (b : Bool) (l : Int × Int) : Int × Int :=
  if (decide (e.k = 1) && b) = true then (max (l.1 - (takP w e).2) e.lo, min (l.2 - (takP w e).1) e.hi) else (l.1 - (takP w e).2, l.2 - (takP w e).1)

theorem takP_bd {w : Wea} (ho : w.Ok) {e : Ev} (he : e.ok = true) : 0 ≤ (takP w e).1 ∧ (takP w e).1 ≤ (takP w e).2 ∧ (takP w e).2 ≤ 60 := by
  have hu := ho.use
  simp only [takP]
  rcases (Ev.ok_iff e).1 he with ⟨k0, k1⟩ | ⟨k0, k1⟩ | ⟨k0, k1⟩
  · have b1 := mul_bd k1 (show 0 ≤ w.ulo ∧ w.ulo ≤ 3 by omega)
    have b2 := mul_bd k1 (show 0 ≤ w.uhi ∧ w.uhi ≤ 3 by omega)
    have b3 : e.u * w.ulo ≤ e.u * w.uhi := Int.mul_le_mul_of_nonneg_left (by omega) (by omega)
    rw [if_pos k0]
    simp only
    omega
  · rw [if_neg (by omega), if_neg (by omega)]
    simp only
    omega
  · rw [if_neg (by omega), if_pos k0]
    simp only
    omega

theorem ref_next {w : Wea} {ve : AV} (h : WeaAt H w ve) (ho : w.Ok) (e : Ev) (he : e.ok = true) (l : Int × Int) (hb : bd 1000000 l) (b : Bool) :
    callFL cfg0 prog0 false 84 [w.av ve, KV l, e.av, .bool b] H none = some ⟨.ret (KV (nxE w e b l)), H, none⟩ := by
  have s1 := h.es.scal
  have hT := fun G : Heap => ref_takes (h.app G) ho e he
  obtain ⟨t1, t2, t3⟩ := takP_bd ho he
  simp only [bd] at hb
  have hmx : ∀ a c : Int, (if a < c then c else a) = max a c := by intro a c; split <;> omega
  have hmn : ∀ a c : Int, (if c < a then c else a) = min a c := by intro a c; split <;> omega
  simp only [Wea.av, Ev.av, nxE] at hT ⊢
  generalize takP w e = t at *
  by_cases hk : e.k = 1
  · have hk' : (e.k == 1) = true := beq_iff_eq.2 hk
    have dk : decide (e.k = 1) = true := decide_eq_true hk
    cases b
    · refine (callFL_eq fn84 rfl (by simp [Tryd.f84])).trans ?_
      simp (maxSteps := 1000000) (implicitDefEqProofs := false) (disch := first | rfl | omega | assumption) only [go_sem, ltT, ltF, leT, leF, s1, hT, dk, hk', hmx, hmn, Bool.true_and, Bool.and_true]
      done
    · refine (callFL_eq fn84 rfl (by simp [Tryd.f84])).trans ?_
      simp (maxSteps := 1000000) (implicitDefEqProofs := false) (disch := first | rfl | omega | assumption) only [go_sem, ltT, ltF, leT, leF, s1, hT, dk, hk', hmx, hmn, Bool.true_and, Bool.and_true]
      done
  · have hk' : (e.k == 1) = false := beq_eq_false_iff_ne.2 hk
    have dk : decide (e.k = 1) = false := decide_eq_false hk
    refine (callFL_eq fn84 rfl (by simp [Tryd.f84])).trans ?_
    simp (maxSteps := 1000000) (implicitDefEqProofs := false) (disch := first | rfl | omega | assumption) only [go_sem, ltT, ltF, leT, leF, s1, hT, dk, hk', hmx, hmn, Bool.false_and]
    done

/-- The reference's run. -/
def Wea.runP (w : Wea) (s : Nat) (l : Int × Int) : Nat → Nat → Int × Int
  | _, 0 => l
  | i, q + 1 => if l.1 ≤ l.2 then w.runP s (nxE w (w.ev i) (s.testBit i) l) (i + 1) q else l

theorem nxE_bd {w : Wea} (ho : w.Ok) {e : Ev} (he : e.ok = true) (b : Bool) {l : Int × Int} {K : Int} (hK : 1000 ≤ K) (h : bd K l) : bd (K + 60) (nxE w e b l) := by
  obtain ⟨t1, t2, t3⟩ := takP_bd ho he
  simp only [bd, nxE] at h ⊢
  by_cases hk : e.k = 1
  · rcases (Ev.ok_iff e).1 he with ⟨k0, k1⟩ | ⟨k0, k1⟩ | ⟨k0, k1⟩
    · omega
    · split <;> simp only <;> omega
    · omega
  · simp only [hk, decide_false, Bool.false_and, Bool.false_eq_true, if_false]
    omega

theorem ok_ev {w : Wea} (ho : w.Ok) {i : Nat} (hi : i < w.es.length) : (w.ev i).ok = true := (Ev.ok_iff _).2 (ho.ev i hi)

theorem run_loop {w : Wea} {ve : AV} (h : WeaAt H w ve) (ho : w.Ok) (s : Nat) (hs : s < 2 ^ 60) (n : Nat) (hn : n ≤ w.es.length) :
    ∀ (q j : Nat), j + q = n → ∀ (l : Int × Int), bd (100000 + 60 * j) l → ∀ E : Env, E.get 3 = I n → E.get 4 = I s → E.get 5 = .ptr H.length 0 → E.get 6 = .ptr (H.length + 1) 0 → E.get 10 = .ptr (H.length + 2) 0 → E.get 11 = I j →
    Option.map (finishC H.length) (execL cfg0 prog0 ⟨50, none, false, H.length⟩ (todoAt Tryd.f50 2) ⟨E, [], H ++ [.box (w.av ve), .box (KV l), .box (KV (0, 0))], none⟩) = some ⟨.ret (KV (w.runP s l j q)), H, none⟩ := by
  intro q
  have h8 := ho.many
  have s1 := h.es.scal
  obtain ⟨a1, a2, a3, a4, a5⟩ := h.es.fA (d := ev0)
  simp only [Wea.av]
  induction q with
  | zero =>
    intro j hj l hl E g3 g4 g5 g6 g10 g11
    have hk' : ¬ (j : Int) < ((n : Nat) : Int) := by omega
    simp only [loopIt, todoPast, todoAt, todoOf, firstReg, ↓reduceIte, Option.some.injEq, Nat.reduceEqDiff, reduceCtorEq, Tryd.f50]
    rw [execL_inLoop]
    simp (maxSteps := 1000000) (implicitDefEqProofs := false) (disch := first | rfl | omega | assumption) only [go_sem, g3, g4, g5, g6, g10, g11, ltT, ltF, leT, leF, hk', s1, Wea.runP]
    done
  | succ q ih =>
    intro j hj l hl E g3 g4 g5 g6 g10 g11
    have hk' : (j : Int) < ((n : Nat) : Int) := by omega
    have hk2 : j < n := by omega
    simp only [Wea.runP]
    have hj8 : j < w.es.length := by omega
    have hH := fun G : Heap => ref_Has hs (show j ≤ 60 by omega) G
    have hN := fun G : Heap => ref_next (h.app G) ho (w.es.getD j ev0) (ok_ev ho hj8) l (bd_mono (by omega) hl) (s.testBit j)
    have hr : readPart (w.es.getD j ev0).av.cells 0 ⟨.struct [(0, 3), (1, 3), (2, 23)], 4, 32, some (.agg #[.int .i64 0, .int .i64 0, .int .i64 0, .int .i64 0])⟩ = some (w.es.getD j ev0).av := rfl
    have hb' := nxE_bd ho (ok_ev ho hj8) (s.testBit j) (by omega) hl
    have o1 := h.es.old
    have o2 := fun (k : Int) (off : Nat) => ptrOf_elA (k := k) (off := off) h.es
    simp only [Wea.av] at hN
    by_cases hc : l.1 ≤ l.2
    · skip
      simp only [loopIt, todoPast, todoAt, todoOf, firstReg, ↓reduceIte, Option.some.injEq, Nat.reduceEqDiff, reduceCtorEq, Tryd.f50]
      rw [execL_inLoop]
      simp (maxSteps := 1000000) (implicitDefEqProofs := false) (disch := first | rfl | omega | assumption) only [go_sem, g3, g4, g5, g6, g10, g11, ltT, ltF, leT, leF, hk', s1, hc]
      rw [chkK_of]; rotate_left; kernel_rfl
      simp (maxSteps := 1000000) (implicitDefEqProofs := false) (disch := first | rfl | omega | assumption) only [go_sem, g3, g4, g5, g6, g10, g11, ltT, ltF, leT, leF, hk', s1, hc, a1, a2, a3, a4, hr, hH, hN, o1, o2, ld_ne, ld_eq, or_none']
      exact ih (j + 1) (by omega) _ (bd_mono (by omega) hb') _ (by exact g3) (by exact g4) (by exact g5) (by exact g6) (by exact g10) (by rfl)
    · skip
      simp only [loopIt, todoPast, todoAt, todoOf, firstReg, ↓reduceIte, Option.some.injEq, Nat.reduceEqDiff, reduceCtorEq, Tryd.f50]
      rw [execL_inLoop]
      simp (maxSteps := 1000000) (implicitDefEqProofs := false) (disch := first | rfl | omega | assumption) only [go_sem, g3, g4, g5, g6, g10, g11, ltT, ltF, leT, leF, hk', s1, hc]

end Go.Ab
/-
  What truly was, by remainders: plain, and draws walked.
-/
namespace Go.Ab
open Go.Proofs
set_option linter.unusedSimpArgs false
set_option linter.unusedVariables false
set_option maxRecDepth 100000

variable {H : Heap}

abbrev U16 (n : Int) : AV := .int .u16 n

/-- A number of a span, by remainders. -/
def drawV (b : List Int) (k : Nat) (lo hi : Int) : Int := if b.length = 0 then lo else lo + (b.getD (k % b.length) 0 + 29 * k) % (hi - lo + 1)

theorem drawV_in (b : List Int) (k : Nat) {lo hi : Int} (h : lo ≤ hi) : lo ≤ drawV b k lo hi ∧ drawV b k lo hi ≤ hi := by
  simp only [drawV]
  split
  · omega
  · have h1 := Int.emod_nonneg (b.getD (k % b.length) 0 + 29 * k) (show hi - lo + 1 ≠ 0 by omega)
    have h2 := Int.emod_lt_of_pos (b.getD (k % b.length) 0 + 29 * k) (show 0 < hi - lo + 1 by omega)
    omega

theorem SlOk.setb {sz : Nat} {v : AV} {xs : List AV} (h : SlOk H sz v xs) {p : Nat} {x : AV} (hp : H[p]? = some (.box x)) (o : AO) : SlOk (H.set p o) sz v xs := by
  obtain ⟨h1, h2⟩ := h
  refine ⟨?_, h2⟩
  cases v <;> simp only at h1 ⊢
  · exact h1
  · refine ⟨?_, h1.2⟩
    rw [List.getElem?_set_ne (by rintro rfl; rw [hp] at h1; cases h1.1)]
    exact h1.1

theorem law_draw {p q : Nat} {v : AV} {b : List Int} {k : Nat} (hp : H[p]? = some (.box (I k))) (hq : H[q]? = some (.box v)) (hv : SlOk H 1 v (b.map U16)) (hb : ∀ i, i < b.length → 0 ≤ b.getD i 0 ∧ b.getD i 0 ≤ 65535) (hbl : b.length ≤ 9223372036854775807) (hk : k ≤ 100000) {lo hi : Int} (hs : -1000000 ≤ lo ∧ lo ≤ hi ∧ hi ≤ 1000000) :
    callVL cfg0 prog0 false (.func 75) [KV (lo, hi)] [.ptr p 0, .ptr q 0] H none = some ⟨.ret (I (drawV b (k + 1) lo hi)), H.set p (.box (I ((k + 1 : Nat) : Int))), none⟩ := by
  have lp : p < H.length := (List.getElem?_eq_some_iff.1 hp).1
  have lq : q < H.length := (List.getElem?_eq_some_iff.1 hq).1
  have hpq : p ≠ q := by
    rintro rfl
    rw [hp] at hq
    injection hq with hq
    injection hq with hq
    have := hv.1
    rw [← hq] at this
    exact this
  have e0 : (k : Int) + 1 = ((k + 1 : Nat) : Int) := rfl
  have hv2 := hv.setb hp (.box (I ((k + 1 : Nat) : Int)))
  have s1 := hv2.scal
  have s3 := hv2.cel
  have s2 := hv2.len
  rw [List.length_map] at s2
  have hw := (hv2.app [.box (KV (lo, hi))]).len
  obtain ⟨a1, a2, a3, a4, a5⟩ := hv2.fA (d := 0)
  have q1 : (H.set p (.box (I ((k + 1 : Nat) : Int))))[p]? = some (.box (I ((k + 1 : Nat) : Int))) := List.getElem?_set_self lp
  have q2 : (H.set p (.box (I ((k + 1 : Nat) : Int))))[q]? = some (.box v) := by rw [List.getElem?_set_ne hpq]; exact hq
  have ln : (H.set p (.box (I ((k + 1 : Nat) : Int)))).length = H.length := by simp
  have g1 : ∀ G : Heap, (H ++ G)[p]? = some (.box (I k)) := fun G => by rw [get_lt lp]; exact hp
  have g2 : ∀ (G : Heap) (o : AO), (H ++ G).set p o = H.set p o ++ G := fun G o => set_lt lp
  have g3 : ∀ G : Heap, (H.set p (.box (I ((k + 1 : Nat) : Int))) ++ G)[p]? = some (.box (I ((k + 1 : Nat) : Int))) := fun G => by rw [get_lt (by simpa using lp)]; exact q1
  have g4 : ∀ G : Heap, (H.set p (.box (I ((k + 1 : Nat) : Int))) ++ G)[q]? = some (.box v) := fun G => by rw [get_lt (by simpa using lq)]; exact q2
  simp only [callVL_func, List.append_nil, List.cons_append, List.nil_append]
  by_cases hz : b.length = 0
  · have hz' : ((b.length : Int) == 0) = true := by simp [hz]
    have hd : drawV b (k + 1) lo hi = lo := by simp only [drawV, hz, if_true]
    rw [hd]
    refine (callFL_eq fn75 rfl (by simp [Tryd.f75])).trans ?_
    simp (maxSteps := 1000000) (implicitDefEqProofs := false) (disch := first | rfl | omega | assumption) only [go_sem, ltT, ltF, leT, leF, g1, g2, g3, g4, e0, s1, s2, s3, hz', hw]
    done
  · have hz' : ((b.length : Int) == 0) = false := by simp; exact fun h => hz (by simp [h])
    obtain ⟨x, hx⟩ : ∃ x, (k + 1) % b.length = x := ⟨_, rfl⟩
    have hxl : x < b.length := by rw [← hx]; exact Nat.mod_lt _ (by omega)
    have hbx := hb x hxl
    have r1 : ((k + 1 : Nat) : Int).tmod (b.length : Int) = (x : Int) := by rw [← hx]; rfl
    have hd : drawV b (k + 1) lo hi = lo + (b.getD x 0 + 29 * ((k + 1 : Nat) : Int)) % (hi - lo + 1) := by simp only [drawV, hz, if_false, hx]
    have r2 : (b.getD x 0 + 29 * ((k + 1 : Nat) : Int)).tmod (hi - lo + 1) = (b.getD x 0 + 29 * ((k + 1 : Nat) : Int)) % (hi - lo + 1) := Int.tmod_eq_emod_of_nonneg (by omega)
    have h1 := Int.emod_nonneg (b.getD x 0 + 29 * ((k + 1 : Nat) : Int)) (show hi - lo + 1 ≠ 0 by omega)
    have h2 := Int.emod_lt_of_pos (b.getD x 0 + 29 * ((k + 1 : Nat) : Int)) (show 0 < hi - lo + 1 by omega)
    have w1 : IntKind.i64.wrap (b.getD x 0) = b.getD x 0 := w64 (by omega) (by omega)
    have z1 : ¬ ((b.length : Int) = 0) := by omega
    have z2 : ¬ (hi - lo + 1 = 0) := by omega
    have o1 := hv2.old
    have o2 := fun (k : Int) (off : Nat) => ptrOf_elA (k := k) (off := off) hv2
    rw [hd]
    refine (callFL_eq fn75 rfl (by simp [Tryd.f75])).trans ?_
    simp (maxSteps := 1000000) (implicitDefEqProofs := false) (disch := first | rfl | omega | assumption) only [go_sem, ltT, ltF, leT, leF, g1, g2, g3, g4, e0, s1, s2, s3, hz', hw]
    rw [chkK_of]; rotate_left; kernel_rfl
    simp (maxSteps := 1000000) (implicitDefEqProofs := false) (disch := first | rfl | omega | assumption) only [go_sem, ltT, ltF, leT, leF, g1, g2, g3, g4, e0, s1, s2, s3, hz', hw, a1, a2, a3, a4, r1, r2, w1, z1, z2, o1, o2, ld_ne, ld_eq, or_none']
    done

end Go.Ab
