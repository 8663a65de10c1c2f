/-
  The reference, walked: Most, Polished, Polish.
-/
import Derived.Test.YteeefmibaggekaaKK6
import Derived.Test.YteeefmibaggekaaKK4
import Derived.Test.YteeefmibaggekaaKK5
namespace Go.Ab
open Go.Proofs
set_option linter.unusedSimpArgs false
set_option linter.unusedVariables false
set_option maxRecDepth 100000
set_option maxHeartbeats 2000000

variable {H : Heap}


def mostF (w : Wg) (m : Nat) (j q : Nat) : Nat := foldF (fun m i => if decide (pop m < pop i) && w.canS i then i else m) m j q

/-- What the reference's Most answers. -/
def Wg.mostR (w : Wg) : Nat := mostF w 1 1 (2 ^ w.bs.length - 1)

def polUp (w : Wg) (s j : Nat) : List Bk := (List.range j).map fun i => polB s i (w.b i)

def polishF (w : Wg) (m : Nat) (j q : Nat) : Nat := foldF (fun m i => if decide (pop i < pop m) && w.canP i then i else m) m j q

/-- What the reference's Polish answers. -/
def Wg.polishR (w : Wg) : Nat := polishF w (2 ^ (2 * w.bs.length) - 1) 0 (2 ^ (2 * w.bs.length))

end Go.Ab
/-
  The greatest set of blocks, the least one of faces.
-/
namespace Go.Ab
open Go.Proofs
set_option linter.unusedSimpArgs false
set_option linter.unusedVariables false
set_option maxRecDepth 100000
set_option maxHeartbeats 2000000

variable {H : Heap}


theorem tal_pos {w : Wg} (ho : w.Ok) {b : Bool} {p : Pl} (hp : p.Ok w) : 0 < (w.tal b p).1 ↔ ∃ l, w.goes b p l := by
  obtain ⟨_, h2, h3⟩ := tal_least ho (b := b) hp
  exact ⟨fun h => by obtain ⟨l, l1, _⟩ := h3 h; exact ⟨l, l1⟩, fun ⟨l, hl⟩ => (h2 l hl).1⟩

theorem canS_iff {w : Wg} (ho : w.Ok) {s : Nat} (hs : s < 2 ^ w.bs.length) : w.canS s = true ↔ ∃ l, w.goes false ⟨s, pc0, false⟩ l := by
  simp only [Wg.canS, decide_eq_true_eq]
  exact tal_pos ho (start_ok hs)

theorem pop_small : ∀ k < 11, ∀ x < 2 ^ k, pop x ≤ k ∧ (pop x = k → x = 2 ^ k - 1) := by decide +kernel
theorem pop_full : ∀ k < 11, pop (2 ^ k - 1) = k := by decide +kernel
theorem pop_one : pop 1 = 1 := by decide
theorem canS_one {w : Wg} (ho : w.Ok) : w.canS 1 = true := by
  have hn := ho.n.1
  simp only [Wg.n] at hn
  have h2 : 2 ^ 1 ≤ 2 ^ w.bs.length := Nat.pow_le_pow_right (by omega) hn
  rw [canS_iff ho (by omega)]
  refine ⟨[⟨0, 0⟩], plL_iff.2 ⟨⟨by simp, by simp only [Wg.n]; omega, by simp, by simp⟩, by decide, fun h => by cases h⟩, rfl⟩

/-! ### Most -/

theorem mostR_is {w : Wg} (ho : w.Ok) : w.canS w.mostR = true ∧ 1 ≤ w.mostR ∧ w.mostR < 2 ^ w.bs.length ∧ ∀ i, 1 ≤ i → i < 2 ^ w.bs.length → w.canS i = true → pop i < pop w.mostR ∨ (pop i = pop w.mostR ∧ w.mostR ≤ i) := by
  have hn := ho.n.1
  simp only [Wg.n] at hn
  have h2 : 2 ^ 1 ≤ 2 ^ w.bs.length := Nat.pow_le_pow_right (by omega) hn
  have key := foldF_inv (fun m i => if decide (pop m < pop i) && w.canS i then i else m) (fun j m => w.canS m = true ∧ 1 ≤ m ∧ m < 2 ^ w.bs.length ∧ m ≤ j ∧ ∀ i, 1 ≤ i → i < j → w.canS i = true → pop i < pop m ∨ (pop i = pop m ∧ m ≤ i)) (2 ^ w.bs.length - 1) 1 1
    ⟨canS_one ho, by omega, by omega, by omega, fun i h1 h2 => by omega⟩ (fun j m hj1 hj2 ⟨h1, h2, h3, h4, h5⟩ => by
      cases hc : w.canS j
      · rw [Bool.and_false]
        simp only [Bool.false_eq_true, if_false]
        refine ⟨h1, h2, h3, by omega, fun i i1 i2 i3 => ?_⟩
        by_cases e : i = j
        · subst e; rw [hc] at i3; cases i3
        · exact h5 i i1 (by omega) i3
      · by_cases hp : pop m < pop j
        · simp only [hp, decide_true, Bool.and_true, if_true]
          refine ⟨hc, by omega, by omega, by omega, fun i i1 i2 i3 => ?_⟩
          by_cases e : i = j
          · subst e; exact .inr ⟨rfl, Nat.le_refl _⟩
          · have := h5 i i1 (by omega) i3
            omega
        · simp only [hp, decide_false, Bool.and_true, Bool.false_eq_true, if_false]
          refine ⟨h1, h2, h3, by omega, fun i i1 i2 i3 => ?_⟩
          by_cases e : i = j
          · subst e; omega
          · exact h5 i i1 (by omega) i3)
  have e1 : 1 + (2 ^ w.bs.length - 1) = 2 ^ w.bs.length := by omega
  rw [e1] at key
  exact ⟨key.1, key.2.1, key.2.2.1, key.2.2.2.2⟩

theorem mostS_is {w : Wg} (ho : w.Ok) : ∃ x, w.mostS = some x ∧ w.canS x = true ∧ x < 2 ^ w.bs.length ∧ ∀ i, i < 2 ^ w.bs.length → w.canS i = true → pop i < pop x ∨ (pop i = pop x ∧ x ≤ i) := by
  have h5 := ho.n.2
  have hn := ho.n.1
  simp only [Wg.n] at hn h5
  have h2 : 2 ^ 1 ≤ 2 ^ w.bs.length := Nat.pow_le_pow_right (by omega) hn
  have hsr := (mostL_srt (n := w.bs.length) (by omega)).1
  cases hm : w.mostS with
  | none =>
    obtain ⟨k, k1, k2⟩ := mostL_has (n := w.bs.length) (s := 1) (by omega) (by omega)
    have := (findF_none _ _ _).1 hm k (by omega) (by rw [mostL_len]; omega)
    simp only [gt] at k2
    rw [k2, canS_one ho] at this
    cases this
  | some x =>
    obtain ⟨k, k1, k2, k3, k4⟩ := (findF_some _ _ _ _).1 hm
    rw [mostL_len] at k2
    have hx : w.canS ((mostL w.bs.length).getD k 0) = true ∧ (mostL w.bs.length).getD k 0 = x := by
      cases hc : w.canS ((mostL w.bs.length).getD k 0)
      · rw [hc] at k3; cases k3
      · rw [hc] at k3; exact ⟨rfl, by simpa using k3⟩
    refine ⟨x, rfl, by rw [← hx.2]; exact hx.1, by rw [← hx.2]; exact mostL_lt (by omega) k (by rw [mostL_len]; omega), fun i hi hci => ?_⟩
    obtain ⟨l, l1, l2⟩ := mostL_has (n := w.bs.length) (s := i) (by omega) hi
    simp only [gt] at l2
    by_cases hkl : l < k
    · have := k4 l (by omega) hkl
      rw [l2, hci] at this
      cases this
    · by_cases e : l = k
      · subst e
        rw [hx.2] at l2
        exact .inr ⟨by rw [l2], by omega⟩
      · have hs := hsr k l (by omega) (by omega) l1
        simp only [gt, hx.2, l2, lx, popD, rkP] at hs
        omega

theorem most_eq {w : Wg} (ho : w.Ok) : w.mostS = some w.mostR := by
  obtain ⟨x, h1, h2, h3, h4⟩ := mostS_is ho
  obtain ⟨r1, r2, r3, r4⟩ := mostR_is ho
  have a := h4 w.mostR r3 r1
  have hx : 1 ≤ x := by
    have h0 := h4 1 (by omega) (canS_one ho)
    rw [pop_one] at h0
    rcases Nat.eq_zero_or_pos x with rfl | h
    · rw [show pop 0 = 0 from by decide] at h0; omega
    · exact h
  have b := r4 x hx h3 h2
  have : x = w.mostR := by omega
  rw [h1, this]

end Go.Ab
/-
  The blocks of a set alone.
-/
namespace Go.Ab
open Go.Proofs
set_option linter.unusedSimpArgs false
set_option linter.unusedVariables false
set_option maxRecDepth 100000
set_option maxHeartbeats 2000000

variable {H : Heap}


theorem only_n (w : Wg) (s : Nat) : (w.only s).bs.length = (selL s w.bs.length).length := List.length_map _

theorem only_b (w : Wg) (s : Nat) {k : Nat} (hk : k < (selL s w.bs.length).length) : (w.only s).b k = w.b ((selL s w.bs.length).getD k 0) := by
  simp [Wg.only, Wg.b, hk]

theorem sel_pos {s n : Nat} (hs : s < 2 ^ n) (h0 : s ≠ 0) : 0 < (selL s n).length := by
  rcases Nat.eq_zero_or_pos (selL s n).length with h | h
  · exfalso
    apply h0
    refine Nat.eq_of_testBit_eq fun i => ?_
    rw [Nat.zero_testBit]
    cases hb : s.testBit i
    · rfl
    · by_cases hi : i < n
      · have := (rk_at hi hb).1; omega
      · have : s.testBit i = false := Nat.testBit_lt_two_pow (Nat.lt_of_lt_of_le hs (Nat.pow_le_pow_right (by omega) (by omega)))
        rw [this] at hb; cases hb
  · exact h

theorem only_ok {w : Wg} (ho : w.Ok) {s : Nat} (hs : s < 2 ^ w.bs.length) (h0 : s ≠ 0) : (w.only s).Ok := by
  have h1 := sel_pos hs h0
  have h2 := sel_le s w.bs.length
  have h5 := ho.n.2
  simp only [Wg.n] at h5
  have hb : ∀ i, i < (w.only s).n → ∃ k, k < w.bs.length ∧ (w.only s).b i = w.b k := fun i hi => by
    simp only [Wg.n, only_n] at hi
    exact ⟨_, (sel_at hi).1, only_b w s hi⟩
  refine ⟨by simp only [Wg.n, only_n]; omega, ?_, fun i hi => ?_, fun i hi => ?_, fun i hi => ?_, fun i hi => ?_⟩
  · have := List.length_filter_le (inS s) w.ps
    simp only [Wg.only, List.length_map]
    have := ho.np
    omega
  · obtain ⟨k, hk, e⟩ := hb i hi
    rw [e]; exact ho.sp k hk
  · obtain ⟨k, hk, e⟩ := hb i hi
    rw [e]; exact ho.f0 k hk
  · obtain ⟨k, hk, e⟩ := hb i hi
    rw [e]; exact ho.f1 k hk
  · have hm : (w.only s).a i ∈ (w.only s).ps := by
      simp only [Wg.a, List.getD_eq_getElem?_getD, List.getElem?_eq_getElem hi, Option.getD_some]
      exact List.getElem_mem hi
    obtain ⟨a, ha, e⟩ := List.mem_map.1 hm
    obtain ⟨ha1, ha2⟩ := List.mem_filter.1 ha
    simp only [inS, Bool.and_eq_true] at ha2
    obtain ⟨j, hj, rfl⟩ := List.mem_iff_getElem.1 ha1
    have hap := ho.ap j hj
    have ej : w.a j = w.ps[j] := by simp [hj]
    rw [ej] at hap
    rw [← e]
    simp only [Wg.n] at hap
    obtain ⟨r1, _⟩ := rk_at (n := w.bs.length) (i := w.ps[j].a.toNat) (by omega) ha2.1
    obtain ⟨r2, _⟩ := rk_at (n := w.bs.length) (i := w.ps[j].b.toNat) (by omega) ha2.2
    simp only [apR, Wg.n, only_n]
    refine ⟨by omega, by omega, by omega, by omega, fun e => ?_⟩
    have := rk_inj ha2.1 ha2.2 (by omega)
    omega

/-- A place, in the numbers of the blocks of a set. -/
def pR (s : Nat) (x : Pc) : Pc := ⟨rk s x.b.toNat, x.u⟩
def inP (s : Nat) (x : Pc) : Prop := s.testBit x.b.toNat = true

theorem only_fa {w : Wg} {s : Nat} {x : Pc} (hx : w.pok x) (hi : inP s x) : (w.only s).fa (pR s x) = w.fa x ∧ (w.only s).fb (pR s x) = w.fb x := by
  obtain ⟨h1, h2, h3, h4⟩ := hx
  simp only [Wg.n] at h2
  obtain ⟨r1, r2⟩ := rk_at (n := w.bs.length) (i := x.b.toNat) (by omega) hi
  have e : (w.only s).b (rk s x.b.toNat) = w.b x.b.toNat := by rw [only_b w s r1, r2]
  simp only [Wg.fa, Wg.fb, pR, Int.toNat_natCast, e, and_self]

theorem beq_rk {s : Nat} {a b : Int} (ha : 0 ≤ a) (hb : 0 ≤ b) (h1 : s.testBit a.toNat = true) (h2 : s.testBit b.toNat = true) : (((rk s a.toNat : Nat) : Int) == ((rk s b.toNat : Nat) : Int)) = (a == b) := by
  rw [Bool.eq_iff_iff, beq_iff_eq, beq_iff_eq]
  constructor
  · intro e
    have := rk_inj h1 h2 (by omega)
    omega
  · rintro rfl; rfl

theorem only_ap {w : Wg} (ho : w.Ok) {s : Nat} {x y : Pc} (hx : w.pok x) (hy : w.pok y) (h1 : inP s x) (h2 : inP s y) : (w.only s).ap (pR s x).b (pR s y).b = w.ap x.b y.b := by
  simp only [Wg.ap, Wg.only]
  have hps : ∀ a ∈ w.ps, 0 ≤ a.a ∧ 0 ≤ a.b := fun a ha => by
    obtain ⟨j, hj, rfl⟩ := List.mem_iff_getElem.1 ha
    have hap := ho.ap j hj
    have ej : w.a j = w.ps[j] := by simp [hj]
    rw [ej] at hap
    exact ⟨hap.1, hap.2.2.1⟩
  generalize w.ps = L at *
  induction L with
  | nil => rfl
  | cons a r ih =>
    have ih := ih (fun b hb => hps b (List.mem_cons_of_mem _ hb))
    obtain ⟨p1, p2⟩ := hps a (List.mem_cons_self ..)
    have hx0 := hx.1
    have hy0 := hy.1
    rw [List.filter_cons]
    cases hi : inS s a
    · have e : apE x.b y.b a = false := by
        simp only [inS] at hi
        simp only [apE, Bool.or_eq_false_iff, Bool.and_eq_false_iff, beq_eq_false_iff_ne, ne_eq]
        simp only [inP] at h1 h2
        constructor
        · by_cases e1 : a.a = x.b
          · by_cases e2 : a.b = y.b
            · rw [e1, e2, h1, h2] at hi; cases hi
            · exact .inr e2
          · exact .inl e1
        · by_cases e1 : a.b = x.b
          · by_cases e2 : a.a = y.b
            · rw [e1, e2, h1, h2] at hi; cases hi
            · exact .inr e2
          · exact .inl e1
      simp only [Bool.false_eq_true, if_false, List.any_cons, e, Bool.false_or]
      exact ih
    · simp only [inS, Bool.and_eq_true] at hi
      simp only [inP] at h1 h2
      have e : apE (pR s x).b (pR s y).b (apR s a) = apE x.b y.b a := by
        simp only [apE, pR, apR]
        rw [beq_rk p1 hx0 hi.1 h1, beq_rk p2 hy0 hi.2 h2, beq_rk p2 hx0 hi.2 h1, beq_rk p1 hy0 hi.1 h2]
      simp only [if_true, List.map_cons, List.any_cons, e]
      rw [ih]

theorem only_jt {w : Wg} (ho : w.Ok) {s : Nat} {x y : Pc} (hx : w.pok x) (hy : w.pok y) (h1 : inP s x) (h2 : inP s y) (b : Bool) : (w.only s).jt b (pR s x) (pR s y) = w.jt b x y := by
  simp only [Wg.jt, only_ap ho hx hy h1 h2, (only_fa hx h1).1, (only_fa hy h2).2]

/-- The place of which a place is the number. -/
def pB (s n : Nat) (x : Pc) : Pc := ⟨(selL s n).getD x.b.toNat 0, x.u⟩

theorem pB_ok {w : Wg} {s : Nat} {x : Pc} (hx : (w.only s).pok x) : w.pok (pB s w.bs.length x) ∧ inP s (pB s w.bs.length x) ∧ pR s (pB s w.bs.length x) = x := by
  obtain ⟨h1, h2, h3, h4⟩ := hx
  simp only [Wg.n, only_n] at h2
  obtain ⟨r1, r2, r3⟩ := sel_at (s := s) (n := w.bs.length) (k := x.b.toNat) (by omega)
  refine ⟨⟨by simp only [pB]; omega, by simp only [pB, Wg.n]; omega, h3, h4⟩, ?_, ?_⟩
  · simpa only [inP, pB, Int.toNat_natCast] using r2
  · obtain ⟨xb, xu⟩ := x
    simp only at h1
    simp only [pR, pB, Int.toNat_natCast, r3]
    congr 1
    omega

theorem pcA_map {l : List Pc} {f : Pc → Pc} {i : Nat} (h : i < l.length) : pcA (l.map f) i = f (pcA l i) := by
  simp [pcA, h]

theorem only_stks {w : Wg} (ho : w.Ok) {s : Nat} (hs : s < 2 ^ w.bs.length) (h0 : s ≠ 0) : (∃ l, (w.only s).stk l = true ∧ (w.only s).hld false l = true ∧ (w.only s).setOf (2 ^ (w.only s).bs.length - 1) l) ↔ ∃ l, w.stk l = true ∧ w.hld false l = true ∧ w.setOf s l := by
  constructor
  · rintro ⟨l, h1, h2, h3⟩
    obtain ⟨k0, k1, k2⟩ := stk_iff.1 h1
    refine ⟨l.map (pB s w.bs.length), stk_iff.2 ⟨by simpa using k0, fun x hx => ?_, ?_⟩, hld_iff.2 fun i hi => ?_, fun i => ⟨fun hi => ?_, ?_⟩⟩
    · obtain ⟨y, hy, rfl⟩ := List.mem_map.1 hx
      exact (pB_ok (k1 y hy)).1
    · rw [List.map_map]
      rw [List.Nodup, List.pairwise_map] at k2 ⊢
      refine k2.imp_of_mem fun {a b} ha hb hne e => hne ?_
      simp only [Function.comp] at e
      obtain ⟨_, _, ea⟩ := pB_ok (k1 a ha)
      obtain ⟨_, _, eb⟩ := pB_ok (k1 b hb)
      have : (pR s (pB s w.bs.length a)).b = (pR s (pB s w.bs.length b)).b := by simp only [pR, e]
      rw [ea, eb] at this
      exact this
    · rw [List.length_map] at hi
      rw [pcA_map (by omega), pcA_map (by omega)]
      obtain ⟨a1, a2, a3⟩ := pB_ok (k1 _ (pcA_mem (show i < l.length by omega)))
      obtain ⟨b1, b2, b3⟩ := pB_ok (k1 _ (pcA_mem (show i + 1 < l.length by omega)))
      rw [← only_jt ho a1 b1 a2 b2, a3, b3]
      exact hld_iff.1 h2 i hi
    · have hin : i < w.bs.length := by
        by_cases h : i < w.bs.length
        · exact h
        · have : s.testBit i = false := Nat.testBit_lt_two_pow (Nat.lt_of_lt_of_le hs (Nat.pow_le_pow_right (by omega) (by omega)))
          rw [this] at hi; cases hi
      obtain ⟨r1, r2⟩ := rk_at hin hi
      obtain ⟨x, x1, x2⟩ := (h3 (rk s i)).1 (by rw [Nat.testBit_two_pow_sub_one, decide_eq_true_eq, only_n]; exact r1)
      refine ⟨_, List.mem_map.2 ⟨x, x1, rfl⟩, ?_⟩
      simp only [pB]
      have : x.b.toNat = rk s i := by omega
      rw [this, r2]
    · rintro ⟨x, x1, x2⟩
      obtain ⟨y, y1, rfl⟩ := List.mem_map.1 x1
      have := (pB_ok (k1 y y1)).2.1
      simp only [inP] at this
      rw [x2] at this
      simpa using this
  · rintro ⟨l, h1, h2, h3⟩
    obtain ⟨k0, k1, k2⟩ := stk_iff.1 h1
    have hin : ∀ x ∈ l, inP s x := fun x hx => (h3 x.b.toNat).2 ⟨x, hx, by have := (k1 x hx).1; omega⟩
    refine ⟨l.map (pR s), stk_iff.2 ⟨by simpa using k0, fun x hx => ?_, ?_⟩, hld_iff.2 fun i hi => ?_, fun i => ⟨fun hi => ?_, ?_⟩⟩
    · obtain ⟨y, hy, rfl⟩ := List.mem_map.1 hx
      obtain ⟨p1, p2, p3, p4⟩ := k1 y hy
      simp only [Wg.n] at p2
      obtain ⟨r1, _⟩ := rk_at (n := w.bs.length) (i := y.b.toNat) (by omega) (hin y hy)
      exact ⟨by simp only [pR]; omega, by simp only [pR, Wg.n, only_n]; omega, p3, p4⟩
    · rw [List.map_map]
      rw [List.Nodup, List.pairwise_map] at k2 ⊢
      refine k2.imp_of_mem fun {a b} ha hb hne e => hne ?_
      simp only [Function.comp, pR] at e
      have := rk_inj (hin a ha) (hin b hb) (by omega)
      have := (k1 a ha).1
      have := (k1 b hb).1
      omega
    · rw [List.length_map] at hi
      rw [pcA_map (by omega), pcA_map (by omega)]
      have a0 := pcA_mem (show i < l.length by omega)
      have b0 := pcA_mem (show i + 1 < l.length by omega)
      rw [only_jt ho (k1 _ a0) (k1 _ b0) (hin _ a0) (hin _ b0)]
      exact hld_iff.1 h2 i hi
    · rw [Nat.testBit_two_pow_sub_one, decide_eq_true_eq, only_n] at hi
      obtain ⟨r1, r2, r3⟩ := sel_at (s := s) hi
      obtain ⟨x, x1, x2⟩ := (h3 _).1 r2
      refine ⟨_, List.mem_map.2 ⟨x, x1, rfl⟩, ?_⟩
      simp only [pR]
      have : x.b.toNat = (selL s w.bs.length).getD i 0 := by omega
      rw [this, r3]
    · rintro ⟨x, x1, x2⟩
      obtain ⟨y, y1, rfl⟩ := List.mem_map.1 x1
      obtain ⟨p1, p2, p3, p4⟩ := k1 y y1
      simp only [Wg.n] at p2
      obtain ⟨r1, _⟩ := rk_at (n := w.bs.length) (i := y.b.toNat) (by omega) (hin y y1)
      simp only [pR] at x2
      rw [Nat.testBit_two_pow_sub_one, decide_eq_true_eq, only_n]
      omega

theorem only_can {w : Wg} (ho : w.Ok) {s : Nat} (hs : s < 2 ^ w.bs.length) (h0 : s ≠ 0) : decide (0 < ((w.only s).tal false (w.only s).full).1) = w.canS s := by
  have hk := only_ok ho hs h0
  rw [Bool.eq_iff_iff, decide_eq_true_eq, canS_iff ho hs, tal_pos hk (full_ok _)]
  have e1 : ∀ l, (w.only s).goes false (w.only s).full l ↔ (w.only s).stk l = true ∧ (w.only s).hld false l = true ∧ (w.only s).setOf (2 ^ (w.only s).bs.length - 1) l := fun l => by
    rw [show (w.only s).full = ⟨2 ^ (w.only s).bs.length - 1, pc0, false⟩ from rfl, goes_set hk (full_lt _)]
    constructor
    · rintro (⟨_, h⟩ | h)
      · exact absurd h (full_pos hk)
      · exact h
    · exact .inr
  have e2 : ∀ l, w.goes false ⟨s, pc0, false⟩ l ↔ w.stk l = true ∧ w.hld false l = true ∧ w.setOf s l := fun l => by
    rw [goes_set ho hs]
    constructor
    · rintro (⟨_, h⟩ | h)
      · exact absurd h h0
      · exact h
    · exact .inr
  simp only [e1, e2]
  exact only_stks ho hs h0

end Go.Ab
/-
  WringStacks.
-/
namespace Go.Ab
open Go.Proofs
set_option linter.unusedSimpArgs false
set_option linter.unusedVariables false
set_option maxRecDepth 100000
set_option maxHeartbeats 2000000

variable {H : Heap}


end Go.Ab
/-
  WringMost.
-/
namespace Go.Ab
open Go.Proofs
set_option linter.unusedSimpArgs false
set_option linter.unusedVariables false
set_option maxRecDepth 100000
set_option maxHeartbeats 2000000

variable {H : Heap}


theorem law_canO {w : Wg} {vb va : AV} (h : WgAt H w vb va) (ho : w.Ok) {s : Nat} (hs : s < 2 ^ w.bs.length) (h0 : s ≠ 0) (G : Heap) :
    callFL cfg0 prog0 false 43 [I s, .ptr H.length 0] (H ++ (.box (.agg [vb, va]) :: G)) none = some ⟨.ret (.bool (w.canS s)), H ++ (.box (.agg [vb, va]) :: G), none⟩ := by
  have s1 := h.bs.scal
  have s2 := h.ps.scal
  have h5 := ho.n.2
  simp only [Wg.n] at h5
  have hp := pow_le h5
  have hk := only_ok ho hs h0
  have hn := hk.n
  simp only [Wg.n] at hn
  have hP := fun G : Heap => law_only (h.app G) ho (s := s) (by omega)
  have hat : ∀ H : Heap, WgAt H (w.only s) (.sl false ((w.only s).bs.map Bk.av)) (.sl false ((w.only s).ps.map Ap.av)) := fun H => ⟨⟨rfl, fun x hx => by obtain ⟨i, _, rfl⟩ := List.mem_map.1 hx; rfl⟩, ⟨rfl, fun x hx => by obtain ⟨i, _, rfl⟩ := List.mem_map.1 hx; rfl⟩⟩
  have hC := fun G : Heap => wr_Count (hat G) ⟨by omega, by have := hk.np; omega⟩
  have hcount : (w.only s).count = (((w.only s).tal false (w.only s).full).1, 0) := by
    simp only [Wg.count, ((w.only s).valid_iff).2 hk, if_true]
  rw [hcount] at hC
  have hc : decide (((w.only s).tal false (w.only s).full).1 > 0) = w.canS s := only_can ho hs h0
  refine (callFL_eq fn43 rfl (by simp [Try.f43])).trans ?_
  simp (maxSteps := 1000000) (implicitDefEqProofs := false) (disch := first | rfl | omega | assumption) only [go_sem, s1, s2, hP, hC, hc]
  done

theorem law_WringMost {w : Wg} {vb va : AV} (h : WgAt H w vb va) (n1 : Int) (w1 : 0 ≤ n1 ∧ n1 ≤ 255) :
    callFL cfg0 prog0 false 10 [.agg [vb, va], .int .u8 n1] H none = some ⟨.ret (.bool true), H, none⟩ := by
  have s1 := h.bs.scal
  have s2 := h.ps.scal
  have l1 := h.bs.len
  rw [List.length_map] at l1
  have c1 := h.bs.cel
  obtain ⟨nb, rfl⟩ := Int.eq_ofNat_of_zero_le w1.1
  have hL := fun G : Heap => law_long (h.app G) (slP (H := H ++ G) (b := true) [])
  have hA := fun G : Heap => law_alive G
  simp only [List.map_nil, List.length_nil] at hL
  by_cases hlg : 40 < w.bs.length ∨ 40 < w.ps.length ∨ 40 < 0
  · rw [decide_eq_true hlg] at hL
    refine (callFL_eq fn10 rfl (by simp [Try.f10])).trans ?_
    simp (maxSteps := 1000000) (implicitDefEqProofs := false) (disch := first | rfl | omega | assumption) only [go_sem, ltT, ltF, leT, leF, s1, s2, hL, hA]
    done
  rw [decide_eq_false hlg] at hL
  have hl : w.bs.length ≤ 1000 ∧ w.ps.length ≤ 1000 := by omega
  have hW := fun G : Heap => ref_Wring (h.app G) hl
  have r1 := fun G : Heap => wr_Most (h.app G) hl
  cases hv : w.valid
  · rw [hv] at hW
    have e : w.most = (0, 0, 1) := by simp only [Wg.most, hv, Bool.false_eq_true, if_false]
    rw [e] at r1
    refine (callFL_eq fn10 rfl (by simp [Try.f10])).trans ?_
    simp (maxSteps := 1000000) (implicitDefEqProofs := false) (disch := first | rfl | omega | assumption) only [go_sem, ltT, ltF, leT, leF, s1, s2, hL, hW, r1, hA]
    done
  have ho := w.valid_iff.1 hv
  rw [hv] at hW
  have h5 := ho.n.2
  simp only [Wg.n] at h5
  have hp10 := pow_le h5
  have hpos : 0 < 2 ^ w.bs.length := Nat.two_pow_pos _
  have r2 := fun G : Heap => wr_Count (h.app G) hl
  have hcount : w.count = ((w.tal false w.full).1, 0) := by simp only [Wg.count, hv, if_true]
  rw [hcount] at r2
  have x1 := shlI (k := w.bs.length) (by omega)
  have x2 : IntKind.i64.wrap (((2 ^ w.bs.length : Nat) : Int) - 1) = ((2 ^ w.bs.length - 1 : Nat) : Int) := by rw [w64 (by omega) (by omega)]; omega
  have x3 : IntKind.i64.wrap (nb : Int) = nb := w64 (by omega) (by omega)
  have x4 := bitsAndI (a := nb) (b := 2 ^ w.bs.length - 1) (by omega) (by omega)
  have x5 : ¬ (w.bs.length : Int) < 0 := by omega
  have hown : (nb &&& (2 ^ w.bs.length - 1)) < 2 ^ w.bs.length := Nat.lt_of_le_of_lt Nat.and_le_right (by omega)
  have e : w.most = (((pop w.mostR : Nat) : Int), ((w.mostR : Nat) : Int), (0 : Int)) := by
    simp only [Wg.most, hv, if_true, most_eq ho, Option.getD_some]
  rw [e] at r1
  obtain ⟨q1, q2, q3, q4⟩ := mostR_is ho
  have hS := fun G : Heap => law_canO h ho q3 (by omega) G
  rw [q1] at hS
  have hSz := fun G : Heap => ref_Size (s := w.mostR) (by omega) G
  generalize hown' : nb &&& (2 ^ w.bs.length - 1) = own at *
  have hSo := fun G : Heap => ref_Size (s := own) (by omega) G
  have hcn : decide ((w.tal false w.full).1 > 0) = w.canS (2 ^ w.bs.length - 1) := rfl
  have hz : ((w.mostR : Int) == ((2 ^ w.bs.length - 1 : Nat) : Int)) = w.canS (2 ^ w.bs.length - 1) := by
    rw [Bool.eq_iff_iff, beq_iff_eq]
    constructor
    · intro e
      have : w.mostR = 2 ^ w.bs.length - 1 := by omega
      rw [← this]; exact q1
    · intro e
      have a := q4 (2 ^ w.bs.length - 1) (by omega) (by omega) e
      have f := pop_full w.bs.length (by omega)
      have g := pop_small w.bs.length (by omega) w.mostR q3
      have : w.mostR = 2 ^ w.bs.length - 1 := g.2 (by omega)
      omega
  have y1 : ¬ (w.mostR : Int) < 1 := by omega
  have y2 : ¬ ((2 ^ w.bs.length - 1 : Nat) : Int) < (w.mostR : Int) := by omega
  have y3 : ((pop w.mostR : Int) != (pop w.mostR : Int)) = false := by simp
  by_cases h0 : own = 0
  · have h0' : ((own : Int) == 0) = true := by simp [h0]
    cases hf : w.canS (2 ^ w.bs.length - 1) <;> rw [hf] at hcn hz
    all_goals
      refine (callFL_eq fn10 rfl (by simp [Try.f10])).trans ?_
      simp (maxSteps := 1000000) (implicitDefEqProofs := false) (disch := first | rfl | omega | assumption) only [go_sem, s1, s2, l1, c1, hL, hW, r1, r2, x1, x2, x3, x4, x5, hS, hSz, y1, y2, y3, hz, hcn, h0', hA]
  · have h0' : ((own : Int) == 0) = false := by simpa using (by omega : ¬ (own : Int) = 0)
    have hO := fun G : Heap => law_canO h ho hown h0 G
    cases co : w.canS own
    · rw [co] at hO
      cases hf : w.canS (2 ^ w.bs.length - 1) <;> rw [hf] at hcn hz
      all_goals
        refine (callFL_eq fn10 rfl (by simp [Try.f10])).trans ?_
        simp (maxSteps := 1000000) (implicitDefEqProofs := false) (disch := first | rfl | omega | assumption) only [go_sem, s1, s2, l1, c1, hL, hW, r1, r2, x1, x2, x3, x4, x5, hS, hO, hSz, y1, y2, y3, hz, hcn, h0', hA]
    · rw [co] at hO
      rcases q4 own (by omega) hown co with a | ⟨a, b⟩
      · have z1 : (pop own : Int) < (pop w.mostR : Int) := by omega
        cases hf : w.canS (2 ^ w.bs.length - 1) <;> rw [hf] at hcn hz
        all_goals
          refine (callFL_eq fn10 rfl (by simp [Try.f10])).trans ?_
          simp (maxSteps := 1000000) (implicitDefEqProofs := false) (disch := first | rfl | omega | assumption) only [go_sem, s1, s2, l1, c1, hL, hW, r1, r2, x1, x2, x3, x4, x5, hS, hO, hSz, hSo, y1, y2, y3, hz, hcn, h0', z1, hA]
      · have z1 : ¬ (pop own : Int) < (pop w.mostR : Int) := by omega
        have z2 : ((pop own : Int) == (pop w.mostR : Int)) = true := by simpa using (by omega : (pop own : Int) = (pop w.mostR : Int))
        have z3 : (w.mostR : Int) ≤ (own : Int) := by omega
        cases hf : w.canS (2 ^ w.bs.length - 1) <;> rw [hf] at hcn hz
        all_goals
          refine (callFL_eq fn10 rfl (by simp [Try.f10])).trans ?_
          simp (maxSteps := 1000000) (implicitDefEqProofs := false) (disch := first | rfl | omega | assumption) only [go_sem, s1, s2, l1, c1, hL, hW, r1, r2, x1, x2, x3, x4, x5, hS, hO, hSz, hSo, y1, y2, y3, hz, hcn, h0', z1, z2, z3, hA]

end Go.Ab
