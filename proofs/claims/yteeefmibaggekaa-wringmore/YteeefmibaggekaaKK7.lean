/-
  The reference, walked: how many are in a set; all stacks.
-/
import Derived.Test.YteeefmibaggekaaKK6
import Derived.Test.YteeefmibaggekaaKK3
import Derived.Test.YteeefmibaggekaaKK4
namespace Go.Ab
open Go.Proofs
set_option linter.unusedSimpArgs false
set_option linter.unusedVariables false
set_option maxRecDepth 100000
set_option maxHeartbeats 2000000

variable {H : Heap}


end Go.Ab
/-
  The reference, walked: all stacks.
-/
namespace Go.Ab
open Go.Proofs
set_option linter.unusedSimpArgs false
set_option linter.unusedVariables false
set_option maxRecDepth 100000
set_option maxHeartbeats 2000000

variable {H : Heap}


def stA (xs : List Pc) : AV := .sl false (xs.map Pc.av)
/-- What lies at the foot of a call: the list that grows, if it begins there. -/
def XO (H : Heap) (P : Nat) (outs : List (List Pc)) : AO := .grow 1 (if P = H.length then outs.map stA else [])

/-- What a call answers. -/
def stR (H : Heap) (P : Nat) (outs : List (List Pc)) : Option Done := some ⟨.ret (if P < H.length then .gsl P outs.length else .sl false (outs.map stA)), H.set P (.grow 1 (outs.map stA)), none⟩

/-- Where the list that grows lies, when a call begins. -/
def OutAt (H : Heap) (P : Nat) (v : AV) (outs : List (List Pc)) : Prop :=
  (P < H.length ∧ v = .gsl P outs.length ∧ H[P]? = some (.grow 1 (outs.map stA))) ∨ (P = H.length ∧ v = .sl true [] ∧ outs = [])

/-- A stack to go on with, and its pile. -/
structure Beg (w : Wg) (b : Bool) (s : Nat) (xs : List Pc) (p : Pl) : Prop where
  ok : p.Ok w
  px : ∀ x ∈ xs, w.pok x
  nd : (xs.map Pc.b).Nodup
  hl : w.hL b none xs
  lf : ∀ i : Nat, p.left.testBit i = true ↔ s.testBit i = true ∧ ∀ x ∈ xs, x.b ≠ (i : Int)
  tp : p.tp = xs.getLast?
  cn : xs.length + cnt p.left = cnt s

theorem hL_snoc {w : Wg} {b : Bool} {x : Pc} : ∀ (xs : List Pc) (o : Option Pc), w.hL b o (xs ++ [x]) ↔ w.hL b o xs ∧ ∀ y, (xs.getLast?.or o) = some y → w.jt b y x = 0
  | [], o => by simp [Wg.hL]
  | z :: r, o => by
    have ih := hL_snoc (w := w) (b := b) (x := x) r (some z)
    have e : ((z :: r).getLast?.or o) = (r.getLast?.or (some z)) := by
      cases r with
      | nil => rfl
      | cons a s =>
        rw [List.getLast?_cons_cons, List.getLast?_eq_some_getLast (List.cons_ne_nil a s)]
        rfl
    simp only [List.cons_append, Wg.hL, ih, e]
    exact ⟨fun ⟨a, b, c⟩ => ⟨⟨a, b⟩, c⟩, fun ⟨⟨a, b⟩, c⟩ => ⟨a, b, c⟩⟩

theorem tp_iff {p : Pl} {f : Pc → Prop} : (p.some = true → f p.top) ↔ ∀ y, p.tp = some y → f y := by
  simp only [Pl.tp]
  cases p.some <;> simp

theorem Beg.cond {w : Wg} {b : Bool} {s : Nat} {xs : List Pc} {p : Pl} (hb : Beg w b s xs p) {x : Pc} (hx : w.pok x) :
    x ∈ w.plL b p ↔ s.testBit x.b.toNat = true ∧ w.stk (xs ++ [x]) = true ∧ w.hld b (xs ++ [x]) = true := by
  have h3 := tp_iff (p := p) (f := fun y => w.jt b y x = 0)
  rw [plL_iff, h3, hb.tp, hb.lf, stk_iff, hld_hL, hL_snoc, Option.or_none]
  simp only [List.map_append, List.map_cons, List.map_nil]
  rw [List.nodup_append]
  constructor
  · rintro ⟨_, ⟨h1, h2⟩, h3⟩
    refine ⟨h1, ⟨by simp, ?_, hb.nd, List.nodup_cons.2 ⟨by simp, List.nodup_nil⟩, ?_⟩, hb.hl, h3⟩
    · intro y hy
      rcases List.mem_append.1 hy with hy | hy
      · exact hb.px y hy
      · rw [List.mem_singleton.1 hy]; exact hx
    · intro y hy z hz
      rw [List.mem_singleton.1 hz]
      obtain ⟨k, k1, rfl⟩ := List.mem_map.1 hy
      have := h2 k k1
      have := hx.1
      intro e
      exact h2 k k1 (by omega)
  · rintro ⟨h1, ⟨_, h4, _, _, h5⟩, _, h3⟩
    refine ⟨hx, ⟨h1, fun y hy e => ?_⟩, h3⟩
    have := hx.1
    exact h5 y.b (List.mem_map.2 ⟨y, hy, rfl⟩) x.b (List.mem_singleton.2 rfl) (by omega)

/-- What the reference's stacks do from a stack on. -/
def StkOk (w : Wg) (b : Bool) (s : Nat) (vb va : AV) (n : Nat) : Prop :=
  ∀ (H : Heap) (P : Nat) (v : AV) (outs : List (List Pc)) (f : Bool) (xs : List Pc) (p : Pl), Beg w b s xs p → cnt p.left = n → (f = false ∨ n ≠ 0) → OutAt H P v outs →
    (∀ o, WgAt (H.set P (.grow 1 o)) w vb va) → outs.length + (w.ext b n p).length ≤ 1000000 →
    callFL cfg0 prog0 false 69 [.agg [vb, va], I s, .bool b, .sl f (xs.map Pc.av), v] H none = stR H P (outs ++ (w.ext b n p).map (xs ++ ·))

/-- What comes of some places. -/
def Wg.extL (w : Wg) (b : Bool) (n : Nat) (xs : List Pc) (p : Pl) (l : List Pc) : List (List Pc) := (l.flatMap fun x => (w.ext b n (p.next x)).map (x :: ·)).map (xs ++ ·)

/-- All stacks of the blocks of a set. -/
def Wg.stks (w : Wg) (b : Bool) (s : Nat) : List (List Pc) := w.ext b (cnt s) ⟨s, pc0, false⟩

end Go.Ab
/-
  The reference, walked: can, Count, Hope, Best.
-/
namespace Go.Ab
open Go.Proofs
set_option linter.unusedSimpArgs false
set_option linter.unusedVariables false
set_option maxRecDepth 100000
set_option maxHeartbeats 2000000

variable {H : Heap}


theorem full_pos {w : Wg} (ho : w.Ok) : 2 ^ w.bs.length - 1 ≠ 0 := by
  have h1 := ho.n.1
  simp only [Wg.n] at h1
  have : 2 ^ 1 ≤ 2 ^ w.bs.length := Nat.pow_le_pow_right (by omega) h1
  omega

def minF (f : List Pc → Int) (L : List (List Pc)) (m : List Pc) (j q : Nat) : List Pc := foldF (fun m i => if f (L.getD i []) < f m then L.getD i [] else m) m j q

theorem stk_len {w : Wg} (ho : w.Ok) {l : List Pc} (h : w.stk l = true) : l.length ≤ w.bs.length := by
  obtain ⟨_, h1, h2⟩ := stk_iff.1 h
  have key : ∀ (n : Nat) (m : List Int), m.Nodup → (∀ x ∈ m, 0 ≤ x ∧ x < (n : Int)) → m.length ≤ n := by
    intro n
    induction n with
    | zero =>
      intro m _ hm
      cases m with
      | nil => simp
      | cons a r => have := hm a (List.mem_cons_self ..); omega
    | succ n ih =>
      intro m hn hm
      have h1 := ih (m.erase (n : Int)) (hn.erase _) (fun x hx => by
        have hx' := (hn.mem_erase_iff).1 hx
        have := hm x hx'.2
        have := hx'.1
        omega)
      have := List.length_erase_le (a := (n : Int)) (l := m)
      by_cases hmem : (n : Int) ∈ m
      · rw [List.length_erase_of_mem hmem] at h1; omega
      · rw [List.erase_of_not_mem hmem] at h1; omega
  have := key w.bs.length (l.map Pc.b) h2 (fun x hx => by
    obtain ⟨y, hy, rfl⟩ := List.mem_map.1 hx
    have := h1 y hy
    exact ⟨this.1, this.2.1⟩)
  rwa [List.length_map] at this

end Go.Ab
/-
  Truths and stacks.
-/
namespace Go.Ab
open Go.Proofs
set_option linter.unusedSimpArgs false
set_option linter.unusedVariables false
set_option maxRecDepth 100000
set_option maxHeartbeats 2000000

variable {H : Heap}


theorem nodup_len {α : Type} [DecidableEq α] : ∀ {a b : List α}, a.Nodup → a ⊆ b → a.length ≤ b.length
  | [], b, _, _ => Nat.zero_le _
  | x :: r, b, h, hs => by
    rw [List.nodup_cons] at h
    have hx : x ∈ b := hs (List.mem_cons_self ..)
    have h1 := nodup_len (a := r) (b := b.erase x) h.2 (fun y hy => (List.mem_erase_of_ne (fun e => h.1 (by rw [← e]; exact hy))).2 (hs (List.mem_cons_of_mem _ hy)))
    rw [List.length_erase_of_mem hx] at h1
    have := List.length_pos_of_mem hx
    simp only [List.length_cons]
    omega

theorem range_nodup (n : Nat) : ((List.range n).map fun (i : Nat) => (i : Int)).Nodup := by
  rw [List.Nodup, List.pairwise_map]
  exact (List.nodup_range (n := n)).imp (fun h e => h (by omega))

theorem full_bit {n i : Nat} : (2 ^ n - 1).testBit i = true ↔ i < n := by rw [Nat.testBit_two_pow_sub_one, decide_eq_true_eq]

theorem stk_whole {w : Wg} {l : List Pc} (h : w.stk l = true) : l.length = w.bs.length ↔ w.setOf (2 ^ w.bs.length - 1) l := by
  obtain ⟨h0, h1, h2⟩ := stk_iff.1 h
  constructor
  · intro hl i
    rw [full_bit]
    constructor
    · intro hi
      by_cases hm : (i : Int) ∈ l.map Pc.b
      · obtain ⟨x, hx, e⟩ := List.mem_map.1 hm
        exact ⟨x, hx, e⟩
      · have := nodup_len (a := (i : Int) :: l.map Pc.b) (b := (List.range w.bs.length).map fun (i : Nat) => (i : Int)) (List.nodup_cons.2 ⟨hm, h2⟩) (fun y hy => by
          rcases List.mem_cons.1 hy with rfl | hy
          · exact List.mem_map.2 ⟨i, List.mem_range.2 hi, rfl⟩
          · obtain ⟨x, hx, rfl⟩ := List.mem_map.1 hy
            have hp := h1 x hx
            have p1 := hp.1
            have p2 := hp.2.1
            simp only [Wg.n] at p2
            exact List.mem_map.2 ⟨x.b.toNat, List.mem_range.2 (by omega), by omega⟩)
        simp only [List.length_cons, List.length_map, List.length_range] at this
        omega
    · rintro ⟨x, hx, e⟩
      have hp := (h1 x hx).2.1
      simp only [Wg.n] at hp
      omega
  · intro hs
    have h3 := nodup_len (a := (List.range w.bs.length).map fun (i : Nat) => (i : Int)) (b := l.map Pc.b) (range_nodup _) (fun y hy => by
      obtain ⟨i, hi, rfl⟩ := List.mem_map.1 hy
      obtain ⟨x, hx, e⟩ := (hs i).1 (full_bit.2 (List.mem_range.1 hi))
      exact List.mem_map.2 ⟨x, hx, e⟩)
    simp only [List.length_map, List.length_range] at h3
    have h4 := nodup_len (a := l.map Pc.b) (b := (List.range w.bs.length).map fun (i : Nat) => (i : Int)) h2 (fun y hy => by
      obtain ⟨x, hx, rfl⟩ := List.mem_map.1 hy
      have hp := h1 x hx
      have p1 := hp.1
      have p2 := hp.2.1
      simp only [Wg.n] at p2
      exact List.mem_map.2 ⟨x.b.toNat, List.mem_range.2 (by omega), by omega⟩)
    simp only [List.length_map, List.length_range] at h4
    omega

theorem jtz {w : Wg} {b : Bool} {x y : Pc} : w.jt b x y = 0 ↔ w.ap x.b y.b = false ∧ (w.fa x).st ≤ lvl b ∧ (w.fb y).st ≤ lvl b := by
  simp only [Wg.jt]
  cases w.ap x.b y.b
  · by_cases h1 : (w.fa x).st ≤ lvl b
    · by_cases h2 : (w.fb y).st ≤ lvl b <;> simp [h1, h2]
    · simp [h1]
  · simp

theorem talp {w : Wg} (ho : w.Ok) {b : Bool} {p : Pl} (hp : p.Ok w) : 0 < (w.tal b p).1 ↔ ∃ l, w.goes b p l := by
  obtain ⟨_, h2, h3⟩ := tal_least ho (b := b) hp
  exact ⟨fun h => by obtain ⟨l, l1, _⟩ := h3 h; exact ⟨l, l1⟩, fun ⟨l, hl⟩ => (h2 l hl).1⟩

/-! ### What is told of a stack -/

theorem holds_is {w : Wg} (hv : w.valid = true) {l : List Pc} (hs : w.stk l = true) : w.holds l = (if w.hld false l then 2 else if w.hld true l then 1 else 0, 0) := by
  simp only [Wg.holds, hv, hs, if_true]
  rw [brk_hld false l, brk_hld true l]
  by_cases h1 : (w.brk false l).2 = 0
  · simp [h1]
  · by_cases h2 : (w.brk true l).2 = 0 <;> simp [h1, h2]

theorem can_iff {w : Wg} (ho : w.Ok) (b : Bool) : w.can b = true ↔ ∃ l, w.stk l = true ∧ w.hld b l = true ∧ l.length = w.bs.length := by
  simp only [Wg.can, decide_eq_true_eq]
  rw [talp ho (full_ok w)]
  constructor
  · rintro ⟨l, hl⟩
    rcases (goes_set ho (full_lt w) l).1 hl with ⟨_, h⟩ | ⟨h1, h2, h3⟩
    · exact absurd h (full_pos ho)
    · exact ⟨l, h1, h2, (stk_whole h1).2 h3⟩
  · rintro ⟨l, h1, h2, h3⟩
    exact ⟨l, (goes_set ho (full_lt w) l).2 (.inr ⟨h1, h2, (stk_whole h1).1 h3⟩)⟩

/-- The best stack. -/
theorem best_is {w : Wg} (ho : w.Ok) (h : w.can false = true) : w.best = ((w.tal false w.full).2, some (w.bestL w.bs.length w.full), 0) ∧ w.stk (w.bestL w.bs.length w.full) = true ∧ w.hld false (w.bestL w.bs.length w.full) = true ∧ (w.bestL w.bs.length w.full).length = w.bs.length ∧ (w.flm (w.bestL w.bs.length w.full)).2 = (w.tal false w.full).2 := by
  have hv := (w.valid_iff).2 ho
  have ht : 0 < (w.tal false w.full).1 := by simpa [Wg.can] using h
  have hb : w.best = ((w.tal false w.full).2, some (w.bestL w.bs.length w.full), 0) := by simp only [Wg.best, hv, if_true, if_pos ht]
  obtain ⟨g1, g2⟩ := bestL_goes ho w.bs.length w.full (full_ok w) (cnt_full ho.n.2) ht
  rcases (goes_set ho (full_lt w) _).1 g1 with ⟨_, h0⟩ | ⟨k1, k2, k3⟩
  · exact absurd h0 (full_pos ho)
  · exact ⟨hb, k1, k2, (stk_whole k1).2 k3, by rw [← g2]; exact flm_fm w _ _ _⟩

theorem best_no {w : Wg} (ho : w.Ok) (h : w.can false = false) : w.best = (0, none, 4) := by
  have hv := (w.valid_iff).2 ho
  have ht : ¬ 0 < (w.tal false w.full).1 := by simpa [Wg.can] using h
  simp only [Wg.best, hv, if_true, if_neg ht]

end Go.Ab
/-
  The reference, walked: Most, Polished, Polish.
-/
namespace Go.Ab
open Go.Proofs
set_option linter.unusedSimpArgs false
set_option linter.unusedVariables false
set_option maxRecDepth 100000
set_option maxHeartbeats 2000000

variable {H : Heap}


def mostF (w : Wg) (m : Nat) (j q : Nat) : Nat := foldF (fun m i => if decide (pop m < pop i) && w.canS i then i else m) m j q

/-- What the reference's Most answers. -/
def Wg.mostR (w : Wg) : Nat := mostF w 1 1 (2 ^ w.bs.length - 1)

def polUp (w : Wg) (s j : Nat) : List Bk := (List.range j).map fun i => polB s i (w.b i)

def polishF (w : Wg) (m : Nat) (j q : Nat) : Nat := foldF (fun m i => if decide (pop i < pop m) && w.canP i then i else m) m j q

/-- What the reference's Polish answers. -/
def Wg.polishR (w : Wg) : Nat := polishF w (2 ^ (2 * w.bs.length) - 1) 0 (2 ^ (2 * w.bs.length))

end Go.Ab
/-
  The greatest set of blocks, the least one of faces.
-/
namespace Go.Ab
open Go.Proofs
set_option linter.unusedSimpArgs false
set_option linter.unusedVariables false
set_option maxRecDepth 100000
set_option maxHeartbeats 2000000

variable {H : Heap}


theorem tal_pos {w : Wg} (ho : w.Ok) {b : Bool} {p : Pl} (hp : p.Ok w) : 0 < (w.tal b p).1 ↔ ∃ l, w.goes b p l := by
  obtain ⟨_, h2, h3⟩ := tal_least ho (b := b) hp
  exact ⟨fun h => by obtain ⟨l, l1, _⟩ := h3 h; exact ⟨l, l1⟩, fun ⟨l, hl⟩ => (h2 l hl).1⟩

theorem canS_iff {w : Wg} (ho : w.Ok) {s : Nat} (hs : s < 2 ^ w.bs.length) : w.canS s = true ↔ ∃ l, w.goes false ⟨s, pc0, false⟩ l := by
  simp only [Wg.canS, decide_eq_true_eq]
  exact tal_pos ho (start_ok hs)

theorem canS_one {w : Wg} (ho : w.Ok) : w.canS 1 = true := by
  have hn := ho.n.1
  simp only [Wg.n] at hn
  have h2 : 2 ^ 1 ≤ 2 ^ w.bs.length := Nat.pow_le_pow_right (by omega) hn
  rw [canS_iff ho (by omega)]
  refine ⟨[⟨0, 0⟩], plL_iff.2 ⟨⟨by simp, by simp only [Wg.n]; omega, by simp, by simp⟩, by decide, fun h => by cases h⟩, rfl⟩

theorem mostS_is {w : Wg} (ho : w.Ok) : ∃ x, w.mostS = some x ∧ w.canS x = true ∧ x < 2 ^ w.bs.length ∧ ∀ i, i < 2 ^ w.bs.length → w.canS i = true → pop i < pop x ∨ (pop i = pop x ∧ x ≤ i) := by
  have h5 := ho.n.2
  have hn := ho.n.1
  simp only [Wg.n] at hn h5
  have h2 : 2 ^ 1 ≤ 2 ^ w.bs.length := Nat.pow_le_pow_right (by omega) hn
  have hsr := (mostL_srt (n := w.bs.length) (by omega)).1
  cases hm : w.mostS with
  | none =>
    obtain ⟨k, k1, k2⟩ := mostL_has (n := w.bs.length) (s := 1) (by omega) (by omega)
    have := (findF_none _ _ _).1 hm k (by omega) (by rw [mostL_len]; omega)
    simp only [gt] at k2
    rw [k2, canS_one ho] at this
    cases this
  | some x =>
    obtain ⟨k, k1, k2, k3, k4⟩ := (findF_some _ _ _ _).1 hm
    rw [mostL_len] at k2
    have hx : w.canS ((mostL w.bs.length).getD k 0) = true ∧ (mostL w.bs.length).getD k 0 = x := by
      cases hc : w.canS ((mostL w.bs.length).getD k 0)
      · rw [hc] at k3; cases k3
      · rw [hc] at k3; exact ⟨rfl, by simpa using k3⟩
    refine ⟨x, rfl, by rw [← hx.2]; exact hx.1, by rw [← hx.2]; exact mostL_lt (by omega) k (by rw [mostL_len]; omega), fun i hi hci => ?_⟩
    obtain ⟨l, l1, l2⟩ := mostL_has (n := w.bs.length) (s := i) (by omega) hi
    simp only [gt] at l2
    by_cases hkl : l < k
    · have := k4 l (by omega) hkl
      rw [l2, hci] at this
      cases this
    · by_cases e : l = k
      · subst e
        rw [hx.2] at l2
        exact .inr ⟨by rw [l2], by omega⟩
      · have hs := hsr k l (by omega) (by omega) l1
        simp only [gt, hx.2, l2, lx, popD, rkP] at hs
        omega

end Go.Ab
/-
  A wring of which more, or something else, is known: plain.
-/
namespace Go.Ab
open Go.Proofs
set_option linter.unusedSimpArgs false
set_option linter.unusedVariables false
set_option maxRecDepth 100000
set_option maxHeartbeats 2000000

variable {H : Heap}


/-! ### What can lie in one wring can in another one -/

/-- A second wring, in which each place has a place of its own, and what can lie on each other still can. -/
structure Sub (w x : Wg) (m : Pc → Pc) : Prop where
  n : x.bs.length = w.bs.length
  pok : ∀ y, w.pok y → x.pok (m y)
  b : ∀ y z, w.pok y → w.pok z → (m y).b = (m z).b → y.b = z.b
  inj : ∀ y z, w.pok y → w.pok z → m y = m z → y = z
  jt : ∀ b y z, w.pok y → w.pok z → w.jt b y z = 0 → x.jt b (m y) (m z) = 0

theorem pcA_map {l : List Pc} {m : Pc → Pc} {i : Nat} (hi : i < l.length) : pcA (l.map m) i = m (pcA l i) := by
  rw [pcA_get (by rw [List.length_map]; exact hi), pcA_get hi, List.getElem_map]

theorem Sub.stk {w x : Wg} {m : Pc → Pc} (h : Sub w x m) {l : List Pc} (hs : w.stk l = true) : x.stk (l.map m) = true := by
  obtain ⟨h1, h2, h3⟩ := stk_iff.1 hs
  refine stk_iff.2 ⟨by simpa using h1, ?_, ?_⟩
  · intro y hy
    obtain ⟨z, hz, rfl⟩ := List.mem_map.1 hy
    exact h.pok z (h2 z hz)
  · rw [List.Nodup, List.map_map, List.pairwise_map]
    rw [List.Nodup, List.pairwise_map] at h3
    exact h3.imp_of_mem (fun ha hb hn e => hn (h.b _ _ (h2 _ ha) (h2 _ hb) e))

theorem Sub.hld {w x : Wg} {m : Pc → Pc} (h : Sub w x m) {l : List Pc} (hs : w.stk l = true) {b : Bool} (hh : w.hld b l = true) : x.hld b (l.map m) = true := by
  have hp := (stk_pok hs).1
  rw [hld_iff] at hh ⊢
  intro i hi
  rw [List.length_map] at hi
  rw [pcA_map (by omega), pcA_map hi]
  exact h.jt b _ _ (hp i (by omega)) (hp (i + 1) hi) (hh i hi)

theorem Sub.can {w x : Wg} {m : Pc → Pc} (h : Sub w x m) (ho : w.Ok) (hx : x.Ok) {b : Bool} (hc : w.can b = true) : x.can b = true := by
  obtain ⟨l, h1, h2, h3⟩ := (can_iff ho b).1 hc
  exact (can_iff hx b).2 ⟨_, h.stk h1, h.hld h1 h2, by rw [List.length_map, h3, h.n]⟩

theorem ext_nodup (w : Wg) (b : Bool) : ∀ (n : Nat) (p : Pl), (w.ext b n p).Nodup
  | 0, p => by simp [Wg.ext]
  | n + 1, p => by
    simp only [Wg.ext]
    split
    · simp
    · rw [List.Nodup, List.pairwise_flatMap]
      refine ⟨fun x _ => ?_, ?_⟩
      · rw [List.pairwise_map]
        exact (ext_nodup w b n (p.next x)).imp (fun hn e => hn (List.cons.inj e).2)
      · have hl := plB_lex w b p w.bs.length 0
        refine hl.imp (fun {y z} hyz l hl k hk e => ?_)
        obtain ⟨l', _, rfl⟩ := List.mem_map.1 hl
        obtain ⟨k', _, rfl⟩ := List.mem_map.1 hk
        have := (List.cons.inj e).1
        subst this
        simp only [lexP] at hyz
        omega

theorem map_inj {P : Pc → Prop} {m : Pc → Pc} (hi : ∀ y z, P y → P z → m y = m z → y = z) : ∀ {l k : List Pc}, (∀ y ∈ l, P y) → (∀ y ∈ k, P y) → l.map m = k.map m → l = k
  | [], [], _, _, _ => rfl
  | [], z :: k, _, _, h => by simp at h
  | y :: l, [], _, _, h => by simp at h
  | y :: l, z :: k, h1, h2, h => by
    rw [List.map_cons, List.map_cons] at h
    have h3 := List.cons.inj h
    rw [hi y z (h1 y (List.mem_cons_self ..)) (h2 z (List.mem_cons_self ..)) h3.1, map_inj hi (fun a ha => h1 a (List.mem_cons_of_mem _ ha)) (fun a ha => h2 a (List.mem_cons_of_mem _ ha)) h3.2]

theorem full_goes {w : Wg} (ho : w.Ok) {b : Bool} {l : List Pc} : w.goes b w.full l ↔ w.stk l = true ∧ w.hld b l = true ∧ l.length = w.bs.length := by
  constructor
  · intro hl
    rcases (goes_set ho (full_lt w) l).1 hl with ⟨_, h⟩ | ⟨h1, h2, h3⟩
    · exact absurd h (full_pos ho)
    · exact ⟨h1, h2, (stk_whole h1).2 h3⟩
  · rintro ⟨h1, h2, h3⟩
    exact (goes_set ho (full_lt w) l).2 (.inr ⟨h1, h2, (stk_whole h1).1 h3⟩)

theorem full_cnt {w : Wg} (ho : w.Ok) : cnt w.full.left ≤ 6 := by
  have h := cnt_full ho.n.2
  show cnt (2 ^ w.bs.length - 1) ≤ 6
  rw [h]
  have := ho.n.2
  simp only [Wg.n] at this ⊢
  omega

theorem Sub.count {w x : Wg} {m : Pc → Pc} (h : Sub w x m) (ho : w.Ok) (hx : x.Ok) (b : Bool) : (w.tal b w.full).1 ≤ (x.tal b x.full).1 := by
  have e1 := (tal_ext w b 6 w.full).len
  have e2 := (tal_ext x b 6 x.full).len
  rw [Wg.tal, Wg.tal, e1, e2]
  have hm := fun l => mem_ext ho b 6 w.full l (full_ok w) (full_cnt ho)
  have hm2 := fun l => mem_ext hx b 6 x.full l (full_ok x) (full_cnt hx)
  have hp : ∀ l ∈ w.ext b 6 w.full, ∀ y ∈ l, w.pok y := fun l hl y hy => (stk_iff.1 ((full_goes ho).1 ((hm l).1 hl)).1).2.1 y hy
  have := nodup_len (a := (w.ext b 6 w.full).map (List.map m)) (b := x.ext b 6 x.full) (by
    rw [List.Nodup, List.pairwise_map]
    exact (ext_nodup w b 6 w.full).imp_of_mem (fun ha hb hn e => hn (map_inj h.inj (hp _ ha) (hp _ hb) e))) (fun k hk => by
    obtain ⟨l, hl, rfl⟩ := List.mem_map.1 hk
    obtain ⟨h1, h2, h3⟩ := (full_goes ho).1 ((hm l).1 hl)
    exact (hm2 _).2 ((full_goes hx).2 ⟨h.stk h1, h.hld h1 h2, by rw [List.length_map, h3, h.n]⟩))
  rw [List.length_map] at this
  omega

/-! ### The film -/

theorem Sub.film {w x : Wg} {m : Pc → Pc} (h : Sub w x m) (ho : w.Ok) (hx : x.Ok) (hf : ∀ y z, w.pok y → w.pok z → (x.fa (m y)).hi + (x.fb (m z)).hi ≤ (w.fa y).hi + (w.fb z).hi) (hc : 0 < (w.tal false w.full).1) : (x.tal false x.full).2 ≤ (w.tal false w.full).2 := by
  obtain ⟨_, _, h3⟩ := tal_least ho (b := false) (full_ok w)
  obtain ⟨l, hl, e⟩ := h3 hc
  obtain ⟨_, k2, _⟩ := tal_least hx (b := false) (full_ok x)
  obtain ⟨g1, g2, g3⟩ := (full_goes ho).1 hl
  have hp := (stk_iff.1 g1).2.1
  have := (k2 (l.map m) ((full_goes hx).2 ⟨h.stk g1, h.hld g1 g2, by rw [List.length_map, g3, h.n]⟩)).2
  rw [← e]
  refine Int.le_trans this ?_
  have key : ∀ (l : List Pc) (p q : Pl), (∀ y ∈ l, w.pok y) → p.some = q.some → (p.some = true → w.pok p.top ∧ q.top = m p.top) → x.fmL q (l.map m) ≤ w.fmL p l := by
    intro l
    induction l with
    | nil => intro p q _ _ _; exact Int.le_refl _
    | cons y r ih =>
      intro p q h1 h2 h3
      have hy := h1 y (List.mem_cons_self ..)
      have := ih (p.next y) (q.next (m y)) (fun z hz => h1 z (List.mem_cons_of_mem _ hz)) rfl (fun _ => ⟨hy, rfl⟩)
      have hfi : x.film q (m y) ≤ w.film p y := by
        simp only [Wg.film, ← h2]
        cases hs : p.some
        · simp
        · obtain ⟨a1, a2⟩ := h3 hs
          simp only [if_true, a2]
          exact hf _ _ a1 hy
      simp only [List.map_cons, Wg.fmL]
      omega
  exact key l w.full x.full hp rfl (fun hh => by simp [Wg.full] at hh)

/-! ### The most -/

theorem pop_list : ∀ s < 32, pop s = ((List.range 5).filter fun i => s.testBit i).length := by decide +kernel

theorem pop_set {w : Wg} (ho : w.Ok) {s : Nat} (hs : s < 2 ^ w.bs.length) {l : List Pc} (hl : w.stk l = true) (h : w.setOf s l) : pop s = l.length := by
  have h5 := ho.n.2
  simp only [Wg.n] at h5
  have h32 : (2 : Nat) ^ w.bs.length ≤ 2 ^ 5 := Nat.pow_le_pow_right (by omega) h5
  rw [pop_list s (by omega)]
  obtain ⟨h0, h1, h2⟩ := stk_iff.1 hl
  have hnd : (((List.range 5).filter fun i => s.testBit i).map fun (i : Nat) => (i : Int)).Nodup := by
    rw [List.Nodup, List.pairwise_map]
    exact ((List.nodup_range (n := 5)).filter _).imp (fun hn e => hn (by omega))
  have a1 := nodup_len (a := (((List.range 5).filter fun i => s.testBit i).map fun (i : Nat) => (i : Int))) (b := l.map Pc.b) hnd (fun y hy => by
    obtain ⟨i, hi, rfl⟩ := List.mem_map.1 hy
    obtain ⟨x, hx, e⟩ := (h i).1 (by simpa using (List.mem_filter.1 hi).2)
    exact List.mem_map.2 ⟨x, hx, e⟩)
  have a2 := nodup_len (a := l.map Pc.b) (b := (((List.range 5).filter fun i => s.testBit i).map fun (i : Nat) => (i : Int))) h2 (fun y hy => by
    obtain ⟨x, hx, rfl⟩ := List.mem_map.1 hy
    have hp := h1 x hx
    have p1 := hp.1
    have p2 := hp.2.1
    simp only [Wg.n] at p2
    have e : ((x.b.toNat : Nat) : Int) = x.b := by omega
    exact List.mem_map.2 ⟨x.b.toNat, List.mem_filter.2 ⟨List.mem_range.2 (by omega), by simpa using (h x.b.toNat).2 ⟨x, hx, e.symm⟩⟩, e⟩)
  simp only [List.length_map] at a1 a2
  omega

theorem set_of {w : Wg} {l : List Pc} (hl : w.stk l = true) : ∃ s, s < 2 ^ w.bs.length ∧ w.setOf s l := by
  refine ⟨maskN (fun i => l.any fun x => x.b == (i : Int)) w.bs.length, maskN_lt _ _, fun i => ?_⟩
  obtain ⟨h0, h1, h2⟩ := stk_iff.1 hl
  rw [maskN_bit]
  simp only [Bool.and_eq_true, decide_eq_true_eq, List.any_eq_true, beq_iff_eq]
  constructor
  · rintro ⟨_, h⟩; exact h
  · rintro ⟨x, hx, e⟩
    have := (h1 x hx).2.1
    simp only [Wg.n] at this
    exact ⟨by omega, x, hx, e⟩

theorem Sub.most {w x : Wg} {m : Pc → Pc} (h : Sub w x m) (ho : w.Ok) (hx : x.Ok) : w.most.1 ≤ x.most.1 := by
  have hv := w.valid_iff.2 ho
  have hxv := x.valid_iff.2 hx
  obtain ⟨s, e1, e2, e3, _⟩ := mostS_is ho
  obtain ⟨t, f1, f2, f3, f4⟩ := mostS_is hx
  simp only [Wg.most, hv, hxv, if_true, e1, f1, Option.getD_some]
  obtain ⟨l, hl⟩ := (canS_iff ho e3).1 e2
  rcases (goes_set ho e3 l).1 hl with ⟨_, h0⟩ | ⟨h1, h2, h3⟩
  · subst h0
    have : pop 0 = 0 := by decide
    omega
  · have g1 := h.stk h1
    obtain ⟨s', k1, k2⟩ := set_of g1
    have hc : x.canS s' = true := (canS_iff hx k1).2 ⟨_, (goes_set hx k1 _).2 (.inr ⟨g1, h.hld h1 h2, k2⟩)⟩
    have p1 := pop_set ho e3 h1 h3
    have p2 := pop_set hx k1 g1 k2
    rw [List.length_map] at p2
    have := f4 s' k1 hc
    omega

end Go.Ab
