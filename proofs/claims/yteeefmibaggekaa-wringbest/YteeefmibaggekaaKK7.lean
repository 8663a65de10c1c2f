/-
  The reference, walked: how many are in a set; all stacks.
-/
import Derived.Test.YteeefmibaggekaaKK6
import Derived.Test.YteeefmibaggekaaKK3
import Derived.Test.YteeefmibaggekaaKK4
import Derived.Test.YteeefmibaggekaaKK5
namespace Go.Ab
open Go.Proofs
set_option linter.unusedSimpArgs false
set_option linter.unusedVariables false
set_option maxRecDepth 100000
set_option maxHeartbeats 2000000

variable {H : Heap}


end Go.Ab
/-
  The reference, walked: all stacks.
-/
namespace Go.Ab
open Go.Proofs
set_option linter.unusedSimpArgs false
set_option linter.unusedVariables false
set_option maxRecDepth 100000
set_option maxHeartbeats 2000000

variable {H : Heap}


def stA (xs : List Pc) : AV := .sl false (xs.map Pc.av)
/-- What lies at the foot of a call: the list that grows, if it begins there. -/
def XO (H : Heap) (P : Nat) (outs : List (List Pc)) : AO := .grow 1 (if P = H.length then outs.map stA else [])

/-- What a call answers. -/
def stR (H : Heap) (P : Nat) (outs : List (List Pc)) : Option Done := some ⟨.ret (if P < H.length then .gsl P outs.length else .sl false (outs.map stA)), H.set P (.grow 1 (outs.map stA)), none⟩

/-- Where the list that grows lies, when a call begins. -/
def OutAt (H : Heap) (P : Nat) (v : AV) (outs : List (List Pc)) : Prop :=
  (P < H.length ∧ v = .gsl P outs.length ∧ H[P]? = some (.grow 1 (outs.map stA))) ∨ (P = H.length ∧ v = .sl true [] ∧ outs = [])

/-- A stack to go on with, and its pile. -/
structure Beg (w : Wg) (b : Bool) (s : Nat) (xs : List Pc) (p : Pl) : Prop where
  ok : p.Ok w
  px : ∀ x ∈ xs, w.pok x
  nd : (xs.map Pc.b).Nodup
  hl : w.hL b none xs
  lf : ∀ i : Nat, p.left.testBit i = true ↔ s.testBit i = true ∧ ∀ x ∈ xs, x.b ≠ (i : Int)
  tp : p.tp = xs.getLast?
  cn : xs.length + cnt p.left = cnt s

theorem hL_snoc {w : Wg} {b : Bool} {x : Pc} : ∀ (xs : List Pc) (o : Option Pc), w.hL b o (xs ++ [x]) ↔ w.hL b o xs ∧ ∀ y, (xs.getLast?.or o) = some y → w.jt b y x = 0
  | [], o => by simp [Wg.hL]
  | z :: r, o => by
    have ih := hL_snoc (w := w) (b := b) (x := x) r (some z)
    have e : ((z :: r).getLast?.or o) = (r.getLast?.or (some z)) := by
      cases r with
      | nil => rfl
      | cons a s =>
        rw [List.getLast?_cons_cons, List.getLast?_eq_some_getLast (List.cons_ne_nil a s)]
        rfl
    simp only [List.cons_append, Wg.hL, ih, e]
    exact ⟨fun ⟨a, b, c⟩ => ⟨⟨a, b⟩, c⟩, fun ⟨⟨a, b⟩, c⟩ => ⟨a, b, c⟩⟩

theorem tp_iff {p : Pl} {f : Pc → Prop} : (p.some = true → f p.top) ↔ ∀ y, p.tp = some y → f y := by
  simp only [Pl.tp]
  cases p.some <;> simp

theorem Beg.cond {w : Wg} {b : Bool} {s : Nat} {xs : List Pc} {p : Pl} (hb : Beg w b s xs p) {x : Pc} (hx : w.pok x) :
    x ∈ w.plL b p ↔ s.testBit x.b.toNat = true ∧ w.stk (xs ++ [x]) = true ∧ w.hld b (xs ++ [x]) = true := by
  have h3 := tp_iff (p := p) (f := fun y => w.jt b y x = 0)
  rw [plL_iff, h3, hb.tp, hb.lf, stk_iff, hld_hL, hL_snoc, Option.or_none]
  simp only [List.map_append, List.map_cons, List.map_nil]
  rw [List.nodup_append]
  constructor
  · rintro ⟨_, ⟨h1, h2⟩, h3⟩
    refine ⟨h1, ⟨by simp, ?_, hb.nd, List.nodup_cons.2 ⟨by simp, List.nodup_nil⟩, ?_⟩, hb.hl, h3⟩
    · intro y hy
      rcases List.mem_append.1 hy with hy | hy
      · exact hb.px y hy
      · rw [List.mem_singleton.1 hy]; exact hx
    · intro y hy z hz
      rw [List.mem_singleton.1 hz]
      obtain ⟨k, k1, rfl⟩ := List.mem_map.1 hy
      have := h2 k k1
      have := hx.1
      intro e
      exact h2 k k1 (by omega)
  · rintro ⟨h1, ⟨_, h4, _, _, h5⟩, _, h3⟩
    refine ⟨hx, ⟨h1, fun y hy e => ?_⟩, h3⟩
    have := hx.1
    exact h5 y.b (List.mem_map.2 ⟨y, hy, rfl⟩) x.b (List.mem_singleton.2 rfl) (by omega)

/-- What the reference's stacks do from a stack on. -/
def StkOk (w : Wg) (b : Bool) (s : Nat) (vb va : AV) (n : Nat) : Prop :=
  ∀ (H : Heap) (P : Nat) (v : AV) (outs : List (List Pc)) (f : Bool) (xs : List Pc) (p : Pl), Beg w b s xs p → cnt p.left = n → (f = false ∨ n ≠ 0) → OutAt H P v outs →
    (∀ o, WgAt (H.set P (.grow 1 o)) w vb va) → outs.length + (w.ext b n p).length ≤ 1000000 →
    callFL cfg0 prog0 false 69 [.agg [vb, va], I s, .bool b, .sl f (xs.map Pc.av), v] H none = stR H P (outs ++ (w.ext b n p).map (xs ++ ·))

/-- What comes of some places. -/
def Wg.extL (w : Wg) (b : Bool) (n : Nat) (xs : List Pc) (p : Pl) (l : List Pc) : List (List Pc) := (l.flatMap fun x => (w.ext b n (p.next x)).map (x :: ·)).map (xs ++ ·)

/-- All stacks of the blocks of a set. -/
def Wg.stks (w : Wg) (b : Bool) (s : Nat) : List (List Pc) := w.ext b (cnt s) ⟨s, pc0, false⟩

end Go.Ab
/-
  The reference, walked: can, Count, Hope, Best.
-/
namespace Go.Ab
open Go.Proofs
set_option linter.unusedSimpArgs false
set_option linter.unusedVariables false
set_option maxRecDepth 100000
set_option maxHeartbeats 2000000

variable {H : Heap}


theorem full_pos {w : Wg} (ho : w.Ok) : 2 ^ w.bs.length - 1 ≠ 0 := by
  have h1 := ho.n.1
  simp only [Wg.n] at h1
  have : 2 ^ 1 ≤ 2 ^ w.bs.length := Nat.pow_le_pow_right (by omega) h1
  omega

def minF (f : List Pc → Int) (L : List (List Pc)) (m : List Pc) (j q : Nat) : List Pc := foldF (fun m i => if f (L.getD i []) < f m then L.getD i [] else m) m j q

theorem stk_len {w : Wg} (ho : w.Ok) {l : List Pc} (h : w.stk l = true) : l.length ≤ w.bs.length := by
  obtain ⟨_, h1, h2⟩ := stk_iff.1 h
  have key : ∀ (n : Nat) (m : List Int), m.Nodup → (∀ x ∈ m, 0 ≤ x ∧ x < (n : Int)) → m.length ≤ n := by
    intro n
    induction n with
    | zero =>
      intro m _ hm
      cases m with
      | nil => simp
      | cons a r => have := hm a (List.mem_cons_self ..); omega
    | succ n ih =>
      intro m hn hm
      have h1 := ih (m.erase (n : Int)) (hn.erase _) (fun x hx => by
        have hx' := (hn.mem_erase_iff).1 hx
        have := hm x hx'.2
        have := hx'.1
        omega)
      have := List.length_erase_le (a := (n : Int)) (l := m)
      by_cases hmem : (n : Int) ∈ m
      · rw [List.length_erase_of_mem hmem] at h1; omega
      · rw [List.erase_of_not_mem hmem] at h1; omega
  have := key w.bs.length (l.map Pc.b) h2 (fun x hx => by
    obtain ⟨y, hy, rfl⟩ := List.mem_map.1 hx
    have := h1 y hy
    exact ⟨this.1, this.2.1⟩)
  rwa [List.length_map] at this

end Go.Ab
/-
  Truths and stacks.
-/
namespace Go.Ab
open Go.Proofs
set_option linter.unusedSimpArgs false
set_option linter.unusedVariables false
set_option maxRecDepth 100000
set_option maxHeartbeats 2000000

variable {H : Heap}


theorem nodup_len {α : Type} [DecidableEq α] : ∀ {a b : List α}, a.Nodup → a ⊆ b → a.length ≤ b.length
  | [], b, _, _ => Nat.zero_le _
  | x :: r, b, h, hs => by
    rw [List.nodup_cons] at h
    have hx : x ∈ b := hs (List.mem_cons_self ..)
    have h1 := nodup_len (a := r) (b := b.erase x) h.2 (fun y hy => (List.mem_erase_of_ne (fun e => h.1 (by rw [← e]; exact hy))).2 (hs (List.mem_cons_of_mem _ hy)))
    rw [List.length_erase_of_mem hx] at h1
    have := List.length_pos_of_mem hx
    simp only [List.length_cons]
    omega

theorem range_nodup (n : Nat) : ((List.range n).map fun (i : Nat) => (i : Int)).Nodup := by
  rw [List.Nodup, List.pairwise_map]
  exact (List.nodup_range (n := n)).imp (fun h e => h (by omega))

theorem full_bit {n i : Nat} : (2 ^ n - 1).testBit i = true ↔ i < n := by rw [Nat.testBit_two_pow_sub_one, decide_eq_true_eq]

theorem stk_whole {w : Wg} {l : List Pc} (h : w.stk l = true) : l.length = w.bs.length ↔ w.setOf (2 ^ w.bs.length - 1) l := by
  obtain ⟨h0, h1, h2⟩ := stk_iff.1 h
  constructor
  · intro hl i
    rw [full_bit]
    constructor
    · intro hi
      by_cases hm : (i : Int) ∈ l.map Pc.b
      · obtain ⟨x, hx, e⟩ := List.mem_map.1 hm
        exact ⟨x, hx, e⟩
      · have := nodup_len (a := (i : Int) :: l.map Pc.b) (b := (List.range w.bs.length).map fun (i : Nat) => (i : Int)) (List.nodup_cons.2 ⟨hm, h2⟩) (fun y hy => by
          rcases List.mem_cons.1 hy with rfl | hy
          · exact List.mem_map.2 ⟨i, List.mem_range.2 hi, rfl⟩
          · obtain ⟨x, hx, rfl⟩ := List.mem_map.1 hy
            have hp := h1 x hx
            have p1 := hp.1
            have p2 := hp.2.1
            simp only [Wg.n] at p2
            exact List.mem_map.2 ⟨x.b.toNat, List.mem_range.2 (by omega), by omega⟩)
        simp only [List.length_cons, List.length_map, List.length_range] at this
        omega
    · rintro ⟨x, hx, e⟩
      have hp := (h1 x hx).2.1
      simp only [Wg.n] at hp
      omega
  · intro hs
    have h3 := nodup_len (a := (List.range w.bs.length).map fun (i : Nat) => (i : Int)) (b := l.map Pc.b) (range_nodup _) (fun y hy => by
      obtain ⟨i, hi, rfl⟩ := List.mem_map.1 hy
      obtain ⟨x, hx, e⟩ := (hs i).1 (full_bit.2 (List.mem_range.1 hi))
      exact List.mem_map.2 ⟨x, hx, e⟩)
    simp only [List.length_map, List.length_range] at h3
    have h4 := nodup_len (a := l.map Pc.b) (b := (List.range w.bs.length).map fun (i : Nat) => (i : Int)) h2 (fun y hy => by
      obtain ⟨x, hx, rfl⟩ := List.mem_map.1 hy
      have hp := h1 x hx
      have p1 := hp.1
      have p2 := hp.2.1
      simp only [Wg.n] at p2
      exact List.mem_map.2 ⟨x.b.toNat, List.mem_range.2 (by omega), by omega⟩)
    simp only [List.length_map, List.length_range] at h4
    omega

theorem jtz {w : Wg} {b : Bool} {x y : Pc} : w.jt b x y = 0 ↔ w.ap x.b y.b = false ∧ (w.fa x).st ≤ lvl b ∧ (w.fb y).st ≤ lvl b := by
  simp only [Wg.jt]
  cases w.ap x.b y.b
  · by_cases h1 : (w.fa x).st ≤ lvl b
    · by_cases h2 : (w.fb y).st ≤ lvl b <;> simp [h1, h2]
    · simp [h1]
  · simp

theorem talp {w : Wg} (ho : w.Ok) {b : Bool} {p : Pl} (hp : p.Ok w) : 0 < (w.tal b p).1 ↔ ∃ l, w.goes b p l := by
  obtain ⟨_, h2, h3⟩ := tal_least ho (b := b) hp
  exact ⟨fun h => by obtain ⟨l, l1, _⟩ := h3 h; exact ⟨l, l1⟩, fun ⟨l, hl⟩ => (h2 l hl).1⟩

/-! ### What is told of a stack -/

theorem holds_is {w : Wg} (hv : w.valid = true) {l : List Pc} (hs : w.stk l = true) : w.holds l = (if w.hld false l then 2 else if w.hld true l then 1 else 0, 0) := by
  simp only [Wg.holds, hv, hs, if_true]
  rw [brk_hld false l, brk_hld true l]
  by_cases h1 : (w.brk false l).2 = 0
  · simp [h1]
  · by_cases h2 : (w.brk true l).2 = 0 <;> simp [h1, h2]

theorem can_iff {w : Wg} (ho : w.Ok) (b : Bool) : w.can b = true ↔ ∃ l, w.stk l = true ∧ w.hld b l = true ∧ l.length = w.bs.length := by
  simp only [Wg.can, decide_eq_true_eq]
  rw [talp ho (full_ok w)]
  constructor
  · rintro ⟨l, hl⟩
    rcases (goes_set ho (full_lt w) l).1 hl with ⟨_, h⟩ | ⟨h1, h2, h3⟩
    · exact absurd h (full_pos ho)
    · exact ⟨l, h1, h2, (stk_whole h1).2 h3⟩
  · rintro ⟨l, h1, h2, h3⟩
    exact ⟨l, (goes_set ho (full_lt w) l).2 (.inr ⟨h1, h2, (stk_whole h1).1 h3⟩)⟩

theorem hld_mono {w : Wg} {l : List Pc} (h : w.hld false l = true) : w.hld true l = true := by
  rw [hld_iff] at h ⊢
  intro i hi
  obtain ⟨h1, h2, h3⟩ := jtz.1 (h i hi)
  simp only [lvl, Bool.false_eq_true, if_false] at h2 h3
  exact jtz.2 ⟨h1, by simp only [lvl, if_true]; omega, by simp only [lvl, if_true]; omega⟩

/-- The best stack. -/
theorem best_is {w : Wg} (ho : w.Ok) (h : w.can false = true) : w.best = ((w.tal false w.full).2, some (w.bestL w.bs.length w.full), 0) ∧ w.stk (w.bestL w.bs.length w.full) = true ∧ w.hld false (w.bestL w.bs.length w.full) = true ∧ (w.bestL w.bs.length w.full).length = w.bs.length ∧ (w.flm (w.bestL w.bs.length w.full)).2 = (w.tal false w.full).2 := by
  have hv := (w.valid_iff).2 ho
  have ht : 0 < (w.tal false w.full).1 := by simpa [Wg.can] using h
  have hb : w.best = ((w.tal false w.full).2, some (w.bestL w.bs.length w.full), 0) := by simp only [Wg.best, hv, if_true, if_pos ht]
  obtain ⟨g1, g2⟩ := bestL_goes ho w.bs.length w.full (full_ok w) (cnt_full ho.n.2) ht
  rcases (goes_set ho (full_lt w) _).1 g1 with ⟨_, h0⟩ | ⟨k1, k2, k3⟩
  · exact absurd h0 (full_pos ho)
  · exact ⟨hb, k1, k2, (stk_whole k1).2 k3, by rw [← g2]; exact flm_fm w _ _ _⟩

theorem best_no {w : Wg} (ho : w.Ok) (h : w.can false = false) : w.best = (0, none, 4) := by
  have hv := (w.valid_iff).2 ho
  have ht : ¬ 0 < (w.tal false w.full).1 := by simpa [Wg.can] using h
  simp only [Wg.best, hv, if_true, if_neg ht]

end Go.Ab
/-
  WringStacks.
-/
namespace Go.Ab
open Go.Proofs
set_option linter.unusedSimpArgs false
set_option linter.unusedVariables false
set_option maxRecDepth 100000
set_option maxHeartbeats 2000000

variable {H : Heap}


end Go.Ab
/-
  WringTrue.
-/
namespace Go.Ab
open Go.Proofs
set_option linter.unusedSimpArgs false
set_option linter.unusedVariables false
set_option maxRecDepth 100000
set_option maxHeartbeats 2000000

variable {H : Heap}


end Go.Ab
/-
  WringBest.
-/
namespace Go.Ab
open Go.Proofs
set_option linter.unusedSimpArgs false
set_option linter.unusedVariables false
set_option maxRecDepth 100000
set_option maxHeartbeats 2000000

variable {H : Heap}


theorem tal_one {w : Wg} (h : w.bs.length = 1) (b : Bool) : w.tal b w.full = (2, 0) := by
  simp [Wg.tal, Wg.talF, Wg.full, h, Wg.plL, Wg.plB, Wg.plU, Wg.ok1, Wg.stT, Pl.next, Wg.film]

theorem lexP_irr (x : Pc) : ¬ lexP x x := by simp [lexP]

def LexOk (own film : Int) (m l : List Pc) (j : Nat) : Prop := own = film → lexL (m.drop j) (l.drop j)

theorem wb_loop {vb va : AV} (s1 : vb.scalar = true) (s2 : va.scalar = true) {l m : List Pc} (hl : l.length ≤ 1000) (hm : m.length = l.length) (own film : Int) :
    ∀ (q j : Nat), j + q = l.length → LexOk own film m l j → ∀ E : Env, E.get 5 = I film → E.get 6 = .sl false (m.map Pc.av) → E.get 10 = .sl false (l.map Pc.av) → E.get 16 = I own → E.get 151 = I l.length → E.get 152 = I j →
    Option.map (finishC H.length) (execL cfg0 prog0 ⟨9, none, false, H.length⟩ (todoAt Try.f9 23) ⟨E, [], H ++ [.box (.agg [vb, va])], none⟩) = some ⟨.ret (.bool true), H, none⟩ := by
  intro q
  obtain ⟨a1, a2, a3, a4, a5⟩ := (slP (H := H) (b := false) l).fF (d := pc0)
  obtain ⟨b1, b2, b3, b4, b5⟩ := (slP (H := H) (b := false) m).fF (d := pc0)
  rw [hm] at b1 b2 b3 b4
  have hA := fun G : Heap => law_alive G
  induction q with
  | zero =>
    intro j hj hx E g5 g6 g10 g16 g151 g152
    have hk' : ¬ (j : Int) < ((l.length : Nat) : Int) := by omega
    simp only [loopIt, todoPast, todoAt, todoOf, firstReg, ↓reduceIte, Option.some.injEq, Nat.reduceEqDiff, reduceCtorEq, Try.f9]
    rw [execL_inLoop]
    simp (maxSteps := 1000000) (implicitDefEqProofs := false) (disch := first | rfl | omega | assumption) only [go_sem, g5, g6, g10, g16, g151, g152, ltT, ltF, leT, leF, hk', hA]
    done
  | succ q ih =>
    intro j hj hx E g5 g6 g10 g16 g151 g152
    have hk' : (j : Int) < ((l.length : Nat) : Int) := by omega
    have hk2 : j < l.length := by omega
    by_cases ho : own = film
    · have hx := hx ho
      have hob : (own == film) = true := by simpa using ho
      obtain ⟨⟨xb, xu⟩, hxe⟩ : ∃ x, l.getD j pc0 = x := ⟨_, rfl⟩
      obtain ⟨⟨yb, yu⟩, hye⟩ : ∃ x, m.getD j pc0 = x := ⟨_, rfl⟩
      have d1 : l.drop j = ⟨xb, xu⟩ :: l.drop (j + 1) := by
        rw [List.drop_eq_getElem_cons (show j < l.length by omega), ← hxe]
        simp [show j < l.length by omega]
      have d2 : m.drop j = ⟨yb, yu⟩ :: m.drop (j + 1) := by
        rw [List.drop_eq_getElem_cons (show j < m.length by omega), ← hye]
        simp [show j < m.length by omega]
      rw [d1, d2] at hx
      have hrd : ∀ (a b : Int), (Pc.av ⟨a, b⟩).cells = [I a, I b] := fun _ _ => rfl
      have hsm : sameL [I xb, I xu] [I yb, I yu] = (xb == yb && xu == yu) := by simp [sameL, AV.same]
      cases c1 : (xb == yb)
      · have hlt : yb < xb := by
          have hne : xb ≠ yb := by simpa using c1
          rcases hx with h | ⟨h, _⟩
          · rcases h with h | ⟨h, _⟩
            · exact h
            · exact absurd h.symm hne
          · exact absurd (congrArg Pc.b h).symm hne
        simp only [loopIt, todoPast, todoAt, todoOf, firstReg, ↓reduceIte, Option.some.injEq, Nat.reduceEqDiff, reduceCtorEq, Try.f9]
        rw [execL_inLoop]
        simp (maxSteps := 1000000) (implicitDefEqProofs := false) (disch := first | rfl | omega | assumption) only [go_sem, g5, g6, g10, g16, g151, g152, ltT, ltF, leT, leF, hk', hob]
        rw [chkK_of]; rotate_left; kernel_rfl
        simp (maxSteps := 1000000) (implicitDefEqProofs := false) (disch := first | rfl | omega | assumption) only [go_sem, g5, g6, g10, g16, g151, g152, ltT, ltF, leT, leF, hk', hob, a1, a2, a3, a4, a5, b1, b2, b3, b4, b5, hxe, hye, hrd, hsm, c1]
        rw [chkK_of]; rotate_left; kernel_rfl
        simp (maxSteps := 1000000) (implicitDefEqProofs := false) (disch := first | rfl | omega | assumption) only [go_sem, g5, g6, g10, g16, g151, g152, ltT, ltF, leT, leF, hk', hob, a1, a2, a3, a4, a5, b1, b2, b3, b4, b5, hxe, hye, hrd, hsm, c1, hlt, hA]
        done
      · have hxy : xb = yb := by simpa using c1
        cases c2 : (xu == yu)
        · have hne : xu ≠ yu := by simpa using c2
          have hlt : yu < xu := by
            rcases hx with h | ⟨h, _⟩
            · rcases h with h | ⟨_, h⟩
              · simp only at h; omega
              · exact h
            · exact absurd (congrArg Pc.u h).symm hne
          have hnl : ¬ yb < xb := by omega
          have heq : (yb == xb) = true := by simpa using hxy.symm
          simp only [loopIt, todoPast, todoAt, todoOf, firstReg, ↓reduceIte, Option.some.injEq, Nat.reduceEqDiff, reduceCtorEq, Try.f9]
          rw [execL_inLoop]
          simp (maxSteps := 1000000) (implicitDefEqProofs := false) (disch := first | rfl | omega | assumption) only [go_sem, g5, g6, g10, g16, g151, g152, ltT, ltF, leT, leF, hk', hob]
          rw [chkK_of]; rotate_left; kernel_rfl
          simp (maxSteps := 1000000) (implicitDefEqProofs := false) (disch := first | rfl | omega | assumption) only [go_sem, g5, g6, g10, g16, g151, g152, ltT, ltF, leT, leF, hk', hob, a1, a2, a3, a4, a5, b1, b2, b3, b4, b5, hxe, hye, hrd, hsm, c1, c2]
          rw [chkK_of]; rotate_left; kernel_rfl
          simp (maxSteps := 1000000) (implicitDefEqProofs := false) (disch := first | rfl | omega | assumption) only [go_sem, g5, g6, g10, g16, g151, g152, ltT, ltF, leT, leF, hk', hob, a1, a2, a3, a4, a5, b1, b2, b3, b4, b5, hxe, hye, hrd, hsm, c1, c2, hnl, heq, hlt, hA]
          done
        · have hxu : xu = yu := by simpa using c2
          have hx' : lexL (m.drop (j + 1)) (l.drop (j + 1)) := by
            rcases hx with h | ⟨_, h⟩
            · subst hxy; subst hxu; exact absurd h (lexP_irr _)
            · exact h
          simp only [loopIt, todoPast, todoAt, todoOf, firstReg, ↓reduceIte, Option.some.injEq, Nat.reduceEqDiff, reduceCtorEq, Try.f9]
          rw [execL_inLoop]
          simp (maxSteps := 1000000) (implicitDefEqProofs := false) (disch := first | rfl | omega | assumption) only [go_sem, g5, g6, g10, g16, g151, g152, ltT, ltF, leT, leF, hk', hob]
          rw [chkK_of]; rotate_left; kernel_rfl
          simp (maxSteps := 1000000) (implicitDefEqProofs := false) (disch := first | rfl | omega | assumption) only [go_sem, g5, g6, g10, g16, g151, g152, ltT, ltF, leT, leF, hk', hob, a1, a2, a3, a4, a5, b1, b2, b3, b4, b5, hxe, hye, hrd, hsm, c1, c2]
          exact ih (j + 1) (by omega) (fun _ => hx') _ (by exact g5) (by exact g6) (by exact g10) (by exact g16) (by exact g151) (by rfl)
    · have hob : (own == film) = false := by simpa using ho
      simp only [loopIt, todoPast, todoAt, todoOf, firstReg, ↓reduceIte, Option.some.injEq, Nat.reduceEqDiff, reduceCtorEq, Try.f9]
      rw [execL_inLoop]
      simp (maxSteps := 1000000) (implicitDefEqProofs := false) (disch := first | rfl | omega | assumption) only [go_sem, g5, g6, g10, g16, g151, g152, ltT, ltF, leT, leF, hk', hob]
      rw [chkK_of]; rotate_left; kernel_rfl
      simp (maxSteps := 1000000) (implicitDefEqProofs := false) (disch := first | rfl | omega | assumption) only [go_sem, g5, g6, g10, g16, g151, g152, ltT, ltF, leT, leF, hk', hob]
      exact ih (j + 1) (by omega) (fun h => absurd h ho) _ (by exact g5) (by exact g6) (by exact g10) (by exact g16) (by exact g151) (by rfl)

theorem law_WringBest {w : Wg} {vb va : AV} (h : WgAt H w vb va) {vy : AV} {ws : List Int} (hy : SlOk H 1 vy (ws.map B8)) (hyB : ByOk ws) :
    callFL cfg0 prog0 false 9 [.agg [vb, va], vy] H none = some ⟨.ret (.bool true), H, none⟩ := by
  have s1 := h.bs.scal
  have s2 := h.ps.scal
  have n1 := h.bs.len
  rw [List.length_map] at n1
  have c1 := h.bs.cel
  have s3 := hy.scal
  have hL := fun G : Heap => law_long (h.app G) (slP (H := H ++ G) (b := true) [])
  have hA := fun G : Heap => law_alive G
  simp only [List.map_nil, List.length_nil] at hL
  by_cases hlg : 40 < w.bs.length ∨ 40 < w.ps.length ∨ 40 < 0
  · rw [decide_eq_true hlg] at hL
    refine (callFL_eq fn9 rfl (by simp [Try.f9])).trans ?_
    simp (maxSteps := 1000000) (implicitDefEqProofs := false) (disch := first | rfl | omega | assumption) only [go_sem, ltT, ltF, leT, leF, s1, s2, hL, hA]
    done
  rw [decide_eq_false hlg] at hL
  have hl : w.bs.length ≤ 1000 ∧ w.ps.length ≤ 1000 := by omega
  have hW := fun G : Heap => ref_Wring (h.app G) hl
  cases hv : w.valid
  · rw [hv] at hW
    refine (callFL_eq fn9 rfl (by simp [Try.f9])).trans ?_
    simp (maxSteps := 1000000) (implicitDefEqProofs := false) (disch := first | rfl | omega | assumption) only [go_sem, ltT, ltF, leT, leF, s1, s2, hL, hW, hA]
    done
  have ho := w.valid_iff.1 hv
  rw [hv] at hW
  have hn := ho.n
  simp only [Wg.n] at hn
  have hM := fun G : Heap => law_made (h.app G) ⟨by omega, by omega⟩ (hy.app G) hyB
  have hk := made_stk (w := w) (by omega) hyB
  have hml := stk_len ho hk
  generalize madeL w.bs.length ws = l at *
  obtain ⟨hp, h0⟩ := stk_pok hk
  have r3 := fun G : Heap => wr_Holds (h.app G) hl false l (by omega)
  have r7 := fun G : Heap => wr_Count (h.app G) hl
  have r8 := fun G : Heap => wr_Best (h.app G) hl
  rw [holds_is hv hk] at r3
  have hcount : w.count = ((w.tal false w.full).1, 0) := by simp only [Wg.count, hv, if_true]
  rw [hcount] at r7
  have cF : w.hld false l = true → l.length = w.bs.length → w.can false = true := fun a b => (can_iff ho false).2 ⟨l, hk, a, b⟩
  have hcl : ((l.length : Int) == (w.bs.length : Int)) = decide (l.length = w.bs.length) := by
    rw [Bool.eq_iff_iff, beq_iff_eq, decide_eq_true_eq]; omega
  have hge := (tal_least ho (b := false) (full_ok w)).1
  have hone := tal_one (w := w) (b := false)
  have hol : ((w.bs.length : Int) == 1) = decide (w.bs.length = 1) := by
    rw [Bool.eq_iff_iff, beq_iff_eq, decide_eq_true_eq]; omega
  have hmono := hld_mono (w := w) (l := l)
  cases cb : w.can false
  · have hbest := best_no ho cb
    have ht : (w.tal false w.full).1 = 0 := by
      have : ¬ 0 < (w.tal false w.full).1 := by simpa [Wg.can] using cb
      omega
    rw [hbest] at r8
    rw [ht] at r7
    have hn1 : w.bs.length ≠ 1 := fun e => by rw [hone e] at ht; cases ht
    rw [decide_eq_false hn1] at hol
    simp only [plA] at r8
    rw [cb] at cF
    cases x1 : w.hld false l <;> cases x2 : w.hld true l <;> by_cases x4 : l.length = w.bs.length <;>
      rw [x1, x2] at r3 <;> rw [x1] at hmono cF <;> rw [x2] at hmono <;> (try (exfalso; (simp at hmono cF <;> first | contradiction | omega); done))
    all_goals
      simp only [Bool.false_eq_true, if_false, if_true] at r3
      first | rw [decide_eq_true x4] at hcl | rw [decide_eq_false x4] at hcl
      refine (callFL_eq fn9 rfl (by simp [Try.f9])).trans ?_
      simp (maxSteps := 1000000) (implicitDefEqProofs := false) (disch := first | rfl | omega | assumption) only [go_sem, ltT, ltF, leT, leF, s1, s2, s3, n1, c1, hL, hW, hM, r3, r7, r8, hcl, hol, hA]
  · obtain ⟨hbest, k1, k2, k3, k4⟩ := best_is ho cb
    have ht : 0 < (w.tal false w.full).1 := by simpa [Wg.can] using cb
    have ht' : ¬ (w.tal false w.full).1 < 0 := by omega
    rw [hbest] at r8
    have hlex := bestL_lex ho w.bs.length w.full l (full_ok w) (cnt_full ho.n.2)
    have hleast := (tal_least ho (b := false) (full_ok w)).2.1 l
    have hgs := goes_set ho (full_lt w) (b := false) l
    have hwh := stk_whole hk
    have hfl : (w.flm l).2 = w.fmL w.full l := flm_fm w _ _ l
    rw [← hfl] at hlex hleast
    have hF1 := fun (G : Heap) => ref_Film (h.app G) ho (slP (H := H ++ G) (b := false) l) (by omega) hp
    have hone1 : w.bs.length = 1 → (w.tal false w.full).1 = 2 ∧ (w.tal false w.full).2 = 0 := fun e => by rw [hone e]; exact ⟨rfl, rfl⟩
    generalize hmm : w.bestL w.bs.length w.full = m at *
    obtain ⟨hpm, hm0⟩ := stk_pok k1
    have rm := fun G : Heap => wr_Holds (h.app G) hl false m (by omega)
    rw [holds_is hv k1, k2] at rm
    have hF2 := fun (G : Heap) => ref_Film (h.app G) ho (slP (H := H ++ G) (b := false) m) (by omega) hpm
    rw [← k4] at r8 hlex hleast hone1
    generalize (w.tal false w.full).1 = T1 at *
    have hcm : ((m.length : Int) != (w.bs.length : Int)) = false := by rw [k3]; simp
    simp only [plA, if_true, spA] at r8 rm hF1 hF2
    generalize w.flm m = fm at *
    generalize w.flm l = fl at *
    have hwb : l.length = w.bs.length → w.hld false l = true → (¬ fl.2 < fm.2) ∧ LexOk fl.2 fm.2 m l 0 := fun e1 e2 => by
      have hg := hgs.2 (.inr ⟨hk, e2, hwh.1 e1⟩)
      exact ⟨by have := (hleast hg).2; omega, fun e => by simpa using hlex hg e⟩
    have hone2 : (w.bs.length = 1 ∧ (T1 != 2) = false ∧ (fm.2 != 0) = false) ∨ w.bs.length ≠ 1 := by
      by_cases e : w.bs.length = 1
      · obtain ⟨e1, e2⟩ := hone1 e
        exact .inl ⟨e, by simp [e1], by simp [e2]⟩
      · exact .inr e
    clear hlex hleast hgs hone1 hwh hone hcount hbest
    rcases hone2 with ⟨e, e1, e2⟩ | e
    · rw [decide_eq_true e] at hol
      by_cases x4 : l.length = w.bs.length
      · rw [decide_eq_true x4] at hcl
        cases x1 : w.hld false l
        · rw [x1] at r3
          simp only [Bool.false_eq_true, if_false] at r3
          cases x2 : w.hld true l <;> rw [x2] at r3 <;> simp only [Bool.false_eq_true, if_false, if_true] at r3
          all_goals
            refine (callFL_eq fn9 rfl (by simp [Try.f9])).trans ?_
            simp (maxSteps := 1000000) (implicitDefEqProofs := false) (disch := first | rfl | omega | assumption) only [go_sem, ltT, ltF, leT, leF, s1, s2, s3, n1, c1, hL, hW, hM, r3, r7, r8, rm, hF2, hcl, hcm, hol, ht, ht', e1, e2, hA]
        · rw [x1] at r3
          simp only [if_true] at r3
          obtain ⟨y1, y2⟩ := hwb x4 x1
          have h1 := wb_loop (H := H) (vb := vb) (va := va) s1 s2 (l := l) (m := m) (by omega) (by omega) fl.2 fm.2 l.length 0 (by omega) y2
          refine (callFL_eq fn9 rfl (by simp [Try.f9])).trans ?_
          simp (maxSteps := 1000000) (implicitDefEqProofs := false) (disch := first | rfl | omega | assumption) only [go_sem, ltT, ltF, leT, leF, s1, s2, s3, n1, c1, hL, hW, hM, r3, r7, r8, rm, hF1, hF2, hcl, hcm, hol, ht, ht', e1, e2, y1, hA]
          exact h1 _ (by rfl) (by rfl) (by rfl) (by rfl) (by rfl) (by rfl)
      · rw [decide_eq_false x4] at hcl
        cases x1 : w.hld false l <;> cases x2 : w.hld true l <;> rw [x1, x2] at r3 <;> simp only [Bool.false_eq_true, if_false, if_true] at r3
        all_goals
          refine (callFL_eq fn9 rfl (by simp [Try.f9])).trans ?_
          simp (maxSteps := 1000000) (implicitDefEqProofs := false) (disch := first | rfl | omega | assumption) only [go_sem, ltT, ltF, leT, leF, s1, s2, s3, n1, c1, hL, hW, hM, r3, r7, r8, rm, hF2, hcl, hcm, hol, ht, ht', e1, e2, hA]
    · rw [decide_eq_false e] at hol
      by_cases x4 : l.length = w.bs.length
      · rw [decide_eq_true x4] at hcl
        cases x1 : w.hld false l
        · rw [x1] at r3
          simp only [Bool.false_eq_true, if_false] at r3
          cases x2 : w.hld true l <;> rw [x2] at r3 <;> simp only [Bool.false_eq_true, if_false, if_true] at r3
          all_goals
            refine (callFL_eq fn9 rfl (by simp [Try.f9])).trans ?_
            simp (maxSteps := 1000000) (implicitDefEqProofs := false) (disch := first | rfl | omega | assumption) only [go_sem, ltT, ltF, leT, leF, s1, s2, s3, n1, c1, hL, hW, hM, r3, r7, r8, rm, hF2, hcl, hcm, hol, ht, ht', hA]
        · rw [x1] at r3
          simp only [if_true] at r3
          obtain ⟨y1, y2⟩ := hwb x4 x1
          have h1 := wb_loop (H := H) (vb := vb) (va := va) s1 s2 (l := l) (m := m) (by omega) (by omega) fl.2 fm.2 l.length 0 (by omega) y2
          refine (callFL_eq fn9 rfl (by simp [Try.f9])).trans ?_
          simp (maxSteps := 1000000) (implicitDefEqProofs := false) (disch := first | rfl | omega | assumption) only [go_sem, ltT, ltF, leT, leF, s1, s2, s3, n1, c1, hL, hW, hM, r3, r7, r8, rm, hF1, hF2, hcl, hcm, hol, ht, ht', y1, hA]
          exact h1 _ (by rfl) (by rfl) (by rfl) (by rfl) (by rfl) (by rfl)
      · rw [decide_eq_false x4] at hcl
        cases x1 : w.hld false l <;> cases x2 : w.hld true l <;> rw [x1, x2] at r3 <;> simp only [Bool.false_eq_true, if_false, if_true] at r3
        all_goals
          refine (callFL_eq fn9 rfl (by simp [Try.f9])).trans ?_
          simp (maxSteps := 1000000) (implicitDefEqProofs := false) (disch := first | rfl | omega | assumption) only [go_sem, ltT, ltF, leT, leF, s1, s2, s3, n1, c1, hL, hW, hM, r3, r7, r8, rm, hF2, hcl, hcm, hol, ht, ht', hA]

end Go.Ab
