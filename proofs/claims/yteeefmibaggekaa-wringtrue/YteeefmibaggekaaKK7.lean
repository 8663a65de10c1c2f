/-
  The reference, walked: how many are in a set; all stacks.
-/
import Derived.Test.YteeefmibaggekaaKK6
import Derived.Test.YteeefmibaggekaaKK3
import Derived.Test.YteeefmibaggekaaKK4
import Derived.Test.YteeefmibaggekaaKK5
namespace Go.Ab
open Go.Proofs
set_option linter.unusedSimpArgs false
set_option linter.unusedVariables false
set_option maxRecDepth 100000
set_option maxHeartbeats 2000000

variable {H : Heap}


end Go.Ab
/-
  The reference, walked: all stacks.
-/
namespace Go.Ab
open Go.Proofs
set_option linter.unusedSimpArgs false
set_option linter.unusedVariables false
set_option maxRecDepth 100000
set_option maxHeartbeats 2000000

variable {H : Heap}


def stA (xs : List Pc) : AV := .sl false (xs.map Pc.av)
/-- What lies at the foot of a call: the list that grows, if it begins there. -/
def XO (H : Heap) (P : Nat) (outs : List (List Pc)) : AO := .grow 1 (if P = H.length then outs.map stA else [])

/-- What a call answers. -/
def stR (H : Heap) (P : Nat) (outs : List (List Pc)) : Option Done := some ⟨.ret (if P < H.length then .gsl P outs.length else .sl false (outs.map stA)), H.set P (.grow 1 (outs.map stA)), none⟩

/-- Where the list that grows lies, when a call begins. -/
def OutAt (H : Heap) (P : Nat) (v : AV) (outs : List (List Pc)) : Prop :=
  (P < H.length ∧ v = .gsl P outs.length ∧ H[P]? = some (.grow 1 (outs.map stA))) ∨ (P = H.length ∧ v = .sl true [] ∧ outs = [])

/-- A stack to go on with, and its pile. -/
structure Beg (w : Wg) (b : Bool) (s : Nat) (xs : List Pc) (p : Pl) : Prop where
  ok : p.Ok w
  px : ∀ x ∈ xs, w.pok x
  nd : (xs.map Pc.b).Nodup
  hl : w.hL b none xs
  lf : ∀ i : Nat, p.left.testBit i = true ↔ s.testBit i = true ∧ ∀ x ∈ xs, x.b ≠ (i : Int)
  tp : p.tp = xs.getLast?
  cn : xs.length + cnt p.left = cnt s

theorem hL_snoc {w : Wg} {b : Bool} {x : Pc} : ∀ (xs : List Pc) (o : Option Pc), w.hL b o (xs ++ [x]) ↔ w.hL b o xs ∧ ∀ y, (xs.getLast?.or o) = some y → w.jt b y x = 0
  | [], o => by simp [Wg.hL]
  | z :: r, o => by
    have ih := hL_snoc (w := w) (b := b) (x := x) r (some z)
    have e : ((z :: r).getLast?.or o) = (r.getLast?.or (some z)) := by
      cases r with
      | nil => rfl
      | cons a s =>
        rw [List.getLast?_cons_cons, List.getLast?_eq_some_getLast (List.cons_ne_nil a s)]
        rfl
    simp only [List.cons_append, Wg.hL, ih, e]
    exact ⟨fun ⟨a, b, c⟩ => ⟨⟨a, b⟩, c⟩, fun ⟨⟨a, b⟩, c⟩ => ⟨a, b, c⟩⟩

theorem tp_iff {p : Pl} {f : Pc → Prop} : (p.some = true → f p.top) ↔ ∀ y, p.tp = some y → f y := by
  simp only [Pl.tp]
  cases p.some <;> simp

theorem Beg.cond {w : Wg} {b : Bool} {s : Nat} {xs : List Pc} {p : Pl} (hb : Beg w b s xs p) {x : Pc} (hx : w.pok x) :
    x ∈ w.plL b p ↔ s.testBit x.b.toNat = true ∧ w.stk (xs ++ [x]) = true ∧ w.hld b (xs ++ [x]) = true := by
  have h3 := tp_iff (p := p) (f := fun y => w.jt b y x = 0)
  rw [plL_iff, h3, hb.tp, hb.lf, stk_iff, hld_hL, hL_snoc, Option.or_none]
  simp only [List.map_append, List.map_cons, List.map_nil]
  rw [List.nodup_append]
  constructor
  · rintro ⟨_, ⟨h1, h2⟩, h3⟩
    refine ⟨h1, ⟨by simp, ?_, hb.nd, List.nodup_cons.2 ⟨by simp, List.nodup_nil⟩, ?_⟩, hb.hl, h3⟩
    · intro y hy
      rcases List.mem_append.1 hy with hy | hy
      · exact hb.px y hy
      · rw [List.mem_singleton.1 hy]; exact hx
    · intro y hy z hz
      rw [List.mem_singleton.1 hz]
      obtain ⟨k, k1, rfl⟩ := List.mem_map.1 hy
      have := h2 k k1
      have := hx.1
      intro e
      exact h2 k k1 (by omega)
  · rintro ⟨h1, ⟨_, h4, _, _, h5⟩, _, h3⟩
    refine ⟨hx, ⟨h1, fun y hy e => ?_⟩, h3⟩
    have := hx.1
    exact h5 y.b (List.mem_map.2 ⟨y, hy, rfl⟩) x.b (List.mem_singleton.2 rfl) (by omega)

theorem Beg.snoc {w : Wg} (ho : w.Ok) {b : Bool} {s : Nat} {xs : List Pc} {p : Pl} (hb : Beg w b s xs p) {x : Pc} (hx : x ∈ w.plL b p) : Beg w b s (xs ++ [x]) (p.next x) := by
  have hpk := (plL_iff.1 hx).1
  obtain ⟨_, h2, h3⟩ := (hb.cond hpk).1 hx
  obtain ⟨g1, g2⟩ := next_ok ho hb.ok hx
  obtain ⟨k1, k2, k3⟩ := stk_iff.1 h2
  refine ⟨g1, k2, k3, hld_hL.1 h3, fun i => ?_, by simp [Pl.tp, Pl.next], ?_⟩
  · have := hpk.1
    rw [next_bit ho hb.ok hx, Bool.and_eq_true, hb.lf, bne_iff_ne]
    constructor
    · rintro ⟨⟨h4, h5⟩, h6⟩
      refine ⟨h4, fun y hy e => ?_⟩
      rcases List.mem_append.1 hy with hy | hy
      · exact h5 y hy e
      · rw [List.mem_singleton.1 hy] at e; exact h6 (by omega)
    · rintro ⟨h4, h5⟩
      exact ⟨⟨h4, fun y hy => h5 y (List.mem_append_left _ hy)⟩, fun e => h5 x (List.mem_append_right _ (List.mem_singleton.2 rfl)) (by omega)⟩
  · have := hb.cn
    rw [List.length_append, List.length_singleton]; omega

/-- What the reference's stacks do from a stack on. -/
def StkOk (w : Wg) (b : Bool) (s : Nat) (vb va : AV) (n : Nat) : Prop :=
  ∀ (H : Heap) (P : Nat) (v : AV) (outs : List (List Pc)) (f : Bool) (xs : List Pc) (p : Pl), Beg w b s xs p → cnt p.left = n → (f = false ∨ n ≠ 0) → OutAt H P v outs →
    (∀ o, WgAt (H.set P (.grow 1 o)) w vb va) → outs.length + (w.ext b n p).length ≤ 1000000 →
    callFL cfg0 prog0 false 69 [.agg [vb, va], I s, .bool b, .sl f (xs.map Pc.av), v] H none = stR H P (outs ++ (w.ext b n p).map (xs ++ ·))

/-- What comes of some places. -/
def Wg.extL (w : Wg) (b : Bool) (n : Nat) (xs : List Pc) (p : Pl) (l : List Pc) : List (List Pc) := (l.flatMap fun x => (w.ext b n (p.next x)).map (x :: ·)).map (xs ++ ·)

/-- All stacks of the blocks of a set. -/
def Wg.stks (w : Wg) (b : Bool) (s : Nat) : List (List Pc) := w.ext b (cnt s) ⟨s, pc0, false⟩

end Go.Ab
/-
  The reference, walked: can, Count, Hope, Best.
-/
namespace Go.Ab
open Go.Proofs
set_option linter.unusedSimpArgs false
set_option linter.unusedVariables false
set_option maxRecDepth 100000
set_option maxHeartbeats 2000000

variable {H : Heap}


theorem full_pos {w : Wg} (ho : w.Ok) : 2 ^ w.bs.length - 1 ≠ 0 := by
  have h1 := ho.n.1
  simp only [Wg.n] at h1
  have : 2 ^ 1 ≤ 2 ^ w.bs.length := Nat.pow_le_pow_right (by omega) h1
  omega

def minF (f : List Pc → Int) (L : List (List Pc)) (m : List Pc) (j q : Nat) : List Pc := foldF (fun m i => if f (L.getD i []) < f m then L.getD i [] else m) m j q

theorem stk_len {w : Wg} (ho : w.Ok) {l : List Pc} (h : w.stk l = true) : l.length ≤ w.bs.length := by
  obtain ⟨_, h1, h2⟩ := stk_iff.1 h
  have key : ∀ (n : Nat) (m : List Int), m.Nodup → (∀ x ∈ m, 0 ≤ x ∧ x < (n : Int)) → m.length ≤ n := by
    intro n
    induction n with
    | zero =>
      intro m _ hm
      cases m with
      | nil => simp
      | cons a r => have := hm a (List.mem_cons_self ..); omega
    | succ n ih =>
      intro m hn hm
      have h1 := ih (m.erase (n : Int)) (hn.erase _) (fun x hx => by
        have hx' := (hn.mem_erase_iff).1 hx
        have := hm x hx'.2
        have := hx'.1
        omega)
      have := List.length_erase_le (a := (n : Int)) (l := m)
      by_cases hmem : (n : Int) ∈ m
      · rw [List.length_erase_of_mem hmem] at h1; omega
      · rw [List.erase_of_not_mem hmem] at h1; omega
  have := key w.bs.length (l.map Pc.b) h2 (fun x hx => by
    obtain ⟨y, hy, rfl⟩ := List.mem_map.1 hx
    have := h1 y hy
    exact ⟨this.1, this.2.1⟩)
  rwa [List.length_map] at this

end Go.Ab
/-
  Truths and stacks.
-/
namespace Go.Ab
open Go.Proofs
set_option linter.unusedSimpArgs false
set_option linter.unusedVariables false
set_option maxRecDepth 100000
set_option maxHeartbeats 2000000

variable {H : Heap}


theorem nodup_len {α : Type} [DecidableEq α] : ∀ {a b : List α}, a.Nodup → a ⊆ b → a.length ≤ b.length
  | [], b, _, _ => Nat.zero_le _
  | x :: r, b, h, hs => by
    rw [List.nodup_cons] at h
    have hx : x ∈ b := hs (List.mem_cons_self ..)
    have h1 := nodup_len (a := r) (b := b.erase x) h.2 (fun y hy => (List.mem_erase_of_ne (fun e => h.1 (by rw [← e]; exact hy))).2 (hs (List.mem_cons_of_mem _ hy)))
    rw [List.length_erase_of_mem hx] at h1
    have := List.length_pos_of_mem hx
    simp only [List.length_cons]
    omega

theorem range_nodup (n : Nat) : ((List.range n).map fun (i : Nat) => (i : Int)).Nodup := by
  rw [List.Nodup, List.pairwise_map]
  exact (List.nodup_range (n := n)).imp (fun h e => h (by omega))

theorem full_bit {n i : Nat} : (2 ^ n - 1).testBit i = true ↔ i < n := by rw [Nat.testBit_two_pow_sub_one, decide_eq_true_eq]

theorem stk_whole {w : Wg} {l : List Pc} (h : w.stk l = true) : l.length = w.bs.length ↔ w.setOf (2 ^ w.bs.length - 1) l := by
  obtain ⟨h0, h1, h2⟩ := stk_iff.1 h
  constructor
  · intro hl i
    rw [full_bit]
    constructor
    · intro hi
      by_cases hm : (i : Int) ∈ l.map Pc.b
      · obtain ⟨x, hx, e⟩ := List.mem_map.1 hm
        exact ⟨x, hx, e⟩
      · have := nodup_len (a := (i : Int) :: l.map Pc.b) (b := (List.range w.bs.length).map fun (i : Nat) => (i : Int)) (List.nodup_cons.2 ⟨hm, h2⟩) (fun y hy => by
          rcases List.mem_cons.1 hy with rfl | hy
          · exact List.mem_map.2 ⟨i, List.mem_range.2 hi, rfl⟩
          · obtain ⟨x, hx, rfl⟩ := List.mem_map.1 hy
            have hp := h1 x hx
            have p1 := hp.1
            have p2 := hp.2.1
            simp only [Wg.n] at p2
            exact List.mem_map.2 ⟨x.b.toNat, List.mem_range.2 (by omega), by omega⟩)
        simp only [List.length_cons, List.length_map, List.length_range] at this
        omega
    · rintro ⟨x, hx, e⟩
      have hp := (h1 x hx).2.1
      simp only [Wg.n] at hp
      omega
  · intro hs
    have h3 := nodup_len (a := (List.range w.bs.length).map fun (i : Nat) => (i : Int)) (b := l.map Pc.b) (range_nodup _) (fun y hy => by
      obtain ⟨i, hi, rfl⟩ := List.mem_map.1 hy
      obtain ⟨x, hx, e⟩ := (hs i).1 (full_bit.2 (List.mem_range.1 hi))
      exact List.mem_map.2 ⟨x, hx, e⟩)
    simp only [List.length_map, List.length_range] at h3
    have h4 := nodup_len (a := l.map Pc.b) (b := (List.range w.bs.length).map fun (i : Nat) => (i : Int)) h2 (fun y hy => by
      obtain ⟨x, hx, rfl⟩ := List.mem_map.1 hy
      have hp := h1 x hx
      have p1 := hp.1
      have p2 := hp.2.1
      simp only [Wg.n] at p2
      exact List.mem_map.2 ⟨x.b.toNat, List.mem_range.2 (by omega), by omega⟩)
    simp only [List.length_map, List.length_range] at h4
    omega

theorem apE_comm (x y : Int) (a : Ap) : apE x y a = apE y x a := by
  simp only [apE]
  rw [Bool.and_comm (a.a == x), Bool.and_comm (a.b == x), Bool.or_comm]
theorem ap_comm (w : Wg) (x y : Int) : w.ap x y = w.ap y x := by
  simp only [Wg.ap]
  congr 1
  funext a
  exact apE_comm x y a

theorem jtz {w : Wg} {b : Bool} {x y : Pc} : w.jt b x y = 0 ↔ w.ap x.b y.b = false ∧ (w.fa x).st ≤ lvl b ∧ (w.fb y).st ≤ lvl b := by
  simp only [Wg.jt]
  cases w.ap x.b y.b
  · by_cases h1 : (w.fa x).st ≤ lvl b
    · by_cases h2 : (w.fb y).st ≤ lvl b <;> simp [h1, h2]
    · simp [h1]
  · simp

theorem talp {w : Wg} (ho : w.Ok) {b : Bool} {p : Pl} (hp : p.Ok w) : 0 < (w.tal b p).1 ↔ ∃ l, w.goes b p l := by
  obtain ⟨_, h2, h3⟩ := tal_least ho (b := b) hp
  exact ⟨fun h => by obtain ⟨l, l1, _⟩ := h3 h; exact ⟨l, l1⟩, fun ⟨l, hl⟩ => (h2 l hl).1⟩

theorem tru_fa {w : Wg} {x : Pc} (hx : w.pok x) : w.fa x = (w.b x.b.toNat).fc x.u.toNat ∧ x.b.toNat < w.bs.length ∧ x.u.toNat < 2 ∧ 1 - x.u.toNat < 2 := by
  obtain ⟨h1, h2, h3, h4⟩ := hx
  simp only [Wg.n] at h2
  exact ⟨rfl, by omega, by omega, by omega⟩

theorem jt_bad {w : Wg} (ho : w.Ok) {t : Tru} (ht : TruOf w t) {x y : Pc} (hx : w.pok x) (hy : w.pok y) (h : w.jt false y x = 0) : t.bad w y x = false := by
  obtain ⟨h1, h2, h3⟩ := jtz.1 h
  obtain ⟨_, x1, x2, x3⟩ := tru_fa hx
  obtain ⟨_, y1, y2, y3⟩ := tru_fa hy
  have f1 := (ho.fa hy).st
  have f2 := (ho.fb hx).st
  simp only [lvl, Bool.false_eq_true, if_false] at h2 h3
  have a := ht.s0 y.b.toNat y.u.toNat y1 y2 (by simp only [Wg.fa] at h2 f1; omega)
  have b := ht.s0 x.b.toNat (1 - x.u.toNat) x1 x3 (by simp only [Wg.fb] at h3 f2; omega)
  simp only [Tru.bad, Tru.sA, Tru.sB, a, b, Bool.or_self, Bool.false_or]
  rw [ap_comm]; exact h1

theorem bad_jt {w : Wg} (ho : w.Ok) {t : Tru} (ht : TruOf w t) {x y : Pc} (hx : w.pok x) (hy : w.pok y) (h : t.bad w y x = false) : w.jt true y x = 0 := by
  obtain ⟨_, x1, x2, x3⟩ := tru_fa hx
  obtain ⟨_, y1, y2, y3⟩ := tru_fa hy
  have f1 := (ho.fa hy).st
  have f2 := (ho.fb hx).st
  simp only [Tru.bad, Bool.or_eq_false_iff] at h
  obtain ⟨⟨ha, hb⟩, hc⟩ := h
  refine jtz.2 ⟨by rw [ap_comm]; exact hc, ?_, ?_⟩
  · have : (w.fa y).st ≠ 2 := fun e => by
      have := ht.s2 y.b.toNat y.u.toNat y1 y2 e
      simp only [Tru.sA] at ha
      rw [this] at ha; cases ha
    simp only [lvl, if_true]; omega
  · have : (w.fb x).st ≠ 2 := fun e => by
      have := ht.s2 x.b.toNat (1 - x.u.toNat) x1 x3 e
      simp only [Tru.sB] at hb
      rw [this] at hb; cases hb
    simp only [lvl, if_true]; omega

/-! ### What look finds -/

theorem anyF_shift (f : Nat → Bool) : ∀ (q j : Nat), anyF (fun i => f (i - 1)) (j + 1) q = anyF f j q
  | 0, _ => rfl
  | q + 1, j => by
    simp only [anyF]
    rw [anyF_shift f q (j + 1)]
    rfl

theorem anyF_con {f g : Nat → Bool} : ∀ (q j : Nat), (∀ i, j ≤ i → i < j + q → f i = g i) → anyF f j q = anyF g j q
  | 0, _, _ => rfl
  | q + 1, j, h => by
    simp only [anyF]
    rw [h j (by omega) (by omega), anyF_con q (j + 1) (fun i h1 h2 => h i (by omega) (by omega))]

theorem lookF_eq (t : Tru) (w : Wg) (xs : List Pc) : ∀ (q j : Nat) (c : Bool) (L F : Int), 1 ≤ j → t.lookF w xs (c, L, F) j q = (c && !anyF (fun i => t.bad w (pcA xs (i - 1)) (pcA xs i)) j q, L + sumF (fun i => t.l (pcA xs i).b.toNat) j q, F + sumF (fun i => t.rA (pcA xs (i - 1)) + t.rB (pcA xs i)) j q)
  | 0, j, c, L, F, h => by simp [Tru.lookF, foldF, anyF, sumF]
  | q + 1, j, c, L, F, h => by
    have e : t.lookF w xs (c, L, F) j (q + 1) = t.lookF w xs (c && !t.bad w (pcA xs (j - 1)) (pcA xs j), L + t.l (pcA xs j).b.toNat, F + (t.rA (pcA xs (j - 1)) + t.rB (pcA xs j))) (j + 1) q := by
      simp only [Tru.lookF, foldF, Tru.stp, if_neg (show ¬ j = 0 by omega)]
    rw [e, lookF_eq t w xs q (j + 1) _ _ _ (by omega)]
    have ea : anyF (fun i => t.bad w (pcA xs (i - 1)) (pcA xs i)) j (q + 1) = (t.bad w (pcA xs (j - 1)) (pcA xs j) || anyF (fun i => t.bad w (pcA xs (i - 1)) (pcA xs i)) (j + 1) q) := rfl
    have e1 : sumF (fun i => t.l (pcA xs i).b.toNat) j (q + 1) = t.l (pcA xs j).b.toNat + sumF (fun i => t.l (pcA xs i).b.toNat) (j + 1) q := rfl
    have e2 : sumF (fun i => t.rA (pcA xs (i - 1)) + t.rB (pcA xs i)) j (q + 1) = (t.rA (pcA xs (j - 1)) + t.rB (pcA xs j)) + sumF (fun i => t.rA (pcA xs (i - 1)) + t.rB (pcA xs i)) (j + 1) q := rfl
    rw [ea, e1, e2, Bool.not_or, Bool.and_assoc]
    congr 2 <;> omega

theorem look_eq (t : Tru) (w : Wg) {xs : List Pc} (h : 0 < xs.length) : t.look w xs = (!anyF (fun i => t.bad w (pcA xs i) (pcA xs (i + 1))) 0 (xs.length - 1), sumF (fun i => t.l (pcA xs i).b.toNat) 0 xs.length, sumF (fun i => t.rA (pcA xs i) + t.rB (pcA xs (i + 1))) 0 (xs.length - 1)) := by
  obtain ⟨n, hn⟩ : ∃ n, xs.length = n + 1 := ⟨xs.length - 1, by omega⟩
  have e : t.look w xs = t.lookF w xs (true, 0 + t.l (pcA xs 0).b.toNat, 0) 1 n := by
    simp only [Tru.look, hn]
    simp only [Tru.lookF, foldF, Tru.stp, if_true]
  rw [e, lookF_eq t w xs n 1 _ _ _ (by omega), hn]
  have s1 := anyF_shift (fun i => t.bad w (pcA xs i) (pcA xs (i + 1))) n 0
  have s2 := sumF_shift (fun i => t.rA (pcA xs i) + t.rB (pcA xs (i + 1))) n 0
  have c1 : anyF (fun i => t.bad w (pcA xs (i - 1)) (pcA xs i)) 1 n = anyF (fun i => t.bad w (pcA xs (i - 1)) (pcA xs (i - 1 + 1))) (0 + 1) n := anyF_con _ _ (fun i h1 h2 => by rw [show i - 1 + 1 = i by omega])
  have c2 : sumF (fun i => t.rA (pcA xs (i - 1)) + t.rB (pcA xs i)) 1 n = sumF (fun i => t.rA (pcA xs (i - 1)) + t.rB (pcA xs (i - 1 + 1))) (0 + 1) n := sumF_con _ _ (fun i h1 h2 => by rw [show i - 1 + 1 = i by omega])
  rw [c1, c2, s1, s2, Bool.true_and, Int.zero_add, Int.zero_add]
  rfl

theorem sumF_le {f g : Nat → Int} : ∀ (q j : Nat), (∀ i, j ≤ i → i < j + q → f i ≤ g i) → sumF f j q ≤ sumF g j q
  | 0, _, _ => Int.le_refl _
  | q + 1, j, h => by
    have h1 := h j (by omega) (by omega)
    have h2 := sumF_le q (j + 1) (fun i a b => h i (by omega) (by omega))
    simp only [sumF]
    omega

theorem look_holds {w : Wg} (ho : w.Ok) {t : Tru} (ht : TruOf w t) {l : List Pc} (hs : w.stk l = true) : (w.hld false l = true → (t.look w l).1 = true) ∧ ((t.look w l).1 = true → w.hld true l = true) := by
  obtain ⟨hp, h0⟩ := stk_pok hs
  rw [look_eq t w h0, hld_iff, hld_iff]
  simp only [Bool.not_eq_true', anyF_false]
  refine ⟨fun h i _ hi => jt_bad ho ht (hp _ (by omega)) (hp _ (by omega)) (h i (by omega)), fun h i hi => bad_jt ho ht (hp _ (by omega)) (hp _ (by omega)) (h i (by omega) (by omega))⟩

theorem flm_sum (w : Wg) (xs : List Pc) : w.flm xs = (sumF (fun i => (w.fa (pcA xs i)).lo + (w.fb (pcA xs (i + 1))).lo) 0 (xs.length - 1), sumF (fun i => (w.fa (pcA xs i)).hi + (w.fb (pcA xs (i + 1))).hi) 0 (xs.length - 1)) := by
  have : w.flm xs = (0 + sumF (fun i => (w.fa (pcA xs i)).lo + (w.fb (pcA xs (i + 1))).lo) 0 (xs.length - 1), 0 + sumF (fun i => (w.fa (pcA xs i)).hi + (w.fb (pcA xs (i + 1))).hi) 0 (xs.length - 1)) := foldF_pair _ _ _ _ _
  rw [this, Int.zero_add, Int.zero_add]

theorem len_sum (w : Wg) (xs : List Pc) : foldF (w.lnA xs) (w.flm xs) 0 xs.length = ((w.flm xs).1 + sumF (fun i => (w.b (pcA xs i).b.toNat).lo) 0 xs.length, (w.flm xs).2 + sumF (fun i => (w.b (pcA xs i).b.toNat).hi) 0 xs.length) :=
  foldF_pair _ _ _ _ _

theorem look_film {w : Wg} {t : Tru} (ht : TruOf w t) {l : List Pc} (hs : w.stk l = true) : (w.flm l).1 ≤ (t.look w l).2.2 ∧ (t.look w l).2.2 ≤ (w.flm l).2 := by
  obtain ⟨hp, h0⟩ := stk_pok hs
  rw [look_eq t w h0, flm_sum]
  have key : ∀ i, i < l.length - 1 → ((w.fa (pcA l i)).lo ≤ t.rA (pcA l i) ∧ t.rA (pcA l i) ≤ (w.fa (pcA l i)).hi) ∧ ((w.fb (pcA l (i + 1))).lo ≤ t.rB (pcA l (i + 1)) ∧ t.rB (pcA l (i + 1)) ≤ (w.fb (pcA l (i + 1))).hi) := fun i hi => by
    obtain ⟨_, x1, x2, x3⟩ := tru_fa (hp i (by omega))
    obtain ⟨_, y1, y2, y3⟩ := tru_fa (hp (i + 1) (by omega))
    exact ⟨ht.ro _ _ x1 x2, ht.ro _ _ y1 y3⟩
  constructor
  · exact sumF_le _ _ (fun i _ hi => by have := key i (by omega); omega)
  · exact sumF_le _ _ (fun i _ hi => by have := key i (by omega); omega)

theorem look_long {w : Wg} {t : Tru} (ht : TruOf w t) {l : List Pc} (hs : w.stk l = true) : sumF (fun i => (w.b (pcA l i).b.toNat).lo) 0 l.length ≤ (t.look w l).2.1 ∧ (t.look w l).2.1 ≤ sumF (fun i => (w.b (pcA l i).b.toNat).hi) 0 l.length := by
  obtain ⟨hp, h0⟩ := stk_pok hs
  rw [look_eq t w h0]
  have key : ∀ i, i < l.length → (w.b (pcA l i).b.toNat).lo ≤ t.l (pcA l i).b.toNat ∧ t.l (pcA l i).b.toNat ≤ (w.b (pcA l i).b.toNat).hi := fun i hi => by
    obtain ⟨_, x1, x2, x3⟩ := tru_fa (hp i hi)
    exact ht.ln _ x1
  exact ⟨sumF_le _ _ (fun i _ hi => (key i (by omega)).1), sumF_le _ _ (fun i _ hi => (key i (by omega)).2)⟩

/-! ### What is told of a stack -/

theorem holds_is {w : Wg} (hv : w.valid = true) {l : List Pc} (hs : w.stk l = true) : w.holds l = (if w.hld false l then 2 else if w.hld true l then 1 else 0, 0) := by
  simp only [Wg.holds, hv, hs, if_true]
  rw [brk_hld false l, brk_hld true l]
  by_cases h1 : (w.brk false l).2 = 0
  · simp [h1]
  · by_cases h2 : (w.brk true l).2 = 0 <;> simp [h1, h2]

theorem can_iff {w : Wg} (ho : w.Ok) (b : Bool) : w.can b = true ↔ ∃ l, w.stk l = true ∧ w.hld b l = true ∧ l.length = w.bs.length := by
  simp only [Wg.can, decide_eq_true_eq]
  rw [talp ho (full_ok w)]
  constructor
  · rintro ⟨l, hl⟩
    rcases (goes_set ho (full_lt w) l).1 hl with ⟨_, h⟩ | ⟨h1, h2, h3⟩
    · exact absurd h (full_pos ho)
    · exact ⟨l, h1, h2, (stk_whole h1).2 h3⟩
  · rintro ⟨l, h1, h2, h3⟩
    exact ⟨l, (goes_set ho (full_lt w) l).2 (.inr ⟨h1, h2, (stk_whole h1).1 h3⟩)⟩

theorem hld_mono {w : Wg} {l : List Pc} (h : w.hld false l = true) : w.hld true l = true := by
  rw [hld_iff] at h ⊢
  intro i hi
  obtain ⟨h1, h2, h3⟩ := jtz.1 (h i hi)
  simp only [lvl, Bool.false_eq_true, if_false] at h2 h3
  exact jtz.2 ⟨h1, by simp only [lvl, if_true]; omega, by simp only [lvl, if_true]; omega⟩

/-- The best stack. -/
theorem best_is {w : Wg} (ho : w.Ok) (h : w.can false = true) : w.best = ((w.tal false w.full).2, some (w.bestL w.bs.length w.full), 0) ∧ w.stk (w.bestL w.bs.length w.full) = true ∧ w.hld false (w.bestL w.bs.length w.full) = true ∧ (w.bestL w.bs.length w.full).length = w.bs.length ∧ (w.flm (w.bestL w.bs.length w.full)).2 = (w.tal false w.full).2 := by
  have hv := (w.valid_iff).2 ho
  have ht : 0 < (w.tal false w.full).1 := by simpa [Wg.can] using h
  have hb : w.best = ((w.tal false w.full).2, some (w.bestL w.bs.length w.full), 0) := by simp only [Wg.best, hv, if_true, if_pos ht]
  obtain ⟨g1, g2⟩ := bestL_goes ho w.bs.length w.full (full_ok w) (cnt_full ho.n.2) ht
  rcases (goes_set ho (full_lt w) _).1 g1 with ⟨_, h0⟩ | ⟨k1, k2, k3⟩
  · exact absurd h0 (full_pos ho)
  · exact ⟨hb, k1, k2, (stk_whole k1).2 k3, by rw [← g2]; exact flm_fm w _ _ _⟩

theorem best_no {w : Wg} (ho : w.Ok) (h : w.can false = false) : w.best = (0, none, 4) := by
  have hv := (w.valid_iff).2 ho
  have ht : ¬ 0 < (w.tal false w.full).1 := by simpa [Wg.can] using h
  simp only [Wg.best, hv, if_true, if_neg ht]

end Go.Ab
/-
  WringStacks.
-/
namespace Go.Ab
open Go.Proofs
set_option linter.unusedSimpArgs false
set_option linter.unusedVariables false
set_option maxRecDepth 100000
set_option maxHeartbeats 2000000

variable {H : Heap}


end Go.Ab
/-
  WringTrue.
-/
namespace Go.Ab
open Go.Proofs
set_option linter.unusedSimpArgs false
set_option linter.unusedVariables false
set_option maxRecDepth 100000
set_option maxHeartbeats 2000000

variable {H : Heap}


theorem tru_at (H : Heap) (t : Tru) : TruAt H t (.sl false (t.sc.map bpA)) (.sl false (t.ro.map spA)) (.sl false (t.ln.map I)) :=
  ⟨⟨rfl, fun x hx => by obtain ⟨i, _, rfl⟩ := List.mem_map.1 hx; rfl⟩, ⟨rfl, fun x hx => by obtain ⟨i, _, rfl⟩ := List.mem_map.1 hx; rfl⟩, ⟨rfl, fun x hx => by obtain ⟨i, _, rfl⟩ := List.mem_map.1 hx; rfl⟩⟩

theorem law_WringTrue {w : Wg} {vb va : AV} (h : WgAt H w vb va) {vy vo : AV} {ws os : List Int} (hy : SlOk H 1 vy (ws.map B8)) (hyB : ByOk ws) (ho' : SlOk H 1 vo (os.map B16)) (hoB : OfOk16 os) :
    callFL cfg0 prog0 false 7 [.agg [vb, va], vy, vo] H none = some ⟨.ret (.bool true), H, none⟩ := by
  have s1 := h.bs.scal
  have s2 := h.ps.scal
  have n1 := h.bs.len
  rw [List.length_map] at n1
  have c1 := h.bs.cel
  have s3 := hy.scal
  have s4 := ho'.scal
  have hL := fun G : Heap => law_long (h.app G) (slP (H := H ++ G) (b := true) [])
  have hA := fun G : Heap => law_alive G
  simp only [List.map_nil, List.length_nil] at hL
  by_cases hlg : 40 < w.bs.length ∨ 40 < w.ps.length ∨ 40 < 0
  · rw [decide_eq_true hlg] at hL
    refine (callFL_eq fn7 rfl (by simp [Try.f7])).trans ?_
    simp (maxSteps := 1000000) (implicitDefEqProofs := false) (disch := first | rfl | omega | assumption) only [go_sem, ltT, ltF, leT, leF, s1, s2, hL, hA]
    done
  rw [decide_eq_false hlg] at hL
  have hl : w.bs.length ≤ 1000 ∧ w.ps.length ≤ 1000 := by omega
  have hW := fun G : Heap => ref_Wring (h.app G) hl
  cases hv : w.valid
  · rw [hv] at hW
    have hst := fun G : Heap => law_stack (H := G) (stk_at G [⟨0, 0⟩]) (by decide)
    have r3 := fun G : Heap => wr_Holds (h.app G) hl false [⟨0, 0⟩] (by simp)
    have r5 := fun G : Heap => wr_Length (h.app G) hl false [⟨0, 0⟩] (by simp)
    have e1 : w.holds [⟨0, 0⟩] = (0, 1) := by simp only [Wg.holds, hv, Bool.false_eq_true, if_false]
    have e2 : w.length [⟨0, 0⟩] = ((0, 0), 1) := by simp only [Wg.length, hv, Bool.false_eq_true, if_false]
    rw [e1] at r3
    rw [e2] at r5
    have e7 : sameL [I 0, I 0] [I 0, I 0] = true := by decide
    simp only [flatP, List.map_cons, List.map_nil, List.flatMap_cons, List.flatMap_nil, List.cons_append, List.nil_append, List.append_nil, Pc.av] at hst r3 r5
    refine (callFL_eq fn7 rfl (by simp [Try.f7])).trans ?_
    simp (maxSteps := 1000000) (implicitDefEqProofs := false) (disch := first | rfl | omega | assumption) only [go_sem, ltT, ltF, leT, leF, s1, s2, hL, hW]
    rw [chkK_of]; rotate_left; kernel_rfl
    simp (maxSteps := 1000000) (implicitDefEqProofs := false) (disch := first | rfl | omega | assumption) only [go_sem, ltT, ltF, leT, leF, s1, s2, hst, r3]
    rw [chkK_of]; rotate_left; kernel_rfl
    simp (maxSteps := 1000000) (implicitDefEqProofs := false) (disch := first | rfl | omega | assumption) only [go_sem, ltT, ltF, leT, leF, s1, s2, hst, r5, e7, hA]
    done
  have ho := w.valid_iff.1 hv
  rw [hv] at hW
  have hn := ho.n
  simp only [Wg.n] at hn
  have hM := fun G : Heap => law_made (h.app G) ⟨by omega, by omega⟩ (hy.app G) hyB
  have hT := fun G : Heap => law_truly (h.app G) ho (ho'.app G) hoB
  have hk := made_stk (w := w) (by omega) hyB
  have ht := truly_of ho hoB
  have hml := stk_len ho hk
  generalize madeL w.bs.length ws = l at *
  generalize w.truly os = t at *
  obtain ⟨hp, h0⟩ := stk_pok hk
  have hLk := fun (G : Heap) => law_look (h.app G) (tru_at (H ++ G) t) ht.ok hl (slP (H := H ++ G) (b := false) l) (by omega) hp
  have r3 := fun G : Heap => wr_Holds (h.app G) hl false l (by omega)
  have r5 := fun G : Heap => wr_Length (h.app G) hl false l (by omega)
  have r7 := fun G : Heap => wr_Hope (h.app G) hl
  have r8 := fun G : Heap => wr_Best (h.app G) hl
  rw [holds_is hv hk] at r3
  have hhope : w.hope = (if w.can false then (2, 0) else if w.can true then (1, 0) else (0, 0)) := by simp only [Wg.hope, hv, if_true]
  rw [hhope] at r7
  have elen : w.length l = (((w.flm l).1 + sumF (fun i => (w.b (pcA l i).b.toNat).lo) 0 l.length, (w.flm l).2 + sumF (fun i => (w.b (pcA l i).b.toNat).hi) 0 l.length), 0) := by
    simp only [Wg.length, hv, hk, if_true]
    rw [← len_sum, len_eq w h0]
  rw [elen] at r5
  have q1 := look_film ht hk
  have q2 := look_long ht hk
  have hlo : ¬ (t.look w l).2.1 + (t.look w l).2.2 < (w.flm l).1 + sumF (fun i => (w.b (pcA l i).b.toNat).lo) 0 l.length := by omega
  have hhi : ¬ (w.flm l).2 + sumF (fun i => (w.b (pcA l i).b.toNat).hi) 0 l.length < (t.look w l).2.1 + (t.look w l).2.2 := by omega
  clear q1 q2
  generalize (w.flm l).1 + sumF (fun i => (w.b (pcA l i).b.toNat).lo) 0 l.length = A at *
  generalize (w.flm l).2 + sumF (fun i => (w.b (pcA l i).b.toNat).hi) 0 l.length = B at *
  obtain ⟨hh1, hh2⟩ := look_holds ho ht hk
  have cF : w.hld false l = true → l.length = w.bs.length → w.can false = true := fun a b => (can_iff ho false).2 ⟨l, hk, a, b⟩
  have cT : w.hld true l = true → l.length = w.bs.length → w.can true = true := fun a b => (can_iff ho true).2 ⟨l, hk, a, b⟩
  have hmono := hld_mono (w := w) (l := l)
  generalize t.look w l = lk at *
  obtain ⟨hb, L, F⟩ := lk
  simp only at hh1 hh2 hlo hhi
  have hcl : ((l.length : Int) == (w.bs.length : Int)) = decide (l.length = w.bs.length) := by
    rw [Bool.eq_iff_iff, beq_iff_eq, decide_eq_true_eq]; omega
  simp only [truA] at hT
  cases cb : w.can false
  · have hbest := best_no ho cb
    rw [hbest] at r8
    simp only [plA, cb, Bool.false_eq_true, if_false] at r7 r8
    rw [cb] at cF
    cases ct : w.can true <;> cases x1 : w.hld false l <;> cases x2 : w.hld true l <;> cases hb <;> by_cases x4 : l.length = w.bs.length <;>
      rw [x1, x2] at r3 <;> rw [x1] at hh1 cF hmono <;> rw [x2] at hh2 cT hmono <;> rw [ct] at r7 cT <;> (try (exfalso; (simp at hh1 hh2 cF cT hmono <;> first | contradiction | omega); done))
    all_goals
      simp only [Bool.false_eq_true, if_false, if_true] at r3 r7
      first | rw [decide_eq_true x4] at hcl | rw [decide_eq_false x4] at hcl
      refine (callFL_eq fn7 rfl (by simp [Try.f7])).trans ?_
      simp (maxSteps := 1000000) (implicitDefEqProofs := false) (disch := first | rfl | omega | assumption) only [go_sem, ltT, ltF, leT, leF, s1, s2, hL, hW]
      rw [chkK_of]; rotate_left; kernel_rfl
      simp (maxSteps := 1000000) (implicitDefEqProofs := false) (disch := first | rfl | omega | assumption) only [go_sem, ltT, ltF, leT, leF, s1, s2, s3, s4, n1, c1, hM, hT, hLk, r3, r5, r7, r8, hlo, hhi, hcl, hA]
  · obtain ⟨hbest, k1, k2, k3, k4⟩ := best_is ho cb
    rw [hbest] at r8
    simp only [plA, cb, if_true] at r7 r8
    generalize w.bestL w.bs.length w.full = m at *
    obtain ⟨hpm, hm0⟩ := stk_pok k1
    have hLm := fun (G : Heap) => law_look (h.app G) (tru_at (H ++ G) t) ht.ok hl (slP (H := H ++ G) (b := false) m) (by omega) hpm
    have hSm := fun (G : Heap) => ref_Stack (h.app G) hl.1 (slP (H := H ++ G) (b := false) m) (by omega)
    rw [k1] at hSm
    have hh3 := (look_holds ho ht k1).1 k2
    have hfm := (look_film ht k1).2
    rw [k4] at hfm
    generalize t.look w m = lm at *
    obtain ⟨hbm, Lm, Fm⟩ := lm
    simp only at hh3 hfm
    subst hh3
    have hcm : ((m.length : Int) != (w.bs.length : Int)) = false := by rw [k3]; simp
    cases x1 : w.hld false l <;> cases x2 : w.hld true l <;> cases hb <;> by_cases x4 : l.length = w.bs.length <;>
      rw [x1, x2] at r3 <;> rw [x1] at hh1 hmono <;> rw [x2] at hh2 hmono <;> (try (exfalso; (simp at hh1 hh2 hmono <;> first | contradiction | omega); done))
    all_goals
      simp only [Bool.false_eq_true, if_false, if_true] at r3 r7
      first | rw [decide_eq_true x4] at hcl | rw [decide_eq_false x4] at hcl
      refine (callFL_eq fn7 rfl (by simp [Try.f7])).trans ?_
      simp (maxSteps := 1000000) (implicitDefEqProofs := false) (disch := first | rfl | omega | assumption) only [go_sem, ltT, ltF, leT, leF, s1, s2, hL, hW]
      rw [chkK_of]; rotate_left; kernel_rfl
      simp (maxSteps := 1000000) (implicitDefEqProofs := false) (disch := first | rfl | omega | assumption) only [go_sem, ltT, ltF, leT, leF, s1, s2, s3, s4, n1, c1, hM, hT, hLk, r3, r5, r7, r8, hlo, hhi, hcl, hSm, hLm, hcm, hfm, hA]

end Go.Ab
