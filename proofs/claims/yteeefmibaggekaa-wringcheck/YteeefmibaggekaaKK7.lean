/-
  The reference, walked: how many are in a set; all stacks.
-/
import Derived.Test.YteeefmibaggekaaKK6
import Derived.Test.YteeefmibaggekaaKK3
import Derived.Test.YteeefmibaggekaaKK4
import Derived.Test.YteeefmibaggekaaKK5
namespace Go.Ab
open Go.Proofs
set_option linter.unusedSimpArgs false
set_option linter.unusedVariables false
set_option maxRecDepth 100000
set_option maxHeartbeats 2000000

variable {H : Heap}


end Go.Ab
/-
  The reference, walked: all stacks.
-/
namespace Go.Ab
open Go.Proofs
set_option linter.unusedSimpArgs false
set_option linter.unusedVariables false
set_option maxRecDepth 100000
set_option maxHeartbeats 2000000

variable {H : Heap}


def stA (xs : List Pc) : AV := .sl false (xs.map Pc.av)
/-- What lies at the foot of a call: the list that grows, if it begins there. -/
def XO (H : Heap) (P : Nat) (outs : List (List Pc)) : AO := .grow 1 (if P = H.length then outs.map stA else [])

/-- What a call answers. -/
def stR (H : Heap) (P : Nat) (outs : List (List Pc)) : Option Done := some ⟨.ret (if P < H.length then .gsl P outs.length else .sl false (outs.map stA)), H.set P (.grow 1 (outs.map stA)), none⟩

/-- Where the list that grows lies, when a call begins. -/
def OutAt (H : Heap) (P : Nat) (v : AV) (outs : List (List Pc)) : Prop :=
  (P < H.length ∧ v = .gsl P outs.length ∧ H[P]? = some (.grow 1 (outs.map stA))) ∨ (P = H.length ∧ v = .sl true [] ∧ outs = [])

/-- A stack to go on with, and its pile. -/
structure Beg (w : Wg) (b : Bool) (s : Nat) (xs : List Pc) (p : Pl) : Prop where
  ok : p.Ok w
  px : ∀ x ∈ xs, w.pok x
  nd : (xs.map Pc.b).Nodup
  hl : w.hL b none xs
  lf : ∀ i : Nat, p.left.testBit i = true ↔ s.testBit i = true ∧ ∀ x ∈ xs, x.b ≠ (i : Int)
  tp : p.tp = xs.getLast?
  cn : xs.length + cnt p.left = cnt s

theorem hL_snoc {w : Wg} {b : Bool} {x : Pc} : ∀ (xs : List Pc) (o : Option Pc), w.hL b o (xs ++ [x]) ↔ w.hL b o xs ∧ ∀ y, (xs.getLast?.or o) = some y → w.jt b y x = 0
  | [], o => by simp [Wg.hL]
  | z :: r, o => by
    have ih := hL_snoc (w := w) (b := b) (x := x) r (some z)
    have e : ((z :: r).getLast?.or o) = (r.getLast?.or (some z)) := by
      cases r with
      | nil => rfl
      | cons a s =>
        rw [List.getLast?_cons_cons, List.getLast?_eq_some_getLast (List.cons_ne_nil a s)]
        rfl
    simp only [List.cons_append, Wg.hL, ih, e]
    exact ⟨fun ⟨a, b, c⟩ => ⟨⟨a, b⟩, c⟩, fun ⟨⟨a, b⟩, c⟩ => ⟨a, b, c⟩⟩

theorem tp_iff {p : Pl} {f : Pc → Prop} : (p.some = true → f p.top) ↔ ∀ y, p.tp = some y → f y := by
  simp only [Pl.tp]
  cases p.some <;> simp

theorem Beg.cond {w : Wg} {b : Bool} {s : Nat} {xs : List Pc} {p : Pl} (hb : Beg w b s xs p) {x : Pc} (hx : w.pok x) :
    x ∈ w.plL b p ↔ s.testBit x.b.toNat = true ∧ w.stk (xs ++ [x]) = true ∧ w.hld b (xs ++ [x]) = true := by
  have h3 := tp_iff (p := p) (f := fun y => w.jt b y x = 0)
  rw [plL_iff, h3, hb.tp, hb.lf, stk_iff, hld_hL, hL_snoc, Option.or_none]
  simp only [List.map_append, List.map_cons, List.map_nil]
  rw [List.nodup_append]
  constructor
  · rintro ⟨_, ⟨h1, h2⟩, h3⟩
    refine ⟨h1, ⟨by simp, ?_, hb.nd, List.nodup_cons.2 ⟨by simp, List.nodup_nil⟩, ?_⟩, hb.hl, h3⟩
    · intro y hy
      rcases List.mem_append.1 hy with hy | hy
      · exact hb.px y hy
      · rw [List.mem_singleton.1 hy]; exact hx
    · intro y hy z hz
      rw [List.mem_singleton.1 hz]
      obtain ⟨k, k1, rfl⟩ := List.mem_map.1 hy
      have := h2 k k1
      have := hx.1
      intro e
      exact h2 k k1 (by omega)
  · rintro ⟨h1, ⟨_, h4, _, _, h5⟩, _, h3⟩
    refine ⟨hx, ⟨h1, fun y hy e => ?_⟩, h3⟩
    have := hx.1
    exact h5 y.b (List.mem_map.2 ⟨y, hy, rfl⟩) x.b (List.mem_singleton.2 rfl) (by omega)

/-- What the reference's stacks do from a stack on. -/
def StkOk (w : Wg) (b : Bool) (s : Nat) (vb va : AV) (n : Nat) : Prop :=
  ∀ (H : Heap) (P : Nat) (v : AV) (outs : List (List Pc)) (f : Bool) (xs : List Pc) (p : Pl), Beg w b s xs p → cnt p.left = n → (f = false ∨ n ≠ 0) → OutAt H P v outs →
    (∀ o, WgAt (H.set P (.grow 1 o)) w vb va) → outs.length + (w.ext b n p).length ≤ 1000000 →
    callFL cfg0 prog0 false 69 [.agg [vb, va], I s, .bool b, .sl f (xs.map Pc.av), v] H none = stR H P (outs ++ (w.ext b n p).map (xs ++ ·))

/-- What comes of some places. -/
def Wg.extL (w : Wg) (b : Bool) (n : Nat) (xs : List Pc) (p : Pl) (l : List Pc) : List (List Pc) := (l.flatMap fun x => (w.ext b n (p.next x)).map (x :: ·)).map (xs ++ ·)

/-- All stacks of the blocks of a set. -/
def Wg.stks (w : Wg) (b : Bool) (s : Nat) : List (List Pc) := w.ext b (cnt s) ⟨s, pc0, false⟩

end Go.Ab
/-
  The reference, walked: can, Count, Hope, Best.
-/
namespace Go.Ab
open Go.Proofs
set_option linter.unusedSimpArgs false
set_option linter.unusedVariables false
set_option maxRecDepth 100000
set_option maxHeartbeats 2000000

variable {H : Heap}


def minF (f : List Pc → Int) (L : List (List Pc)) (m : List Pc) (j q : Nat) : List Pc := foldF (fun m i => if f (L.getD i []) < f m then L.getD i [] else m) m j q

theorem stk_len {w : Wg} (ho : w.Ok) {l : List Pc} (h : w.stk l = true) : l.length ≤ w.bs.length := by
  obtain ⟨_, h1, h2⟩ := stk_iff.1 h
  have key : ∀ (n : Nat) (m : List Int), m.Nodup → (∀ x ∈ m, 0 ≤ x ∧ x < (n : Int)) → m.length ≤ n := by
    intro n
    induction n with
    | zero =>
      intro m _ hm
      cases m with
      | nil => simp
      | cons a r => have := hm a (List.mem_cons_self ..); omega
    | succ n ih =>
      intro m hn hm
      have h1 := ih (m.erase (n : Int)) (hn.erase _) (fun x hx => by
        have hx' := (hn.mem_erase_iff).1 hx
        have := hm x hx'.2
        have := hx'.1
        omega)
      have := List.length_erase_le (a := (n : Int)) (l := m)
      by_cases hmem : (n : Int) ∈ m
      · rw [List.length_erase_of_mem hmem] at h1; omega
      · rw [List.erase_of_not_mem hmem] at h1; omega
  have := key w.bs.length (l.map Pc.b) h2 (fun x hx => by
    obtain ⟨y, hy, rfl⟩ := List.mem_map.1 hx
    have := h1 y hy
    exact ⟨this.1, this.2.1⟩)
  rwa [List.length_map] at this

end Go.Ab
/-
  Truths and stacks.
-/
namespace Go.Ab
open Go.Proofs
set_option linter.unusedSimpArgs false
set_option linter.unusedVariables false
set_option maxRecDepth 100000
set_option maxHeartbeats 2000000

variable {H : Heap}


theorem apE_comm (x y : Int) (a : Ap) : apE x y a = apE y x a := by
  simp only [apE]
  rw [Bool.and_comm (a.a == x), Bool.and_comm (a.b == x), Bool.or_comm]
theorem ap_comm (w : Wg) (x y : Int) : w.ap x y = w.ap y x := by
  simp only [Wg.ap]
  congr 1
  funext a
  exact apE_comm x y a

theorem jtz {w : Wg} {b : Bool} {x y : Pc} : w.jt b x y = 0 ↔ w.ap x.b y.b = false ∧ (w.fa x).st ≤ lvl b ∧ (w.fb y).st ≤ lvl b := by
  simp only [Wg.jt]
  cases w.ap x.b y.b
  · by_cases h1 : (w.fa x).st ≤ lvl b
    · by_cases h2 : (w.fb y).st ≤ lvl b <;> simp [h1, h2]
    · simp [h1]
  · simp

theorem tru_fa {w : Wg} {x : Pc} (hx : w.pok x) : w.fa x = (w.b x.b.toNat).fc x.u.toNat ∧ x.b.toNat < w.bs.length ∧ x.u.toNat < 2 ∧ 1 - x.u.toNat < 2 := by
  obtain ⟨h1, h2, h3, h4⟩ := hx
  simp only [Wg.n] at h2
  exact ⟨rfl, by omega, by omega, by omega⟩

/-! ### What look finds -/

theorem anyF_shift (f : Nat → Bool) : ∀ (q j : Nat), anyF (fun i => f (i - 1)) (j + 1) q = anyF f j q
  | 0, _ => rfl
  | q + 1, j => by
    simp only [anyF]
    rw [anyF_shift f q (j + 1)]
    rfl

theorem anyF_con {f g : Nat → Bool} : ∀ (q j : Nat), (∀ i, j ≤ i → i < j + q → f i = g i) → anyF f j q = anyF g j q
  | 0, _, _ => rfl
  | q + 1, j, h => by
    simp only [anyF]
    rw [h j (by omega) (by omega), anyF_con q (j + 1) (fun i h1 h2 => h i (by omega) (by omega))]

theorem lookF_eq (t : Tru) (w : Wg) (xs : List Pc) : ∀ (q j : Nat) (c : Bool) (L F : Int), 1 ≤ j → t.lookF w xs (c, L, F) j q = (c && !anyF (fun i => t.bad w (pcA xs (i - 1)) (pcA xs i)) j q, L + sumF (fun i => t.l (pcA xs i).b.toNat) j q, F + sumF (fun i => t.rA (pcA xs (i - 1)) + t.rB (pcA xs i)) j q)
  | 0, j, c, L, F, h => by simp [Tru.lookF, foldF, anyF, sumF]
  | q + 1, j, c, L, F, h => by
    have e : t.lookF w xs (c, L, F) j (q + 1) = t.lookF w xs (c && !t.bad w (pcA xs (j - 1)) (pcA xs j), L + t.l (pcA xs j).b.toNat, F + (t.rA (pcA xs (j - 1)) + t.rB (pcA xs j))) (j + 1) q := by
      simp only [Tru.lookF, foldF, Tru.stp, if_neg (show ¬ j = 0 by omega)]
    rw [e, lookF_eq t w xs q (j + 1) _ _ _ (by omega)]
    have ea : anyF (fun i => t.bad w (pcA xs (i - 1)) (pcA xs i)) j (q + 1) = (t.bad w (pcA xs (j - 1)) (pcA xs j) || anyF (fun i => t.bad w (pcA xs (i - 1)) (pcA xs i)) (j + 1) q) := rfl
    have e1 : sumF (fun i => t.l (pcA xs i).b.toNat) j (q + 1) = t.l (pcA xs j).b.toNat + sumF (fun i => t.l (pcA xs i).b.toNat) (j + 1) q := rfl
    have e2 : sumF (fun i => t.rA (pcA xs (i - 1)) + t.rB (pcA xs i)) j (q + 1) = (t.rA (pcA xs (j - 1)) + t.rB (pcA xs j)) + sumF (fun i => t.rA (pcA xs (i - 1)) + t.rB (pcA xs i)) (j + 1) q := rfl
    rw [ea, e1, e2, Bool.not_or, Bool.and_assoc]
    congr 2 <;> omega

theorem look_eq (t : Tru) (w : Wg) {xs : List Pc} (h : 0 < xs.length) : t.look w xs = (!anyF (fun i => t.bad w (pcA xs i) (pcA xs (i + 1))) 0 (xs.length - 1), sumF (fun i => t.l (pcA xs i).b.toNat) 0 xs.length, sumF (fun i => t.rA (pcA xs i) + t.rB (pcA xs (i + 1))) 0 (xs.length - 1)) := by
  obtain ⟨n, hn⟩ : ∃ n, xs.length = n + 1 := ⟨xs.length - 1, by omega⟩
  have e : t.look w xs = t.lookF w xs (true, 0 + t.l (pcA xs 0).b.toNat, 0) 1 n := by
    simp only [Tru.look, hn]
    simp only [Tru.lookF, foldF, Tru.stp, if_true]
  rw [e, lookF_eq t w xs n 1 _ _ _ (by omega), hn]
  have s1 := anyF_shift (fun i => t.bad w (pcA xs i) (pcA xs (i + 1))) n 0
  have s2 := sumF_shift (fun i => t.rA (pcA xs i) + t.rB (pcA xs (i + 1))) n 0
  have c1 : anyF (fun i => t.bad w (pcA xs (i - 1)) (pcA xs i)) 1 n = anyF (fun i => t.bad w (pcA xs (i - 1)) (pcA xs (i - 1 + 1))) (0 + 1) n := anyF_con _ _ (fun i h1 h2 => by rw [show i - 1 + 1 = i by omega])
  have c2 : sumF (fun i => t.rA (pcA xs (i - 1)) + t.rB (pcA xs i)) 1 n = sumF (fun i => t.rA (pcA xs (i - 1)) + t.rB (pcA xs (i - 1 + 1))) (0 + 1) n := sumF_con _ _ (fun i h1 h2 => by rw [show i - 1 + 1 = i by omega])
  rw [c1, c2, s1, s2, Bool.true_and, Int.zero_add, Int.zero_add]
  rfl

theorem flm_sum (w : Wg) (xs : List Pc) : w.flm xs = (sumF (fun i => (w.fa (pcA xs i)).lo + (w.fb (pcA xs (i + 1))).lo) 0 (xs.length - 1), sumF (fun i => (w.fa (pcA xs i)).hi + (w.fb (pcA xs (i + 1))).hi) 0 (xs.length - 1)) := by
  have : w.flm xs = (0 + sumF (fun i => (w.fa (pcA xs i)).lo + (w.fb (pcA xs (i + 1))).lo) 0 (xs.length - 1), 0 + sumF (fun i => (w.fa (pcA xs i)).hi + (w.fb (pcA xs (i + 1))).hi) 0 (xs.length - 1)) := foldF_pair _ _ _ _ _
  rw [this, Int.zero_add, Int.zero_add]

theorem len_sum (w : Wg) (xs : List Pc) : foldF (w.lnA xs) (w.flm xs) 0 xs.length = ((w.flm xs).1 + sumF (fun i => (w.b (pcA xs i).b.toNat).lo) 0 xs.length, (w.flm xs).2 + sumF (fun i => (w.b (pcA xs i).b.toNat).hi) 0 xs.length) :=
  foldF_pair _ _ _ _ _

/-! ### What is told of a stack -/

theorem holds_is {w : Wg} (hv : w.valid = true) {l : List Pc} (hs : w.stk l = true) : w.holds l = (if w.hld false l then 2 else if w.hld true l then 1 else 0, 0) := by
  simp only [Wg.holds, hv, hs, if_true]
  rw [brk_hld false l, brk_hld true l]
  by_cases h1 : (w.brk false l).2 = 0
  · simp [h1]
  · by_cases h2 : (w.brk true l).2 = 0 <;> simp [h1, h2]

end Go.Ab
/-
  The ends of what is told of a stack.
-/
namespace Go.Ab
open Go.Proofs
set_option linter.unusedSimpArgs false
set_option linter.unusedVariables false
set_option maxRecDepth 100000
set_option maxHeartbeats 2000000

variable {H : Heap}


def Wg.cs (w : Wg) : List (Bool × Bool) := w.bs.map fun b => (b.f0.st != 0, b.f1.st != 0)
def Wg.rl (w : Wg) : List (Int × Int) := w.bs.map fun b => (b.f0.lo, b.f1.lo)
def Wg.rh (w : Wg) : List (Int × Int) := w.bs.map fun b => (b.f0.hi, b.f1.hi)
/-- All scratched that can be, no lengths; all short and smooth; all long and rough. -/
def Wg.tw (w : Wg) : Tru := ⟨w.cs, w.rl, w.bs.map fun _ => 0⟩
def Wg.tl (w : Wg) : Tru := ⟨w.cs, w.rl, w.bs.map Bk.lo⟩
def Wg.th (w : Wg) : Tru := ⟨w.cs, w.rh, w.bs.map Bk.hi⟩

theorem bs_at (w : Wg) {i : Nat} (h : i < w.bs.length) : w.bs[i] = w.b i := by simp [h]

theorem map_at {α : Type} (w : Wg) (f : Bk → α) (d : α) {i : Nat} (h : i < w.bs.length) : (w.bs.map f).getD i d = f (w.b i) := by
  rw [List.getD_eq_getElem?_getD, List.getElem?_map, List.getElem?_eq_getElem h, bs_at w h]
  rfl
theorem map_no {α : Type} (w : Wg) (f : Bk → α) (d : α) {i : Nat} (h : ¬ i < w.bs.length) : (w.bs.map f).getD i d = d := by
  rw [List.getD_eq_getElem?_getD, List.getElem?_map, List.getElem?_eq_none (by omega)]
  rfl

theorem cs_at (w : Wg) {i k : Nat} (h : i < w.bs.length) (hk : k < 2) : p2 (w.cs.getD i (false, false)) k = (((w.b i).fc k).st != 0) := by
  rw [Wg.cs, map_at w _ _ h]
  have : k = 0 ∨ k = 1 := by omega
  rcases this with rfl | rfl <;> rfl
theorem rl_at (w : Wg) {i k : Nat} (h : i < w.bs.length) (hk : k < 2) : p2 (w.rl.getD i (0, 0)) k = ((w.b i).fc k).lo := by
  rw [Wg.rl, map_at w _ _ h]
  have : k = 0 ∨ k = 1 := by omega
  rcases this with rfl | rfl <;> rfl
theorem rh_at (w : Wg) {i k : Nat} (h : i < w.bs.length) (hk : k < 2) : p2 (w.rh.getD i (0, 0)) k = ((w.b i).fc k).hi := by
  rw [Wg.rh, map_at w _ _ h]
  have : k = 0 ∨ k = 1 := by omega
  rcases this with rfl | rfl <;> rfl

theorem tw_ok {w : Wg} (ho : w.Ok) : w.tw.Ok w.bs.length := by
  refine ⟨List.length_map _, List.length_map _, List.length_map _, fun b k => ?_, fun b => ?_⟩
  · by_cases h : b < w.bs.length
    · have e : w.tw.r b k = p2 ((w.b b).f0.lo, (w.b b).f1.lo) k := by simp only [Tru.r, Wg.tw, Wg.rl]; rw [map_at w _ _ h]
      have f0 := (ho.f0 b h).sp
      have f1 := (ho.f1 b h).sp
      rw [e]; simp only [p2]; split <;> omega
    · have e : w.tw.r b k = p2 ((0 : Int), (0 : Int)) k := by simp only [Tru.r, Wg.tw, Wg.rl]; rw [map_no w _ _ h]
      rw [e]; simp only [p2]; split <;> omega
  · have e : w.tw.l b = 0 := by
      simp only [Tru.l, Wg.tw]
      by_cases h : b < w.bs.length
      · rw [map_at w _ _ h]
      · rw [map_no w _ _ h]
    rw [e]; omega

theorem tl_ok {w : Wg} (ho : w.Ok) : w.tl.Ok w.bs.length := by
  have hr := (tw_ok ho).br
  refine ⟨List.length_map _, List.length_map _, List.length_map _, hr, fun b => ?_⟩
  by_cases h : b < w.bs.length
  · have e : w.tl.l b = (w.b b).lo := by simp only [Tru.l, Wg.tl]; rw [map_at w _ _ h]
    have := ho.sp b h
    rw [e]; omega
  · have e : w.tl.l b = 0 := by simp only [Tru.l, Wg.tl]; rw [map_no w _ _ h]
    rw [e]; omega

theorem th_ok {w : Wg} (ho : w.Ok) : w.th.Ok w.bs.length := by
  refine ⟨List.length_map _, List.length_map _, List.length_map _, fun b k => ?_, fun b => ?_⟩
  · by_cases h : b < w.bs.length
    · have e : w.th.r b k = p2 ((w.b b).f0.hi, (w.b b).f1.hi) k := by simp only [Tru.r, Wg.th, Wg.rh]; rw [map_at w _ _ h]
      have f0 := (ho.f0 b h).sp
      have f1 := (ho.f1 b h).sp
      rw [e]; simp only [p2]; split <;> omega
    · have e : w.th.r b k = p2 ((0 : Int), (0 : Int)) k := by simp only [Tru.r, Wg.th, Wg.rh]; rw [map_no w _ _ h]
      rw [e]; simp only [p2]; split <;> omega
  · by_cases h : b < w.bs.length
    · have e : w.th.l b = (w.b b).hi := by simp only [Tru.l, Wg.th]; rw [map_at w _ _ h]
      have := ho.sp b h
      rw [e]; omega
    · have e : w.th.l b = 0 := by simp only [Tru.l, Wg.th]; rw [map_no w _ _ h]
      rw [e]; omega

theorem tw_bad {w : Wg} (ho : w.Ok) {x y : Pc} (hx : w.pok x) (hy : w.pok y) : w.tw.bad w y x = (w.jt false y x != 0) := by
  obtain ⟨_, x1, x2, x3⟩ := tru_fa hx
  obtain ⟨_, y1, y2, y3⟩ := tru_fa hy
  have f1 := (ho.fa hy).st
  have f2 := (ho.fb hx).st
  have a : w.tw.sA y = ((w.fa y).st != 0) := cs_at w y1 y2
  have b : w.tw.sB x = ((w.fb x).st != 0) := cs_at w x1 x3
  simp only [Tru.bad, a, b]
  rw [Bool.eq_iff_iff, bne_iff_ne, ne_eq, jtz, ap_comm w x.b y.b]
  simp only [lvl, Bool.false_eq_true, if_false, Bool.or_eq_true, bne_iff_ne, ne_eq]
  cases w.ap y.b x.b
  · simp; omega
  · simp

/-- What look finds in the worst truth. -/
theorem tw_holds {w : Wg} (ho : w.Ok) {l : List Pc} (hp : w.poks l) : (w.tw.look w l).1 = w.hld false l := by
  by_cases h0 : 0 < l.length
  · rw [look_eq _ _ h0]
    simp only [Wg.hld]
    congr 1
    exact anyF_con _ _ (fun i _ hi => tw_bad ho (hp _ (by omega)) (hp _ (by omega)))
  · have : l = [] := List.length_eq_zero_iff.1 (by omega)
    subst this; rfl

theorem end_low {w : Wg} {l : List Pc} (hp : w.poks l) (h0 : 0 < l.length) : (w.tl.look w l).2.1 + (w.tl.look w l).2.2 = (w.flm l).1 + sumF (fun i => (w.b (pcA l i).b.toNat).lo) 0 l.length := by
  rw [look_eq _ _ h0, flm_sum]
  have e1 : sumF (fun i => w.tl.l (pcA l i).b.toNat) 0 l.length = sumF (fun i => (w.b (pcA l i).b.toNat).lo) 0 l.length := sumF_con _ _ (fun i _ hi => map_at w _ _ (tru_fa (hp i (by omega))).2.1)
  have e2 : sumF (fun i => w.tl.rA (pcA l i) + w.tl.rB (pcA l (i + 1))) 0 (l.length - 1) = sumF (fun i => (w.fa (pcA l i)).lo + (w.fb (pcA l (i + 1))).lo) 0 (l.length - 1) := sumF_con _ _ (fun i _ hi => by
    obtain ⟨_, x1, x2, x3⟩ := tru_fa (hp i (by omega))
    obtain ⟨_, y1, y2, y3⟩ := tru_fa (hp (i + 1) (by omega))
    rw [show w.tl.rA (pcA l i) = (w.fa (pcA l i)).lo from rl_at w x1 x2, show w.tl.rB (pcA l (i + 1)) = (w.fb (pcA l (i + 1))).lo from rl_at w y1 y3])
  simp only [e1, e2]
  omega

theorem end_high {w : Wg} {l : List Pc} (hp : w.poks l) (h0 : 0 < l.length) : (w.th.look w l).2.1 + (w.th.look w l).2.2 = (w.flm l).2 + sumF (fun i => (w.b (pcA l i).b.toNat).hi) 0 l.length := by
  rw [look_eq _ _ h0, flm_sum]
  have e1 : sumF (fun i => w.th.l (pcA l i).b.toNat) 0 l.length = sumF (fun i => (w.b (pcA l i).b.toNat).hi) 0 l.length := sumF_con _ _ (fun i _ hi => map_at w _ _ (tru_fa (hp i (by omega))).2.1)
  have e2 : sumF (fun i => w.th.rA (pcA l i) + w.th.rB (pcA l (i + 1))) 0 (l.length - 1) = sumF (fun i => (w.fa (pcA l i)).hi + (w.fb (pcA l (i + 1))).hi) 0 (l.length - 1) := sumF_con _ _ (fun i _ hi => by
    obtain ⟨_, x1, x2, x3⟩ := tru_fa (hp i (by omega))
    obtain ⟨_, y1, y2, y3⟩ := tru_fa (hp (i + 1) (by omega))
    rw [show w.th.rA (pcA l i) = (w.fa (pcA l i)).hi from rh_at w x1 x2, show w.th.rB (pcA l (i + 1)) = (w.fb (pcA l (i + 1))).hi from rh_at w y1 y3])
  simp only [e1, e2]
  omega

/-! ### A stack upside down -/

def flip (x : Pc) : Pc := ⟨x.b, 1 - x.u⟩
def back (l : List Pc) : List Pc := l.reverse.map flip

theorem back_len (l : List Pc) : (back l).length = l.length := by simp [back]

theorem back_at {l : List Pc} {i : Nat} (h : i < l.length) : pcA (back l) i = flip (pcA l (l.length - 1 - i)) := by
  rw [pcA_get (by rw [back_len]; exact h), pcA_get (show l.length - 1 - i < l.length by omega)]
  simp [back]

theorem flip_ok {w : Wg} {x : Pc} (hx : w.pok x) : w.pok (flip x) ∧ w.fa (flip x) = w.fb x ∧ w.fb (flip x) = w.fa x := by
  obtain ⟨h1, h2, h3, h4⟩ := hx
  refine ⟨⟨h1, h2, by simp only [flip]; omega, by simp only [flip]; omega⟩, ?_, ?_⟩
  · simp only [Wg.fa, Wg.fb, flip]
    rw [show (1 - x.u).toNat = 1 - x.u.toNat by omega]
  · simp only [Wg.fa, Wg.fb, flip]
    rw [show 1 - (1 - x.u).toNat = x.u.toNat by omega]

theorem back_stk {w : Wg} {l : List Pc} (hs : w.stk l = true) : w.stk (back l) = true := by
  obtain ⟨h0, h1, h2⟩ := stk_iff.1 hs
  refine stk_iff.2 ⟨by simpa [back] using h0, fun x hx => ?_, ?_⟩
  · obtain ⟨y, hy, rfl⟩ := List.mem_map.1 hx
    exact (flip_ok (h1 y (List.mem_reverse.1 hy))).1
  · have e : (back l).map Pc.b = (l.map Pc.b).reverse := by simp [back, flip]
    rw [e]
    exact ((List.reverse_perm _).nodup_iff).2 h2

theorem flip_jt {w : Wg} {x y : Pc} (hx : w.pok x) (hy : w.pok y) (b : Bool) : w.jt b (flip y) (flip x) = w.jt b x y := by
  have e1 := flip_ok hx
  have e2 := flip_ok hy
  simp only [Wg.jt, e1.2.2, e2.2.1]
  rw [show w.ap (flip y).b (flip x).b = w.ap x.b y.b from ap_comm w y.b x.b]
  by_cases h1 : (w.fb y).st ≤ lvl b <;> by_cases h2 : (w.fa x).st ≤ lvl b <;> simp [h1, h2]

theorem back_hld {w : Wg} {l : List Pc} (hp : w.poks l) (b : Bool) : w.hld b (back l) = w.hld b l := by
  rw [Bool.eq_iff_iff, hld_iff, hld_iff, back_len]
  constructor
  · intro h i hi
    have := h (l.length - 1 - (i + 1)) (by omega)
    rw [back_at (by omega), back_at (by omega), flip_jt (hp _ (by omega)) (hp _ (by omega)), show l.length - 1 - (l.length - 1 - (i + 1) + 1) = i by omega, show l.length - 1 - (l.length - 1 - (i + 1)) = i + 1 by omega] at this
    exact this
  · intro h i hi
    rw [back_at (by omega), back_at (by omega), flip_jt (hp _ (by omega)) (hp _ (by omega)), show l.length - 1 - i = l.length - 1 - (i + 1) + 1 by omega]
    exact h _ (by omega)

theorem sumF_rev (f : Nat → Int) (n : Nat) : ∀ q j, j + q ≤ n → sumF (fun i => f (n - 1 - i)) j q = sumF f (n - j - q) q
  | 0, j, h => rfl
  | q + 1, j, h => by
    have e : ∀ q a, sumF f a (q + 1) = sumF f a q + f (a + q) := by
      intro q
      induction q with
      | zero => intro a; simp [sumF]
      | succ q ih =>
        intro a
        have h1 := ih (a + 1)
        have e1 : sumF f a (q + 1 + 1) = f a + sumF f (a + 1) (q + 1) := rfl
        have e2 : sumF f a (q + 1) = f a + sumF f (a + 1) q := rfl
        rw [e1, e2, h1, show a + 1 + q = a + (q + 1) by omega]
        omega
    have e1 : sumF (fun i => f (n - 1 - i)) j (q + 1) = f (n - 1 - j) + sumF (fun i => f (n - 1 - i)) (j + 1) q := rfl
    rw [e1, sumF_rev f n q (j + 1) (by omega), e q, show n - j - (q + 1) = n - (j + 1) - q by omega, show n - (j + 1) - q + q = n - 1 - j by omega]
    omega

theorem back_flm {w : Wg} {l : List Pc} (hp : w.poks l) : w.flm (back l) = w.flm l := by
  rw [flm_sum, flm_sum, back_len]
  have key : ∀ (g h : Pc → Int), (∀ x, w.pok x → g (flip x) = h x ∧ h (flip x) = g x) → sumF (fun i => g (pcA (back l) i) + h (pcA (back l) (i + 1))) 0 (l.length - 1) = sumF (fun i => g (pcA l i) + h (pcA l (i + 1))) 0 (l.length - 1) := by
    intro g h hgh
    have e1 : sumF (fun i => g (pcA (back l) i) + h (pcA (back l) (i + 1))) 0 (l.length - 1) = sumF (fun i => (fun k => g (pcA l k) + h (pcA l (k + 1))) (l.length - 1 - 1 - i)) 0 (l.length - 1) := sumF_con _ _ (fun i _ hi => by
      rw [back_at (by omega), back_at (by omega), (hgh _ (hp _ (by omega))).1, (hgh _ (hp _ (by omega))).2]
      rw [show l.length - 1 - (i + 1) = l.length - 1 - 1 - i by omega, show l.length - 1 - i = l.length - 1 - 1 - i + 1 by omega]
      exact Int.add_comm _ _)
    rw [e1]
    refine (sumF_rev (fun k => g (pcA l k) + h (pcA l (k + 1))) (l.length - 1) (l.length - 1) 0 (by omega)).trans ?_
    rw [show l.length - 1 - 0 - (l.length - 1) = 0 by omega]
  rw [key (fun x => (w.fa x).lo) (fun x => (w.fb x).lo) (fun x hx => ⟨by rw [(flip_ok hx).2.1], by rw [(flip_ok hx).2.2]⟩), key (fun x => (w.fa x).hi) (fun x => (w.fb x).hi) (fun x hx => ⟨by rw [(flip_ok hx).2.1], by rw [(flip_ok hx).2.2]⟩)]

theorem back_lens {w : Wg} {l : List Pc} (f : Nat → Int) : sumF (fun i => f (pcA (back l) i).b.toNat) 0 l.length = sumF (fun i => f (pcA l i).b.toNat) 0 l.length := by
  have e1 : sumF (fun i => f (pcA (back l) i).b.toNat) 0 l.length = sumF (fun i => (fun k => f (pcA l k).b.toNat) (l.length - 1 - i)) 0 l.length := sumF_con _ _ (fun i _ hi => by rw [back_at (by omega)]; rfl)
  rw [e1]
  refine (sumF_rev (fun k => f (pcA l k).b.toNat) l.length l.length 0 (by omega)).trans ?_
  rw [show l.length - 0 - l.length = 0 by omega]

theorem length_is {w : Wg} (hv : w.valid = true) {l : List Pc} (hs : w.stk l = true) : w.length l = (((w.flm l).1 + sumF (fun i => (w.b (pcA l i).b.toNat).lo) 0 l.length, (w.flm l).2 + sumF (fun i => (w.b (pcA l i).b.toNat).hi) 0 l.length), 0) := by
  simp only [Wg.length, hv, hs, if_true]
  rw [← len_sum, len_eq w (stk_pok hs).2]

theorem back_all {w : Wg} (hv : w.valid = true) {l : List Pc} (hs : w.stk l = true) : w.holds (back l) = w.holds l ∧ w.length (back l) = w.length l := by
  have hp := (stk_pok hs).1
  have hb := back_stk hs
  rw [holds_is hv hb, holds_is hv hs, back_hld hp, back_hld hp, length_is hv hb, length_is hv hs, back_flm hp, back_len]
  refine ⟨rfl, ?_⟩
  rw [back_lens (w := w) (fun k => (w.b k).lo), back_lens (w := w) (fun k => (w.b k).hi)]

/-! ### The joint that is told -/

theorem brk_is {w : Wg} {l : List Pc} (h : (w.brk false l).2 ≠ 0) : ∃ k : Nat, k + 1 < l.length ∧ w.brk false l = ((k : Int), w.jt false (pcA l k) (pcA l (k + 1))) ∧ w.jt false (pcA l k) (pcA l (k + 1)) ≠ 0 ∧ ∀ i, i < k → w.jt false (pcA l i) (pcA l (i + 1)) = 0 := by
  simp only [Wg.brk] at h ⊢
  cases hf : findF (w.brkF false l) 0 (l.length - 1) with
  | none => rw [hf] at h; exact absurd rfl h
  | some x =>
    obtain ⟨k, k1, k2, k3, k4⟩ := (findF_some _ _ _ _).1 hf
    simp only [Wg.brkF] at k3
    split at k3
    · cases k3
    · rename_i hc
      cases k3
      refine ⟨k, by omega, rfl, hc, fun i hi => ?_⟩
      have := k4 i (by omega) hi
      simp only [Wg.brkF] at this
      split at this
      · assumption
      · cases this

theorem pcA_take {l : List Pc} {n i : Nat} (h : i < n) (hl : i < l.length) : pcA (l.take n) i = pcA l i := by
  rw [pcA_get (by rw [List.length_take]; omega), pcA_get hl, List.getElem_take]

theorem take_holds {w : Wg} {l : List Pc} {k : Nat} (hk : k + 1 < l.length) (h1 : w.jt false (pcA l k) (pcA l (k + 1)) ≠ 0) (h2 : ∀ i, i < k → w.jt false (pcA l i) (pcA l (i + 1)) = 0) : w.hld false (l.take (k + 1)) = true ∧ w.hld false (l.take (k + 2)) = false := by
  constructor
  · rw [hld_iff]
    intro i hi
    rw [List.length_take] at hi
    rw [pcA_take (by omega) (by omega), pcA_take (by omega) (by omega)]
    exact h2 i (by omega)
  · rw [← Bool.not_eq_true, hld_iff]
    intro h
    have := h k (by rw [List.length_take]; omega)
    rw [pcA_take (by omega) (by omega), pcA_take (by omega) (by omega)] at this
    exact h1 this

theorem take_poks {w : Wg} {l : List Pc} (hp : w.poks l) (n : Nat) : w.poks (l.take n) := by
  intro i hi
  rw [List.length_take] at hi
  rw [pcA_take (by omega) (by omega)]
  exact hp i (by omega)

theorem jt_rule {w : Wg} {x y : Pc} (h : w.jt false x y ≠ 0) : (w.ap x.b y.b = true ∧ w.jt false x y = 1) ∨ (w.ap x.b y.b = false ∧ w.jt false x y = 2) := by
  simp only [Wg.jt] at h ⊢
  cases ha : w.ap x.b y.b
  · rw [ha] at h
    by_cases h1 : (w.fa x).st ≤ lvl false <;> by_cases h2 : (w.fb y).st ≤ lvl false <;> simp [h1, h2] at h ⊢
  · simp

end Go.Ab
/-
  The loops of WringCheck.
-/
namespace Go.Ab
open Go.Proofs
set_option linter.unusedSimpArgs false
set_option linter.unusedVariables false
set_option maxRecDepth 100000
set_option maxHeartbeats 2000000

variable {H : Heap}



theorem take_map {α : Type} (w : Wg) (f : Bk → α) {j : Nat} (h : j < w.bs.length) : (w.bs.map f).take (j + 1) = (w.bs.map f).take j ++ [f (w.b j)] := by
  rw [List.take_succ_eq_append_getElem (by rw [List.length_map]; exact h), List.getElem_map, bs_at w h]

theorem take_all {α : Type} (w : Wg) (f : Bk → α) : (w.bs.map f).take w.bs.length = w.bs.map f := List.take_of_length_le (by rw [List.length_map]; exact Nat.le_refl _)

theorem ck_out {w : Wg} {vb va : AV} (h : WgAt H w vb va) (ho : w.Ok) (l : List Pc) (i6 i7 i8 i9 : Int) (o1 : AO) (ho1 : ∀ N, o1.lt N = true) (K : List Item) (R : Option Done) (hK : ∀ E : Env, E.get 2 = .ptr H.length 0 → E.get 5 = .sl false (l.map Pc.av) → E.get 6 = I i6 → E.get 7 = I i7 → E.get 8 = I i8 → E.get 9 = I i9 → E.get 11 = .ptr (H.length + 1) 0 → E.get 13 = .ptr (H.length + 2) 0 → E.get 14 = .ptr (H.length + 3) 0 → E.get 15 = .ptr (H.length + 4) 0 → Option.map (finishC H.length) (execL cfg0 prog0 ⟨8, none, false, H.length⟩ K ⟨E, [], H ++ (.box (.agg [vb, va]) :: o1 :: .box (.agg [.gsl (H.length + 5) w.bs.length, .gsl (H.length + 6) w.bs.length, .gsl (H.length + 7) w.bs.length]) :: .box (.agg [.gsl (H.length + 8) w.bs.length, .gsl (H.length + 9) w.bs.length, .gsl (H.length + 10) w.bs.length]) :: .box (.agg [.gsl (H.length + 11) w.bs.length, .gsl (H.length + 12) w.bs.length, .gsl (H.length + 13) w.bs.length]) :: .grow 2 ((w.cs.take w.bs.length).map bpA) :: .grow 2 ((w.rl.take w.bs.length).map spA) :: .grow 1 ((w.tw.ln.take w.bs.length).map I) :: .grow 2 ((w.cs.take w.bs.length).map bpA) :: .grow 2 ((w.rl.take w.bs.length).map spA) :: .grow 1 ((w.tl.ln.take w.bs.length).map I) :: .grow 2 ((w.cs.take w.bs.length).map bpA) :: .grow 2 ((w.rh.take w.bs.length).map spA) :: .grow 1 ((w.th.ln.take w.bs.length).map I) :: []), none⟩) = R)  :
    ∀ (q j : Nat), j + q = w.bs.length → ∀ (G : Heap), ∀ E : Env, E.get 2 = .ptr H.length 0 → E.get 5 = .sl false (l.map Pc.av) → E.get 6 = I i6 → E.get 7 = I i7 → E.get 8 = I i8 → E.get 9 = I i9 → E.get 11 = .ptr (H.length + 1) 0 → E.get 13 = .ptr (H.length + 2) 0 → E.get 14 = .ptr (H.length + 3) 0 → E.get 15 = .ptr (H.length + 4) 0 → E.get 120 = vb → E.get 121 = I w.bs.length → E.get 122 = I j →
    Option.map (finishC H.length) (execL cfg0 prog0 ⟨8, none, false, H.length⟩ (loopIt Try.f8 11 :: .inBlock 0 :: K) ⟨E, [], H ++ (.box (.agg [vb, va]) :: o1 :: .box (.agg [.gsl (H.length + 5) j, .gsl (H.length + 6) j, .gsl (H.length + 7) j]) :: .box (.agg [.gsl (H.length + 8) j, .gsl (H.length + 9) j, .gsl (H.length + 10) j]) :: .box (.agg [.gsl (H.length + 11) j, .gsl (H.length + 12) j, .gsl (H.length + 13) j]) :: .grow 2 ((w.cs.take j).map bpA) :: .grow 2 ((w.rl.take j).map spA) :: .grow 1 ((w.tw.ln.take j).map I) :: .grow 2 ((w.cs.take j).map bpA) :: .grow 2 ((w.rl.take j).map spA) :: .grow 1 ((w.tl.ln.take j).map I) :: .grow 2 ((w.cs.take j).map bpA) :: .grow 2 ((w.rh.take j).map spA) :: .grow 1 ((w.th.ln.take j).map I) :: G), none⟩) = R := by
  intro q
  obtain ⟨a1, a2, a3, a4, a5⟩ := h.bs.fF (d := bk0)
  have s1 := h.bs.scal
  have s2 := h.ps.scal
  have t1 := h.bs.ltn 14
  have t2 := h.ps.ltn 14
  have t1' := h.bs.ltn 18
  have t2' := h.ps.ltn 18
  have h5 := ho.n.2
  simp only [Wg.n] at h5
  have m0 : ∀ (N : Nat) (L : List Pc), ltL N (L.map Pc.av) = true := fun N L => ltL_map (fun _ => rfl) L
  have m1 : ∀ L : List (Bool × Bool), ltL 0 (L.map bpA) = true := fun L => ltL_map (fun _ => rfl) L
  have m2 : ∀ L : List (Int × Int), ltL 0 (L.map spA) = true := fun L => ltL_map (fun _ => rfl) L
  have m3 : ∀ L : List Int, ltL 0 (L.map I) = true := fun L => ltL_map (fun _ => rfl) L
  induction q with
  | zero =>
    intro j hj G E g2 g5 g6 g7 g8 g9 g11 g13 g14 g15 g120 g121 g122
    have hk' : ¬ (j : Int) < ((w.bs.length : Nat) : Int) := by omega
    have ej : j = w.bs.length := by omega
    subst ej
    simp only [loopIt, todoPast, todoAt, todoOf, firstReg, ↓reduceIte, Option.some.injEq, Nat.reduceEqDiff, reduceCtorEq, Try.f8]
    rw [execL_inLoop]
    simp (maxSteps := 1000000) (implicitDefEqProofs := false) (disch := first | rfl | omega | assumption) only [go_sem, g2, g5, g6, g7, g8, g9, g11, g13, g14, g15, g120, g121, g122, ltT, ltF, leT, leF, hk', s1, s2, t1, t2, m0, m1, m2, m3, ho1]
    exact hK _ (by rfl) (by rfl) (by rfl) (by rfl) (by rfl) (by rfl) (by rfl) (by rfl) (by rfl) (by rfl)
  | succ q ih =>
    intro j hj G E g2 g5 g6 g7 g8 g9 g11 g13 g14 g15 g120 g121 g122
    have hk' : (j : Int) < ((w.bs.length : Nat) : Int) := by omega
    have hk2 : j < w.bs.length := by omega
    obtain ⟨x, hxx⟩ : ∃ x, w.bs.getD j bk0 = x := ⟨_, rfl⟩
    have hxw : w.b j = x := hxx
    have hav : ∀ x : Bk, x.av.cells = [I x.lo, I x.hi, I x.f0.lo, I x.f0.hi, I x.f0.st, I x.f1.lo, I x.f1.hi, I x.f1.st] := fun _ => rfl
    have key := fun G => ih (j + 1) (by omega) G
    have hA0 : ∀ (o0 o1 o2 o3 o4 : AO) (G : Heap), addElem (H ++ (o0 :: o1 :: o2 :: o3 :: o4 :: .grow 2 ((w.cs.take j).map bpA) :: G)) 2 true (.gsl (H.length + 5) j) [.agg [.bool (x.f0.st != 0), .bool (x.f1.st != 0)]] = some (.gsl (H.length + 5) (j + 1), H ++ (o0 :: o1 :: o2 :: o3 :: o4 :: .grow 2 ((w.cs.take (j + 1)).map bpA) :: G)) := fun o0 o1 o2 o3 o4 G => by
      rw [add_gsl (xs := (w.cs.take j).map bpA) (by rw [get_at']; rfl) (by simp [Wg.cs]; omega) (by rfl) (by rfl) (by simp; omega), set_at']
      simp only [Wg.cs]
      first | rw [take_map w _ hk2, List.map_append, hxw] | rw [take_map w _ hk2, List.map_append]
      rfl
    have hA1 : ∀ (o0 o1 o2 o3 o4 o5 : AO) (G : Heap), addElem (H ++ (o0 :: o1 :: o2 :: o3 :: o4 :: o5 :: .grow 2 ((w.rl.take j).map spA) :: G)) 2 true (.gsl (H.length + 6) j) [.agg [I x.f0.lo, I x.f1.lo]] = some (.gsl (H.length + 6) (j + 1), H ++ (o0 :: o1 :: o2 :: o3 :: o4 :: o5 :: .grow 2 ((w.rl.take (j + 1)).map spA) :: G)) := fun o0 o1 o2 o3 o4 o5 G => by
      rw [add_gsl (xs := (w.rl.take j).map spA) (by rw [get_at']; rfl) (by simp [Wg.rl]; omega) (by rfl) (by rfl) (by simp; omega), set_at']
      simp only [Wg.rl]
      first | rw [take_map w _ hk2, List.map_append, hxw] | rw [take_map w _ hk2, List.map_append]
      rfl
    have hA2 : ∀ (o0 o1 o2 o3 o4 o5 o6 : AO) (G : Heap), addElem (H ++ (o0 :: o1 :: o2 :: o3 :: o4 :: o5 :: o6 :: .grow 1 ((w.tw.ln.take j).map I) :: G)) 1 false (.gsl (H.length + 7) j) [I 0] = some (.gsl (H.length + 7) (j + 1), H ++ (o0 :: o1 :: o2 :: o3 :: o4 :: o5 :: o6 :: .grow 1 ((w.tw.ln.take (j + 1)).map I) :: G)) := fun o0 o1 o2 o3 o4 o5 o6 G => by
      rw [add_gsl (xs := (w.tw.ln.take j).map I) (by rw [get_at']; rfl) (by simp [Wg.tw]; omega) (by rfl) (by rfl) (by simp; omega), set_at']
      simp only [Wg.tw]
      first | rw [take_map w _ hk2, List.map_append, hxw] | rw [take_map w _ hk2, List.map_append]
      rfl
    have hA3 : ∀ (o0 o1 o2 o3 o4 o5 o6 o7 : AO) (G : Heap), addElem (H ++ (o0 :: o1 :: o2 :: o3 :: o4 :: o5 :: o6 :: o7 :: .grow 2 ((w.cs.take j).map bpA) :: G)) 2 true (.gsl (H.length + 8) j) [.agg [.bool (x.f0.st != 0), .bool (x.f1.st != 0)]] = some (.gsl (H.length + 8) (j + 1), H ++ (o0 :: o1 :: o2 :: o3 :: o4 :: o5 :: o6 :: o7 :: .grow 2 ((w.cs.take (j + 1)).map bpA) :: G)) := fun o0 o1 o2 o3 o4 o5 o6 o7 G => by
      rw [add_gsl (xs := (w.cs.take j).map bpA) (by rw [get_at']; rfl) (by simp [Wg.cs]; omega) (by rfl) (by rfl) (by simp; omega), set_at']
      simp only [Wg.cs]
      first | rw [take_map w _ hk2, List.map_append, hxw] | rw [take_map w _ hk2, List.map_append]
      rfl
    have hA4 : ∀ (o0 o1 o2 o3 o4 o5 o6 o7 o8 : AO) (G : Heap), addElem (H ++ (o0 :: o1 :: o2 :: o3 :: o4 :: o5 :: o6 :: o7 :: o8 :: .grow 2 ((w.rl.take j).map spA) :: G)) 2 true (.gsl (H.length + 9) j) [.agg [I x.f0.lo, I x.f1.lo]] = some (.gsl (H.length + 9) (j + 1), H ++ (o0 :: o1 :: o2 :: o3 :: o4 :: o5 :: o6 :: o7 :: o8 :: .grow 2 ((w.rl.take (j + 1)).map spA) :: G)) := fun o0 o1 o2 o3 o4 o5 o6 o7 o8 G => by
      rw [add_gsl (xs := (w.rl.take j).map spA) (by rw [get_at']; rfl) (by simp [Wg.rl]; omega) (by rfl) (by rfl) (by simp; omega), set_at']
      simp only [Wg.rl]
      first | rw [take_map w _ hk2, List.map_append, hxw] | rw [take_map w _ hk2, List.map_append]
      rfl
    have hA5 : ∀ (o0 o1 o2 o3 o4 o5 o6 o7 o8 o9 : AO) (G : Heap), addElem (H ++ (o0 :: o1 :: o2 :: o3 :: o4 :: o5 :: o6 :: o7 :: o8 :: o9 :: .grow 1 ((w.tl.ln.take j).map I) :: G)) 1 false (.gsl (H.length + 10) j) [I x.lo] = some (.gsl (H.length + 10) (j + 1), H ++ (o0 :: o1 :: o2 :: o3 :: o4 :: o5 :: o6 :: o7 :: o8 :: o9 :: .grow 1 ((w.tl.ln.take (j + 1)).map I) :: G)) := fun o0 o1 o2 o3 o4 o5 o6 o7 o8 o9 G => by
      rw [add_gsl (xs := (w.tl.ln.take j).map I) (by rw [get_at']; rfl) (by simp [Wg.tl]; omega) (by rfl) (by rfl) (by simp; omega), set_at']
      simp only [Wg.tl]
      first | rw [take_map w _ hk2, List.map_append, hxw] | rw [take_map w _ hk2, List.map_append]
      rfl
    have hA6 : ∀ (o0 o1 o2 o3 o4 o5 o6 o7 o8 o9 o10 : AO) (G : Heap), addElem (H ++ (o0 :: o1 :: o2 :: o3 :: o4 :: o5 :: o6 :: o7 :: o8 :: o9 :: o10 :: .grow 2 ((w.cs.take j).map bpA) :: G)) 2 true (.gsl (H.length + 11) j) [.agg [.bool (x.f0.st != 0), .bool (x.f1.st != 0)]] = some (.gsl (H.length + 11) (j + 1), H ++ (o0 :: o1 :: o2 :: o3 :: o4 :: o5 :: o6 :: o7 :: o8 :: o9 :: o10 :: .grow 2 ((w.cs.take (j + 1)).map bpA) :: G)) := fun o0 o1 o2 o3 o4 o5 o6 o7 o8 o9 o10 G => by
      rw [add_gsl (xs := (w.cs.take j).map bpA) (by rw [get_at']; rfl) (by simp [Wg.cs]; omega) (by rfl) (by rfl) (by simp; omega), set_at']
      simp only [Wg.cs]
      first | rw [take_map w _ hk2, List.map_append, hxw] | rw [take_map w _ hk2, List.map_append]
      rfl
    have hA7 : ∀ (o0 o1 o2 o3 o4 o5 o6 o7 o8 o9 o10 o11 : AO) (G : Heap), addElem (H ++ (o0 :: o1 :: o2 :: o3 :: o4 :: o5 :: o6 :: o7 :: o8 :: o9 :: o10 :: o11 :: .grow 2 ((w.rh.take j).map spA) :: G)) 2 true (.gsl (H.length + 12) j) [.agg [I x.f0.hi, I x.f1.hi]] = some (.gsl (H.length + 12) (j + 1), H ++ (o0 :: o1 :: o2 :: o3 :: o4 :: o5 :: o6 :: o7 :: o8 :: o9 :: o10 :: o11 :: .grow 2 ((w.rh.take (j + 1)).map spA) :: G)) := fun o0 o1 o2 o3 o4 o5 o6 o7 o8 o9 o10 o11 G => by
      rw [add_gsl (xs := (w.rh.take j).map spA) (by rw [get_at']; rfl) (by simp [Wg.rh]; omega) (by rfl) (by rfl) (by simp; omega), set_at']
      simp only [Wg.rh]
      first | rw [take_map w _ hk2, List.map_append, hxw] | rw [take_map w _ hk2, List.map_append]
      rfl
    have hA8 : ∀ (o0 o1 o2 o3 o4 o5 o6 o7 o8 o9 o10 o11 o12 : AO) (G : Heap), addElem (H ++ (o0 :: o1 :: o2 :: o3 :: o4 :: o5 :: o6 :: o7 :: o8 :: o9 :: o10 :: o11 :: o12 :: .grow 1 ((w.th.ln.take j).map I) :: G)) 1 false (.gsl (H.length + 13) j) [I x.hi] = some (.gsl (H.length + 13) (j + 1), H ++ (o0 :: o1 :: o2 :: o3 :: o4 :: o5 :: o6 :: o7 :: o8 :: o9 :: o10 :: o11 :: o12 :: .grow 1 ((w.th.ln.take (j + 1)).map I) :: G)) := fun o0 o1 o2 o3 o4 o5 o6 o7 o8 o9 o10 o11 o12 G => by
      rw [add_gsl (xs := (w.th.ln.take j).map I) (by rw [get_at']; rfl) (by simp [Wg.th]; omega) (by rfl) (by rfl) (by simp; omega), set_at']
      simp only [Wg.th]
      first | rw [take_map w _ hk2, List.map_append, hxw] | rw [take_map w _ hk2, List.map_append]
      rfl
    simp only [loopIt, todoPast, todoAt, todoOf, firstReg, ↓reduceIte, Option.some.injEq, Nat.reduceEqDiff, reduceCtorEq, Try.f8]
    rw [execL_inLoop]
    simp (maxSteps := 1000000) (implicitDefEqProofs := false) (disch := first | rfl | omega | assumption) only [go_sem, g2, g5, g6, g7, g8, g9, g11, g13, g14, g15, g120, g121, g122, ltT, ltF, leT, leF, hk', s1, s2, t1, t2, m0, m1, m2, m3, ho1, a1, a2, a3, a4, a5, hxx, hav]
    rw [execL_inLoop]
    simp (maxSteps := 1000000) (implicitDefEqProofs := false) (disch := first | rfl | omega | assumption) only [go_sem, g2, g5, g6, g7, g8, g9, g11, g13, g14, g15, g120, g121, g122, ltT, ltF, leT, leF, hk', s1, s2, t1', t2', m0, m1, m2, m3, ho1]
    rw [chkK_of]; rotate_left; kernel_rfl
    simp (maxSteps := 1000000) (implicitDefEqProofs := false) (disch := first | rfl | omega | assumption) only [go_sem, g2, g5, g6, g7, g8, g9, g11, g13, g14, g15, g120, g121, g122, ltT, ltF, leT, leF, hk', s1, s2, t1', t2', m0, m1, m2, m3, ho1]
    rw [execL_inLoop]
    simp (maxSteps := 1000000) (implicitDefEqProofs := false) (disch := first | rfl | omega | assumption) only [go_sem, g2, g5, g6, g7, g8, g9, g11, g13, g14, g15, g120, g121, g122, ltT, ltF, leT, leF, hk', s1, s2, t1', t2', m0, m1, m2, m3, ho1]
    rw [chkK_of]; rotate_left; kernel_rfl
    simp (maxSteps := 1000000) (implicitDefEqProofs := false) (disch := first | rfl | omega | assumption) only [go_sem, g2, g5, g6, g7, g8, g9, g11, g13, g14, g15, g120, g121, g122, ltT, ltF, leT, leF, hk', s1, s2, t1', t2', m0, m1, m2, m3, ho1]
    rw [execL_inLoop]
    simp (maxSteps := 1000000) (implicitDefEqProofs := false) (disch := first | rfl | omega | assumption) only [go_sem, g2, g5, g6, g7, g8, g9, g11, g13, g14, g15, g120, g121, g122, ltT, ltF, leT, leF, hk', s1, s2, t1', t2', m0, m1, m2, m3, ho1]
    rw [chkK_of]; rotate_left; kernel_rfl
    simp (maxSteps := 1000000) (implicitDefEqProofs := false) (disch := first | rfl | omega | assumption) only [go_sem, g2, g5, g6, g7, g8, g9, g11, g13, g14, g15, g120, g121, g122, ltT, ltF, leT, leF, hk', s1, s2, hA0, hA1, hA2]
    rw [chkK_of]; rotate_left; kernel_rfl
    simp (maxSteps := 1000000) (implicitDefEqProofs := false) (disch := first | rfl | omega | assumption) only [go_sem, g2, g5, g6, g7, g8, g9, g11, g13, g14, g15, g120, g121, g122, ltT, ltF, leT, leF, hk', s1, s2, hA3, hA4, hA5]
    rw [chkK_of]; rotate_left; kernel_rfl
    simp (maxSteps := 1000000) (implicitDefEqProofs := false) (disch := first | rfl | omega | assumption) only [go_sem, g2, g5, g6, g7, g8, g9, g11, g13, g14, g15, g120, g121, g122, ltT, ltF, leT, leF, hk', s1, s2, hA6, hA7, hA8]
    exact key _ _ (by rfl) (by rfl) (by rfl) (by rfl) (by rfl) (by rfl) (by rfl) (by rfl) (by rfl) (by rfl) (by rfl) (by rfl) (by rfl)

def btk (l : List Pc) (j : Nat) : List Pc := (back l).take j

theorem ck_back {vb va : AV} (s1 : vb.scalar = true) (s2 : va.scalar = true) (t1 : vb.lt H.length = true) (t2 : va.lt H.length = true) (tv : ∀ m, vb.lt (H.length + m) = true ∧ va.lt (H.length + m) = true) (l : List Pc) (hl : l.length ≤ 1000) (hp : ∀ i, i < l.length → 0 ≤ (pcA l i).u ∧ (pcA l i).u ≤ 1) (i6 i7 i8 i9 : Int) (o1 o2 o3 o4 : AO) (ho1 : ∀ N, o1.lt N = true) (ho2 : ∀ N, o2.lt N = true) (ho3 : ∀ N, o3.lt N = true) (ho4 : ∀ N, o4.lt N = true) (K : List Item) (R : Option Done) (hK : ∀ E : Env, E.get 2 = .ptr H.length 0 → E.get 5 = .sl false (l.map Pc.av) → E.get 6 = I i6 → E.get 7 = I i7 → E.get 8 = I i8 → E.get 9 = I i9 → E.get 11 = .ptr (H.length + 1) 0 → E.get 13 = .ptr (H.length + 2) 0 → E.get 29 = .gsl (H.length + 5) l.length → Option.map (finishC H.length) (execL cfg0 prog0 ⟨8, none, false, H.length⟩ K ⟨E, [], H ++ (.box (.agg [vb, va]) :: o1 :: o2 :: o3 :: o4 :: .grow 2 ((back l).map Pc.av) :: []), none⟩) = R)  :
    ∀ (q j : Nat), j + q = l.length → ∀ (G : Heap), ∀ E : Env, E.get 2 = .ptr H.length 0 → E.get 5 = .sl false (l.map Pc.av) → E.get 6 = I i6 → E.get 7 = I i7 → E.get 8 = I i8 → E.get 9 = I i9 → E.get 11 = .ptr (H.length + 1) 0 → E.get 13 = .ptr (H.length + 2) 0 → E.get 29 = .gsl (H.length + 5) j → E.get 228 = I l.length → E.get 229 = I j →
    Option.map (finishC H.length) (execL cfg0 prog0 ⟨8, none, false, H.length⟩ (loopIt Try.f8 30 :: .inBlock 4 :: K) ⟨E, [], H ++ (.box (.agg [vb, va]) :: o1 :: o2 :: o3 :: o4 :: .grow 2 ((btk l j).map Pc.av) :: G), none⟩) = R := by
  intro q
  obtain ⟨a1, a2, a3, a4, a5⟩ := (slP (H := H) (b := false) l).fF (d := pc0)
  have m0 : ∀ (N : Nat) (L : List Pc), ltL N (L.map Pc.av) = true := fun N L => ltL_map (fun _ => rfl) L
  have t3 := (tv 6).1
  have t4 := (tv 6).2
  induction q with
  | zero =>
    intro j hj G E g2 g5 g6 g7 g8 g9 g11 g13 g29 g228 g229
    have hk' : ¬ (j : Int) < ((l.length : Nat) : Int) := by omega
    have ej : j = l.length := by omega
    subst ej
    have hbt : btk l l.length = back l := List.take_of_length_le (by rw [back_len]; exact Nat.le_refl _)
    rw [hbt]
    simp only [loopIt, todoPast, todoAt, todoOf, firstReg, ↓reduceIte, Option.some.injEq, Nat.reduceEqDiff, reduceCtorEq, Try.f8]
    rw [execL_inLoop]
    simp (maxSteps := 1000000) (implicitDefEqProofs := false) (disch := first | rfl | omega | assumption) only [go_sem, g2, g5, g6, g7, g8, g9, g11, g13, g29, g228, g229, ltT, ltF, leT, leF, hk', s1, s2, t3, t4, m0, ho1, ho2, ho3, ho4]
    exact hK _ (by rfl) (by rfl) (by rfl) (by rfl) (by rfl) (by rfl) (by rfl) (by rfl) (by rfl)
  | succ q ih =>
    intro j hj G E g2 g5 g6 g7 g8 g9 g11 g13 g29 g228 g229
    have hk' : (j : Int) < ((l.length : Nat) : Int) := by omega
    have hk2 : j < l.length := by omega
    have htk : btk l (j + 1) = btk l j ++ [flip (pcA l (l.length - 1 - j))] := by
      rw [btk, btk, List.take_succ_eq_append_getElem (by rw [back_len]; exact hk2), ← back_at hk2, pcA_get (by rw [back_len]; exact hk2)]
    have hpu := hp (l.length - 1 - j) (by omega)
    obtain ⟨⟨xb, xu⟩, hxx⟩ : ∃ x, l.getD (l.length - 1 - j) pc0 = x := ⟨_, rfl⟩
    have hxp : pcA l (l.length - 1 - j) = ⟨xb, xu⟩ := hxx
    rw [hxp] at htk hpu
    simp only at hpu
    have e4 : IntKind.i64.wrap (1 - xu) = 1 - xu := w64 (by omega) (by omega)
    have hrd : ∀ a b : Int, (Pc.av ⟨a, b⟩).cells = [I a, I b] := fun _ _ => rfl
    have e1 : IntKind.i64.wrap ((l.length : Int) - 1) = (l.length : Int) - 1 := w64 (by omega) (by omega)
    have e2 : IntKind.i64.wrap ((l.length : Int) - 1 - (j : Int)) = (l.length : Int) - 1 - (j : Int) := w64 (by omega) (by omega)
    have e3 : ((l.length : Int) - 1 - (j : Int)).toNat = l.length - 1 - j := by omega
    have hlb : (btk l j).length = j := by rw [btk, List.length_take, back_len]; omega
    have hadd : ∀ (o0 o1 o2 o3 o4 : AO) (G : Heap), addElem (H ++ (o0 :: o1 :: o2 :: o3 :: o4 :: .grow 2 ((btk l j).map Pc.av) :: G)) 2 true (.gsl (H.length + 5) j) [.agg [I xb, I (1 - xu)]] = some (.gsl (H.length + 5) (j + 1), H ++ (o0 :: o1 :: o2 :: o3 :: o4 :: .grow 2 ((btk l (j + 1)).map Pc.av) :: G)) := fun o0 o1 o2 o3 o4 G => by
      rw [add_gsl (xs := (btk l j).map Pc.av) (by rw [get_at']; rfl) (by rw [List.length_map, hlb]) (by rfl) (by rfl) (by simp; omega), set_at', htk, List.map_append]
      rfl
    have key := fun G => ih (j + 1) (by omega) G
    simp only [loopIt, todoPast, todoAt, todoOf, firstReg, ↓reduceIte, Option.some.injEq, Nat.reduceEqDiff, reduceCtorEq, Try.f8]
    rw [execL_inLoop]
    simp (maxSteps := 1000000) (implicitDefEqProofs := false) (disch := first | rfl | omega | assumption) only [go_sem, g2, g5, g6, g7, g8, g9, g11, g13, g29, g228, g229, ltT, ltF, leT, leF, hk', s1, s2, t3, t4, m0, ho1, ho2, ho3, ho4, a1, a2, a3, a4, a5, hxx, hrd, e1, e2, e3, e4, hadd]
    exact key _ _ (by rfl) (by rfl) (by rfl) (by rfl) (by rfl) (by rfl) (by rfl) (by rfl) (by rfl) (by rfl) (by rfl)

theorem ck_ap {w : Wg} {vb va : AV} (h : WgAt H w vb va) (hl : w.ps.length ≤ 1000) (l : List Pc) (k : Nat) (hk : k + 1 < l.length) (hl2 : l.length ≤ 1000) (i7 : Int) (b36 b39 : Bool) (o1 o2 o3 o4 o5 : AO) (ho1 : ∀ N, o1.lt N = true) (ho2 : ∀ N, o2.lt N = true) (ho3 : ∀ N, o3.lt N = true) (ho4 : ∀ N, o4.lt N = true) (ho5 : ∀ N, o5.lt N = true) (r : Bool) (K : List Item) (R : Option Done) (hK : ∀ E : Env, E.get 2 = .ptr H.length 0 → E.get 5 = .sl false (l.map Pc.av) → E.get 6 = I k → E.get 7 = I i7 → E.get 36 = .bool b36 → E.get 39 = .bool b39 → E.get 42 = .bool r → Option.map (finishC H.length) (execL cfg0 prog0 ⟨8, none, false, H.length⟩ K ⟨E, [], H ++ (.box (.agg [vb, va]) :: o1 :: o2 :: o3 :: o4 :: o5 :: []), none⟩) = R)  :
    ∀ (q j : Nat), j + q = w.ps.length → ∀ (G : Heap), ∀ (c : Bool), (c || anyF (fun i => apE (pcA l k).b (pcA l (k + 1)).b (w.a i)) j q) = r → ∀ E : Env, E.get 2 = .ptr H.length 0 → E.get 5 = .sl false (l.map Pc.av) → E.get 6 = I k → E.get 7 = I i7 → E.get 36 = .bool b36 → E.get 39 = .bool b39 → E.get 42 = .bool c → E.get 312 = va → E.get 313 = I w.ps.length → E.get 314 = I j →
    Option.map (finishC H.length) (execL cfg0 prog0 ⟨8, none, false, H.length⟩ (loopIt Try.f8 46 :: .inBlock 6 :: K) ⟨E, [], H ++ (.box (.agg [vb, va]) :: o1 :: o2 :: o3 :: o4 :: o5 :: G), none⟩) = R := by
  intro q
  obtain ⟨a1, a2, a3, a4, a5⟩ := h.ps.fF (d := ap0)
  obtain ⟨b1, b2, b3, b4, b5⟩ := (slP (H := H) (b := false) l).fF (d := pc0)
  have s1 := h.bs.scal
  have s2 := h.ps.scal
  have t1 := h.bs.ltn 6
  have t2 := h.ps.ltn 6
  have m0 : ∀ (N : Nat) (L : List Pc), ltL N (L.map Pc.av) = true := fun N L => ltL_map (fun _ => rfl) L
  induction q with
  | zero =>
    intro j hj G c hr E g2 g5 g6 g7 g36 g39 g42 g312 g313 g314
    have hk' : ¬ (j : Int) < ((w.ps.length : Nat) : Int) := by omega
    have e0 : ∀ f : Nat → Bool, anyF f j 0 = false := fun _ => rfl
    rw [e0, Bool.or_false] at hr
    subst hr
    simp only [loopIt, todoPast, todoAt, todoOf, firstReg, ↓reduceIte, Option.some.injEq, Nat.reduceEqDiff, reduceCtorEq, Try.f8]
    rw [execL_inLoop]
    simp (maxSteps := 1000000) (implicitDefEqProofs := false) (disch := first | rfl | omega | assumption) only [go_sem, g2, g5, g6, g7, g36, g39, g42, g312, g313, g314, ltT, ltF, leT, leF, hk', s1, s2, t1, t2, m0, ho1, ho2, ho3, ho4, ho5]
    exact hK _ (by rfl) (by rfl) (by rfl) (by rfl) (by rfl) (by rfl) (by rfl)
  | succ q ih =>
    intro j hj G c hr E g2 g5 g6 g7 g36 g39 g42 g312 g313 g314
    have hk' : (j : Int) < ((w.ps.length : Nat) : Int) := by omega
    have hk2 : j < w.ps.length := by omega
    have hu : ∀ f : Nat → Bool, anyF f j (q + 1) = (f j || anyF f (j + 1) q) := fun _ => rfl
    rw [hu, ← Bool.or_assoc] at hr
    obtain ⟨⟨xb, xu⟩, hx1⟩ : ∃ x, l.getD k pc0 = x := ⟨_, rfl⟩
    obtain ⟨⟨yb, yu⟩, hy1⟩ : ∃ x, l.getD (k + 1) pc0 = x := ⟨_, rfl⟩
    obtain ⟨⟨aa, ab⟩, hv⟩ : ∃ v, w.ps.getD j ap0 = v := ⟨_, rfl⟩
    have hap : apE (pcA l k).b (pcA l (k + 1)).b (w.a j) = ((aa == xb && ab == yb) || (ab == xb && aa == yb)) := by
      rw [show pcA l k = ⟨xb, xu⟩ from hx1, show pcA l (k + 1) = ⟨yb, yu⟩ from hy1, show w.a j = ⟨aa, ab⟩ from hv]; rfl
    rw [hap] at hr
    have hrd : ∀ a b : Int, (Pc.av ⟨a, b⟩).cells = [I a, I b] := fun _ _ => rfl
    have hra : ∀ a b : Int, (Ap.av ⟨a, b⟩).cells = [I a, I b] := fun _ _ => rfl
    have e1 : ((k : Int) + 1).toNat = k + 1 := by omega
    have key := fun (c' : Bool) (hc : c' = (c || ((aa == xb && ab == yb) || (ab == xb && aa == yb)))) => ih (j + 1) (by omega) [.box (.agg [I aa, I ab])] c' (by rw [hc]; exact hr)
    cases c
    · cases k1 : aa == xb
      · cases k3 : ab == xb
        · skip
          simp only [loopIt, todoPast, todoAt, todoOf, firstReg, ↓reduceIte, Option.some.injEq, Nat.reduceEqDiff, reduceCtorEq, Try.f8]
          rw [execL_inLoop]
          simp (maxSteps := 1000000) (implicitDefEqProofs := false) (disch := first | rfl | omega | assumption) only [go_sem, g2, g5, g6, g7, g36, g39, g42, g312, g313, g314, ltT, ltF, leT, leF, hk', s1, s2, t1, t2, m0, ho1, ho2, ho3, ho4, ho5, a1, a2, a3, a4, a5, hv, hra]
          rw [chkK_of]; rotate_left; kernel_rfl
          simp (maxSteps := 1000000) (implicitDefEqProofs := false) (disch := first | rfl | omega | assumption) only [go_sem, g2, g5, g6, g7, g36, g39, g42, g312, g313, g314, ltT, ltF, leT, leF, hk', b1, b2, b3, b4, b5, hx1, hy1, hrd, e1, k1, k3]
          exact key false (by rw [k1, k3]; simp) _ (by rfl) (by rfl) (by rfl) (by rfl) (by rfl) (by rfl) (by rfl) (by rfl) (by rfl) (by rfl)
        · cases k4 : aa == yb
          · skip
            simp only [loopIt, todoPast, todoAt, todoOf, firstReg, ↓reduceIte, Option.some.injEq, Nat.reduceEqDiff, reduceCtorEq, Try.f8]
            rw [execL_inLoop]
            simp (maxSteps := 1000000) (implicitDefEqProofs := false) (disch := first | rfl | omega | assumption) only [go_sem, g2, g5, g6, g7, g36, g39, g42, g312, g313, g314, ltT, ltF, leT, leF, hk', s1, s2, t1, t2, m0, ho1, ho2, ho3, ho4, ho5, a1, a2, a3, a4, a5, hv, hra]
            rw [chkK_of]; rotate_left; kernel_rfl
            simp (maxSteps := 1000000) (implicitDefEqProofs := false) (disch := first | rfl | omega | assumption) only [go_sem, g2, g5, g6, g7, g36, g39, g42, g312, g313, g314, ltT, ltF, leT, leF, hk', b1, b2, b3, b4, b5, hx1, hy1, hrd, e1, k1, k3, k4]
            exact key false (by rw [k1, k3, k4]; simp) _ (by rfl) (by rfl) (by rfl) (by rfl) (by rfl) (by rfl) (by rfl) (by rfl) (by rfl) (by rfl)
          · skip
            simp only [loopIt, todoPast, todoAt, todoOf, firstReg, ↓reduceIte, Option.some.injEq, Nat.reduceEqDiff, reduceCtorEq, Try.f8]
            rw [execL_inLoop]
            simp (maxSteps := 1000000) (implicitDefEqProofs := false) (disch := first | rfl | omega | assumption) only [go_sem, g2, g5, g6, g7, g36, g39, g42, g312, g313, g314, ltT, ltF, leT, leF, hk', s1, s2, t1, t2, m0, ho1, ho2, ho3, ho4, ho5, a1, a2, a3, a4, a5, hv, hra]
            rw [chkK_of]; rotate_left; kernel_rfl
            simp (maxSteps := 1000000) (implicitDefEqProofs := false) (disch := first | rfl | omega | assumption) only [go_sem, g2, g5, g6, g7, g36, g39, g42, g312, g313, g314, ltT, ltF, leT, leF, hk', b1, b2, b3, b4, b5, hx1, hy1, hrd, e1, k1, k3, k4]
            exact key true (by rw [k1, k3, k4]; simp) _ (by rfl) (by rfl) (by rfl) (by rfl) (by rfl) (by rfl) (by rfl) (by rfl) (by rfl) (by rfl)
      · cases k2 : ab == yb
        · cases k3 : ab == xb
          · skip
            simp only [loopIt, todoPast, todoAt, todoOf, firstReg, ↓reduceIte, Option.some.injEq, Nat.reduceEqDiff, reduceCtorEq, Try.f8]
            rw [execL_inLoop]
            simp (maxSteps := 1000000) (implicitDefEqProofs := false) (disch := first | rfl | omega | assumption) only [go_sem, g2, g5, g6, g7, g36, g39, g42, g312, g313, g314, ltT, ltF, leT, leF, hk', s1, s2, t1, t2, m0, ho1, ho2, ho3, ho4, ho5, a1, a2, a3, a4, a5, hv, hra]
            rw [chkK_of]; rotate_left; kernel_rfl
            simp (maxSteps := 1000000) (implicitDefEqProofs := false) (disch := first | rfl | omega | assumption) only [go_sem, g2, g5, g6, g7, g36, g39, g42, g312, g313, g314, ltT, ltF, leT, leF, hk', b1, b2, b3, b4, b5, hx1, hy1, hrd, e1, k1, k2, k3]
            exact key false (by rw [k1, k2, k3]; simp) _ (by rfl) (by rfl) (by rfl) (by rfl) (by rfl) (by rfl) (by rfl) (by rfl) (by rfl) (by rfl)
          · cases k4 : aa == yb
            · skip
              simp only [loopIt, todoPast, todoAt, todoOf, firstReg, ↓reduceIte, Option.some.injEq, Nat.reduceEqDiff, reduceCtorEq, Try.f8]
              rw [execL_inLoop]
              simp (maxSteps := 1000000) (implicitDefEqProofs := false) (disch := first | rfl | omega | assumption) only [go_sem, g2, g5, g6, g7, g36, g39, g42, g312, g313, g314, ltT, ltF, leT, leF, hk', s1, s2, t1, t2, m0, ho1, ho2, ho3, ho4, ho5, a1, a2, a3, a4, a5, hv, hra]
              rw [chkK_of]; rotate_left; kernel_rfl
              simp (maxSteps := 1000000) (implicitDefEqProofs := false) (disch := first | rfl | omega | assumption) only [go_sem, g2, g5, g6, g7, g36, g39, g42, g312, g313, g314, ltT, ltF, leT, leF, hk', b1, b2, b3, b4, b5, hx1, hy1, hrd, e1, k1, k2, k3, k4]
              exact key false (by rw [k1, k2, k3, k4]; simp) _ (by rfl) (by rfl) (by rfl) (by rfl) (by rfl) (by rfl) (by rfl) (by rfl) (by rfl) (by rfl)
            · skip
              simp only [loopIt, todoPast, todoAt, todoOf, firstReg, ↓reduceIte, Option.some.injEq, Nat.reduceEqDiff, reduceCtorEq, Try.f8]
              rw [execL_inLoop]
              simp (maxSteps := 1000000) (implicitDefEqProofs := false) (disch := first | rfl | omega | assumption) only [go_sem, g2, g5, g6, g7, g36, g39, g42, g312, g313, g314, ltT, ltF, leT, leF, hk', s1, s2, t1, t2, m0, ho1, ho2, ho3, ho4, ho5, a1, a2, a3, a4, a5, hv, hra]
              rw [chkK_of]; rotate_left; kernel_rfl
              simp (maxSteps := 1000000) (implicitDefEqProofs := false) (disch := first | rfl | omega | assumption) only [go_sem, g2, g5, g6, g7, g36, g39, g42, g312, g313, g314, ltT, ltF, leT, leF, hk', b1, b2, b3, b4, b5, hx1, hy1, hrd, e1, k1, k2, k3, k4]
              exact key true (by rw [k1, k2, k3, k4]; simp) _ (by rfl) (by rfl) (by rfl) (by rfl) (by rfl) (by rfl) (by rfl) (by rfl) (by rfl) (by rfl)
        · skip
          simp only [loopIt, todoPast, todoAt, todoOf, firstReg, ↓reduceIte, Option.some.injEq, Nat.reduceEqDiff, reduceCtorEq, Try.f8]
          rw [execL_inLoop]
          simp (maxSteps := 1000000) (implicitDefEqProofs := false) (disch := first | rfl | omega | assumption) only [go_sem, g2, g5, g6, g7, g36, g39, g42, g312, g313, g314, ltT, ltF, leT, leF, hk', s1, s2, t1, t2, m0, ho1, ho2, ho3, ho4, ho5, a1, a2, a3, a4, a5, hv, hra]
          rw [chkK_of]; rotate_left; kernel_rfl
          simp (maxSteps := 1000000) (implicitDefEqProofs := false) (disch := first | rfl | omega | assumption) only [go_sem, g2, g5, g6, g7, g36, g39, g42, g312, g313, g314, ltT, ltF, leT, leF, hk', b1, b2, b3, b4, b5, hx1, hy1, hrd, e1, k1, k2]
          exact key true (by rw [k1, k2]; simp) _ (by rfl) (by rfl) (by rfl) (by rfl) (by rfl) (by rfl) (by rfl) (by rfl) (by rfl) (by rfl)
    · skip
      simp only [loopIt, todoPast, todoAt, todoOf, firstReg, ↓reduceIte, Option.some.injEq, Nat.reduceEqDiff, reduceCtorEq, Try.f8]
      rw [execL_inLoop]
      simp (maxSteps := 1000000) (implicitDefEqProofs := false) (disch := first | rfl | omega | assumption) only [go_sem, g2, g5, g6, g7, g36, g39, g42, g312, g313, g314, ltT, ltF, leT, leF, hk', s1, s2, t1, t2, m0, ho1, ho2, ho3, ho4, ho5, a1, a2, a3, a4, a5, hv, hra]
      rw [chkK_of]; rotate_left; kernel_rfl
      simp (maxSteps := 1000000) (implicitDefEqProofs := false) (disch := first | rfl | omega | assumption) only [go_sem, g2, g5, g6, g7, g36, g39, g42, g312, g313, g314, ltT, ltF, leT, leF, hk', b1, b2, b3, b4, b5, hx1, hy1, hrd, e1]
      exact key true (by simp) _ (by rfl) (by rfl) (by rfl) (by rfl) (by rfl) (by rfl) (by rfl) (by rfl) (by rfl) (by rfl)

end Go.Ab
/-
  WringStacks.
-/
namespace Go.Ab
open Go.Proofs
set_option linter.unusedSimpArgs false
set_option linter.unusedVariables false
set_option maxRecDepth 100000
set_option maxHeartbeats 2000000

variable {H : Heap}


end Go.Ab
