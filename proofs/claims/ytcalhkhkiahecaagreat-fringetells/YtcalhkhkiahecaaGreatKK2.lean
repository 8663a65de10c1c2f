/-
  The sort of a list of sets: plain; by insertion, walked.
-/
import Derived.Test.YtcalhkhkiahecaaGreatKK1
import Derived.Test.YtcalhkhkiahecaaGreatKK0
namespace Go.Ab
open Go.Proofs
set_option linter.unusedSimpArgs false
set_option linter.unusedVariables false
set_option maxRecDepth 100000

variable {H : Heap}

/-- Two elements change places. -/
def swp (L : List Nat) (i j : Nat) : List Nat := (L.set i (L.getD j 0)).set j (L.getD i 0)

theorem swp_len (L : List Nat) (i j : Nat) : (swp L i j).length = L.length := by simp [swp]

section
variable (key : Nat → Int)

/-- The element at a + q goes down to its place. -/
def insIn (a : Nat) : List Nat → Nat → List Nat
  | L, 0 => L
  | L, q + 1 => if key (L.getD (a + q + 1) 0) - key (L.getD (a + q) 0) < 0 then insIn a (swp L (a + q + 1) (a + q)) q else L

def insOut (a : Nat) : List Nat → Nat → Nat → List Nat
  | L, _, 0 => L
  | L, i, q + 1 => insOut a (insIn key a L (i - a)) (i + 1) q

def insS (L : List Nat) (a b : Nat) : List Nat := insOut key a L (a + 1) (b - (a + 1))

theorem insIn_len (a : Nat) : ∀ (q : Nat) (L : List Nat), (insIn key a L q).length = L.length
  | 0, _ => rfl
  | q + 1, L => by
    rw [insIn]
    split
    · rw [insIn_len a q, swp_len]
    · rfl

theorem insOut_len (a : Nat) : ∀ (q i : Nat) (L : List Nat), (insOut key a L i q).length = L.length
  | 0, _, _ => rfl
  | q + 1, i, L => by rw [insOut, insOut_len a q, insIn_len]
end

/-- A heap in which a slice has these elements. -/
abbrev GH (H : Heap) (p : Nat) (L : List Nat) : Heap := H.set p (.grow 1 (L.map U))

theorem GH_sl {p : Nat} (hp : p < H.length) (L : List Nat) : SlOk (GH H p L) 1 (.gsl p L.length) (L.map U) :=
  ⟨⟨List.getElem?_set_self hp, by simp⟩, by simp [U, AV.cells]⟩

theorem GH_idx {p n : Nat} (hp : p < H.length) {M : List Nat} (te : Ty) (k : Int) (hM : M.length = n) (hs : te.size = 1) (hk : 0 ≤ k ∧ k < n) : idxAddr (GH H p M) te (.gsl p n) k = some (elA (.gsl p n) k 0) := by
  subst hM
  exact (GH_sl hp M).fF (d := 0) |>.2.1 te k hs hk

theorem GH_load {p n : Nat} (hp : p < H.length) {M : List Nat} (te : Ty) (k : Nat) (hM : M.length = n) (hk : k < n) : evLoad (GH H p M) te (elA (.gsl p n) (k : Int) 0) = readPart [U (M.getD k 0)] 0 te := by
  subst hM
  have := (GH_sl hp M).fF (d := 0) |>.2.2.2.1 te (k : Int) 0 (by omega)
  rw [Int.toNat_natCast] at this
  exact this

theorem GH_store {p n b : Nat} (hp : p < H.length) {M : List Nat} {z : Option Value} (k x : Nat) (hM : M.length = n) (hk : k < n) : evStore b (GH H p M) ⟨.int .u64, 1, 8, z⟩ (elA (.gsl p n) (k : Int) 0) (U x) = some (GH H p (M.set k x)) := by
  subst hM
  have h1 : (M.map U)[k]? = some (U (M.getD k 0)) := by simp [hk]
  simp only [elA, Int.toNat_natCast, evStore, GH, List.getElem?_set_self hp, List.length_map, h1]
  simp [AV.lt, writePart, allScalar, AV.cells, AV.scalar, splice, AV.withCells]

/-- What compares: keys. -/
structure Cmp (fn : Fn) (cap : List AV) (key : Nat → Int) (B : Nat) : Prop where
  call : ∀ (x y : Nat) (G : Heap), x < B → y < B → callVL cfg0 prog0 false fn [U x, U y] cap G none = some ⟨.ret (I (key x - key y)), G, none⟩
  bd : ∀ x, -100 ≤ key x ∧ key x ≤ 100

/-- All elements are small. -/
def Small (B : Nat) (L : List Nat) : Prop := ∀ k, k < L.length → L.getD k 0 < B

theorem swp_mem {B : Nat} {L : List Nat} (h : Small B L) {i j : Nat} (hi : i < L.length) (hj : j < L.length) : Small B (swp L i j) := by
  intro k hk
  rw [swp_len] at hk
  have h1 := h i hi
  have h2 := h j hj
  have h3 := h k hk
  have e : (swp L i j).getD k 0 = if j = k then L.getD i 0 else if i = k then L.getD j 0 else L.getD k 0 := by
    simp only [swp, List.getD, List.getElem?_set, List.length_set]
    by_cases h4 : j = k
    · subst h4; simp [hj]
    · by_cases h5 : i = k
      · subst h5; simp [h4, hi]
      · simp [h4, h5]
  rw [e]
  split
  · exact h1
  · split
    · exact h2
    · exact h3

theorem insIn_loop {fn : Fn} {cap : List AV} {key : Nat → Int} {B : Nat} (hc : Cmp fn cap key B) {p : Nat} (hp : p < H.length) (a b i : Nat) (n : Nat) (hn : n ≤ 100000) (hab : i < n) (R0 : List Nat) (K : List Item) (R : Option Done) (hK : ∀ E : Env, E.get 0 = .gsl p n → E.get 1 = I a → E.get 2 = I b → E.get 3 = .func fn [] cap → E.get 8 = I i → Option.map (finishC H.length) (execL cfg0 prog0 ⟨116, none, false, H.length⟩ K ⟨E, [], GH H p R0, none⟩) = R)  :
    ∀ (q j : Nat), j + q = i - a → ∀ (L : List Nat), L.length = n → insIn key a L q = R0 → Small B L → a ≤ i → ∀ E : Env, E.get 0 = .gsl p n → E.get 1 = I a → E.get 2 = I b → E.get 3 = .func fn [] cap → E.get 8 = I i → E.get 9 = I ((a + q : Nat) : Int) →
    Option.map (finishC H.length) (execL cfg0 prog0 ⟨116, none, false, H.length⟩ (loopIt Tryz.f116 4 :: .inBlock 2 :: K) ⟨E, [], GH H p L, none⟩) = R := by
  intro q
  skip
  induction q with
  | zero =>
    intro j hj L hL hr hB hai E g0 g1 g2 g3 g8 g9
    have hk' : ¬ (j : Int) < ((i - a : Nat) : Int) := by omega
    simp only [insIn] at hr
    subst hr
    simp only [loopIt, todoPast, todoAt, todoOf, firstReg, ↓reduceIte, Option.some.injEq, Nat.reduceEqDiff, reduceCtorEq, Tryz.f116]
    rw [execL_inLoop]
    have hz : ¬ (a : Int) < ((a + 0 : Nat) : Int) := by omega
    simp (maxSteps := 1000000) (implicitDefEqProofs := false) (disch := first | rfl | omega | assumption) only [go_sem, g0, g1, g2, g3, g8, g9, ltT, ltF, leT, leF, hk', hz]
    rw [chkK_of]; rotate_left; kernel_rfl
    simp (maxSteps := 1000000) (implicitDefEqProofs := false) (disch := first | rfl | omega | assumption) only [go_sem, g0, g1, g2, g3, g8, g9, ltT, ltF, leT, leF, hk', hz]
    exact hK _ (by exact g0) (by exact g1) (by exact g2) (by exact g3) (by exact g8)
  | succ q ih =>
    intro j hj L hL hr hB hai E g0 g1 g2 g3 g8 g9
    have hk' : (j : Int) < ((i - a : Nat) : Int) := by omega
    have hk2 : j < i - a := by omega
    have hz : (a : Int) < ((a + (q + 1) : Nat) : Int) := by omega
    have f1 := @GH_idx H p n hp
    have f2 := @GH_load H p n hp
    have f3 := @GH_store H p n H.length hp
    have hL2 : (L.set (a + (q + 1)) (L.getD (a + q) 0)).length = n := by rw [List.length_set]; exact hL
    have e1 : ((a + (q + 1) : Nat) : Int) - 1 = ((a + q : Nat) : Int) := by omega
    have x1 := hB (a + (q + 1)) (by omega)
    have x2 := hB (a + q) (by omega)
    have hcc := fun G => hc.call _ _ G x1 x2
    have k1 := hc.bd (L.getD (a + (q + 1)) 0)
    have k2 := hc.bd (L.getD (a + q) 0)
    rw [show insIn key a L (q + 1) = if key (L.getD (a + (q + 1)) 0) - key (L.getD (a + q) 0) < 0 then insIn key a (swp L (a + (q + 1)) (a + q)) q else L from rfl] at hr
    by_cases hlt : key (L.getD (a + (q + 1)) 0) - key (L.getD (a + q) 0) < 0
    · rw [if_pos hlt] at hr
      have hsm := swp_mem hB (i := a + (q + 1)) (j := a + q) (by omega) (by omega)
      simp only [loopIt, todoPast, todoAt, todoOf, firstReg, ↓reduceIte, Option.some.injEq, Nat.reduceEqDiff, reduceCtorEq, Tryz.f116]
      rw [execL_inLoop]
      simp (maxSteps := 1000000) (implicitDefEqProofs := false) (disch := first | rfl | omega | assumption) only [go_sem, g0, g1, g2, g3, g8, g9, ltT, ltF, leT, leF, hk', hz]
      rw [chkK_of]; rotate_left; kernel_rfl
      simp (maxSteps := 1000000) (implicitDefEqProofs := false) (disch := first | rfl | omega | assumption) only [go_sem, g0, g1, g2, g3, g8, g9, ltT, ltF, leT, leF, hk', hz, f1, f2, f3, e1, hcc, hlt]
      rw [chkK_of]; rotate_left; kernel_rfl
      simp (maxSteps := 1000000) (implicitDefEqProofs := false) (disch := first | rfl | omega | assumption) only [go_sem, g0, g1, g2, g3, g8, g9, ltT, ltF, leT, leF, hk', hz, f1, f2, f3, e1, hcc, hlt]
      exact ih (j + 1) (by omega) (swp L (a + (q + 1)) (a + q)) (by rw [swp_len]; exact hL) hr hsm hai _ (by exact g0) (by exact g1) (by exact g2) (by exact g3) (by exact g8) (by rfl)
    · rw [if_neg hlt] at hr
      subst hr
      simp only [loopIt, todoPast, todoAt, todoOf, firstReg, ↓reduceIte, Option.some.injEq, Nat.reduceEqDiff, reduceCtorEq, Tryz.f116]
      rw [execL_inLoop]
      simp (maxSteps := 1000000) (implicitDefEqProofs := false) (disch := first | rfl | omega | assumption) only [go_sem, g0, g1, g2, g3, g8, g9, ltT, ltF, leT, leF, hk', hz]
      rw [chkK_of]; rotate_left; kernel_rfl
      simp (maxSteps := 1000000) (implicitDefEqProofs := false) (disch := first | rfl | omega | assumption) only [go_sem, g0, g1, g2, g3, g8, g9, ltT, ltF, leT, leF, hk', hz, f1, f2, f3, e1, hcc, hlt]
      exact hK _ (by exact g0) (by exact g1) (by exact g2) (by exact g3) (by exact g8)

theorem insIn_small {B : Nat} (key : Nat → Int) (a : Nat) : ∀ (q : Nat) (L : List Nat), Small B L → a + q < L.length → Small B (insIn key a L q)
  | 0, _, h, _ => h
  | q + 1, L, h, hq => by
    rw [insIn]
    split
    · exact insIn_small key a q _ (swp_mem h (by omega) (by omega)) (by rw [swp_len]; omega)
    · exact h

theorem insOut_loop {fn : Fn} {cap : List AV} {key : Nat → Int} {B : Nat} (hc : Cmp fn cap key B) {p : Nat} (hp : p < H.length) (a b : Nat) (n : Nat) (hn : n ≤ 100000) (hab : a ≤ b ∧ b ≤ n) (R0 : List Nat) :
    ∀ (q j : Nat), j + q = b → ∀ (L : List Nat), L.length = n → insOut key a L j q = R0 → Small B L → a < j → ∀ E : Env, E.get 0 = .gsl p n → E.get 1 = I a → E.get 2 = I b → E.get 3 = .func fn [] cap → E.get 8 = I j →
    Option.map (finishC H.length) (execL cfg0 prog0 ⟨116, none, false, H.length⟩ (todoAt Tryz.f116 1) ⟨E, [], GH H p L, none⟩) = some ⟨.ret (.tup []), GH H p R0, none⟩ := by
  intro q
  skip
  induction q with
  | zero =>
    intro j hj L hL hr hB hai E g0 g1 g2 g3 g8
    have hk' : ¬ (j : Int) < ((b : Nat) : Int) := by omega
    simp only [insOut] at hr
    subst hr
    simp only [loopIt, todoPast, todoAt, todoOf, firstReg, ↓reduceIte, Option.some.injEq, Nat.reduceEqDiff, reduceCtorEq, Tryz.f116]
    rw [execL_inLoop]
    simp (maxSteps := 1000000) (implicitDefEqProofs := false) (disch := first | rfl | omega | assumption) only [go_sem, g0, g1, g2, g3, g8, ltT, ltF, leT, leF, hk']
  | succ q ih =>
    intro j hj L hL hr hB hai E g0 g1 g2 g3 g8
    have hk' : (j : Int) < ((b : Nat) : Int) := by omega
    have hk2 : j < b := by omega
    simp only [insOut] at hr
    simp only [loopIt, todoPast, todoAt, todoOf, firstReg, ↓reduceIte, Option.some.injEq, Nat.reduceEqDiff, reduceCtorEq, Tryz.f116]
    rw [execL_inLoop]
    simp (maxSteps := 1000000) (implicitDefEqProofs := false) (disch := first | rfl | omega | assumption) only [go_sem, g0, g1, g2, g3, g8, ltT, ltF, leT, leF, hk']
    refine insIn_loop hc hp a b j n hn (by omega) (insIn key a L (j - a)) _ _ (fun E g0 g1 g2 g3 g8 => ?_) (j - a) 0 (by omega) L hL rfl hB (by omega) _ (by exact g0) (by exact g1) (by exact g2) (by exact g3) (by exact g8) (by rw [show a + (j - a) = j by omega]; rfl)
    simp (maxSteps := 1000000) (implicitDefEqProofs := false) (disch := first | rfl | omega | assumption) only [go_sem, g0, g1, g2, g3, g8, ltT, ltF, leT, leF, hk']
    exact ih (j + 1) (by omega) _ (by rw [insIn_len]; exact hL) hr (insIn_small key a _ _ hB (by omega)) (by omega) _ (by exact g0) (by exact g1) (by exact g2) (by exact g3) (by rfl)

theorem so_ins {fn : Fn} {cap : List AV} {key : Nat → Int} {B : Nat} (hc : Cmp fn cap key B) {p : Nat} (hp : p < H.length) {a b n : Nat} (hn : n ≤ 100000) (hab : a ≤ b ∧ b ≤ n) {L : List Nat} (hL : L.length = n) (hB : Small B L) :
    callFL cfg0 prog0 false 116 [.gsl p n, I a, I b, .func fn [] cap] (GH H p L) none = some ⟨.ret (.tup []), GH H p (insS key L a b), none⟩ := by
  have hlen : (GH H p L).length = H.length := by simp [GH]
  by_cases h : a + 1 ≤ b
  · have h1 := insOut_loop hc hp a b n hn hab (insS key L a b) (b - (a + 1)) (a + 1) (by omega) L hL rfl hB (by omega)
    refine (callFL_eq fn116 rfl (by simp [Tryz.f116])).trans ?_
    simp (maxSteps := 1000000) (implicitDefEqProofs := false) (disch := first | rfl | omega | assumption) only [go_sem, ltT, ltF, leT, leF, hlen]
    exact h1 _ (by rfl) (by rfl) (by rfl) (by rfl) (by rfl)
  · have e : insS key L a b = L := by simp only [insS, show b - (a + 1) = 0 by omega, insOut]
    rw [e]
    have hz : ¬ (a : Int) + 1 < b := by omega
    refine (callFL_eq fn116 rfl (by simp [Tryz.f116])).trans ?_
    simp (maxSteps := 1000000) (implicitDefEqProofs := false) (disch := first | rfl | omega | assumption) only [go_sem, ltT, ltF, leT, leF, hlen]
    rw [execL_inLoop]
    simp (maxSteps := 1000000) (implicitDefEqProofs := false) (disch := first | rfl | omega | assumption) only [go_sem, ltT, ltF, leT, leF, hz, hlen]

end Go.Ab
/-
  The sort of a list of sets that rises: plain. By insertion, in blocks, which are merged.
-/
namespace Go.Ab
set_option linter.unusedSimpArgs false
set_option linter.unusedVariables false

/-- An element of a list of numbers. -/
abbrev gt (L : List Nat) (k : Nat) : Nat := L.getD k 0

theorem gt_swp {L : List Nat} {i j : Nat} (hi : i < L.length) (hj : j < L.length) (k : Nat) : gt (swp L i j) k = if j = k then gt L i else if i = k then gt L j else gt L k := by
  simp only [gt, swp, List.getD, List.getElem?_set, List.length_set]
  by_cases h4 : j = k
  · subst h4; simp [hj]
  · by_cases h5 : i = k
    · subst h5; simp [h4, hi]
    · simp [h4, h5]

/-- The same elements from a to b, and the same ones beyond. -/
structure Sm (f g : Nat → Nat) (a b : Nat) : Prop where
  out : ∀ k, (k < a ∨ b ≤ k) → g k = f k
  fwd : ∀ k, a ≤ k → k < b → ∃ j, a ≤ j ∧ j < b ∧ g k = f j
  bwd : ∀ k, a ≤ k → k < b → ∃ j, a ≤ j ∧ j < b ∧ f k = g j

theorem Sm.refl (f : Nat → Nat) (a b : Nat) : Sm f f a b := ⟨fun _ _ => rfl, fun k h1 h2 => ⟨k, h1, h2, rfl⟩, fun k h1 h2 => ⟨k, h1, h2, rfl⟩⟩

theorem Sm.trans {f g h : Nat → Nat} {a b : Nat} (p : Sm f g a b) (q : Sm g h a b) : Sm f h a b where
  out k hk := (q.out k hk).trans (p.out k hk)
  fwd k h1 h2 := by
    obtain ⟨j, j1, j2, e⟩ := q.fwd k h1 h2
    obtain ⟨i, i1, i2, e'⟩ := p.fwd j j1 j2
    exact ⟨i, i1, i2, e.trans e'⟩
  bwd k h1 h2 := by
    obtain ⟨j, j1, j2, e⟩ := p.bwd k h1 h2
    obtain ⟨i, i1, i2, e'⟩ := q.bwd j j1 j2
    exact ⟨i, i1, i2, e.trans e'⟩

theorem Sm.wide {f g : Nat → Nat} {a b a' b' : Nat} (p : Sm f g a b) (ha : a' ≤ a) (hb : b ≤ b') : Sm f g a' b' where
  out k hk := p.out k (by omega)
  fwd k h1 h2 := by
    by_cases h : a ≤ k ∧ k < b
    · obtain ⟨j, j1, j2, e⟩ := p.fwd k h.1 h.2
      exact ⟨j, by omega, by omega, e⟩
    · exact ⟨k, h1, h2, p.out k (by omega)⟩
  bwd k h1 h2 := by
    by_cases h : a ≤ k ∧ k < b
    · obtain ⟨j, j1, j2, e⟩ := p.bwd k h.1 h.2
      exact ⟨j, by omega, by omega, e⟩
    · exact ⟨k, h1, h2, (p.out k (by omega)).symm⟩

theorem Sm.all {f g : Nat → Nat} {a b : Nat} (p : Sm f g a b) {Q : Nat → Prop} (h : ∀ k, a ≤ k → k < b → Q (f k)) : ∀ k, a ≤ k → k < b → Q (g k) := by
  intro k h1 h2
  obtain ⟨j, j1, j2, e⟩ := p.fwd k h1 h2
  exact e ▸ h j j1 j2

theorem sm_swp {L : List Nat} {i j a b : Nat} (hi : i < L.length) (hj : j < L.length) (h1 : a ≤ i ∧ i < b) (h2 : a ≤ j ∧ j < b) : Sm (gt L) (gt (swp L i j)) a b where
  out k hk := by rw [gt_swp hi hj, if_neg (by omega), if_neg (by omega)]
  fwd k k1 k2 := by
    rw [gt_swp hi hj]
    by_cases e1 : j = k
    · rw [if_pos e1]; exact ⟨i, h1.1, h1.2, rfl⟩
    · rw [if_neg e1]
      by_cases e2 : i = k
      · rw [if_pos e2]; exact ⟨j, h2.1, h2.2, rfl⟩
      · rw [if_neg e2]; exact ⟨k, k1, k2, rfl⟩
  bwd k k1 k2 := by
    by_cases e1 : j = k
    · subst e1
      refine ⟨i, h1.1, h1.2, ?_⟩
      rw [gt_swp hi hj]
      by_cases e2 : j = i
      · rw [if_pos e2, e2]
      · rw [if_neg e2, if_pos rfl]
    · by_cases e2 : i = k
      · subst e2
        exact ⟨j, h2.1, h2.2, by rw [gt_swp hi hj, if_pos rfl]⟩
      · exact ⟨k, k1, k2, by rw [gt_swp hi hj, if_neg e1, if_neg e2]⟩

section
variable (key : Nat → Int)
variable {rk : Nat → Nat}

/-- Fewer, or as many and less. -/
def lx (rk : Nat → Nat) (x y : Nat) : Prop := key x < key y ∨ key x = key y ∧ rk x < rk y

variable {key}
theorem lx_trans {x y z : Nat} (h : lx key rk x y) (g : lx key rk y z) : lx key rk x z := by
  simp only [lx] at *
  omega

variable (key)
/-- In order from a to b. -/
def Srt (rk : Nat → Nat) (f : Nat → Nat) (a b : Nat) : Prop := ∀ i j, a ≤ i → i < j → j < b → lx key rk (f i) (f j)

variable {key}
theorem Srt.sub {f : Nat → Nat} {a b a' b' : Nat} (h : Srt key rk f a b) (ha : a ≤ a') (hb : b' ≤ b) : Srt key rk f a' b' := fun i j h1 h2 h3 => h i j (by omega) h2 (by omega)

theorem Srt.cong {f g : Nat → Nat} {a b : Nat} (h : Srt key rk f a b) (e : ∀ k, a ≤ k → k < b → g k = f k) : Srt key rk g a b := by
  intro i j h1 h2 h3
  rw [e i h1 (by omega), e j (by omega) h3]
  exact h i j h1 h2 h3

/-- Two halves in order, of which all of the one come before all of the other. -/
theorem Srt.join {f : Nat → Nat} {a m b : Nat} (h : Srt key rk f a m) (g : Srt key rk f m b) (c : ∀ i j, a ≤ i → i < m → m ≤ j → j < b → lx key rk (f i) (f j)) : Srt key rk f a b := by
  intro i j h1 h2 h3
  by_cases hj : j < m
  · exact h i j h1 h2 hj
  · by_cases hi : i < m
    · exact c i j h1 hi (by omega) h3
    · exact g i j (by omega) h2 h3

/-! ### Sort by insertion -/

structure InsInv (f : Nat → Nat) (a q Q : Nat) : Prop where
  rest : ∀ i j, a ≤ i → i < j → j < a + Q + 1 → i ≠ a + q → j ≠ a + q → lx key rk (f i) (f j)
  up : ∀ j, a + q < j → j < a + Q + 1 → lx key rk (f (a + q)) (f j)
  low : ∀ i, a ≤ i → i < a + q → key (f i) = key (f (a + q)) → rk (f i) < rk (f (a + q))

theorem insIn_srt (a Q : Nat) : ∀ (q : Nat) (L : List Nat), q ≤ Q → a + Q < L.length → InsInv (key := key) (rk := rk) (gt L) a q Q → Srt key rk (gt (insIn key a L q)) a (a + Q + 1) ∧ Sm (gt L) (gt (insIn key a L q)) a (a + Q + 1)
  | 0, L, _, hl, h => by
    refine ⟨fun i j h1 h2 h3 => ?_, Sm.refl ..⟩
    by_cases hi : i = a + 0
    · subst hi
      exact h.up j h2 h3
    · exact h.rest i j h1 h2 h3 hi (by omega)
  | q + 1, L, hq, hl, h => by
    rw [insIn]
    split
    · rename_i hc
      have g := @gt_swp L (a + q + 1) (a + q) (by omega) (by omega)
      have h2 : InsInv (key := key) (rk := rk) (gt (swp L (a + q + 1) (a + q))) a q Q := by
        refine ⟨fun i j h1 h2 h3 h4 h5 => ?_, fun j h1 h2 => ?_, fun i h1 h2 => ?_⟩
        · rw [g i, g j, if_neg (Ne.symm h4), if_neg (Ne.symm h5)]
          by_cases hi : a + q + 1 = i
          · rw [if_pos hi, if_neg (by omega)]
            exact h.rest _ _ (by omega) (by omega) h3 (by omega) (by omega)
          · rw [if_neg hi]
            by_cases hj : a + q + 1 = j
            · rw [if_pos hj]
              exact h.rest _ _ h1 (by omega) (by omega) (by omega) (by omega)
            · rw [if_neg hj]
              exact h.rest _ _ h1 h2 h3 (by omega) (by omega)
        · rw [g (a + q), g j, if_pos rfl, if_neg (by omega)]
          by_cases hj : a + q + 1 = j
          · rw [if_pos hj]
            exact .inl (by simp only [gt]; omega)
          · rw [if_neg hj]
            exact h.up j (by omega) h2
        · rw [g (a + q), g i, if_pos rfl, if_neg (by omega), if_neg (by omega)]
          exact h.low i h1 (by omega)
      obtain ⟨r1, r2⟩ := insIn_srt a Q q (swp L (a + q + 1) (a + q)) (by omega) (by rw [swp_len]; exact hl) h2
      exact ⟨r1, (sm_swp (by omega) (by omega) (by omega) (by omega)).trans r2⟩
    · rename_i hc
      refine ⟨fun i j h1 h2 h3 => ?_, Sm.refl ..⟩
      have hle : lx key rk (gt L (a + q)) (gt L (a + q + 1)) := by
        by_cases he : key (gt L (a + q)) = key (gt L (a + (q + 1)))
        · exact .inr ⟨he, h.low _ (by omega) (by omega) he⟩
        · exact .inl (by simp only [gt] at he hc ⊢; rw [← Nat.add_assoc] at he; omega)
      by_cases hi : i = a + (q + 1)
      · subst hi
        exact h.up j h2 h3
      · by_cases hj : j = a + (q + 1)
        · subst hj
          by_cases hi2 : i = a + q
          · subst hi2
            exact hle
          · exact lx_trans (h.rest i (a + q) h1 (by omega) (by omega) hi (by omega)) hle
        · exact h.rest i j h1 h2 h3 hi hj

theorem insOut_srt (a b : Nat) : ∀ (q i : Nat) (L : List Nat), i + q = b → a < i → b ≤ L.length → Srt key rk (gt L) a i → (∀ k l, a ≤ k → k < l → i ≤ l → l < b → rk (gt L k) < rk (gt L l)) → Srt key rk (gt (insOut key a L i q)) a b ∧ Sm (gt L) (gt (insOut key a L i q)) a b
  | 0, i, L, hi, ha, hl, h, _ => by
    obtain rfl : i = b := by omega
    exact ⟨h, Sm.refl ..⟩
  | q + 1, i, L, hi, ha, hl, h, hu => by
    rw [insOut]
    have hinv : InsInv (key := key) (rk := rk) (gt L) a (i - a) (i - a) := by
      refine ⟨fun k l h1 h2 h3 h4 h5 => h k l h1 h2 (by omega), fun j h1 h2 => by omega, fun k h1 h2 _ => hu k _ h1 h2 (by omega) (by omega)⟩
    obtain ⟨r1, r2⟩ := insIn_srt a (i - a) (i - a) L (Nat.le_refl _) (by omega) hinv
    have e : a + (i - a) + 1 = i + 1 := by omega
    rw [e] at r1 r2
    obtain ⟨s1, s2⟩ := insOut_srt a b q (i + 1) (insIn key a L (i - a)) (by omega) (by omega) (by rw [insIn_len]; exact hl) r1 (fun k l h1 h2 h3 h4 => by
      rw [r2.out l (by omega)]
      by_cases hk : k < i + 1
      · exact r2.all (Q := fun x => rk x < rk (gt L l)) (fun k' g1 g2 => hu k' l g1 (by omega) (by omega) h4) k h1 hk
      · rw [r2.out k (by omega)]
        exact hu k l h1 h2 (by omega) h4)
    exact ⟨s1, (r2.wide (Nat.le_refl _) (by omega)).trans s2⟩

/-- Elements that rise are in order then. -/
theorem insS_srt {a b : Nat} {L : List Nat} (hab : a ≤ b) (hl : b ≤ L.length) (hu : ∀ k l, a ≤ k → k < l → l < b → rk (gt L k) < rk (gt L l)) : Srt key rk (gt (insS key L a b)) a b ∧ Sm (gt L) (gt (insS key L a b)) a b := by
  by_cases h : a + 1 ≤ b
  · exact insOut_srt a b (b - (a + 1)) (a + 1) L (by omega) (by omega) hl (fun i j h1 h2 h3 => by omega) (fun k l h1 h2 h3 h4 => hu k l h1 h2 h4)
  · rw [insS, show b - (a + 1) = 0 by omega, insOut]
    exact ⟨fun i j h1 h2 h3 => by omega, Sm.refl ..⟩
end

/-! ### Ranges change places -/

def swR (a b : Nat) : List Nat → Nat → Nat → List Nat
  | L, _, 0 => L
  | L, i, q + 1 => swR a b (swp L (a + i) (b + i)) (i + 1) q

theorem swR_len (a b : Nat) : ∀ (q i : Nat) (L : List Nat), (swR a b L i q).length = L.length
  | 0, _, _ => rfl
  | q + 1, i, L => by rw [swR, swR_len a b q, swp_len]

theorem gt_swR (a b : Nat) : ∀ (q i : Nat) (L : List Nat), a + i + q ≤ b + i → b + i + q ≤ L.length → ∀ k, gt (swR a b L i q) k = if a + i ≤ k ∧ k < a + i + q then gt L (k - a + b) else if b + i ≤ k ∧ k < b + i + q then gt L (k - b + a) else gt L k
  | 0, i, L, _, _, k => by rw [swR, if_neg (by omega), if_neg (by omega)]
  | q + 1, i, L, h1, h2, k => by
    rw [swR, gt_swR a b q (i + 1) _ (by omega) (by rw [swp_len]; omega)]
    have g := @gt_swp L (a + i) (b + i) (by omega) (by omega)
    by_cases c1 : a + (i + 1) ≤ k ∧ k < a + (i + 1) + q
    · rw [if_pos c1, if_pos (by omega), g, if_neg (by omega), if_neg (by omega)]
    · rw [if_neg c1]
      by_cases c2 : b + (i + 1) ≤ k ∧ k < b + (i + 1) + q
      · rw [if_pos c2, if_neg (by omega), if_pos (by omega), g, if_neg (by omega), if_neg (by omega)]
      · rw [if_neg c2, g]
        by_cases c3 : b + i = k
        · rw [if_pos c3, if_neg (by omega), if_pos (by omega)]
          congr 1; omega
        · rw [if_neg c3]
          by_cases c4 : a + i = k
          · rw [if_pos c4, if_pos (by omega)]
            congr 1; omega
          · rw [if_neg c4, if_neg (by omega), if_neg (by omega)]

def rot (m : Nat) : Nat → List Nat → Nat → Nat → List Nat
  | 0, L, _, _ => L
  | f + 1, L, i, j => if i = j then swR (m - i) m L 0 i else if j < i then rot m f (swR (m - i) m L 0 j) (i - j) j else rot m f (swR (m - i) (m + j - i) L 0 i) i (j - i)

theorem rot_len (m : Nat) : ∀ (f : Nat) (L : List Nat) (i j : Nat), (rot m f L i j).length = L.length
  | 0, _, _, _ => rfl
  | f + 1, L, i, j => by
    rw [rot]
    split
    · rw [swR_len]
    · split
      · rw [rot_len m f, swR_len]
      · rw [rot_len m f, swR_len]

theorem gt_rot (m : Nat) : ∀ (f : Nat) (L : List Nat) (i j : Nat), i + j ≤ f → 0 < i → 0 < j → i ≤ m → m + j ≤ L.length → ∀ k, gt (rot m f L i j) k = if m - i ≤ k ∧ k < m - i + j then gt L (k + i) else if m - i + j ≤ k ∧ k < m + j then gt L (k - j) else gt L k
  | 0, L, i, j, h, h1, _, _, _, _ => by omega
  | f + 1, L, i, j, h, hi, hj, him, hl, k => by
    rw [rot]
    by_cases e : i = j
    · subst e
      rw [if_pos rfl, gt_swR _ _ _ _ _ (by omega) (by omega)]
      by_cases c1 : m - i ≤ k ∧ k < m - i + i
      · rw [if_pos (by omega), if_pos c1]; congr 1; omega
      · rw [if_neg (by omega), if_neg c1]
        by_cases c2 : m - i + i ≤ k ∧ k < m + i
        · rw [if_pos (by omega), if_pos c2]; congr 1; omega
        · rw [if_neg (by omega), if_neg c2]
    · rw [if_neg e]
      by_cases c : j < i
      · rw [if_pos c, gt_rot m f _ (i - j) j (by omega) (by omega) hj (by omega) (by rw [swR_len]; exact hl)]
        have g := gt_swR (m - i) m j 0 L (by omega) (by omega)
        rw [g, g, g]
        by_cases c1 : m - (i - j) ≤ k ∧ k < m - (i - j) + j
        · rw [if_pos c1]
          by_cases c2 : m ≤ k + (i - j)
          · rw [if_neg (by omega), if_pos (by omega), if_neg (by omega), if_pos (by omega)]; congr 1; omega
          · omega
        · rw [if_neg c1]
          by_cases c2 : m - (i - j) + j ≤ k ∧ k < m + j
          · rw [if_pos c2, if_neg (by omega), if_neg (by omega), if_neg (by omega), if_pos (by omega)]
          · rw [if_neg c2]
            by_cases c3 : m - i ≤ k ∧ k < m - i + j
            · rw [if_pos (by omega), if_pos c3]; congr 1; omega
            · rw [if_neg (by omega), if_neg (by omega), if_neg c3, if_neg (by omega)]
      · rw [if_neg c, gt_rot m f _ i (j - i) (by omega) hi (by omega) him (by rw [swR_len]; omega)]
        have g := gt_swR (m - i) (m + j - i) i 0 L (by omega) (by omega)
        rw [g, g, g]
        obtain ⟨u, hu⟩ : ∃ u, m = u + i := ⟨m - i, by omega⟩
        obtain ⟨v, hv⟩ : ∃ v, j = v + i := ⟨j - i, by omega⟩
        subst hu
        subst hv
        have e1 : u + i - i = u := by omega
        have e2 : v + i - i = v := by omega
        have e3 : u + i + (v + i) - i = u + i + v := by omega
        rw [e1, e2, e3]
        by_cases c1 : u ≤ k ∧ k < u + v
        · rw [if_pos c1, if_neg (by omega), if_neg (by omega), if_pos (by omega)]
        · rw [if_neg c1]
          by_cases c2 : u + v ≤ k ∧ k < u + i + v
          · rw [if_pos c2, if_pos (by omega), if_pos (by omega)]; congr 1; omega
          · rw [if_neg c2, if_neg (by omega)]
            by_cases c4 : u + i + v ≤ k ∧ k < u + i + (v + i)
            · rw [if_pos (by omega), if_neg (by omega), if_pos (by omega)]; congr 1; omega
            · rw [if_neg (by omega), if_neg (by omega), if_neg (by omega)]

/-- A rotation leaves the same elements. -/
theorem sm_rot {m f : Nat} {L : List Nat} {i j : Nat} (h : i + j ≤ f) (hi : 0 < i) (hj : 0 < j) (him : i ≤ m) (hl : m + j ≤ L.length) : Sm (gt L) (gt (rot m f L i j)) (m - i) (m + j) := by
  have g := gt_rot m f L i j h hi hj him hl
  refine ⟨fun k hk => by rw [g, if_neg (by omega), if_neg (by omega)], fun k h1 h2 => ?_, fun k h1 h2 => ?_⟩
  · by_cases c : k < m - i + j
    · exact ⟨k + i, by omega, by omega, by rw [g, if_pos ⟨h1, c⟩]⟩
    · exact ⟨k - j, by omega, by omega, by rw [g, if_neg (by omega), if_pos (by omega)]⟩
  · by_cases c : k < m
    · exact ⟨k + j, by omega, by omega, by rw [g, if_neg (by omega), if_pos (by omega)]; congr 1; omega⟩
    · exact ⟨k - i, by omega, by omega, by rw [g, if_pos (by omega)]; congr 1; omega⟩

/-! ### By halves -/

def bsr (P : Nat → Bool) : Nat → Nat → Nat → Nat
  | 0, i, _ => i
  | f + 1, i, j => if i < j then (if P ((i + j) / 2) then bsr P f ((i + j) / 2 + 1) j else bsr P f i ((i + j) / 2)) else i

/-- The first place at which it is no more so. -/
theorem bs_spec (P : Nat → Bool) (lo hi : Nat) (hP : ∀ x y, lo ≤ x → x ≤ y → y < hi → P y = true → P x = true) : ∀ (f i j : Nat), j - i < f → lo ≤ i → i ≤ j → j ≤ hi → (∀ x, lo ≤ x → x < i → P x = true) → (∀ x, j ≤ x → x < hi → P x = false) →
    lo ≤ bsr P f i j ∧ bsr P f i j ≤ hi ∧ (∀ x, lo ≤ x → x < bsr P f i j → P x = true) ∧ ∀ x, bsr P f i j ≤ x → x < hi → P x = false
  | 0, i, j, h, _, _, _, _, _ => by omega
  | f + 1, i, j, h, h1, h2, h3, h4, h5 => by
    rw [bsr]
    by_cases c : i < j
    · rw [if_pos c]
      by_cases p : P ((i + j) / 2) = true
      · rw [if_pos p]
        exact bs_spec P lo hi hP f _ j (by omega) (by omega) (by omega) h3 (fun x g1 g2 => hP x _ g1 (show x ≤ (i + j) / 2 by omega) (by omega) p) h5
      · rw [if_neg p]
        refine bs_spec P lo hi hP f i _ (by omega) h1 (by omega) (by omega) h4 (fun x g1 g2 => ?_)
        rw [← Bool.not_eq_true]
        exact fun hx => p (hP _ x (by omega) g1 g2 hx)
    · rw [if_neg c]
      obtain rfl : i = j := by omega
      exact ⟨h1, h3, h4, h5⟩

/-! ### Elements go up, or down -/

def upS : List Nat → Nat → Nat → List Nat
  | L, _, 0 => L
  | L, k, q + 1 => upS (swp L k (k + 1)) (k + 1) q

def dnS : List Nat → Nat → Nat → List Nat
  | L, _, 0 => L
  | L, i, q + 1 => dnS (swp L (i + q + 1) (i + q)) i q

theorem upS_len : ∀ (q k : Nat) (L : List Nat), (upS L k q).length = L.length
  | 0, _, _ => rfl
  | q + 1, k, L => by rw [upS, upS_len q, swp_len]

theorem dnS_len : ∀ (q k : Nat) (L : List Nat), (dnS L k q).length = L.length
  | 0, _, _ => rfl
  | q + 1, k, L => by rw [dnS, dnS_len q, swp_len]

theorem gt_upS : ∀ (q a : Nat) (L : List Nat), a + q < L.length → ∀ k, gt (upS L a q) k = if a ≤ k ∧ k < a + q then gt L (k + 1) else if k = a + q then gt L a else gt L k
  | 0, a, L, h, k => by
    rw [upS, if_neg (by omega)]
    split
    · rename_i h; rw [h]; rfl
    · rfl
  | q + 1, a, L, h, k => by
    have g := @gt_swp L a (a + 1) (by omega) (by omega)
    rw [upS, gt_upS q (a + 1) _ (by rw [swp_len]; omega), g, g, g]
    by_cases c1 : a + 1 ≤ k ∧ k < a + 1 + q
    · rw [if_pos c1, if_neg (by omega), if_neg (by omega), if_pos (by omega)]
    · rw [if_neg c1]
      by_cases c2 : k = a + 1 + q
      · rw [if_pos c2, if_pos rfl, if_neg (by omega), if_pos (by omega)]
      · rw [if_neg c2, if_neg (by omega)]
        by_cases c3 : a = k
        · rw [if_pos c3, if_pos (by omega), c3]
        · rw [if_neg c3, if_neg (by omega), if_neg (by omega)]

theorem gt_dnS : ∀ (q a : Nat) (L : List Nat), a + q < L.length → ∀ k, gt (dnS L a q) k = if k = a then gt L (a + q) else if a < k ∧ k ≤ a + q then gt L (k - 1) else gt L k
  | 0, a, L, h, k => by
    rw [dnS]
    split
    · rename_i h; rw [h]; rfl
    · rw [if_neg (by omega)]
  | q + 1, a, L, h, k => by
    have g := @gt_swp L (a + q + 1) (a + q) (by omega) (by omega)
    rw [dnS, gt_dnS q a _ (by rw [swp_len]; omega), g, g, g]
    by_cases c1 : k = a
    · rw [if_pos c1, if_pos rfl, if_pos c1]; rfl
    · rw [if_neg c1, if_neg c1]
      by_cases c2 : a < k ∧ k ≤ a + q
      · rw [if_pos c2, if_neg (by omega), if_neg (by omega), if_pos (by omega)]
      · rw [if_neg c2]
        by_cases c3 : k = a + q + 1
        · rw [if_neg (by omega), if_pos (by omega), if_pos (by omega)]; congr 1; omega
        · rw [if_neg (by omega), if_neg (by omega), if_neg (by omega)]

/-! ### Two lists in order become one -/

section
variable (key : Nat → Int)
variable {rk : Nat → Nat}

def symA (L : List Nat) (a m b : Nat) : List Nat := upS L a (bsr (fun h => decide (key (gt L h) - key (gt L a) < 0)) (b - m + 1) m b - 1 - a)
def symB (L : List Nat) (a m b : Nat) : List Nat := dnS L (bsr (fun h => !decide (key (gt L m) - key (gt L h) < 0)) (m - a + 1) a m) (m - bsr (fun h => !decide (key (gt L m) - key (gt L h) < 0)) (m - a + 1) a m)

def symS (L : List Nat) (a m b : Nat) : Nat :=
  bsr (fun c => !decide (key (gt L ((a + b) / 2 + m - 1 - c)) - key (gt L c) < 0)) ((if (a + b) / 2 < m then (a + b) / 2 else m) - (if (a + b) / 2 < m then (a + b) / 2 + m - b else a) + 1) (if (a + b) / 2 < m then (a + b) / 2 + m - b else a) (if (a + b) / 2 < m then (a + b) / 2 else m)

def sym : Nat → List Nat → Nat → Nat → Nat → List Nat
  | 0, L, _, _, _ => L
  | f + 1, L, a, m, b =>
    if m - a = 1 then symA key L a m b else if b - m = 1 then symB key L a m b else
    let mid := (a + b) / 2
    let s := symS key L a m b
    let e := mid + m - s
    let L1 := if s < m ∧ m < e then rot m (e - s) L (m - s) (e - m) else L
    let L2 := if a < s ∧ s < mid then sym f L1 a s mid else L1
    if mid < e ∧ e < b then sym f L2 mid e b else L2

variable {key}

/-- Two lists that are in order, of which those of the second one are greater if they count as many. -/
structure SymPre (f : Nat → Nat) (a m b : Nat) : Prop where
  am : a < m
  mb : m < b
  l : Srt key rk f a m
  r : Srt key rk f m b
  x : ∀ i j, a ≤ i → i < m → m ≤ j → j < b → key (f i) = key (f j) → rk (f i) < rk (f j)

/-- What comes first. -/
theorem SymPre.lt {f : Nat → Nat} {a m b : Nat} (h : SymPre (key := key) (rk := rk) f a m b) {i j : Nat} (h1 : a ≤ i) (h2 : i < m) (h3 : m ≤ j) (h4 : j < b) : lx key rk (f i) (f j) ↔ ¬ key (f j) - key (f i) < 0 := by
  have := h.x i j h1 h2 h3 h4
  simp only [lx]
  omega

theorem SymPre.gt {f : Nat → Nat} {a m b : Nat} (h : SymPre (key := key) (rk := rk) f a m b) {i j : Nat} (h1 : a ≤ i) (h2 : i < m) (h3 : m ≤ j) (h4 : j < b) (hk : key (f j) - key (f i) < 0) : lx key rk (f j) (f i) := .inl (by omega)

theorem symA_srt {L : List Nat} {a m b : Nat} (h : SymPre (key := key) (rk := rk) (gt L) a m b) (hl : b ≤ L.length) (h1 : m - a = 1) : Srt key rk (gt (symA key L a m b)) a b ∧ Sm (gt L) (gt (symA key L a m b)) a b := by
  have hm : m = a + 1 := by have := h.am; omega
  subst hm
  have hmb := h.mb
  obtain ⟨b1, b2, b3, b4⟩ := bs_spec (fun h => decide (key (gt L h) - key (gt L a) < 0)) (a + 1) b (fun x y g1 g2 g3 g4 => by
    simp only [decide_eq_true_eq] at g4 ⊢
    by_cases hxy : x = y
    · subst hxy; exact g4
    · have := h.r x y g1 (by omega) g3
      simp only [lx] at this
      omega) (b - (a + 1) + 1) (a + 1) b (by omega) (by omega) (by omega) (by omega) (by omega) (by omega)
  simp only [symA]
  generalize bsr (fun h => decide (key (gt L h) - key (gt L a) < 0)) (b - (a + 1) + 1) (a + 1) b = t at *
  have g := gt_upS (t - 1 - a) a L (by omega)
  simp only [decide_eq_true_eq, decide_eq_false_iff_not] at b3 b4
  constructor
  · intro i j i1 i2 i3
    rw [g, g]
    by_cases c1 : a ≤ i ∧ i < a + (t - 1 - a)
    · rw [if_pos c1]
      by_cases c2 : a ≤ j ∧ j < a + (t - 1 - a)
      · rw [if_pos c2]
        exact h.r _ _ (by omega) (by omega) (by omega)
      · rw [if_neg c2]
        split
        · exact h.gt (Nat.le_refl _) (by omega) (by omega) (by omega) (b3 (i + 1) (by omega) (by omega))
        · exact h.r _ _ (by omega) (by omega) (by omega)
    · rw [if_neg c1]
      by_cases c2 : i = a + (t - 1 - a)
      · rw [if_pos c2, if_neg (by omega), if_neg (by omega)]
        exact (h.lt (Nat.le_refl _) (by omega) (by omega) (by omega)).2 (b4 j (by omega) (by omega))
      · rw [if_neg c2, if_neg (by omega), if_neg (by omega)]
        exact h.r _ _ (by omega) (by omega) (by omega)
  · refine ⟨fun k hk => by rw [g, if_neg (by omega), if_neg (by omega)], fun k k1 k2 => ?_, fun k k1 k2 => ?_⟩
    · rw [g]
      split
      · exact ⟨k + 1, by omega, by omega, rfl⟩
      · split
        · exact ⟨a, by omega, by omega, rfl⟩
        · exact ⟨k, by omega, by omega, rfl⟩
    · by_cases c1 : k = a
      · exact ⟨a + (t - 1 - a), by omega, by omega, by rw [g, if_neg (by omega), if_pos rfl, c1]⟩
      · by_cases c2 : k < t
        · exact ⟨k - 1, by omega, by omega, by rw [g, if_pos (by omega)]; congr 1; omega⟩
        · exact ⟨k, by omega, by omega, by rw [g, if_neg (by omega), if_neg (by omega)]⟩

theorem symB_srt {L : List Nat} {a m b : Nat} (h : SymPre (key := key) (rk := rk) (gt L) a m b) (hl : b ≤ L.length) (h1 : b - m = 1) : Srt key rk (gt (symB key L a m b)) a b ∧ Sm (gt L) (gt (symB key L a m b)) a b := by
  have hm : b = m + 1 := by have := h.mb; omega
  subst hm
  have ham := h.am
  obtain ⟨b1, b2, b3, b4⟩ := bs_spec (fun h => !decide (key (gt L m) - key (gt L h) < 0)) a m (fun x y g1 g2 g3 g4 => by
    simp only [Bool.not_eq_true', decide_eq_false_iff_not] at g4 ⊢
    by_cases hxy : x = y
    · subst hxy; exact g4
    · have := h.l x y g1 (by omega) g3
      simp only [lx] at this
      omega) (m - a + 1) a m (by omega) (by omega) (by omega) (by omega) (by omega) (by omega)
  simp only [symB]
  generalize bsr (fun h => !decide (key (gt L m) - key (gt L h) < 0)) (m - a + 1) a m = t at *
  have g := gt_dnS (m - t) t L (by omega)
  simp only [Bool.not_eq_true', decide_eq_false_iff_not, Bool.not_eq_false', decide_eq_true_eq] at b3 b4
  have et : t + (m - t) = m := by omega
  rw [et] at g
  constructor
  · intro i j i1 i2 i3
    rw [g, g]
    by_cases c1 : i = t
    · rw [if_pos c1, if_neg (by omega), if_pos (by omega)]
      exact h.gt (i := j - 1) (by omega) (by omega) (Nat.le_refl _) (by omega) (b4 _ (by omega) (by omega))
    · rw [if_neg c1]
      by_cases c2 : t < i ∧ i ≤ m
      · rw [if_pos c2, if_neg (by omega), if_pos (by omega)]
        exact h.l _ _ (by omega) (by omega) (by omega)
      · rw [if_neg c2]
        by_cases c3 : j = t
        · rw [if_pos c3]
          exact (h.lt (by omega) (by omega) (Nat.le_refl _) (by omega)).2 (b3 _ (by omega) (by omega))
        · rw [if_neg c3]
          split
          · exact h.l _ _ (by omega) (by omega) (by omega)
          · exact h.l _ _ (by omega) (by omega) (by omega)
  · refine ⟨fun k hk => by rw [g, if_neg (by omega), if_neg (by omega)], fun k k1 k2 => ?_, fun k k1 k2 => ?_⟩
    · rw [g]
      split
      · exact ⟨m, by omega, by omega, rfl⟩
      · split
        · exact ⟨k - 1, by omega, by omega, rfl⟩
        · exact ⟨k, by omega, by omega, rfl⟩
    · by_cases c1 : k = m
      · exact ⟨t, by omega, by omega, by rw [g, if_pos rfl, c1]⟩
      · by_cases c2 : t ≤ k
        · exact ⟨k + 1, by omega, by omega, by rw [g, if_neg (by omega), if_pos (by omega)]; rfl⟩
        · exact ⟨k, by omega, by omega, by rw [g, if_neg (by omega), if_neg (by omega)]⟩

theorem symA_len (L : List Nat) (a m b : Nat) : (symA key L a m b).length = L.length := upS_len ..
theorem symB_len (L : List Nat) (a m b : Nat) : (symB key L a m b).length = L.length := dnS_len ..

theorem sym_len : ∀ (f : Nat) (L : List Nat) (a m b : Nat), (sym key f L a m b).length = L.length
  | 0, _, _, _, _ => rfl
  | f + 1, L, a, m, b => by
    rw [sym]
    split
    · exact symA_len ..
    · split
      · exact symB_len ..
      · dsimp only
        repeat' split
        all_goals simp only [sym_len f, rot_len]

/-- Where the two lists are cut. -/
theorem symS_spec {L : List Nat} {a m b : Nat} (h : SymPre (key := key) (rk := rk) (gt L) a m b) {s : Nat} (hs : symS key L a m b = s) :
    a ≤ s ∧ s ≤ m ∧ s ≤ (a + b) / 2 ∧ m ≤ (a + b) / 2 + m - s ∧ (a + b) / 2 + m - s ≤ b ∧ (∀ i j, a ≤ i → i < s → (a + b) / 2 + m - s ≤ j → j < b → lx key rk (gt L i) (gt L j)) ∧ ∀ i j, s ≤ i → i < m → m ≤ j → j < (a + b) / 2 + m - s → lx key rk (gt L j) (gt L i) := by
  have ham := h.am
  have hmb := h.mb
  simp only [symS] at hs
  obtain ⟨lo, hlo⟩ : ∃ lo, (if (a + b) / 2 < m then (a + b) / 2 + m - b else a) = lo := ⟨_, rfl⟩
  obtain ⟨hi, hhi⟩ : ∃ hi, (if (a + b) / 2 < m then (a + b) / 2 else m) = hi := ⟨_, rfl⟩
  rw [hlo, hhi] at hs
  have k1 : a ≤ lo ∧ lo ≤ hi ∧ hi ≤ m ∧ hi ≤ (a + b) / 2 ∧ (a + b) / 2 + m - 1 - lo < b ∧ m ≤ (a + b) / 2 + m - hi ∧ (lo = a ∨ (a + b) / 2 + m - lo = b) ∧ (hi = m ∨ (a + b) / 2 = hi) := by
    split at hlo <;> split at hhi <;> omega
  obtain ⟨k1, k2, k3, k4, k5, k6, k7, k8⟩ := k1
  obtain ⟨b1, b2, b3, b4⟩ := bs_spec (fun c => !decide (key (gt L ((a + b) / 2 + m - 1 - c)) - key (gt L c) < 0)) lo hi (fun x y g1 g2 g3 g4 => by
    simp only [Bool.not_eq_true', decide_eq_false_iff_not] at g4 ⊢
    by_cases hxy : x = y
    · subst hxy; exact g4
    · have p1 := h.l x y (by omega) (by omega) (by omega)
      have p2 := h.r ((a + b) / 2 + m - 1 - y) ((a + b) / 2 + m - 1 - x) (by omega) (by omega) (by omega)
      simp only [lx] at p1 p2
      omega) (hi - lo + 1) lo hi (by omega) (by omega) (by omega) (by omega) (by omega) (by omega)
  rw [hs] at b1 b2 b3 b4
  simp only [Bool.not_eq_true', decide_eq_false_iff_not, Bool.not_eq_false', decide_eq_true_eq] at b3 b4
  refine ⟨by omega, by omega, by omega, by omega, by omega, fun i j i1 i2 i3 i4 => ?_, fun i j i1 i2 i3 i4 => ?_⟩
  · have hlos : lo < s := by omega
    have q1 := (h.lt (i := s - 1) (j := (a + b) / 2 + m - 1 - (s - 1)) (by omega) (by omega) (by omega) (by omega)).2 (b3 (s - 1) (by omega) (by omega))
    have q2 : lx key rk (gt L i) (gt L ((a + b) / 2 + m - 1 - (s - 1))) := by
      by_cases hi : i = s - 1
      · subst hi; exact q1
      · exact lx_trans (h.l i (s - 1) i1 (by omega) (by omega)) q1
    by_cases hj : j = (a + b) / 2 + m - 1 - (s - 1)
    · subst hj; exact q2
    · exact lx_trans q2 (h.r _ j (by omega) (by omega) i4)
  · have hsh : s < hi := by omega
    have q1 := h.gt (i := s) (j := (a + b) / 2 + m - 1 - s) (by omega) (by omega) (by omega) (by omega) (b4 s (by omega) (by omega))
    have q2 : lx key rk (gt L ((a + b) / 2 + m - 1 - s)) (gt L i) := by
      by_cases hi : i = s
      · subst hi; exact q1
      · exact lx_trans q1 (h.l s i (by omega) (by omega) (by omega))
    by_cases hj : j = (a + b) / 2 + m - 1 - s
    · subst hj; exact q2
    · exact lx_trans (h.r j _ i3 (by omega) (by omega)) q2

theorem sym_srt : ∀ (f : Nat) (L : List Nat) (a m b : Nat), b - a ≤ f → b ≤ L.length → SymPre (key := key) (rk := rk) (gt L) a m b → Srt key rk (gt (sym key f L a m b)) a b ∧ Sm (gt L) (gt (sym key f L a m b)) a b
  | 0, L, a, m, b, hf, _, h => by have := h.am; have := h.mb; omega
  | f + 1, L, a, m, b, hf, hl, h => by
    have ham := h.am
    have hmb := h.mb
    rw [sym]
    by_cases c1 : m - a = 1
    · rw [if_pos c1]; exact symA_srt h hl c1
    rw [if_neg c1]
    by_cases c2 : b - m = 1
    · rw [if_pos c2]; exact symB_srt h hl c2
    rw [if_neg c2]
    dsimp only
    obtain ⟨s, hs⟩ : ∃ s, symS key L a m b = s := ⟨_, rfl⟩
    obtain ⟨s1, s2, s3, s4, s5, s6, s7⟩ := symS_spec h hs
    rw [hs]
    obtain ⟨mid, hmid⟩ : ∃ mid, (a + b) / 2 = mid := ⟨_, rfl⟩
    rw [hmid] at s3 s4 s5 s6 s7 ⊢
    obtain ⟨e, he⟩ : ∃ e, mid + m - s = e := ⟨_, rfl⟩
    rw [he] at s4 s5 s6 s7 ⊢
    obtain ⟨L1, hL1⟩ : ∃ L1, (if s < m ∧ m < e then rot m (e - s) L (m - s) (e - m) else L) = L1 := ⟨_, rfl⟩
    rw [hL1]
    have hl1 : L1.length = L.length := by rw [← hL1]; split <;> simp only [rot_len]
    have g : ∀ k, gt L1 k = if s ≤ k ∧ k < mid then gt L (k + (m - s)) else if mid ≤ k ∧ k < e then gt L (k - (e - m)) else gt L k := by
      intro k
      rw [← hL1]
      by_cases c : s < m ∧ m < e
      · rw [if_pos c, gt_rot m _ _ _ _ (by omega) (by omega) (by omega) (by omega) (by omega)]
        have e1 : m - (m - s) = s := by omega
        have e2 : s + (e - m) = mid := by omega
        have e3 : m + (e - m) = e := by omega
        rw [e1, e2, e3]
      · rw [if_neg c]
        by_cases d : s = m
        · subst d
          by_cases d2 : s ≤ k ∧ k < mid
          · rw [if_pos d2, Nat.sub_self, Nat.add_zero]
          · rw [if_neg d2, if_neg (by omega)]
        · have : e = m := by omega
          subst this
          rw [if_neg (by omega)]
          split
          · rw [Nat.sub_self]; rfl
          · rfl
    have hsm1 : Sm (gt L) (gt L1) a b := by
      rw [← hL1]
      by_cases c : s < m ∧ m < e
      · rw [if_pos c]
        have := sm_rot (m := m) (f := e - s) (L := L) (i := m - s) (j := e - m) (by omega) (by omega) (by omega) (by omega) (by omega)
        exact this.wide (by omega) (by omega)
      · rw [if_neg c]; exact Sm.refl ..
    -- the left half
    have lft : ∀ i, a ≤ i → i < s → gt L1 i = gt L i := fun i h1 h2 => by rw [g, if_neg (by omega), if_neg (by omega)]
    have lfm : ∀ i, s ≤ i → i < mid → gt L1 i = gt L (i + (m - s)) := fun i h1 h2 => by rw [g, if_pos ⟨h1, h2⟩]
    have rgm : ∀ i, mid ≤ i → i < e → gt L1 i = gt L (i - (e - m)) := fun i h1 h2 => by rw [g, if_neg (by omega), if_pos ⟨h1, h2⟩]
    have rgt : ∀ i, e ≤ i → i < b → gt L1 i = gt L i := fun i h1 h2 => by rw [g, if_neg (by omega), if_neg (by omega)]
    have A1 : Srt key rk (gt L1) a s := (h.l.sub (Nat.le_refl _) s2).cong lft
    have B1 : Srt key rk (gt L1) s mid := fun i j i1 i2 i3 => by
      rw [lfm i i1 (by omega), lfm j (by omega) i3]; exact h.r _ _ (by omega) (by omega) (by omega)
    have A2 : Srt key rk (gt L1) mid e := fun i j i1 i2 i3 => by
      rw [rgm i i1 (by omega), rgm j (by omega) i3]; exact h.l _ _ (by omega) (by omega) (by omega)
    have B2 : Srt key rk (gt L1) e b := (h.r.sub s4 (Nat.le_refl _)).cong rgt
    have X1 : ∀ i j, a ≤ i → i < s → s ≤ j → j < mid → key (gt L1 i) = key (gt L1 j) → rk (gt L1 i) < rk (gt L1 j) := fun i j h1 h2 h3 h4 hk => by
      rw [lft i h1 h2, lfm j h3 h4] at hk ⊢; exact h.x _ _ h1 (by omega) (by omega) (by omega) hk
    have X2 : ∀ i j, mid ≤ i → i < e → e ≤ j → j < b → key (gt L1 i) = key (gt L1 j) → rk (gt L1 i) < rk (gt L1 j) := fun i j h1 h2 h3 h4 hk => by
      rw [rgm i h1 h2, rgt j h3 h4] at hk ⊢; exact h.x _ _ (by omega) (by omega) (by omega) (by omega) hk
    have cross : ∀ i j, a ≤ i → i < mid → mid ≤ j → j < b → lx key rk (gt L1 i) (gt L1 j) := by
      intro i j h1 h2 h3 h4
      by_cases ci : i < s
      · rw [lft i h1 ci]
        by_cases cj : j < e
        · rw [rgm j h3 cj]; exact h.l _ _ h1 (by omega) (by omega)
        · rw [rgt j (by omega) h4]; exact s6 i j h1 ci (by omega) h4
      · rw [lfm i (by omega) h2]
        by_cases cj : j < e
        · rw [rgm j h3 cj]; exact s7 _ _ (by omega) (by omega) (by omega) (by omega)
        · rw [rgt j (by omega) h4]; exact h.r _ _ (by omega) (by omega) h4
    have hmidb : mid < b ∧ a < mid := by omega
    -- the left half, in order
    obtain ⟨L2, hL2⟩ : ∃ L2, (if a < s ∧ s < mid then sym key f L1 a s mid else L1) = L2 := ⟨_, rfl⟩
    rw [hL2]
    have hl2 : L2.length = L.length := by rw [← hL2]; split <;> simp only [sym_len, hl1]
    have r2 : Srt key rk (gt L2) a mid ∧ Sm (gt L1) (gt L2) a mid := by
      rw [← hL2]
      by_cases c : a < s ∧ s < mid
      · rw [if_pos c]
        exact sym_srt f L1 a s mid (by omega) (by omega) ⟨c.1, c.2, A1, B1, X1⟩
      · rw [if_neg c]
        refine ⟨?_, Sm.refl ..⟩
        by_cases d : s = a
        · subst d; exact B1
        · have : s = mid := by omega
          subst this; exact A1
    have out2 : ∀ k, mid ≤ k → gt L2 k = gt L1 k := fun k hk => r2.2.out k (.inr hk)
    obtain ⟨L3, hL3⟩ : ∃ L3, (if mid < e ∧ e < b then sym key f L2 mid e b else L2) = L3 := ⟨_, rfl⟩
    rw [hL3]
    have r3 : Srt key rk (gt L3) mid b ∧ Sm (gt L2) (gt L3) mid b := by
      rw [← hL3]
      have A2' : Srt key rk (gt L2) mid e := A2.cong fun k h1 _ => out2 k h1
      have B2' : Srt key rk (gt L2) e b := B2.cong fun k h1 _ => out2 k (by omega)
      by_cases c : mid < e ∧ e < b
      · rw [if_pos c]
        exact sym_srt f L2 mid e b (by omega) (by omega) ⟨c.1, c.2, A2', B2', fun i j h1 h2 h3 h4 => by rw [out2 i h1, out2 j (by omega)]; exact X2 i j h1 h2 h3 h4⟩
      · rw [if_neg c]
        refine ⟨?_, Sm.refl ..⟩
        by_cases d : e = mid
        · subst d; exact B2'
        · have : e = b := by omega
          subst this; exact A2'
    refine ⟨Srt.join (m := mid) (r2.1.cong fun k h1 h2 => r3.2.out k (.inl h2)) r3.1 fun i j h1 h2 h3 h4 => ?_, (hsm1.trans (r2.2.wide (Nat.le_refl _) (by omega))).trans (r3.2.wide (by omega) (Nat.le_refl _))⟩
    rw [r3.2.out i (.inl h2)]
    refine r3.2.all (Q := fun x => lx key rk (gt L2 i) x) (fun j' g1 g2 => ?_) j h3 h4
    rw [out2 j' g1]
    exact r2.2.all (Q := fun x => lx key rk x (gt L1 j')) (fun i' e1 e2 => cross i' j' e1 e2 g1 g2) i h1 h2
end

/-! ### The whole sort -/

section
variable (key : Nat → Int)
variable {rk : Nat → Nat}

def stI (n : Nat) : Nat → List Nat → Nat → List Nat
  | 0, L, _ => L
  | f + 1, L, a => if a + 20 ≤ n then stI n f (insS key L a (a + 20)) (a + 20) else insS key L a n

def stM (s n : Nat) : Nat → List Nat → Nat → List Nat
  | 0, L, _ => L
  | f + 1, L, a => if a + 2 * s ≤ n then stM s n f (sym key n L a (a + s) (a + 2 * s)) (a + 2 * s) else if a + s < n then sym key n L a (a + s) n else L

def stP (n : Nat) : Nat → List Nat → Nat → List Nat
  | 0, L, _ => L
  | f + 1, L, s => if s < n then stP n f (stM key s n (n + 1) L 0) (2 * s) else L

def stab (n : Nat) (L : List Nat) : List Nat := stP key n (n + 1) (stI key n (n + 1) L 0) 20

theorem insS_len (L : List Nat) (a b : Nat) : (insS key L a b).length = L.length := insOut_len ..

theorem stI_len (n : Nat) : ∀ (f : Nat) (L : List Nat) (a : Nat), (stI key n f L a).length = L.length
  | 0, _, _ => rfl
  | f + 1, L, a => by
    rw [stI]
    split
    · rw [stI_len n f, insS_len]
    · rw [insS_len]

theorem stM_len (s n : Nat) : ∀ (f : Nat) (L : List Nat) (a : Nat), (stM key s n f L a).length = L.length
  | 0, _, _ => rfl
  | f + 1, L, a => by
    rw [stM]
    split
    · rw [stM_len s n f, sym_len]
    · split
      · rw [sym_len]
      · rfl

theorem stP_len (n : Nat) : ∀ (f : Nat) (L : List Nat) (s : Nat), (stP key n f L s).length = L.length
  | 0, _, _ => rfl
  | f + 1, L, s => by
    rw [stP]
    split
    · rw [stP_len n f, stM_len]
    · rfl

theorem stab_len (n : Nat) (L : List Nat) : (stab key n L).length = L.length := by rw [stab, stP_len, stI_len]

variable {key}

/-- The same elements from a to b. -/
structure Ib (f g : Nat → Nat) (a b : Nat) : Prop where
  fwd : ∀ k, a ≤ k → k < b → ∃ j, a ≤ j ∧ j < b ∧ g k = f j
  bwd : ∀ k, a ≤ k → k < b → ∃ j, a ≤ j ∧ j < b ∧ f k = g j

theorem Sm.ib {f g : Nat → Nat} {a b : Nat} (h : Sm f g a b) : Ib f g a b := ⟨h.fwd, h.bwd⟩

theorem Ib.trans {f g h : Nat → Nat} {a b : Nat} (p : Ib f g a b) (q : Ib g h a b) : Ib f h a b where
  fwd k h1 h2 := by
    obtain ⟨j, j1, j2, e⟩ := q.fwd k h1 h2
    obtain ⟨i, i1, i2, e'⟩ := p.fwd j j1 j2
    exact ⟨i, i1, i2, e.trans e'⟩
  bwd k h1 h2 := by
    obtain ⟨j, j1, j2, e⟩ := p.bwd k h1 h2
    obtain ⟨i, i1, i2, e'⟩ := q.bwd j j1 j2
    exact ⟨i, i1, i2, e.trans e'⟩

theorem Ib.join {f g : Nat → Nat} {a m b : Nat} (p : Ib f g a m) (q : Ib f g m b) (h1 : a ≤ m) (h2 : m ≤ b) : Ib f g a b where
  fwd k k1 k2 := by
    by_cases c : k < m
    · obtain ⟨j, j1, j2, e⟩ := p.fwd k k1 c
      exact ⟨j, j1, by omega, e⟩
    · obtain ⟨j, j1, j2, e⟩ := q.fwd k (by omega) k2
      exact ⟨j, by omega, j2, e⟩
  bwd k k1 k2 := by
    by_cases c : k < m
    · obtain ⟨j, j1, j2, e⟩ := p.bwd k k1 c
      exact ⟨j, j1, by omega, e⟩
    · obtain ⟨j, j1, j2, e⟩ := q.bwd k (by omega) k2
      exact ⟨j, by omega, j2, e⟩

theorem Ib.cong {f g h : Nat → Nat} {a b : Nat} (p : Ib f g a b) (e : ∀ k, a ≤ k → k < b → h k = g k) : Ib f h a b where
  fwd k k1 k2 := by rw [e k k1 k2]; exact p.fwd k k1 k2
  bwd k k1 k2 := by
    obtain ⟨j, j1, j2, e'⟩ := p.bwd k k1 k2
    exact ⟨j, j1, j2, by rw [e j j1 j2]; exact e'⟩

/-- A block that is in order. -/
def Bkk (key : Nat → Int) (rk : Nat → Nat) (f g : Nat → Nat) (s n a : Nat) : Prop := Srt key rk g a (min (a + s) n) ∧ Ib f g a (min (a + s) n)

theorem Bkk.cong {f g h : Nat → Nat} {s n a : Nat} (p : Bkk key rk f g s n a) (e : ∀ k, a ≤ k → k < a + s → h k = g k) : Bkk key rk f h s n a :=
  ⟨p.1.cong fun k h1 h2 => e k h1 (by omega), p.2.cong fun k h1 h2 => e k h1 (by omega)⟩

theorem dvd_next {s a c : Nat} (h1 : s ∣ a) (h2 : s ∣ c) (h : c < a) : c + s ≤ a := by
  have := Nat.le_of_dvd (by omega) (Nat.dvd_sub h1 h2)
  omega

theorem stI_bk {n : Nat} {f0 : Nat → Nat} (hu : ∀ k l, k < l → l < n → rk (f0 k) < rk (f0 l)) : ∀ (f : Nat) (L : List Nat) (a : Nat), n < f + a → a ≤ n → L.length = n → 20 ∣ a → (∀ c, 20 ∣ c → c < a → Bkk key rk f0 (gt L) 20 n c) → (∀ k, a ≤ k → gt L k = f0 k) → ∀ c, 20 ∣ c → c < n → Bkk key rk f0 (gt (stI key n f L a)) 20 n c
  | 0, L, a, h, h2, _, _, _, _, _, _, _ => by omega
  | f + 1, L, a, h, h2, hl, hd, hb, hr, c, c1, c2 => by
    rw [stI]
    by_cases d : a + 20 ≤ n
    · rw [if_pos d]
      obtain ⟨r1, r2⟩ := insS_srt (key := key) (rk := rk) (a := a) (b := a + 20) (L := L) (by omega) (by omega) (fun k l g1 g2 g3 => by rw [hr k g1, hr l (by omega)]; exact hu k l g2 (by omega))
      refine stI_bk hu f _ (a + 20) (by omega) d (by rw [insS_len]; exact hl) ((Nat.dvd_add_right hd).2 (Nat.dvd_refl _)) (fun e e1 e2 => ?_) (fun k hk => by rw [r2.out k (.inr hk)]; exact hr k (by omega)) c c1 c2
      by_cases he : e < a
      · refine (hb e e1 he).cong fun k g1 g2 => r2.out k (.inl ?_)
        have := dvd_next hd e1 he
        omega
      · have : e = a := by
          by_cases hea : e = a
          · exact hea
          · have := dvd_next e1 hd (by omega)
            omega
        subst this
        have em : min (e + 20) n = e + 20 := by omega
        refine ⟨by rw [em]; exact r1, ?_⟩
        rw [em]
        exact Ib.trans ⟨fun k g1 g2 => ⟨k, g1, g2, hr k g1⟩, fun k g1 g2 => ⟨k, g1, g2, (hr k g1).symm⟩⟩ r2.ib
    · rw [if_neg d]
      obtain ⟨r1, r2⟩ := insS_srt (key := key) (rk := rk) (a := a) (b := n) (L := L) (by omega) (by omega) (fun k l g1 g2 g3 => by rw [hr k g1, hr l (by omega)]; exact hu k l g2 (by omega))
      by_cases he : c < a
      · refine (hb c c1 he).cong fun k g1 g2 => r2.out k (.inl ?_)
        have := dvd_next hd c1 he
        omega
      · have : c = a := by
          by_cases hea : c = a
          · exact hea
          · have := dvd_next c1 hd (by omega)
            omega
        subst this
        have em : min (c + 20) n = n := by omega
        refine ⟨by rw [em]; exact r1, ?_⟩
        rw [em]
        exact Ib.trans ⟨fun k g1 g2 => ⟨k, g1, g2, hr k g1⟩, fun k g1 g2 => ⟨k, g1, g2, (hr k g1).symm⟩⟩ r2.ib

/-- Two blocks become one. -/
theorem bk_merge {n s a b : Nat} {f0 : Nat → Nat} (hu : ∀ k l, k < l → l < n → rk (f0 k) < rk (f0 l)) {L : List Nat} (hl : L.length = n) (hs : 0 < s) (h1 : Bkk key rk f0 (gt L) s n a) (h2 : Bkk key rk f0 (gt L) s n (a + s)) (hb : b = min (a + 2 * s) n) (hm : a + s < b) :
    Bkk key rk f0 (gt (sym key n L a (a + s) b)) (2 * s) n a ∧ ∀ k, (k < a ∨ b ≤ k) → gt (sym key n L a (a + s) b) k = gt L k := by
  have e1 : min (a + s) n = a + s := by omega
  have e2 : min (a + s + s) n = b := by omega
  rw [Bkk, e1] at h1
  rw [Bkk, e2] at h2
  have hp : SymPre (key := key) (rk := rk) (gt L) a (a + s) b := by
    refine ⟨by omega, hm, h1.1, h2.1, fun i j i1 i2 i3 i4 _ => ?_⟩
    obtain ⟨i', g1, g2, ei⟩ := h1.2.fwd i i1 i2
    obtain ⟨j', g3, g4, ej⟩ := h2.2.fwd j i3 i4
    rw [ei, ej]
    exact hu _ _ (by omega) (by omega)
  obtain ⟨r1, r2⟩ := sym_srt (key := key) (rk := rk) n L a (a + s) b (by omega) (by omega) hp
  refine ⟨⟨by rw [← hb]; exact r1, ?_⟩, r2.out⟩
  rw [← hb]
  exact (Ib.join h1.2 h2.2 (by omega) (by omega)).trans r2.ib

theorem stM_bk {n s : Nat} {f0 : Nat → Nat} (hs : 0 < s) (hu : ∀ k l, k < l → l < n → rk (f0 k) < rk (f0 l)) : ∀ (f : Nat) (L : List Nat) (a : Nat), n < f + a → a ≤ n → L.length = n → 2 * s ∣ a → (∀ c, 2 * s ∣ c → c < a → Bkk key rk f0 (gt L) (2 * s) n c) → (∀ c, s ∣ c → a ≤ c → c < n → Bkk key rk f0 (gt L) s n c) → ∀ c, 2 * s ∣ c → c < n → Bkk key rk f0 (gt (stM key s n f L a)) (2 * s) n c
  | 0, L, a, h, h2, _, _, _, _, _, _, _ => by omega
  | f + 1, L, a, h, h2, hl, hd, hb, hr, c, c1, c2 => by
    rw [stM]
    have hsa : s ∣ a := Nat.dvd_trans (Nat.dvd_mul_left s 2) hd
    have hsa2 : s ∣ a + s := (Nat.dvd_add_right hsa).2 (Nat.dvd_refl _)
    by_cases d : a + 2 * s ≤ n
    · rw [if_pos d]
      obtain ⟨r1, r2⟩ := bk_merge (b := a + 2 * s) hu hl hs (hr a hsa (Nat.le_refl _) (by omega)) (hr _ hsa2 (by omega) (by omega)) (by omega) (by omega)
      have hda : 2 * s ∣ a + 2 * s := (Nat.dvd_add_right hd).2 (Nat.dvd_refl _)
      refine stM_bk hs hu f _ (a + 2 * s) (by omega) d (by rw [sym_len]; exact hl) hda (fun e e1 e2 => ?_) (fun e e1 e2 e3 => (hr e e1 (by omega) e3).cong fun k g1 g2 => r2 k (.inr (by omega))) c c1 c2
      by_cases he : e < a
      · refine (hb e e1 he).cong fun k g1 g2 => r2 k (.inl ?_)
        have := dvd_next hd e1 he
        omega
      · have : e = a := by
          by_cases hea : e = a
          · exact hea
          · have := dvd_next e1 hd (by omega)
            omega
        subst this
        exact r1
    · rw [if_neg d]
      have hca : ¬ c < a → c = a := fun he => by
        by_cases hea : c = a
        · exact hea
        · have := dvd_next c1 hd (by omega)
          omega
      by_cases d2 : a + s < n
      · rw [if_pos d2]
        obtain ⟨r1, r2⟩ := bk_merge (b := n) hu hl hs (hr a hsa (Nat.le_refl _) (by omega)) (hr _ hsa2 (by omega) (by omega)) (by omega) (by omega)
        by_cases he : c < a
        · refine (hb c c1 he).cong fun k g1 g2 => r2 k (.inl ?_)
          have := dvd_next hd c1 he
          omega
        · obtain rfl := hca he
          exact r1
      · rw [if_neg d2]
        by_cases he : c < a
        · exact hb c c1 he
        · obtain rfl := hca he
          have := hr c hsa (Nat.le_refl _) c2
          have e1 : min (c + s) n = n := by omega
          have e2 : min (c + 2 * s) n = n := by omega
          rw [Bkk, e1] at this
          rw [Bkk, e2]
          exact this

theorem stP_bk {n : Nat} {f0 : Nat → Nat} (hu : ∀ k l, k < l → l < n → rk (f0 k) < rk (f0 l)) : ∀ (f : Nat) (L : List Nat) (s : Nat), 0 < s → n < f + s → L.length = n → (∀ c, s ∣ c → c < n → Bkk key rk f0 (gt L) s n c) → Srt key rk (gt (stP key n f L s)) 0 n ∧ Ib f0 (gt (stP key n f L s)) 0 n
  | 0, L, s, h1, h2, hl, hb => by
    by_cases hn : n = 0
    · subst hn
      exact ⟨fun i j h1 h2 h3 => by omega, ⟨fun k h1 h2 => by omega, fun k h1 h2 => by omega⟩⟩
    · have := hb 0 (Nat.dvd_zero _) (by omega)
      rw [Bkk, show min (0 + s) n = n by omega] at this
      exact this
  | f + 1, L, s, h1, h2, hl, hb => by
    rw [stP]
    by_cases c : s < n
    · rw [if_pos c]
      exact stP_bk hu f _ (2 * s) (by omega) (by omega) (by rw [stM_len]; exact hl) (stM_bk h1 hu (n + 1) L 0 (by omega) (by omega) hl (Nat.dvd_zero _) (fun c _ h => by omega) (fun c h1 _ h3 => hb c h1 h3))
    · rw [if_neg c]
      by_cases hn : n = 0
      · subst hn
        exact ⟨fun i j h1 h2 h3 => by omega, ⟨fun k h1 h2 => by omega, fun k h1 h2 => by omega⟩⟩
      · have := hb 0 (Nat.dvd_zero _) (by omega)
        rw [Bkk, show min (0 + s) n = n by omega] at this
        exact this

/-- A list that rises is in order then, and has the same elements. -/
theorem stab_srt {n : Nat} {L : List Nat} (hl : L.length = n) (hu : ∀ k l, k < l → l < n → rk (gt L k) < rk (gt L l)) : Srt key rk (gt (stab key n L)) 0 n ∧ Ib (gt L) (gt (stab key n L)) 0 n :=
  stP_bk hu (n + 1) _ 20 (by omega) (by omega) (by rw [stI_len]; exact hl) (stI_bk hu (n + 1) L 0 (by omega) (by omega) hl (Nat.dvd_zero _) (fun c _ h => by omega) (fun _ _ => rfl))
end

end Go.Ab
/-
  The sort of a list of sets: ranges that change places, and rotations, walked.
-/
namespace Go.Ab
open Go.Proofs
set_option linter.unusedSimpArgs false
set_option linter.unusedVariables false
set_option maxRecDepth 100000

variable {H : Heap}

theorem swR_loop {p : Nat} (hp : p < H.length) (a b c : Nat) (n : Nat) (hn : n ≤ 100000) (hab : a + c ≤ n ∧ b + c ≤ n) (R0 : List Nat) :
    ∀ (q j : Nat), j + q = c → ∀ (L : List Nat), L.length = n → swR a b L j q = R0 → ∀ E : Env, E.get 0 = .gsl p n → E.get 1 = I a → E.get 2 = I b → E.get 3 = I c → E.get 10 = I j →
    Option.map (finishC H.length) (execL cfg0 prog0 ⟨120, none, false, H.length⟩ (todoAt Tryz.f120 1) ⟨E, [], GH H p L, none⟩) = some ⟨.ret (.tup []), GH H p R0, none⟩ := by
  intro q
  skip
  induction q with
  | zero =>
    intro j hj L hL hr E g0 g1 g2 g3 g10
    have hk' : ¬ (j : Int) < ((c : Nat) : Int) := by omega
    simp only [swR] at hr
    subst hr
    simp only [loopIt, todoPast, todoAt, todoOf, firstReg, ↓reduceIte, Option.some.injEq, Nat.reduceEqDiff, reduceCtorEq, Tryz.f120]
    rw [execL_inLoop]
    simp (maxSteps := 1000000) (implicitDefEqProofs := false) (disch := first | rfl | omega | assumption) only [go_sem, g0, g1, g2, g3, g10, ltT, ltF, leT, leF, hk']
  | succ q ih =>
    intro j hj L hL hr E g0 g1 g2 g3 g10
    have hk' : (j : Int) < ((c : Nat) : Int) := by omega
    have hk2 : j < c := by omega
    simp only [swR] at hr
    have f1 := @GH_idx H p n hp
    have f2 := @GH_load H p n hp
    have f3 := @GH_store H p n H.length hp
    have e1 : (a : Int) + j = ((a + j : Nat) : Int) := rfl
    have e2 : (b : Int) + j = ((b + j : Nat) : Int) := rfl
    have hL2 : (L.set (a + j) (L.getD (b + j) 0)).length = n := by rw [List.length_set]; exact hL
    simp only [loopIt, todoPast, todoAt, todoOf, firstReg, ↓reduceIte, Option.some.injEq, Nat.reduceEqDiff, reduceCtorEq, Tryz.f120]
    rw [execL_inLoop]
    simp (maxSteps := 1000000) (implicitDefEqProofs := false) (disch := first | rfl | omega | assumption) only [go_sem, g0, g1, g2, g3, g10, ltT, ltF, leT, leF, hk']
    rw [chkK_of]; rotate_left; kernel_rfl
    simp (maxSteps := 1000000) (implicitDefEqProofs := false) (disch := first | rfl | omega | assumption) only [go_sem, g0, g1, g2, g3, g10, ltT, ltF, leT, leF, hk', f1, f2, f3, e1, e2]
    exact ih (j + 1) (by omega) (swp L (a + j) (b + j)) (by rw [swp_len]; exact hL) hr _ (by exact g0) (by exact g1) (by exact g2) (by exact g3) (by rfl)

theorem so_swR {fn : Fn} {cap : List AV} {p : Nat} (hp : p < H.length) {a b c n : Nat} (hn : n ≤ 100000) (hab : a + c ≤ n ∧ b + c ≤ n) {L : List Nat} (hL : L.length = n) :
    callFL cfg0 prog0 false 120 [.gsl p n, I a, I b, I c, .func fn [] cap] (GH H p L) none = some ⟨.ret (.tup []), GH H p (swR a b L 0 c), none⟩ := by
  have hlen : (GH H p L).length = H.length := by simp [GH]
  have h1 := swR_loop hp a b c n hn hab (swR a b L 0 c) c 0 (by omega) L hL rfl
  refine (callFL_eq fn120 rfl (by simp [Tryz.f120])).trans ?_
  simp (maxSteps := 1000000) (implicitDefEqProofs := false) (disch := first | rfl | omega | assumption) only [go_sem, ltT, ltF, leT, leF, hlen]
  exact h1 _ (by rfl) (by rfl) (by rfl) (by rfl) (by rfl)

theorem rot_loop {fn : Fn} {cap : List AV} {p : Nat} (hp : p < H.length) (m : Nat) (n : Nat) (hn : n ≤ 100000) (N : Nat) (R0 : List Nat) :
    ∀ (q j : Nat), j + q = N → ∀ (L : List Nat), ∀ (x y : Nat), L.length = n → 0 < x → 0 < y → x ≤ m → m + y ≤ n → x + y ≤ q → rot m q L x y = R0 → ∀ E : Env, E.get 0 = .gsl p n → E.get 2 = I m → E.get 4 = .func fn [] cap → E.get 10 = I x → E.get 11 = I y →
    Option.map (finishC H.length) (execL cfg0 prog0 ⟨119, none, false, H.length⟩ (todoAt Tryz.f119 2) ⟨E, [], GH H p L, none⟩) = some ⟨.ret (.tup []), GH H p R0, none⟩ := by
  intro q
  skip
  induction q with
  | zero =>
    intro j hj L x y hL hx hy hxm hym hq hr E g0 g2 g4 g10 g11
    have hk' : ¬ (j : Int) < ((N : Nat) : Int) := by omega
    simp only [loopIt, todoPast, todoAt, todoOf, firstReg, ↓reduceIte, Option.some.injEq, Nat.reduceEqDiff, reduceCtorEq, Tryz.f119]
    rw [execL_inLoop]
    exfalso
    omega
  | succ q ih =>
    intro j hj L x y hL hx hy hxm hym hq hr E g0 g2 g4 g10 g11
    have hk' : (j : Int) < ((N : Nat) : Int) := by omega
    have hk2 : j < N := by omega
    rw [rot] at hr
    have e1 : (m : Int) - x = ((m - x : Nat) : Int) := by omega
    have e2 : (m : Int) + y - x = ((m + y - x : Nat) : Int) := by omega
    by_cases c : x = y
    · subst c
      rw [if_pos rfl] at hr
      subst hr
      have h1 := @so_swR H fn cap p hp (m - x) m x n hn (by omega) L hL
      have z : ((x : Int) != x) = false := by simp
      simp only [loopIt, todoPast, todoAt, todoOf, firstReg, ↓reduceIte, Option.some.injEq, Nat.reduceEqDiff, reduceCtorEq, Tryz.f119]
      rw [execL_inLoop]
      simp (maxSteps := 1000000) (implicitDefEqProofs := false) (disch := first | rfl | omega | assumption) only [go_sem, g0, g2, g4, g10, g11, ltT, ltF, leT, leF, hk', z, e1, h1]
      done
    · rw [if_neg c] at hr
      have z : ((x : Int) != y) = true := by simp; omega
      by_cases d : y < x
      · rw [if_pos d] at hr
        have h1 := @so_swR H fn cap p hp (m - x) m y n hn (by omega) L hL
        have e3 : (x : Int) - y = ((x - y : Nat) : Int) := by omega
        simp only [loopIt, todoPast, todoAt, todoOf, firstReg, ↓reduceIte, Option.some.injEq, Nat.reduceEqDiff, reduceCtorEq, Tryz.f119]
        rw [execL_inLoop]
        simp (maxSteps := 1000000) (implicitDefEqProofs := false) (disch := first | rfl | omega | assumption) only [go_sem, g0, g2, g4, g10, g11, ltT, ltF, leT, leF, hk', z, e1, h1, e3]
        exact ih (j + 1) (by omega) _ (x - y) y (by rw [swR_len]; exact hL) (by omega) hy (by omega) hym (by omega) hr _ (by exact g0) (by exact g2) (by exact g4) (by rfl) (by exact g11)
      · rw [if_neg d] at hr
        have h1 := @so_swR H fn cap p hp (m - x) (m + y - x) x n hn (by omega) L hL
        have e3 : (y : Int) - x = ((y - x : Nat) : Int) := by omega
        simp only [loopIt, todoPast, todoAt, todoOf, firstReg, ↓reduceIte, Option.some.injEq, Nat.reduceEqDiff, reduceCtorEq, Tryz.f119]
        rw [execL_inLoop]
        simp (maxSteps := 1000000) (implicitDefEqProofs := false) (disch := first | rfl | omega | assumption) only [go_sem, g0, g2, g4, g10, g11, ltT, ltF, leT, leF, hk', z, e1, e2, h1, e3]
        exact ih (j + 1) (by omega) _ x (y - x) (by rw [swR_len]; exact hL) hx (by omega) hxm (by omega) (by omega) hr _ (by exact g0) (by exact g2) (by exact g4) (by exact g10) (by rfl)

theorem so_rot {fn : Fn} {cap : List AV} {p : Nat} (hp : p < H.length) {a m b n : Nat} (hn : n ≤ 100000) (h1 : a < m) (h2 : m < b) (h3 : b ≤ n) {L : List Nat} (hL : L.length = n) :
    callFL cfg0 prog0 false 119 [.gsl p n, I a, I m, I b, .func fn [] cap] (GH H p L) none = some ⟨.ret (.tup []), GH H p (rot m (b - a) L (m - a) (b - m)), none⟩ := by
  have hlen : (GH H p L).length = H.length := by simp [GH]
  have e1 : (m : Int) - a = ((m - a : Nat) : Int) := by omega
  have e2 : (b : Int) - m = ((b - m : Nat) : Int) := by omega
  have h := @rot_loop H fn cap p hp m n hn (b - a) _ (b - a) 0 (by omega) L (m - a) (b - m) hL (by omega) (by omega) (by omega) (by omega) (by omega) rfl
  refine (callFL_eq fn119 rfl (by simp [Tryz.f119])).trans ?_
  simp (maxSteps := 1000000) (implicitDefEqProofs := false) (disch := first | rfl | omega | assumption) only [go_sem, ltT, ltF, leT, leF, hlen, e1, e2]
  exact h _ (by rfl) (by rfl) (by rfl) (by rfl) (by rfl)

end Go.Ab
/-
  The sort of a list of sets: two lists become one, walked.
-/
namespace Go.Ab
open Go.Proofs
set_option linter.unusedSimpArgs false
set_option linter.unusedVariables false
set_option maxRecDepth 100000

variable {H : Heap}

theorem bs_bd (P : Nat → Bool) : ∀ (f i j : Nat), i ≤ j → i ≤ bsr P f i j ∧ bsr P f i j ≤ j
  | 0, i, j, h => ⟨Nat.le_refl _, h⟩
  | f + 1, i, j, h => by
    rw [bsr]
    split
    · split
      · have := bs_bd P f ((i + j) / 2 + 1) j (by omega)
        omega
      · have := bs_bd P f i ((i + j) / 2) (by omega)
        omega
    · exact ⟨Nat.le_refl _, h⟩

theorem small_swR {B : Nat} (a b : Nat) : ∀ (q i : Nat) (L : List Nat), a + i + q ≤ L.length → b + i + q ≤ L.length → Small B L → Small B (swR a b L i q)
  | 0, _, _, _, _, h => h
  | q + 1, i, L, h1, h2, h => by
    rw [swR]
    exact small_swR a b q (i + 1) _ (by rw [swp_len]; omega) (by rw [swp_len]; omega) (swp_mem h (by omega) (by omega))

theorem small_rot {B : Nat} (m : Nat) : ∀ (f : Nat) (L : List Nat) (i j : Nat), i ≤ m → m + j ≤ L.length → Small B L → Small B (rot m f L i j)
  | 0, _, _, _, _, _, h => h
  | f + 1, L, i, j, h1, h2, h => by
    rw [rot]
    split
    · exact small_swR _ _ _ _ _ (by omega) (by omega) h
    · split
      · exact small_rot m f _ _ _ (by omega) (by rw [swR_len]; omega) (small_swR _ _ _ _ _ (by omega) (by omega) h)
      · exact small_rot m f _ _ _ (by omega) (by rw [swR_len]; omega) (small_swR _ _ _ _ _ (by omega) (by omega) h)

theorem small_upS {B : Nat} : ∀ (q k : Nat) (L : List Nat), k + q < L.length → Small B L → Small B (upS L k q)
  | 0, _, _, _, h => h
  | q + 1, k, L, h1, h => by
    rw [upS]
    exact small_upS q (k + 1) _ (by rw [swp_len]; omega) (swp_mem h (by omega) (by omega))

theorem small_dnS {B : Nat} : ∀ (q k : Nat) (L : List Nat), k + q < L.length → Small B L → Small B (dnS L k q)
  | 0, _, _, _, h => h
  | q + 1, k, L, h1, h => by
    rw [dnS]
    exact small_dnS q k _ (by rw [swp_len]; omega) (swp_mem h (by omega) (by omega))

/-- Where the cut is. -/
theorem symS_bd (key : Nat → Int) (L : List Nat) {a m b : Nat} (h1 : a < m) (h2 : m < b) : a ≤ symS key L a m b ∧ symS key L a m b ≤ m ∧ symS key L a m b ≤ (a + b) / 2 ∧ m ≤ (a + b) / 2 + m - symS key L a m b ∧ (a + b) / 2 + m - symS key L a m b ≤ b := by
  simp only [symS]
  have := bs_bd (fun c => !decide (key (gt L ((a + b) / 2 + m - 1 - c)) - key (gt L c) < 0)) ((if (a + b) / 2 < m then (a + b) / 2 else m) - (if (a + b) / 2 < m then (a + b) / 2 + m - b else a) + 1) (if (a + b) / 2 < m then (a + b) / 2 + m - b else a) (if (a + b) / 2 < m then (a + b) / 2 else m) (by split <;> omega)
  generalize bsr _ _ _ _ = t at this ⊢
  split at this <;> omega

theorem small_sym {B : Nat} (key : Nat → Int) : ∀ (f : Nat) (L : List Nat) (a m b : Nat), a < m → m < b → b ≤ L.length → Small B L → Small B (sym key f L a m b)
  | 0, _, _, _, _, _, _, _, h => h
  | f + 1, L, a, m, b, h1, h2, h3, h => by
    rw [sym]
    split
    · rw [symA]
      have := bs_bd (fun h => decide (key (gt L h) - key (gt L a) < 0)) (b - m + 1) m b (by omega)
      exact small_upS _ _ _ (by omega) h
    · split
      · rw [symB]
        have := bs_bd (fun h => !decide (key (gt L m) - key (gt L h) < 0)) (m - a + 1) a m (by omega)
        exact small_dnS _ _ _ (by omega) h
      · obtain ⟨s1, s2, s3, s4, s5⟩ := symS_bd key L h1 h2
        dsimp only
        generalize symS key L a m b = s at *
        generalize (a + b) / 2 = mid at *
        have g1 : Small B (if s < m ∧ m < mid + m - s then rot m (mid + m - s - s) L (m - s) (mid + m - s - m) else L) := by
          split
          · exact small_rot _ _ _ _ _ (by omega) (by omega) h
          · exact h
        have l1 : (if s < m ∧ m < mid + m - s then rot m (mid + m - s - s) L (m - s) (mid + m - s - m) else L).length = L.length := by
          split
          · rw [rot_len]
          · rfl
        generalize (if s < m ∧ m < mid + m - s then rot m (mid + m - s - s) L (m - s) (mid + m - s - m) else L) = L1 at *
        have g2 : Small B (if a < s ∧ s < mid then sym key f L1 a s mid else L1) := by
          split
          · exact small_sym key f _ _ _ _ (by omega) (by omega) (by omega) g1
          · exact g1
        have l2 : (if a < s ∧ s < mid then sym key f L1 a s mid else L1).length = L.length := by
          split
          · rw [sym_len, l1]
          · exact l1
        generalize (if a < s ∧ s < mid then sym key f L1 a s mid else L1) = L2 at *
        split
        · exact small_sym key f _ _ _ _ (by omega) (by omega) (by omega) g2
        · exact g2

theorem half (x y : Nat) : ((x : Int) + y).fdiv (2 ^ min 1 64) = (((x + y) / 2 : Nat) : Int) := fdivN (x + y) 2
theorem halfw {x y : Nat} (h : x + y ≤ 1000000) : IntKind.u64.wrap ((x : Int) + y) = (x : Int) + y := wrapU (n := x + y) (by omega)

theorem bsA_loop {fn : Fn} {cap : List AV} {key : Nat → Int} {B : Nat} (hc : Cmp fn cap key B) {p : Nat} (hp : p < H.length) (a m b n : Nat) (hn : n ≤ 100000) (han : a < n) (L : List Nat) (hL : L.length = n) (hB : Small B L) (N R0 : Nat) (K : List Item) (R : Option Done) (hK : ∀ E : Env, E.get 0 = .gsl p n → E.get 1 = I a → E.get 2 = I m → E.get 3 = I b → E.get 4 = .func fn [] cap → E.get 10 = I R0 → Option.map (finishC H.length) (execL cfg0 prog0 ⟨117, none, false, H.length⟩ K ⟨E, [], GH H p L, none⟩) = R)  :
    ∀ (q j : Nat), j + q = N → ∀ (x y : Nat), y ≤ n → x ≤ y → y - x < q → bsr (fun h => decide (key (gt L h) - key (gt L a) < 0)) q x y = R0 → ∀ E : Env, E.get 0 = .gsl p n → E.get 1 = I a → E.get 2 = I m → E.get 3 = I b → E.get 4 = .func fn [] cap → E.get 10 = I x → E.get 11 = I y →
    Option.map (finishC H.length) (execL cfg0 prog0 ⟨117, none, false, H.length⟩ (loopIt Tryz.f117 3 :: .inBlock 0 :: K) ⟨E, [], GH H p L, none⟩) = R := by
  intro q
  have f1 := @GH_idx H p n hp
  have f2 := @GH_load H p n hp
  have x1 := hB a (by omega)
  induction q with
  | zero =>
    intro j hj x y hyb hxy hq hr E g0 g1 g2 g3 g4 g10 g11
    have hk' : ¬ (j : Int) < ((N : Nat) : Int) := by omega
    simp only [loopIt, todoPast, todoAt, todoOf, firstReg, ↓reduceIte, Option.some.injEq, Nat.reduceEqDiff, reduceCtorEq, Tryz.f117]
    rw [execL_inLoop]
    exfalso
    omega
  | succ q ih =>
    intro j hj x y hyb hxy hq hr E g0 g1 g2 g3 g4 g10 g11
    have hk' : (j : Int) < ((N : Nat) : Int) := by omega
    have hk2 : j < N := by omega
    rw [bsr] at hr
    by_cases c : x < y
    · rw [if_pos c] at hr
      obtain ⟨h, hh⟩ : ∃ h, (x + y) / 2 = h := ⟨_, rfl⟩
      have e1 := half x y
      have e2 := halfw (x := x) (y := y) (by omega)
      rw [hh] at hr e1
      have e3 : IntKind.i64.wrap (h : Int) = h := w64 (by omega) (by omega)
      have x2 := hB h (by omega)
      have hcc := fun G => hc.call _ _ G x2 x1
      have k1 := hc.bd (L.getD a 0)
      have k2 := hc.bd (L.getD h 0)
      have c' : (x : Int) < y := by omega
      by_cases d : key (L.getD h 0) - key (L.getD a 0) < 0
      · have d' : decide (key (gt L h) - key (gt L a) < 0) = true := by simpa [gt] using d
        rw [if_pos d'] at hr
        simp only [loopIt, todoPast, todoAt, todoOf, firstReg, ↓reduceIte, Option.some.injEq, Nat.reduceEqDiff, reduceCtorEq, Tryz.f117]
        rw [execL_inLoop]
        simp (maxSteps := 1000000) (implicitDefEqProofs := false) (disch := first | rfl | omega | assumption) only [go_sem, g0, g1, g2, g3, g4, g10, g11, ltT, ltF, leT, leF, hk', c', e1, e2, e3]
        rw [chkK_of]; rotate_left; kernel_rfl
        simp (maxSteps := 1000000) (implicitDefEqProofs := false) (disch := first | rfl | omega | assumption) only [go_sem, g0, g1, g2, g3, g4, g10, g11, ltT, ltF, leT, leF, hk', f1, f2, hcc, d]
        exact ih (j + 1) (by omega) (h + 1) y hyb (by omega) (by omega) hr _ (by exact g0) (by exact g1) (by exact g2) (by exact g3) (by exact g4) (by rfl) (by exact g11)
      · have d' : ¬ decide (key (gt L h) - key (gt L a) < 0) = true := by simpa [gt] using d
        rw [if_neg d'] at hr
        simp only [loopIt, todoPast, todoAt, todoOf, firstReg, ↓reduceIte, Option.some.injEq, Nat.reduceEqDiff, reduceCtorEq, Tryz.f117]
        rw [execL_inLoop]
        simp (maxSteps := 1000000) (implicitDefEqProofs := false) (disch := first | rfl | omega | assumption) only [go_sem, g0, g1, g2, g3, g4, g10, g11, ltT, ltF, leT, leF, hk', c', e1, e2, e3]
        rw [chkK_of]; rotate_left; kernel_rfl
        simp (maxSteps := 1000000) (implicitDefEqProofs := false) (disch := first | rfl | omega | assumption) only [go_sem, g0, g1, g2, g3, g4, g10, g11, ltT, ltF, leT, leF, hk', f1, f2, hcc, d]
        exact ih (j + 1) (by omega) x h (by omega) (by omega) (by omega) hr _ (by exact g0) (by exact g1) (by exact g2) (by exact g3) (by exact g4) (by exact g10) (by rfl)
    · rw [if_neg c] at hr
      subst hr
      have c' : ¬ (x : Int) < y := by omega
      simp only [loopIt, todoPast, todoAt, todoOf, firstReg, ↓reduceIte, Option.some.injEq, Nat.reduceEqDiff, reduceCtorEq, Tryz.f117]
      rw [execL_inLoop]
      simp (maxSteps := 1000000) (implicitDefEqProofs := false) (disch := first | rfl | omega | assumption) only [go_sem, g0, g1, g2, g3, g4, g10, g11, ltT, ltF, leT, leF, hk', c']
      exact hK _ (by exact g0) (by exact g1) (by exact g2) (by exact g3) (by exact g4) (by exact g10)

theorem up_loop {p : Nat} (hp : p < H.length) (a i n : Nat) (hn : n ≤ 100000) (hai : a < i ∧ i ≤ n) (R0 : List Nat) :
    ∀ (q j : Nat), j + q = i - 1 - a → ∀ (L : List Nat), L.length = n → upS L (a + j) q = R0 → ∀ E : Env, E.get 0 = .gsl p n → E.get 10 = I i → E.get 13 = I ((a + j : Nat) : Int) →
    Option.map (finishC H.length) (execL cfg0 prog0 ⟨117, none, false, H.length⟩ (todoAt Tryz.f117 9) ⟨E, [], GH H p L, none⟩) = some ⟨.ret (.tup []), GH H p R0, none⟩ := by
  intro q
  skip
  induction q with
  | zero =>
    intro j hj L hL hr E g0 g10 g13
    have hk' : ¬ (j : Int) < ((i - 1 - a : Nat) : Int) := by omega
    simp only [upS] at hr
    subst hr
    simp only [loopIt, todoPast, todoAt, todoOf, firstReg, ↓reduceIte, Option.some.injEq, Nat.reduceEqDiff, reduceCtorEq, Tryz.f117]
    rw [execL_inLoop]
    have c' : ¬ ((a + j : Nat) : Int) < (i : Int) - 1 := by omega
    simp (maxSteps := 1000000) (implicitDefEqProofs := false) (disch := first | rfl | omega | assumption) only [go_sem, g0, g10, g13, ltT, ltF, leT, leF, hk', c']
  | succ q ih =>
    intro j hj L hL hr E g0 g10 g13
    have hk' : (j : Int) < ((i - 1 - a : Nat) : Int) := by omega
    have hk2 : j < i - 1 - a := by omega
    simp only [upS] at hr
    have f1 := @GH_idx H p n hp
    have f2 := @GH_load H p n hp
    have f3 := @GH_store H p n H.length hp
    have c' : ((a + j : Nat) : Int) < (i : Int) - 1 := by omega
    have e1 : ((a + j : Nat) : Int) + 1 = ((a + j + 1 : Nat) : Int) := rfl
    have hL2 : (L.set (a + j) (L.getD (a + j + 1) 0)).length = n := by rw [List.length_set]; exact hL
    simp only [loopIt, todoPast, todoAt, todoOf, firstReg, ↓reduceIte, Option.some.injEq, Nat.reduceEqDiff, reduceCtorEq, Tryz.f117]
    rw [execL_inLoop]
    simp (maxSteps := 1000000) (implicitDefEqProofs := false) (disch := first | rfl | omega | assumption) only [go_sem, g0, g10, g13, ltT, ltF, leT, leF, hk', c']
    rw [chkK_of]; rotate_left; kernel_rfl
    simp (maxSteps := 1000000) (implicitDefEqProofs := false) (disch := first | rfl | omega | assumption) only [go_sem, g0, g10, g13, ltT, ltF, leT, leF, hk', f1, f2, f3, e1]
    exact ih (j + 1) (by omega) (swp L (a + j) (a + j + 1)) (by rw [swp_len]; exact hL) hr _ (by exact g0) (by exact g10) (by rfl)

theorem bsB_loop {fn : Fn} {cap : List AV} {key : Nat → Int} {B : Nat} (hc : Cmp fn cap key B) {p : Nat} (hp : p < H.length) (a m b n : Nat) (hn : n ≤ 100000) (han : m < n) (L : List Nat) (hL : L.length = n) (hB : Small B L) (N R0 : Nat) (K : List Item) (R : Option Done) (hK : ∀ E : Env, E.get 0 = .gsl p n → E.get 1 = I a → E.get 2 = I m → E.get 3 = I b → E.get 4 = .func fn [] cap → E.get 14 = I R0 → Option.map (finishC H.length) (execL cfg0 prog0 ⟨117, none, false, H.length⟩ K ⟨E, [], GH H p L, none⟩) = R)  :
    ∀ (q j : Nat), j + q = N → ∀ (x y : Nat), y ≤ n → x ≤ y → y - x < q → bsr (fun h => !decide (key (gt L m) - key (gt L h) < 0)) q x y = R0 → ∀ E : Env, E.get 0 = .gsl p n → E.get 1 = I a → E.get 2 = I m → E.get 3 = I b → E.get 4 = .func fn [] cap → E.get 14 = I x → E.get 15 = I y →
    Option.map (finishC H.length) (execL cfg0 prog0 ⟨117, none, false, H.length⟩ (loopIt Tryz.f117 15 :: .inBlock 4 :: K) ⟨E, [], GH H p L, none⟩) = R := by
  intro q
  have f1 := @GH_idx H p n hp
  have f2 := @GH_load H p n hp
  have x1 := hB m (by omega)
  induction q with
  | zero =>
    intro j hj x y hyb hxy hq hr E g0 g1 g2 g3 g4 g14 g15
    have hk' : ¬ (j : Int) < ((N : Nat) : Int) := by omega
    simp only [loopIt, todoPast, todoAt, todoOf, firstReg, ↓reduceIte, Option.some.injEq, Nat.reduceEqDiff, reduceCtorEq, Tryz.f117]
    rw [execL_inLoop]
    exfalso
    omega
  | succ q ih =>
    intro j hj x y hyb hxy hq hr E g0 g1 g2 g3 g4 g14 g15
    have hk' : (j : Int) < ((N : Nat) : Int) := by omega
    have hk2 : j < N := by omega
    rw [bsr] at hr
    by_cases c : x < y
    · rw [if_pos c] at hr
      obtain ⟨h, hh⟩ : ∃ h, (x + y) / 2 = h := ⟨_, rfl⟩
      have e1 := half x y
      have e2 := halfw (x := x) (y := y) (by omega)
      rw [hh] at hr e1
      have e3 : IntKind.i64.wrap (h : Int) = h := w64 (by omega) (by omega)
      have x2 := hB h (by omega)
      have hcc := fun G => hc.call _ _ G x1 x2
      have k1 := hc.bd (L.getD m 0)
      have k2 := hc.bd (L.getD h 0)
      have c' : (x : Int) < y := by omega
      by_cases d : key (L.getD m 0) - key (L.getD h 0) < 0
      · have d' : ¬ (!decide (key (gt L m) - key (gt L h) < 0)) = true := by
          simp only [Bool.not_eq_true', decide_eq_false_iff_not, Decidable.not_not]
          exact d
        rw [if_neg d'] at hr
        simp only [loopIt, todoPast, todoAt, todoOf, firstReg, ↓reduceIte, Option.some.injEq, Nat.reduceEqDiff, reduceCtorEq, Tryz.f117]
        rw [execL_inLoop]
        simp (maxSteps := 1000000) (implicitDefEqProofs := false) (disch := first | rfl | omega | assumption) only [go_sem, g0, g1, g2, g3, g4, g14, g15, ltT, ltF, leT, leF, hk', c', e1, e2, e3]
        rw [chkK_of]; rotate_left; kernel_rfl
        simp (maxSteps := 1000000) (implicitDefEqProofs := false) (disch := first | rfl | omega | assumption) only [go_sem, g0, g1, g2, g3, g4, g14, g15, ltT, ltF, leT, leF, hk', f1, f2, hcc, d]
        exact ih (j + 1) (by omega) x h (by omega) (by omega) (by omega) hr _ (by exact g0) (by exact g1) (by exact g2) (by exact g3) (by exact g4) (by exact g14) (by rfl)
      · have d' : (!decide (key (gt L m) - key (gt L h) < 0)) = true := by
          simp only [Bool.not_eq_true', decide_eq_false_iff_not]
          exact d
        rw [if_pos d'] at hr
        simp only [loopIt, todoPast, todoAt, todoOf, firstReg, ↓reduceIte, Option.some.injEq, Nat.reduceEqDiff, reduceCtorEq, Tryz.f117]
        rw [execL_inLoop]
        simp (maxSteps := 1000000) (implicitDefEqProofs := false) (disch := first | rfl | omega | assumption) only [go_sem, g0, g1, g2, g3, g4, g14, g15, ltT, ltF, leT, leF, hk', c', e1, e2, e3]
        rw [chkK_of]; rotate_left; kernel_rfl
        simp (maxSteps := 1000000) (implicitDefEqProofs := false) (disch := first | rfl | omega | assumption) only [go_sem, g0, g1, g2, g3, g4, g14, g15, ltT, ltF, leT, leF, hk', f1, f2, hcc, d]
        exact ih (j + 1) (by omega) (h + 1) y hyb (by omega) (by omega) hr _ (by exact g0) (by exact g1) (by exact g2) (by exact g3) (by exact g4) (by rfl) (by exact g15)
    · rw [if_neg c] at hr
      subst hr
      have c' : ¬ (x : Int) < y := by omega
      simp only [loopIt, todoPast, todoAt, todoOf, firstReg, ↓reduceIte, Option.some.injEq, Nat.reduceEqDiff, reduceCtorEq, Tryz.f117]
      rw [execL_inLoop]
      simp (maxSteps := 1000000) (implicitDefEqProofs := false) (disch := first | rfl | omega | assumption) only [go_sem, g0, g1, g2, g3, g4, g14, g15, ltT, ltF, leT, leF, hk', c']
      exact hK _ (by exact g0) (by exact g1) (by exact g2) (by exact g3) (by exact g4) (by exact g14)

theorem dn_loop {p : Nat} (hp : p < H.length) (i m n : Nat) (hn : n ≤ 100000) (hai : i ≤ m ∧ m < n) (R0 : List Nat) :
    ∀ (q j : Nat), j + q = m - i → ∀ (L : List Nat), L.length = n → dnS L i q = R0 → ∀ E : Env, E.get 0 = .gsl p n → E.get 14 = I i → E.get 17 = I ((i + q : Nat) : Int) →
    Option.map (finishC H.length) (execL cfg0 prog0 ⟨117, none, false, H.length⟩ (todoAt Tryz.f117 21) ⟨E, [], GH H p L, none⟩) = some ⟨.ret (.tup []), GH H p R0, none⟩ := by
  intro q
  skip
  induction q with
  | zero =>
    intro j hj L hL hr E g0 g14 g17
    have hk' : ¬ (j : Int) < ((m - i : Nat) : Int) := by omega
    simp only [dnS] at hr
    subst hr
    simp only [loopIt, todoPast, todoAt, todoOf, firstReg, ↓reduceIte, Option.some.injEq, Nat.reduceEqDiff, reduceCtorEq, Tryz.f117]
    rw [execL_inLoop]
    have c' : ¬ (i : Int) < ((i + 0 : Nat) : Int) := by omega
    simp (maxSteps := 1000000) (implicitDefEqProofs := false) (disch := first | rfl | omega | assumption) only [go_sem, g0, g14, g17, ltT, ltF, leT, leF, hk', c']
  | succ q ih =>
    intro j hj L hL hr E g0 g14 g17
    have hk' : (j : Int) < ((m - i : Nat) : Int) := by omega
    have hk2 : j < m - i := by omega
    simp only [dnS] at hr
    have f1 := @GH_idx H p n hp
    have f2 := @GH_load H p n hp
    have f3 := @GH_store H p n H.length hp
    have c' : (i : Int) < ((i + (q + 1) : Nat) : Int) := by omega
    have e1 : ((i + (q + 1) : Nat) : Int) - 1 = ((i + q : Nat) : Int) := by omega
    have hL2 : (L.set (i + (q + 1)) (L.getD (i + q) 0)).length = n := by rw [List.length_set]; exact hL
    simp only [loopIt, todoPast, todoAt, todoOf, firstReg, ↓reduceIte, Option.some.injEq, Nat.reduceEqDiff, reduceCtorEq, Tryz.f117]
    rw [execL_inLoop]
    simp (maxSteps := 1000000) (implicitDefEqProofs := false) (disch := first | rfl | omega | assumption) only [go_sem, g0, g14, g17, ltT, ltF, leT, leF, hk', c']
    rw [chkK_of]; rotate_left; kernel_rfl
    simp (maxSteps := 1000000) (implicitDefEqProofs := false) (disch := first | rfl | omega | assumption) only [go_sem, g0, g14, g17, ltT, ltF, leT, leF, hk', f1, f2, f3, e1]
    exact ih (j + 1) (by omega) (swp L (i + q + 1) (i + q)) (by rw [swp_len]; exact hL) hr _ (by exact g0) (by exact g14) (by rfl)

theorem bsC_loop {fn : Fn} {cap : List AV} {key : Nat → Int} {B : Nat} (hc : Cmp fn cap key B) {p : Nat} (hp : p < H.length) (a m b n w pp mid : Nat) (hn : n ≤ 100000) (hw : w ≤ 1000000) (L : List Nat) (hL : L.length = n) (hB : Small B L) (N R0 : Nat) (K : List Item) (R : Option Done) (hK : ∀ E : Env, E.get 0 = .gsl p n → E.get 1 = I a → E.get 2 = I m → E.get 3 = I b → E.get 4 = .func fn [] cap → E.get 18 = I mid → E.get 19 = I w → E.get 20 = I R0 → Option.map (finishC H.length) (execL cfg0 prog0 ⟨117, none, false, H.length⟩ K ⟨E, [], GH H p L, none⟩) = R)  :
    ∀ (q j : Nat), j + q = N → ∀ (x y : Nat), y ≤ pp + 1 → y ≤ n → (x < y → pp - x < n) → x ≤ y → y - x < q → bsr (fun c => !decide (key (gt L (pp - c)) - key (gt L c) < 0)) q x y = R0 → ∀ E : Env, E.get 0 = .gsl p n → E.get 1 = I a → E.get 2 = I m → E.get 3 = I b → E.get 4 = .func fn [] cap → E.get 18 = I mid → E.get 19 = I w → E.get 20 = I x → E.get 21 = I y → E.get 22 = I pp →
    Option.map (finishC H.length) (execL cfg0 prog0 ⟨117, none, false, H.length⟩ (loopIt Tryz.f117 33 :: .inBlock 8 :: K) ⟨E, [], GH H p L, none⟩) = R := by
  intro q
  have f1 := @GH_idx H p n hp
  have f2 := @GH_load H p n hp
  induction q with
  | zero =>
    intro j hj x y hyb hyb2 hpx hxy hq hr E g0 g1 g2 g3 g4 g18 g19 g20 g21 g22
    have hk' : ¬ (j : Int) < ((N : Nat) : Int) := by omega
    simp only [loopIt, todoPast, todoAt, todoOf, firstReg, ↓reduceIte, Option.some.injEq, Nat.reduceEqDiff, reduceCtorEq, Tryz.f117]
    rw [execL_inLoop]
    exfalso
    omega
  | succ q ih =>
    intro j hj x y hyb hyb2 hpx hxy hq hr E g0 g1 g2 g3 g4 g18 g19 g20 g21 g22
    have hk' : (j : Int) < ((N : Nat) : Int) := by omega
    have hk2 : j < N := by omega
    rw [bsr] at hr
    by_cases c : x < y
    · rw [if_pos c] at hr
      have hpx' := hpx c
      obtain ⟨h, hh⟩ : ∃ h, (x + y) / 2 = h := ⟨_, rfl⟩
      have e1 := half x y
      have e2 := halfw (x := x) (y := y) (by omega)
      rw [hh] at hr e1
      have e3 : IntKind.i64.wrap (h : Int) = h := w64 (by omega) (by omega)
      have e4 : (pp : Int) - h = ((pp - h : Nat) : Int) := by omega
      have x1 := hB (pp - h) (by omega)
      have x2 := hB h (by omega)
      have hcc := fun G => hc.call _ _ G x1 x2
      have k1 := hc.bd (L.getD (pp - h) 0)
      have k2 := hc.bd (L.getD h 0)
      have c' : (x : Int) < y := by omega
      by_cases d : key (L.getD (pp - h) 0) - key (L.getD h 0) < 0
      · have d' : ¬ (!decide (key (gt L (pp - h)) - key (gt L h) < 0)) = true := by
          simp only [Bool.not_eq_true', decide_eq_false_iff_not, Decidable.not_not]
          exact d
        rw [if_neg d'] at hr
        simp only [loopIt, todoPast, todoAt, todoOf, firstReg, ↓reduceIte, Option.some.injEq, Nat.reduceEqDiff, reduceCtorEq, Tryz.f117]
        rw [execL_inLoop]
        simp (maxSteps := 1000000) (implicitDefEqProofs := false) (disch := first | rfl | omega | assumption) only [go_sem, g0, g1, g2, g3, g4, g18, g19, g20, g21, g22, ltT, ltF, leT, leF, hk', c', e1, e2, e3]
        rw [chkK_of]; rotate_left; kernel_rfl
        simp (maxSteps := 1000000) (implicitDefEqProofs := false) (disch := first | rfl | omega | assumption) only [go_sem, g0, g1, g2, g3, g4, g18, g19, g20, g21, g22, ltT, ltF, leT, leF, hk', f1, f2, hcc, d, e4]
        exact ih (j + 1) (by omega) x h (by omega) (by omega) (by omega) (by omega) (by omega) hr _ (by exact g0) (by exact g1) (by exact g2) (by exact g3) (by exact g4) (by exact g18) (by exact g19) (by exact g20) (by rfl) (by exact g22)
      · have d' : (!decide (key (gt L (pp - h)) - key (gt L h) < 0)) = true := by
          simp only [Bool.not_eq_true', decide_eq_false_iff_not]
          exact d
        rw [if_pos d'] at hr
        simp only [loopIt, todoPast, todoAt, todoOf, firstReg, ↓reduceIte, Option.some.injEq, Nat.reduceEqDiff, reduceCtorEq, Tryz.f117]
        rw [execL_inLoop]
        simp (maxSteps := 1000000) (implicitDefEqProofs := false) (disch := first | rfl | omega | assumption) only [go_sem, g0, g1, g2, g3, g4, g18, g19, g20, g21, g22, ltT, ltF, leT, leF, hk', c', e1, e2, e3]
        rw [chkK_of]; rotate_left; kernel_rfl
        simp (maxSteps := 1000000) (implicitDefEqProofs := false) (disch := first | rfl | omega | assumption) only [go_sem, g0, g1, g2, g3, g4, g18, g19, g20, g21, g22, ltT, ltF, leT, leF, hk', f1, f2, hcc, d, e4]
        exact ih (j + 1) (by omega) (h + 1) y hyb hyb2 (by omega) (by omega) (by omega) hr _ (by exact g0) (by exact g1) (by exact g2) (by exact g3) (by exact g4) (by exact g18) (by exact g19) (by rfl) (by exact g21) (by exact g22)
    · rw [if_neg c] at hr
      subst hr
      have c' : ¬ (x : Int) < y := by omega
      simp only [loopIt, todoPast, todoAt, todoOf, firstReg, ↓reduceIte, Option.some.injEq, Nat.reduceEqDiff, reduceCtorEq, Tryz.f117]
      rw [execL_inLoop]
      simp (maxSteps := 1000000) (implicitDefEqProofs := false) (disch := first | rfl | omega | assumption) only [go_sem, g0, g1, g2, g3, g4, g18, g19, g20, g21, g22, ltT, ltF, leT, leF, hk', c']
      exact hK _ (by exact g0) (by exact g1) (by exact g2) (by exact g3) (by exact g4) (by exact g18) (by exact g19) (by exact g20)

end Go.Ab
/-
  The sort of a list of sets, walked.
-/
namespace Go.Ab
open Go.Proofs
set_option linter.unusedSimpArgs false
set_option linter.unusedVariables false
set_option maxRecDepth 100000

variable {H : Heap}

theorem so_sym_tail {fn : Fn} {cap : List AV} {p n a m b s mid e : Nat} {L L1 L2 L3 : List Nat} (hn : n ≤ 100000) (hb : b ≤ n) (hab : a ≤ s ∧ s ≤ m ∧ m ≤ e ∧ e ≤ b ∧ mid < b) (he : mid + m - s = e) (e6 : ((mid + m : Nat) : Int) - s = (e : Int))
    (d1 : ((s : Int) < m ∧ (m : Int) < e ∧ callFL cfg0 prog0 false 119 [.gsl p n, I s, I m, I (e : Int), .func fn [] cap] (GH H p L) none = some ⟨.ret (.tup []), GH H p L1, none⟩) ∨ ((s : Int) < m ∧ ¬ (m : Int) < e ∧ L = L1) ∨ (¬ (s : Int) < m ∧ L = L1))
    (d2 : ((a : Int) < s ∧ (s : Int) < mid ∧ callFL cfg0 prog0 false 117 [.gsl p n, I a, I s, I mid, .func fn [] cap] (GH H p L1) none = some ⟨.ret (.tup []), GH H p L2, none⟩) ∨ ((a : Int) < s ∧ ¬ (s : Int) < mid ∧ L1 = L2) ∨ (¬ (a : Int) < s ∧ L1 = L2))
    (d3 : ((mid : Int) < e ∧ (e : Int) < b ∧ callFL cfg0 prog0 false 117 [.gsl p n, I mid, I e, I b, .func fn [] cap] (GH H p L2) none = some ⟨.ret (.tup []), GH H p L3, none⟩) ∨ ((mid : Int) < e ∧ ¬ (e : Int) < b ∧ L2 = L3) ∨ (¬ (mid : Int) < e ∧ L2 = L3)) :
    ∀ (E : Env), E.get 0 = .gsl p n → E.get 1 = I a → E.get 2 = I m → E.get 3 = I b → E.get 4 = .func fn [] cap → E.get 18 = I mid → E.get 19 = I ((mid + m : Nat) : Int) → E.get 20 = I s →
        Option.map (finishC H.length) (execL cfg0 prog0 ⟨117, none, false, H.length⟩ (todoPast Tryz.f117 33) ⟨E, [], GH H p L, none⟩) = some ⟨.ret (.tup []), GH H p L3, none⟩ := by
  intro E g0 g1 g2 g3 g4 g18 g19 g20
  simp only [loopIt, todoPast, todoAt, todoOf, firstReg, ↓reduceIte, Option.some.injEq, Nat.reduceEqDiff, reduceCtorEq, Tryz.f117]
  rcases d1 with ⟨u1, v1, w1⟩ | ⟨u1, v1, rfl⟩ | ⟨u1, rfl⟩
  · simp (maxSteps := 1000000) (implicitDefEqProofs := false) (disch := first | rfl | omega | assumption) only [go_sem, ltT, ltF, leT, leF, g0, g1, g2, g3, g4, g18, g19, g20, e6, u1, v1, w1]
    rcases d2 with ⟨u2, v2, w2⟩ | ⟨u2, v2, rfl⟩ | ⟨u2, rfl⟩
    · simp (maxSteps := 1000000) (implicitDefEqProofs := false) (disch := first | rfl | omega | assumption) only [go_sem, ltT, ltF, leT, leF, g0, g1, g2, g3, g4, g18, g19, g20, e6, u1, v1, w1, u2, v2, w2]
      rcases d3 with ⟨u3, v3, w3⟩ | ⟨u3, v3, rfl⟩ | ⟨u3, rfl⟩
      · first | (exfalso; omega) | simp (maxSteps := 1000000) (implicitDefEqProofs := false) (disch := first | rfl | omega | assumption) only [go_sem, ltT, ltF, leT, leF, g0, g1, g2, g3, g4, g18, g19, g20, e6, u1, v1, w1, u2, v2, w2, u3, v3, w3]
      · first | (exfalso; omega) | simp (maxSteps := 1000000) (implicitDefEqProofs := false) (disch := first | rfl | omega | assumption) only [go_sem, ltT, ltF, leT, leF, g0, g1, g2, g3, g4, g18, g19, g20, e6, u1, v1, w1, u2, v2, w2, u3, v3]
      · first | (exfalso; omega) | simp (maxSteps := 1000000) (implicitDefEqProofs := false) (disch := first | rfl | omega | assumption) only [go_sem, ltT, ltF, leT, leF, g0, g1, g2, g3, g4, g18, g19, g20, e6, u1, v1, w1, u2, v2, w2, u3]
    · simp (maxSteps := 1000000) (implicitDefEqProofs := false) (disch := first | rfl | omega | assumption) only [go_sem, ltT, ltF, leT, leF, g0, g1, g2, g3, g4, g18, g19, g20, e6, u1, v1, w1, u2, v2]
      rcases d3 with ⟨u3, v3, w3⟩ | ⟨u3, v3, rfl⟩ | ⟨u3, rfl⟩
      · first | (exfalso; omega) | simp (maxSteps := 1000000) (implicitDefEqProofs := false) (disch := first | rfl | omega | assumption) only [go_sem, ltT, ltF, leT, leF, g0, g1, g2, g3, g4, g18, g19, g20, e6, u1, v1, w1, u2, v2, u3, v3, w3]
      · first | (exfalso; omega) | simp (maxSteps := 1000000) (implicitDefEqProofs := false) (disch := first | rfl | omega | assumption) only [go_sem, ltT, ltF, leT, leF, g0, g1, g2, g3, g4, g18, g19, g20, e6, u1, v1, w1, u2, v2, u3, v3]
      · first | (exfalso; omega) | simp (maxSteps := 1000000) (implicitDefEqProofs := false) (disch := first | rfl | omega | assumption) only [go_sem, ltT, ltF, leT, leF, g0, g1, g2, g3, g4, g18, g19, g20, e6, u1, v1, w1, u2, v2, u3]
    · simp (maxSteps := 1000000) (implicitDefEqProofs := false) (disch := first | rfl | omega | assumption) only [go_sem, ltT, ltF, leT, leF, g0, g1, g2, g3, g4, g18, g19, g20, e6, u1, v1, w1, u2]
      rcases d3 with ⟨u3, v3, w3⟩ | ⟨u3, v3, rfl⟩ | ⟨u3, rfl⟩
      · first | (exfalso; omega) | simp (maxSteps := 1000000) (implicitDefEqProofs := false) (disch := first | rfl | omega | assumption) only [go_sem, ltT, ltF, leT, leF, g0, g1, g2, g3, g4, g18, g19, g20, e6, u1, v1, w1, u2, u3, v3, w3]
      · first | (exfalso; omega) | simp (maxSteps := 1000000) (implicitDefEqProofs := false) (disch := first | rfl | omega | assumption) only [go_sem, ltT, ltF, leT, leF, g0, g1, g2, g3, g4, g18, g19, g20, e6, u1, v1, w1, u2, u3, v3]
      · first | (exfalso; omega) | simp (maxSteps := 1000000) (implicitDefEqProofs := false) (disch := first | rfl | omega | assumption) only [go_sem, ltT, ltF, leT, leF, g0, g1, g2, g3, g4, g18, g19, g20, e6, u1, v1, w1, u2, u3]
  · simp (maxSteps := 1000000) (implicitDefEqProofs := false) (disch := first | rfl | omega | assumption) only [go_sem, ltT, ltF, leT, leF, g0, g1, g2, g3, g4, g18, g19, g20, e6, u1, v1]
    rcases d2 with ⟨u2, v2, w2⟩ | ⟨u2, v2, rfl⟩ | ⟨u2, rfl⟩
    · simp (maxSteps := 1000000) (implicitDefEqProofs := false) (disch := first | rfl | omega | assumption) only [go_sem, ltT, ltF, leT, leF, g0, g1, g2, g3, g4, g18, g19, g20, e6, u1, v1, u2, v2, w2]
      rcases d3 with ⟨u3, v3, w3⟩ | ⟨u3, v3, rfl⟩ | ⟨u3, rfl⟩
      · first | (exfalso; omega) | simp (maxSteps := 1000000) (implicitDefEqProofs := false) (disch := first | rfl | omega | assumption) only [go_sem, ltT, ltF, leT, leF, g0, g1, g2, g3, g4, g18, g19, g20, e6, u1, v1, u2, v2, w2, u3, v3, w3]
      · first | (exfalso; omega) | simp (maxSteps := 1000000) (implicitDefEqProofs := false) (disch := first | rfl | omega | assumption) only [go_sem, ltT, ltF, leT, leF, g0, g1, g2, g3, g4, g18, g19, g20, e6, u1, v1, u2, v2, w2, u3, v3]
      · first | (exfalso; omega) | simp (maxSteps := 1000000) (implicitDefEqProofs := false) (disch := first | rfl | omega | assumption) only [go_sem, ltT, ltF, leT, leF, g0, g1, g2, g3, g4, g18, g19, g20, e6, u1, v1, u2, v2, w2, u3]
    · simp (maxSteps := 1000000) (implicitDefEqProofs := false) (disch := first | rfl | omega | assumption) only [go_sem, ltT, ltF, leT, leF, g0, g1, g2, g3, g4, g18, g19, g20, e6, u1, v1, u2, v2]
      rcases d3 with ⟨u3, v3, w3⟩ | ⟨u3, v3, rfl⟩ | ⟨u3, rfl⟩
      · first | (exfalso; omega) | simp (maxSteps := 1000000) (implicitDefEqProofs := false) (disch := first | rfl | omega | assumption) only [go_sem, ltT, ltF, leT, leF, g0, g1, g2, g3, g4, g18, g19, g20, e6, u1, v1, u2, v2, u3, v3, w3]
      · first | (exfalso; omega) | simp (maxSteps := 1000000) (implicitDefEqProofs := false) (disch := first | rfl | omega | assumption) only [go_sem, ltT, ltF, leT, leF, g0, g1, g2, g3, g4, g18, g19, g20, e6, u1, v1, u2, v2, u3, v3]
      · first | (exfalso; omega) | simp (maxSteps := 1000000) (implicitDefEqProofs := false) (disch := first | rfl | omega | assumption) only [go_sem, ltT, ltF, leT, leF, g0, g1, g2, g3, g4, g18, g19, g20, e6, u1, v1, u2, v2, u3]
    · simp (maxSteps := 1000000) (implicitDefEqProofs := false) (disch := first | rfl | omega | assumption) only [go_sem, ltT, ltF, leT, leF, g0, g1, g2, g3, g4, g18, g19, g20, e6, u1, v1, u2]
      rcases d3 with ⟨u3, v3, w3⟩ | ⟨u3, v3, rfl⟩ | ⟨u3, rfl⟩
      · first | (exfalso; omega) | simp (maxSteps := 1000000) (implicitDefEqProofs := false) (disch := first | rfl | omega | assumption) only [go_sem, ltT, ltF, leT, leF, g0, g1, g2, g3, g4, g18, g19, g20, e6, u1, v1, u2, u3, v3, w3]
      · first | (exfalso; omega) | simp (maxSteps := 1000000) (implicitDefEqProofs := false) (disch := first | rfl | omega | assumption) only [go_sem, ltT, ltF, leT, leF, g0, g1, g2, g3, g4, g18, g19, g20, e6, u1, v1, u2, u3, v3]
      · first | (exfalso; omega) | simp (maxSteps := 1000000) (implicitDefEqProofs := false) (disch := first | rfl | omega | assumption) only [go_sem, ltT, ltF, leT, leF, g0, g1, g2, g3, g4, g18, g19, g20, e6, u1, v1, u2, u3]
  · simp (maxSteps := 1000000) (implicitDefEqProofs := false) (disch := first | rfl | omega | assumption) only [go_sem, ltT, ltF, leT, leF, g0, g1, g2, g3, g4, g18, g19, g20, e6, u1]
    rcases d2 with ⟨u2, v2, w2⟩ | ⟨u2, v2, rfl⟩ | ⟨u2, rfl⟩
    · simp (maxSteps := 1000000) (implicitDefEqProofs := false) (disch := first | rfl | omega | assumption) only [go_sem, ltT, ltF, leT, leF, g0, g1, g2, g3, g4, g18, g19, g20, e6, u1, u2, v2, w2]
      rcases d3 with ⟨u3, v3, w3⟩ | ⟨u3, v3, rfl⟩ | ⟨u3, rfl⟩
      · first | (exfalso; omega) | simp (maxSteps := 1000000) (implicitDefEqProofs := false) (disch := first | rfl | omega | assumption) only [go_sem, ltT, ltF, leT, leF, g0, g1, g2, g3, g4, g18, g19, g20, e6, u1, u2, v2, w2, u3, v3, w3]
      · first | (exfalso; omega) | simp (maxSteps := 1000000) (implicitDefEqProofs := false) (disch := first | rfl | omega | assumption) only [go_sem, ltT, ltF, leT, leF, g0, g1, g2, g3, g4, g18, g19, g20, e6, u1, u2, v2, w2, u3, v3]
      · first | (exfalso; omega) | simp (maxSteps := 1000000) (implicitDefEqProofs := false) (disch := first | rfl | omega | assumption) only [go_sem, ltT, ltF, leT, leF, g0, g1, g2, g3, g4, g18, g19, g20, e6, u1, u2, v2, w2, u3]
    · simp (maxSteps := 1000000) (implicitDefEqProofs := false) (disch := first | rfl | omega | assumption) only [go_sem, ltT, ltF, leT, leF, g0, g1, g2, g3, g4, g18, g19, g20, e6, u1, u2, v2]
      rcases d3 with ⟨u3, v3, w3⟩ | ⟨u3, v3, rfl⟩ | ⟨u3, rfl⟩
      · first | (exfalso; omega) | simp (maxSteps := 1000000) (implicitDefEqProofs := false) (disch := first | rfl | omega | assumption) only [go_sem, ltT, ltF, leT, leF, g0, g1, g2, g3, g4, g18, g19, g20, e6, u1, u2, v2, u3, v3, w3]
      · first | (exfalso; omega) | simp (maxSteps := 1000000) (implicitDefEqProofs := false) (disch := first | rfl | omega | assumption) only [go_sem, ltT, ltF, leT, leF, g0, g1, g2, g3, g4, g18, g19, g20, e6, u1, u2, v2, u3, v3]
      · first | (exfalso; omega) | simp (maxSteps := 1000000) (implicitDefEqProofs := false) (disch := first | rfl | omega | assumption) only [go_sem, ltT, ltF, leT, leF, g0, g1, g2, g3, g4, g18, g19, g20, e6, u1, u2, v2, u3]
    · simp (maxSteps := 1000000) (implicitDefEqProofs := false) (disch := first | rfl | omega | assumption) only [go_sem, ltT, ltF, leT, leF, g0, g1, g2, g3, g4, g18, g19, g20, e6, u1, u2]
      rcases d3 with ⟨u3, v3, w3⟩ | ⟨u3, v3, rfl⟩ | ⟨u3, rfl⟩
      · first | (exfalso; omega) | simp (maxSteps := 1000000) (implicitDefEqProofs := false) (disch := first | rfl | omega | assumption) only [go_sem, ltT, ltF, leT, leF, g0, g1, g2, g3, g4, g18, g19, g20, e6, u1, u2, u3, v3, w3]
      · first | (exfalso; omega) | simp (maxSteps := 1000000) (implicitDefEqProofs := false) (disch := first | rfl | omega | assumption) only [go_sem, ltT, ltF, leT, leF, g0, g1, g2, g3, g4, g18, g19, g20, e6, u1, u2, u3, v3]
      · first | (exfalso; omega) | simp (maxSteps := 1000000) (implicitDefEqProofs := false) (disch := first | rfl | omega | assumption) only [go_sem, ltT, ltF, leT, leF, g0, g1, g2, g3, g4, g18, g19, g20, e6, u1, u2, u3]


theorem so_sym {fn : Fn} {cap : List AV} {key : Nat → Int} {B : Nat} (hc : Cmp fn cap key B) {p : Nat} (hp : p < H.length) {n : Nat} (hn : n ≤ 100000) : ∀ (f : Nat) (L : List Nat) (a m b : Nat), b - a ≤ f → a < m → m < b → b ≤ n → L.length = n → Small B L →
    callFL cfg0 prog0 false 117 [.gsl p n, I a, I m, I b, .func fn [] cap] (GH H p L) none = some ⟨.ret (.tup []), GH H p (sym key f L a m b), none⟩ := by
  intro f
  induction f with
  | zero => intro L a m b h1 h2 h3; omega
  | succ f ih =>
    intro L a m b hf ham hmb hbn hL hB
    have hlen : ∀ M, (GH H p M).length = H.length := fun M => by simp [GH]
    rw [sym]
    by_cases c1 : m - a = 1
    · rw [if_pos c1]
      have z1 : ((m : Int) - a == 1) = true := by simp; omega
      have hb := bs_bd (fun h => decide (key (gt L h) - key (gt L a) < 0)) (b - m + 1) m b (by omega)
      have h2 := up_loop hp a (bsr (fun h => decide (key (gt L h) - key (gt L a) < 0)) (b - m + 1) m b) n hn (by omega) (symA key L a m b) _ 0 (Nat.zero_add _) L hL rfl
      refine (callFL_eq fn117 rfl (by simp [Tryz.f117])).trans ?_
      simp (maxSteps := 1000000) (implicitDefEqProofs := false) (disch := first | rfl | omega | assumption) only [go_sem, ltT, ltF, leT, leF, hlen, z1]
      refine bsA_loop hc hp a m b n hn (by omega) L hL hB (b - m + 1) _ _ _ (fun E g0 g1 g2 g3 g4 g10 => ?_) (b - m + 1) 0 (by omega) m b hbn (by omega) (by omega) rfl _ (by rfl) (by rfl) (by rfl) (by rfl) (by rfl) (by rfl) (by rfl)
      simp (maxSteps := 1000000) (implicitDefEqProofs := false) (disch := first | rfl | omega | assumption) only [go_sem, ltT, ltF, leT, leF, g0, g1, g2, g3, g4, g10]
      exact h2 _ (by exact g0) (by exact g10) (by rfl)
    rw [if_neg c1]
    have z1 : ((m : Int) - a == 1) = false := by simp; omega
    by_cases c2 : b - m = 1
    · rw [if_pos c2]
      have z2 : ((b : Int) - m == 1) = true := by simp; omega
      have hb := bs_bd (fun h => !decide (key (gt L m) - key (gt L h) < 0)) (m - a + 1) a m (by omega)
      have h2 := dn_loop hp (bsr (fun h => !decide (key (gt L m) - key (gt L h) < 0)) (m - a + 1) a m) m n hn (by omega) (symB key L a m b) _ 0 (Nat.zero_add _) L hL rfl
      have e : bsr (fun h => !decide (key (gt L m) - key (gt L h) < 0)) (m - a + 1) a m + (m - bsr (fun h => !decide (key (gt L m) - key (gt L h) < 0)) (m - a + 1) a m) = m := by omega
      rw [e] at h2
      refine (callFL_eq fn117 rfl (by simp [Tryz.f117])).trans ?_
      simp (maxSteps := 1000000) (implicitDefEqProofs := false) (disch := first | rfl | omega | assumption) only [go_sem, ltT, ltF, leT, leF, hlen, z1, z2]
      refine bsB_loop hc hp a m b n hn (by omega) L hL hB (m - a + 1) _ _ _ (fun E g0 g1 g2 g3 g4 g14 => ?_) (m - a + 1) 0 (by omega) a m (by omega) (by omega) (by omega) rfl _ (by rfl) (by rfl) (by rfl) (by rfl) (by rfl) (by rfl) (by rfl)
      simp (maxSteps := 1000000) (implicitDefEqProofs := false) (disch := first | rfl | omega | assumption) only [go_sem, ltT, ltF, leT, leF, g0, g1, g2, g3, g4, g14]
      exact h2 _ (by exact g0) (by exact g14) (by rfl)
    rw [if_neg c2]
    have z2 : ((b : Int) - m == 1) = false := by simp; omega
    dsimp only
    obtain ⟨s1, s2, s3, s4, s5⟩ := symS_bd key L ham hmb
    obtain ⟨s, hs⟩ : ∃ s, symS key L a m b = s := ⟨_, rfl⟩
    have hs' := hs
    simp only [symS] at hs'
    rw [hs] at s1 s2 s3 s4 s5 ⊢
    have e0 := half a b
    have e2 := halfw (x := a) (y := b) (by omega)
    obtain ⟨mid, hmid⟩ : ∃ mid, (a + b) / 2 = mid := ⟨_, rfl⟩
    have e3 : IntKind.i64.wrap (mid : Int) = mid := w64 (by omega) (by omega)
    have hab : a < mid ∧ mid < b := by omega
    rw [hmid] at s3 s4 s5 e0 hs' ⊢
    have e4 : (mid : Int) + m = ((mid + m : Nat) : Int) := rfl
    have e5 : ((mid + m : Nat) : Int) - 1 = ((mid + m - 1 : Nat) : Int) := by omega
    have e6 : ((mid + m : Nat) : Int) - s = ((mid + m - s : Nat) : Int) := by omega
    -- the three calls
    have k1 : s < m → m < mid + m - s → callFL cfg0 prog0 false 119 [.gsl p n, I s, I m, I ((mid + m - s : Nat) : Int), .func fn [] cap] (GH H p L) none = some ⟨.ret (.tup []), GH H p (rot m (mid + m - s - s) L (m - s) (mid + m - s - m)), none⟩ := fun h1 h2 => so_rot hp hn h1 h2 (by omega) hL
    obtain ⟨e, he⟩ : ∃ e, mid + m - s = e := ⟨_, rfl⟩
    rw [he] at k1 e6 s4 s5 ⊢
    have k2 : a < s → s < mid → ∀ M : List Nat, M.length = n → Small B M → callFL cfg0 prog0 false 117 [.gsl p n, I a, I s, I mid, .func fn [] cap] (GH H p M) none = some ⟨.ret (.tup []), GH H p (sym key f M a s mid), none⟩ := fun h1 h2 M h3 h4 => ih M a s mid (by omega) h1 h2 (by omega) h3 h4
    have k3 : mid < e → e < b → ∀ M : List Nat, M.length = n → Small B M → callFL cfg0 prog0 false 117 [.gsl p n, I mid, I e, I b, .func fn [] cap] (GH H p M) none = some ⟨.ret (.tup []), GH H p (sym key f M mid e b), none⟩ := fun h1 h2 M h3 h4 => ih M mid e b (by omega) h1 h2 (by omega) h3 h4
    -- what follows the search
    have tail : ∀ (E : Env), E.get 0 = .gsl p n → E.get 1 = I a → E.get 2 = I m → E.get 3 = I b → E.get 4 = .func fn [] cap → E.get 18 = I mid → E.get 19 = I ((mid + m : Nat) : Int) → E.get 20 = I s →
        Option.map (finishC H.length) (execL cfg0 prog0 ⟨117, none, false, H.length⟩ (todoPast Tryz.f117 33) ⟨E, [], GH H p L, none⟩) = some ⟨.ret (.tup []), GH H p (if mid < e ∧ e < b then sym key f (if a < s ∧ s < mid then sym key f (if s < m ∧ m < e then rot m (e - s) L (m - s) (e - m) else L) a s mid else if s < m ∧ m < e then rot m (e - s) L (m - s) (e - m) else L) mid e b else if a < s ∧ s < mid then sym key f (if s < m ∧ m < e then rot m (e - s) L (m - s) (e - m) else L) a s mid else if s < m ∧ m < e then rot m (e - s) L (m - s) (e - m) else L), none⟩ := by
      intro E g0 g1 g2 g3 g4 g18 g19 g20
      have l1 : ∀ M : List Nat, M.length = n → ∀ f' a' m' b', (sym key f' M a' m' b').length = n := fun M h _ _ _ _ => by rw [sym_len]; exact h
      obtain ⟨L1, hL1⟩ : ∃ L1, (if s < m ∧ m < e then rot m (e - s) L (m - s) (e - m) else L) = L1 := ⟨_, rfl⟩
      have hl1 : L1.length = n := by rw [← hL1]; split <;> simp only [rot_len, hL]
      have hB1 : Small B L1 := by
        rw [← hL1]
        split
        · exact small_rot _ _ _ _ _ (by omega) (by omega) hB
        · exact hB
      obtain ⟨L2, hL2⟩ : ∃ L2, (if a < s ∧ s < mid then sym key f L1 a s mid else L1) = L2 := ⟨_, rfl⟩
      have hl2 : L2.length = n := by rw [← hL2]; split <;> simp only [sym_len, hl1]
      have hB2 : Small B L2 := by
        rw [← hL2]
        split
        · exact small_sym _ _ _ _ _ _ (by omega) (by omega) (by omega) hB1
        · exact hB1
      rw [hL1, hL2]
      have d1 : ((s : Int) < m ∧ (m : Int) < e ∧ callFL cfg0 prog0 false 119 [.gsl p n, I s, I m, I (e : Int), .func fn [] cap] (GH H p L) none = some ⟨.ret (.tup []), GH H p L1, none⟩) ∨ ((s : Int) < m ∧ ¬ (m : Int) < e ∧ L = L1) ∨ (¬ (s : Int) < m ∧ L = L1) := by
        by_cases h1 : s < m
        · by_cases h2 : m < e
          · have := k1 h1 h2
            rw [if_pos ⟨h1, h2⟩] at hL1
            rw [hL1] at this
            exact .inl ⟨by omega, by omega, this⟩
          · rw [if_neg (by omega)] at hL1
            exact .inr (.inl ⟨by omega, by omega, hL1⟩)
        · rw [if_neg (by omega)] at hL1
          exact .inr (.inr ⟨by omega, hL1⟩)
      have d2 : ((a : Int) < s ∧ (s : Int) < mid ∧ callFL cfg0 prog0 false 117 [.gsl p n, I a, I s, I mid, .func fn [] cap] (GH H p L1) none = some ⟨.ret (.tup []), GH H p L2, none⟩) ∨ ((a : Int) < s ∧ ¬ (s : Int) < mid ∧ L1 = L2) ∨ (¬ (a : Int) < s ∧ L1 = L2) := by
        by_cases h1 : a < s
        · by_cases h2 : s < mid
          · have := k2 h1 h2 L1 hl1 hB1
            rw [if_pos ⟨h1, h2⟩] at hL2
            rw [hL2] at this
            exact .inl ⟨by omega, by omega, this⟩
          · rw [if_neg (by omega)] at hL2
            exact .inr (.inl ⟨by omega, by omega, hL2⟩)
        · rw [if_neg (by omega)] at hL2
          exact .inr (.inr ⟨by omega, hL2⟩)
      obtain ⟨L3, hL3⟩ : ∃ L3, (if mid < e ∧ e < b then sym key f L2 mid e b else L2) = L3 := ⟨_, rfl⟩
      rw [hL3]
      have d3 : ((mid : Int) < e ∧ (e : Int) < b ∧ callFL cfg0 prog0 false 117 [.gsl p n, I mid, I e, I b, .func fn [] cap] (GH H p L2) none = some ⟨.ret (.tup []), GH H p L3, none⟩) ∨ ((mid : Int) < e ∧ ¬ (e : Int) < b ∧ L2 = L3) ∨ (¬ (mid : Int) < e ∧ L2 = L3) := by
        by_cases h1 : mid < e
        · by_cases h2 : e < b
          · have := k3 h1 h2 L2 hl2 hB2
            rw [if_pos ⟨h1, h2⟩] at hL3
            rw [hL3] at this
            exact .inl ⟨by omega, by omega, this⟩
          · rw [if_neg (by omega)] at hL3
            exact .inr (.inl ⟨by omega, by omega, hL3⟩)
        · rw [if_neg (by omega)] at hL3
          exact .inr (.inr ⟨by omega, hL3⟩)
      exact so_sym_tail hn hbn ⟨s1, s2, s4, s5, hab.2⟩ he e6 d1 d2 d3 E g0 g1 g2 g3 g4 g18 g19 g20
    refine (callFL_eq fn117 rfl (by simp [Tryz.f117])).trans ?_
    by_cases c3 : mid < m
    · simp only [c3, if_true] at hs'
      have c3' : (mid : Int) < m := by omega
      have e7 : ((mid + m : Nat) : Int) - b = ((mid + m - b : Nat) : Int) := by omega
      simp (maxSteps := 1000000) (implicitDefEqProofs := false) (disch := first | rfl | omega | assumption) only [go_sem, ltT, ltF, leT, leF, hlen, z1, z2, e0, e2, e3, e4, e5, c3', e7]
      exact bsC_loop hc hp a m b n (mid + m) (mid + m - 1) mid hn (by omega) L hL hB (mid - (mid + m - b) + 1) _ _ _ tail (mid - (mid + m - b) + 1) 0 (by omega) (mid + m - b) mid (by omega) (by omega) (by omega) (by omega) (by omega) hs' _ (by rfl) (by rfl) (by rfl) (by rfl) (by rfl) (by rfl) (by rfl) (by rfl) (by rfl) (by rfl)
    · simp only [c3, if_false] at hs'
      have c3' : ¬ (mid : Int) < m := by omega
      simp (maxSteps := 1000000) (implicitDefEqProofs := false) (disch := first | rfl | omega | assumption) only [go_sem, ltT, ltF, leT, leF, hlen, z1, z2, e0, e2, e3, e4, e5, c3']
      exact bsC_loop hc hp a m b n (mid + m) (mid + m - 1) mid hn (by omega) L hL hB (m - a + 1) _ _ _ tail (m - a + 1) 0 (by omega) a m (by omega) (by omega) (by omega) (by omega) (by omega) hs' _ (by rfl) (by rfl) (by rfl) (by rfl) (by rfl) (by rfl) (by rfl) (by rfl) (by rfl) (by rfl)

end Go.Ab
/-
  The sort of a list of sets, walked: in blocks.
-/
namespace Go.Ab
open Go.Proofs
set_option linter.unusedSimpArgs false
set_option linter.unusedVariables false
set_option maxRecDepth 100000

variable {H : Heap}

theorem small_ins {B : Nat} (key : Nat → Int) (a : Nat) : ∀ (q i : Nat) (L : List Nat), a < i → i + q ≤ L.length → Small B L → Small B (insOut key a L i q)
  | 0, _, _, _, _, h => h
  | q + 1, i, L, h1, h2, h => by
    rw [insOut]
    exact small_ins key a q (i + 1) _ (by omega) (by rw [insIn_len]; omega) (insIn_small key a _ _ h (by omega))

theorem small_insS {B : Nat} (key : Nat → Int) {L : List Nat} {a b : Nat} (h : b ≤ L.length) (hB : Small B L) : Small B (insS key L a b) := by
  rw [insS]
  by_cases c : a + 1 ≤ b
  · exact small_ins key a _ _ _ (by omega) (by omega) hB
  · rw [show b - (a + 1) = 0 by omega]
    exact hB

def stM1 (key : Nat → Int) (s n : Nat) : Nat → List Nat → Nat → List Nat × Nat
  | 0, L, a => (L, a)
  | f + 1, L, a => if a + 2 * s ≤ n then stM1 key s n f (sym key n L a (a + s) (a + 2 * s)) (a + 2 * s) else (L, a)

theorem stM1_spec (key : Nat → Int) {B : Nat} {s n : Nat} (hs : 0 < s) : ∀ (f : Nat) (L : List Nat) (a : Nat), n < f + a → a ≤ n → L.length = n → Small B L →
    stM key s n f L a = (if (stM1 key s n f L a).2 + s < n then sym key n (stM1 key s n f L a).1 (stM1 key s n f L a).2 ((stM1 key s n f L a).2 + s) n else (stM1 key s n f L a).1) ∧ (stM1 key s n f L a).1.length = n ∧ Small B (stM1 key s n f L a).1 ∧ (stM1 key s n f L a).2 ≤ n
  | 0, L, a, h1, h2, h3, h4 => by omega
  | f + 1, L, a, h1, h2, h3, h4 => by
    rw [stM, stM1]
    by_cases c : a + 2 * s ≤ n
    · rw [if_pos c, if_pos c]
      exact stM1_spec key hs f _ _ (by omega) c (by rw [sym_len]; exact h3) (small_sym key _ _ _ _ _ (by omega) (by omega) (by omega) h4)
    · rw [if_neg c, if_neg c]
      exact ⟨rfl, h3, h4, h2⟩

theorem st3_loop {fn : Fn} {cap : List AV} {key : Nat → Int} {B : Nat} (hc : Cmp fn cap key B) {p : Nat} (hp : p < H.length) (n s : Nat) (hn : n ≤ 100000) (hs : 0 < s ∧ s ≤ 200000) (N : Nat) (R0 : List Nat) (Y : Nat) (K : List Item) (R : Option Done) (hK : ∀ E : Env, E.get 0 = .gsl p n → E.get 1 = I n → E.get 2 = .func fn [] cap → E.get 6 = I s → E.get 7 = I Y → Option.map (finishC H.length) (execL cfg0 prog0 ⟨109, none, false, H.length⟩ K ⟨E, [], GH H p R0, none⟩) = R)  :
    ∀ (q j : Nat), j + q = N → ∀ (L : List Nat), ∀ (a : Nat), L.length = n → Small B L → a ≤ n → n < q + a → stM1 key s n q L a = (R0, Y) → ∀ E : Env, E.get 0 = .gsl p n → E.get 1 = I n → E.get 2 = .func fn [] cap → E.get 6 = I s → E.get 7 = I a → E.get 8 = I ((a + 2 * s : Nat) : Int) →
    Option.map (finishC H.length) (execL cfg0 prog0 ⟨109, none, false, H.length⟩ (loopIt Tryz.f109 9 :: .inBlock 4 :: K) ⟨E, [], GH H p L, none⟩) = R := by
  intro q
  skip
  induction q with
  | zero =>
    intro j hj L a hL hB ha hq hr E g0 g1 g2 g6 g7 g8
    have hk' : ¬ (j : Int) < ((N : Nat) : Int) := by omega
    simp only [loopIt, todoPast, todoAt, todoOf, firstReg, ↓reduceIte, Option.some.injEq, Nat.reduceEqDiff, reduceCtorEq, Tryz.f109]
    rw [execL_inLoop]
    exfalso
    omega
  | succ q ih =>
    intro j hj L a hL hB ha hq hr E g0 g1 g2 g6 g7 g8
    have hk' : (j : Int) < ((N : Nat) : Int) := by omega
    have hk2 : j < N := by omega
    rw [stM1] at hr
    by_cases c : a + 2 * s ≤ n
    · rw [if_pos c] at hr
      have c' : ((a + 2 * s : Nat) : Int) ≤ n := by omega
      have h1 := so_sym hc hp hn n L a (a + s) (a + 2 * s) (by omega) (by omega) (by omega) c hL hB
      have e1 : (a : Int) + s = ((a + s : Nat) : Int) := rfl
      have e2 : (2 : Int) * s = ((2 * s : Nat) : Int) := rfl
      have e3 : ((a + 2 * s : Nat) : Int) + ((2 * s : Nat) : Int) = ((a + 2 * s + 2 * s : Nat) : Int) := rfl
      simp only [loopIt, todoPast, todoAt, todoOf, firstReg, ↓reduceIte, Option.some.injEq, Nat.reduceEqDiff, reduceCtorEq, Tryz.f109]
      rw [execL_inLoop]
      simp (maxSteps := 1000000) (implicitDefEqProofs := false) (disch := first | rfl | omega | assumption) only [go_sem, g0, g1, g2, g6, g7, g8, ltT, ltF, leT, leF, hk', c', e1, h1, e2, e3]
      exact ih (j + 1) (by omega) _ (a + 2 * s) (by rw [sym_len]; exact hL) (small_sym key _ _ _ _ _ (by omega) (by omega) (by omega) hB) c (by omega) hr _ (by exact g0) (by exact g1) (by exact g2) (by exact g6) (by rfl) (by show I _ = I _; congr 1; omega)
    · rw [if_neg c] at hr
      simp only [Prod.mk.injEq] at hr
      obtain ⟨rfl, rfl⟩ := hr
      have c' : ¬ ((a + 2 * s : Nat) : Int) ≤ n := by omega
      simp only [loopIt, todoPast, todoAt, todoOf, firstReg, ↓reduceIte, Option.some.injEq, Nat.reduceEqDiff, reduceCtorEq, Tryz.f109]
      rw [execL_inLoop]
      simp (maxSteps := 1000000) (implicitDefEqProofs := false) (disch := first | rfl | omega | assumption) only [go_sem, g0, g1, g2, g6, g7, g8, ltT, ltF, leT, leF, hk', c']
      exact hK _ (by exact g0) (by exact g1) (by exact g2) (by exact g6) (by exact g7)

theorem st2_loop {fn : Fn} {cap : List AV} {key : Nat → Int} {B : Nat} (hc : Cmp fn cap key B) {p : Nat} (hp : p < H.length) (n : Nat) (hn : n ≤ 100000) (N : Nat) (R0 : List Nat) :
    ∀ (q j : Nat), j + q = N → ∀ (L : List Nat), ∀ (s : Nat), L.length = n → Small B L → 0 < s ∧ s ≤ 200000 → n < q + s → stP key n q L s = R0 → ∀ E : Env, E.get 0 = .gsl p n → E.get 1 = I n → E.get 2 = .func fn [] cap → E.get 6 = I s →
    Option.map (finishC H.length) (execL cfg0 prog0 ⟨109, none, false, H.length⟩ (todoAt Tryz.f109 7) ⟨E, [], GH H p L, none⟩) = some ⟨.ret (.tup []), GH H p R0, none⟩ := by
  intro q
  skip
  induction q with
  | zero =>
    intro j hj L s hL hB hs hq hr E g0 g1 g2 g6
    have hk' : ¬ (j : Int) < ((N : Nat) : Int) := by omega
    simp only [stP] at hr
    subst hr
    simp only [loopIt, todoPast, todoAt, todoOf, firstReg, ↓reduceIte, Option.some.injEq, Nat.reduceEqDiff, reduceCtorEq, Tryz.f109]
    rw [execL_inLoop]
    have c' : ¬ (s : Int) < n := by omega
    simp (maxSteps := 1000000) (implicitDefEqProofs := false) (disch := first | rfl | omega | assumption) only [go_sem, g0, g1, g2, g6, ltT, ltF, leT, leF, hk', c']
  | succ q ih =>
    intro j hj L s hL hB hs hq hr E g0 g1 g2 g6
    have hk' : (j : Int) < ((N : Nat) : Int) := by omega
    have hk2 : j < N := by omega
    rw [stP] at hr
    by_cases c : s < n
    · rw [if_pos c] at hr
      have c' : (s : Int) < n := by omega
      obtain ⟨m1, m2, m3, m4⟩ := stM1_spec key (B := B) (s := s) (n := n) hs.1 (n + 1) L 0 (by omega) (by omega) hL hB
      obtain ⟨x, hx⟩ : ∃ x, stM1 key s n (n + 1) L 0 = x := ⟨_, rfl⟩
      obtain ⟨L', Y⟩ := x
      rw [hx] at m1 m2 m3 m4
      simp only at m1 m2 m3 m4
      rw [m1] at hr
      have e2 : (2 : Int) * s = ((0 + 2 * s : Nat) : Int) := by omega
      have e3 : (s : Int) * 2 = ((2 * s : Nat) : Int) := by omega
      simp only [loopIt, todoPast, todoAt, todoOf, firstReg, ↓reduceIte, Option.some.injEq, Nat.reduceEqDiff, reduceCtorEq, Tryz.f109]
      rw [execL_inLoop]
      simp (maxSteps := 1000000) (implicitDefEqProofs := false) (disch := first | rfl | omega | assumption) only [go_sem, g0, g1, g2, g6, ltT, ltF, leT, leF, hk', c', e2]
      refine st3_loop hc hp n s hn hs (n + 1) L' Y _ _ (fun E g0 g1 g2 g6 g7 => ?_) (n + 1) 0 (by omega) L 0 hL hB (by omega) (by omega) hx _ (by exact g0) (by exact g1) (by exact g2) (by exact g6) (by rfl) (by show I _ = I _; congr 2; omega)
      have e1 : (Y : Int) + s = ((Y + s : Nat) : Int) := rfl
      by_cases d : Y + s < n
      · rw [if_pos d] at hr
        have d' : ((Y + s : Nat) : Int) < n := by omega
        have h1 := so_sym hc hp hn n L' Y (Y + s) n (by omega) (by omega) d (Nat.le_refl _) m2 m3
        simp (maxSteps := 1000000) (implicitDefEqProofs := false) (disch := first | rfl | omega | assumption) only [go_sem, g0, g1, g2, g6, ltT, ltF, leT, leF, hk', g0, g1, g2, g6, g7, e1, d', h1, e3]
        exact ih (j + 1) (by omega) _ (2 * s) (by rw [sym_len]; exact m2) (small_sym key _ _ _ _ _ (by omega) d (by omega) m3) (by omega) (by omega) hr _ (by exact g0) (by exact g1) (by exact g2) (by rfl)
      · rw [if_neg d] at hr
        have d' : ¬ ((Y + s : Nat) : Int) < n := by omega
        simp (maxSteps := 1000000) (implicitDefEqProofs := false) (disch := first | rfl | omega | assumption) only [go_sem, g0, g1, g2, g6, ltT, ltF, leT, leF, hk', g0, g1, g2, g6, g7, e1, d', e3]
        exact ih (j + 1) (by omega) _ (2 * s) m2 m3 (by omega) (by omega) hr _ (by exact g0) (by exact g1) (by exact g2) (by rfl)
    · rw [if_neg c] at hr
      subst hr
      have c' : ¬ (s : Int) < n := by omega
      simp only [loopIt, todoPast, todoAt, todoOf, firstReg, ↓reduceIte, Option.some.injEq, Nat.reduceEqDiff, reduceCtorEq, Tryz.f109]
      rw [execL_inLoop]
      simp (maxSteps := 1000000) (implicitDefEqProofs := false) (disch := first | rfl | omega | assumption) only [go_sem, g0, g1, g2, g6, ltT, ltF, leT, leF, hk', c']

theorem st1_loop {fn : Fn} {cap : List AV} {key : Nat → Int} {B : Nat} (hc : Cmp fn cap key B) {p : Nat} (hp : p < H.length) (n : Nat) (hn : n ≤ 100000) (N : Nat) (R0 : List Nat) :
    ∀ (q j : Nat), j + q = N → ∀ (L : List Nat), ∀ (a : Nat), L.length = n → Small B L → a ≤ n → n < q + a → stI key n q L a = R0 → ∀ E : Env, E.get 0 = .gsl p n → E.get 1 = I n → E.get 2 = .func fn [] cap → E.get 6 = I 20 → E.get 7 = I a → E.get 8 = I ((a + 20 : Nat) : Int) →
    Option.map (finishC H.length) (execL cfg0 prog0 ⟨109, none, false, H.length⟩ (todoAt Tryz.f109 2) ⟨E, [], GH H p L, none⟩) = some ⟨.ret (.tup []), GH H p (stP key n (n + 1) R0 20), none⟩ := by
  intro q
  skip
  induction q with
  | zero =>
    intro j hj L a hL hB ha hq hr E g0 g1 g2 g6 g7 g8
    have hk' : ¬ (j : Int) < ((N : Nat) : Int) := by omega
    simp only [loopIt, todoPast, todoAt, todoOf, firstReg, ↓reduceIte, Option.some.injEq, Nat.reduceEqDiff, reduceCtorEq, Tryz.f109]
    rw [execL_inLoop]
    exfalso
    omega
  | succ q ih =>
    intro j hj L a hL hB ha hq hr E g0 g1 g2 g6 g7 g8
    have hk' : (j : Int) < ((N : Nat) : Int) := by omega
    have hk2 : j < N := by omega
    rw [stI] at hr
    by_cases c : a + 20 ≤ n
    · rw [if_pos c] at hr
      have c' : ((a + 20 : Nat) : Int) ≤ n := by omega
      have h1 := so_ins hc hp hn (a := a) (b := a + 20) (by omega) hL hB
      have e3 : ((a + 20 : Nat) : Int) + 20 = ((a + 20 + 20 : Nat) : Int) := rfl
      simp only [loopIt, todoPast, todoAt, todoOf, firstReg, ↓reduceIte, Option.some.injEq, Nat.reduceEqDiff, reduceCtorEq, Tryz.f109]
      rw [execL_inLoop]
      simp (maxSteps := 1000000) (implicitDefEqProofs := false) (disch := first | rfl | omega | assumption) only [go_sem, g0, g1, g2, g6, g7, g8, ltT, ltF, leT, leF, hk', c', h1, e3]
      exact ih (j + 1) (by omega) _ (a + 20) (by rw [insS_len]; exact hL) (small_insS key (by omega) hB) c (by omega) hr _ (by exact g0) (by exact g1) (by exact g2) (by exact g6) (by rfl) (by rfl)
    · rw [if_neg c] at hr
      have c' : ¬ ((a + 20 : Nat) : Int) ≤ n := by omega
      have h1 := so_ins hc hp hn (a := a) (b := n) (by omega) hL hB
      have h2 := st2_loop hc hp n hn (n + 1) _ (n + 1) 0 (by omega) R0 20 (by rw [← hr, insS_len]; exact hL) (by rw [← hr]; exact small_insS key (by omega) hB) (by omega) (by omega) rfl
      rw [hr] at h1
      simp only [loopIt, todoPast, todoAt, todoOf, firstReg, ↓reduceIte, Option.some.injEq, Nat.reduceEqDiff, reduceCtorEq, Tryz.f109]
      rw [execL_inLoop]
      simp (maxSteps := 1000000) (implicitDefEqProofs := false) (disch := first | rfl | omega | assumption) only [go_sem, g0, g1, g2, g6, g7, g8, ltT, ltF, leT, leF, hk', c', h1]
      exact h2 _ (by exact g0) (by exact g1) (by exact g2) (by exact g6)

theorem so_stable {fn : Fn} {cap : List AV} {key : Nat → Int} {B : Nat} (hc : Cmp fn cap key B) {p : Nat} (hp : p < H.length) {n : Nat} (hn : n ≤ 100000) {L : List Nat} (hL : L.length = n) (hB : Small B L) :
    callFL cfg0 prog0 false 109 [.gsl p n, I n, .func fn [] cap] (GH H p L) none = some ⟨.ret (.tup []), GH H p (stab key n L), none⟩ := by
  have hlen : ∀ M, (GH H p M).length = H.length := fun M => by simp [GH]
  have h1 := st1_loop hc hp n hn (n + 1) _ (n + 1) 0 (by omega) L 0 hL hB (by omega) (by omega) rfl
  refine (callFL_eq fn109 rfl (by simp [Tryz.f109])).trans ?_
  simp (maxSteps := 1000000) (implicitDefEqProofs := false) (disch := first | rfl | omega | assumption) only [go_sem, ltT, ltF, leT, leF, hlen]
  exact h1 _ (by rfl) (by rfl) (by rfl) (by rfl) (by rfl) (by rfl)

theorem so_sort {fn : Fn} {cap : List AV} {key : Nat → Int} {B : Nat} (hc : Cmp fn cap key B) {p : Nat} (hp : p < H.length) {n : Nat} (hn : n ≤ 100000) {L : List Nat} (hL : L.length = n) (hB : Small B L) :
    callFL cfg0 prog0 false 92 [.gsl p n, .func fn [] cap] (GH H p L) none = some ⟨.ret (.tup []), GH H p (stab key n L), none⟩ := by
  have hlen : ∀ M, (GH H p M).length = H.length := fun M => by simp [GH]
  have h1 := so_stable hc hp hn hL hB
  have hg : (GH H p L)[p]? = some (.grow 1 (L.map U)) := List.getElem?_set_self hp
  refine (callFL_eq fn92 rfl (by simp [Tryz.f92])).trans ?_
  simp (maxSteps := 1000000) (implicitDefEqProofs := false) (disch := first | rfl | omega | assumption) only [go_sem, ltT, ltF, leT, leF, hg, h1, hlen, hL, List.length_map]

end Go.Ab
/-
  How many are in a set; the first of a list, walked.
-/
namespace Go.Ab
open Go.Proofs
set_option linter.unusedSimpArgs false
set_option linter.unusedVariables false
set_option maxRecDepth 100000

variable {H : Heap}

/-- How many are in a set. -/
def popF : Nat → Nat → Nat
  | 0, _ => 0
  | f + 1, n => n % 2 + popF f (n / 2)
def pop (n : Nat) : Nat := popF 20 n

theorem popF_le : ∀ f n, popF f n ≤ f
  | 0, _ => Nat.le_refl _
  | f + 1, n => by have := popF_le f (n / 2); simp only [popF]; omega

def M0 : Nat := 6148914691236517205
def M1 : Nat := 3689348814741910323
def M2 : Nat := 1085102592571150095
def y1 (x : Nat) : Nat := (x / 2 &&& M0) + (x &&& M0)
def y2 (x : Nat) : Nat := (y1 x / 4 &&& M1) + (y1 x &&& M1)
def y3 (x : Nat) : Nat := (y2 x / 16 + y2 x) &&& M2
def y4 (x : Nat) : Nat := y3 x + y3 x / 256
def y5 (x : Nat) : Nat := y4 x + y4 x / 65536
def y6 (x : Nat) : Nat := y5 x + y5 x / 4294967296

theorem y_bd : ∀ x < 1024, y1 x < 1024 ∧ y2 x < 1024 ∧ y3 x < 1024 ∧ y4 x < 1024 ∧ y5 x < 1024 ∧ y6 x < 1024 ∧ (y6 x &&& 127) = pop x := by decide +kernel

theorem ones64 {x : Nat} (hx : x < 1024) : callFL cfg0 prog0 false 95 [U x] H none = some ⟨.ret (I (pop x)), H, none⟩ := by
  obtain ⟨b1, b2, b3, b4, b5, b6, b7⟩ := y_bd x hx
  have f1 : (x : Int).fdiv (2 ^ min 1 64) = ((x / 2 : Nat) : Int) := fdivN x 2
  have f2 : (y1 x : Int).fdiv (2 ^ min 2 64) = ((y1 x / 4 : Nat) : Int) := fdivN (y1 x) 4
  have f3 : (y2 x : Int).fdiv (2 ^ min 4 64) = ((y2 x / 16 : Nat) : Int) := fdivN (y2 x) 16
  have f4 : (y3 x : Int).fdiv (2 ^ min 8 64) = ((y3 x / 256 : Nat) : Int) := fdivN (y3 x) 256
  have f5 : (y4 x : Int).fdiv (2 ^ min 16 64) = ((y4 x / 65536 : Nat) : Int) := fdivN (y4 x) 65536
  have f6 : (y5 x : Int).fdiv (2 ^ min 32 64) = ((y5 x / 4294967296 : Nat) : Int) := fdivN (y5 x) 4294967296
  have g1 : bitsOp .and .u64 ((x / 2 : Nat) : Int) 6148914691236517205 = some ((x / 2 &&& M0 : Nat) : Int) := bitsAnd (b := M0) (by omega) (by decide)
  have g2 : bitsOp .and .u64 (x : Int) 6148914691236517205 = some ((x &&& M0 : Nat) : Int) := bitsAnd (b := M0) (by omega) (by decide)
  have g3 : bitsOp .and .u64 ((y1 x / 4 : Nat) : Int) 3689348814741910323 = some ((y1 x / 4 &&& M1 : Nat) : Int) := bitsAnd (b := M1) (by omega) (by decide)
  have g4 : bitsOp .and .u64 (y1 x : Int) 3689348814741910323 = some ((y1 x &&& M1 : Nat) : Int) := bitsAnd (b := M1) (by omega) (by decide)
  have g5 : bitsOp .and .u64 ((y2 x / 16 + y2 x : Nat) : Int) 1085102592571150095 = some (y3 x : Int) := bitsAnd (b := M2) (by omega) (by decide)
  have g6 : bitsOp .and .i64 (y6 x : Int) 127 = some (pop x : Int) := by rw [← b7]; exact bitsAndI (b := 127) (by omega) (by decide)
  have k1 : IntKind.u64.wrap (((x / 2 &&& M0 : Nat) : Int) + ((x &&& M0 : Nat) : Int)) = (y1 x : Int) := wrapU (n := y1 x) (by omega)
  have k2 : IntKind.u64.wrap (((y1 x / 4 &&& M1 : Nat) : Int) + ((y1 x &&& M1 : Nat) : Int)) = (y2 x : Int) := wrapU (n := y2 x) (by omega)
  have k3 : IntKind.u64.wrap (((y2 x / 16 : Nat) : Int) + (y2 x : Int)) = ((y2 x / 16 + y2 x : Nat) : Int) := wrapU (n := y2 x / 16 + y2 x) (by omega)
  have k4 : IntKind.u64.wrap ((y3 x : Int) + ((y3 x / 256 : Nat) : Int)) = (y4 x : Int) := wrapU (n := y4 x) (by omega)
  have k5 : IntKind.u64.wrap ((y4 x : Int) + ((y4 x / 65536 : Nat) : Int)) = (y5 x : Int) := wrapU (n := y5 x) (by omega)
  have k6 : IntKind.u64.wrap ((y5 x : Int) + ((y5 x / 4294967296 : Nat) : Int)) = (y6 x : Int) := wrapU (n := y6 x) (by omega)
  have k7 : IntKind.i64.wrap (y6 x : Int) = (y6 x : Int) := w64 (by omega) (by omega)
  refine (callFL_eq fn95 rfl (by simp [Tryz.f95])).trans ?_
  simp (maxSteps := 1000000) (implicitDefEqProofs := false) (disch := first | rfl | omega | assumption) only [go_sem, f1, f2, f3, f4, f5, f6, g1, g2, g3, g4, g5, g6, k1, k2, k3, k4, k5, k6, k7]

theorem ones {x : Nat} (hx : x < 1024) : callFL cfg0 prog0 false 76 [U x] H none = some ⟨.ret (I (pop x)), H, none⟩ := by
  have h1 := fun G : Heap => ones64 (H := G) hx
  have h2 : IntKind.u64.wrap (x : Int) = x := wrapU (by omega)
  refine (callFL_eq fn76 rfl (by simp [Tryz.f76])).trans ?_
  simp (maxSteps := 1000000) (implicitDefEqProofs := false) (disch := first | rfl | omega | assumption) only [go_sem, h1, h2]

def popK (n : Nat) : Int := pop n


/-- The first of a list that b holds of. -/
def firstF (b : Nat → Bool) (L : List Nat) (j q : Nat) : Option Nat := findF (fun i => if b (L.getD i 0) then some (L.getD i 0) else none) j q
def firA : Option Nat → AV
  | some x => .tup [U x, .bool true]
  | none => .tup [U 0, .bool false]

theorem firstU_loop {v : AV} {L : List Nat} (hs : SlOk H 1 v (L.map U)) (hl : L.length ≤ 1000000) (fn : Fn) (fst cap : List AV) (b : Nat → Bool) (hc : ∀ (j : Nat) (G : Heap), j < L.length → callVL cfg0 prog0 false fn (fst ++ [U (L.getD j 0)]) cap (H ++ G) none = some ⟨.ret (.bool (b (L.getD j 0))), H ++ G, none⟩) (r : Option Nat) :
    ∀ (q j : Nat), j + q = L.length → firstF b L j q = r → ∀ E : Env, E.get 3 = .ptr H.length 0 → E.get 4 = U 0 → E.get 8 = v → E.get 9 = I L.length → E.get 10 = I j →
    Option.map (finishC H.length) (execL cfg0 prog0 ⟨72, none, false, H.length⟩ (todoAt Tryz.f72 2) ⟨E, [], H ++ [.box (.agg [.func fn fst cap])], none⟩) = some ⟨.ret (firA r), H, none⟩ := by
  intro q
  obtain ⟨a1, a2, a3, a4, a5⟩ := hs.fF (d := 0)
  induction q with
  | zero =>
    intro j hj hr E g3 g4 g8 g9 g10
    have hk' : ¬ (j : Int) < ((L.length : Nat) : Int) := by omega
    simp only [firstF, findF] at hr
    subst hr
    simp only [loopIt, todoPast, todoAt, todoOf, firstReg, ↓reduceIte, Option.some.injEq, Nat.reduceEqDiff, reduceCtorEq, Tryz.f72]
    rw [execL_inLoop]
    simp only [firA]
    simp (maxSteps := 1000000) (implicitDefEqProofs := false) (disch := first | rfl | omega | assumption) only [go_sem, g3, g4, g8, g9, g10, ltT, ltF, leT, leF, hk']
    rfl
  | succ q ih =>
    intro j hj hr E g3 g4 g8 g9 g10
    have hk' : (j : Int) < ((L.length : Nat) : Int) := by omega
    have hk2 : j < L.length := by omega
    have hu : firstF b L j (q + 1) = if b (L.getD j 0) then some (L.getD j 0) else firstF b L (j + 1) q := by
      simp only [firstF, findF]
      by_cases h : b (L.getD j 0) = true
      · simp only [if_pos h]
      · simp only [if_neg h]
    rw [hu] at hr
    have hx := hc j [.box (.agg [.func fn fst cap])] hk2
    obtain ⟨x, hxe⟩ : ∃ x, L.getD j 0 = x := ⟨_, rfl⟩
    rw [hxe] at hr hx
    rcases Bool.eq_false_or_eq_true (b x) with hb | hb
    · rw [hb] at hx
      rw [if_pos hb] at hr
      subst hr
      simp only [firA]
      simp only [loopIt, todoPast, todoAt, todoOf, firstReg, ↓reduceIte, Option.some.injEq, Nat.reduceEqDiff, reduceCtorEq, Tryz.f72]
      rw [execL_inLoop]
      simp (maxSteps := 1000000) (implicitDefEqProofs := false) (disch := first | rfl | omega | assumption) only [go_sem, g3, g4, g8, g9, g10, ltT, ltF, leT, leF, hk', a1, a3, hxe, hx]
      done
    · rw [hb] at hx
      rw [if_neg (by simp [hb])] at hr
      simp only [loopIt, todoPast, todoAt, todoOf, firstReg, ↓reduceIte, Option.some.injEq, Nat.reduceEqDiff, reduceCtorEq, Tryz.f72]
      rw [execL_inLoop]
      simp (maxSteps := 1000000) (implicitDefEqProofs := false) (disch := first | rfl | omega | assumption) only [go_sem, g3, g4, g8, g9, g10, ltT, ltF, leT, leF, hk', a1, a3, hxe, hx]
      exact ih (j + 1) (by omega) hr _ (by exact g3) (by exact g4) (by exact g8) (by exact g9) (by rfl)

theorem fr_firstU {v : AV} {L : List Nat} (hs : SlOk H 1 v (L.map U)) (hl : L.length ≤ 1000000) (fn : Fn) (fst cap : List AV) (b : Nat → Bool) (hf : (AV.func fn fst cap).stored = true)
    (hc : ∀ (j : Nat) (G : Heap), j < L.length → callVL cfg0 prog0 false fn (fst ++ [U (L.getD j 0)]) cap (H ++ G) none = some ⟨.ret (.bool (b (L.getD j 0))), H ++ G, none⟩) :
    callFL cfg0 prog0 false 72 [v, .agg [.func fn fst cap]] H none = some ⟨.ret (firA (firstF b L 0 L.length)), H, none⟩ := by
  have h1 := firstU_loop hs hl fn fst cap b hc _ L.length 0 (by omega) rfl
  have hln := hs.len
  have s0 := hs.scal
  refine (callFL_eq fn72 rfl (by simp [Tryz.f72])).trans ?_
  simp (maxSteps := 1000000) (implicitDefEqProofs := false) (disch := first | rfl | omega | assumption) only [go_sem, ltT, ltF, leT, leF, hln, s0, List.length_map]
  exact h1 _ (by rfl) (by rfl) (by rfl) (by rfl) (by rfl)

end Go.Ab
