/-
  The sort of a list of sets: plain; by insertion, walked.
-/
import Derived.Test.YtlnfcahmdnnabaaDoorKK2
namespace Go.Ab
open Go.Proofs
set_option linter.unusedSimpArgs false
set_option linter.unusedVariables false
set_option maxRecDepth 100000

variable {H : Heap}

/-- Two elements change places. -/
def swp (L : List Nat) (i j : Nat) : List Nat := (L.set i (L.getD j 0)).set j (L.getD i 0)

theorem swp_len (L : List Nat) (i j : Nat) : (swp L i j).length = L.length := by simp [swp]

section
variable (key : Nat → Int)

/-- The element at a + q goes down to its place. -/
def insIn (a : Nat) : List Nat → Nat → List Nat
  | L, 0 => L
  | L, q + 1 => if key (L.getD (a + q + 1) 0) - key (L.getD (a + q) 0) < 0 then insIn a (swp L (a + q + 1) (a + q)) q else L

def insOut (a : Nat) : List Nat → Nat → Nat → List Nat
  | L, _, 0 => L
  | L, i, q + 1 => insOut a (insIn key a L (i - a)) (i + 1) q

def insS (L : List Nat) (a b : Nat) : List Nat := insOut key a L (a + 1) (b - (a + 1))

theorem insIn_len (a : Nat) : ∀ (q : Nat) (L : List Nat), (insIn key a L q).length = L.length
  | 0, _ => rfl
  | q + 1, L => by
    rw [insIn]
    split
    · rw [insIn_len a q, swp_len]
    · rfl

theorem insOut_len (a : Nat) : ∀ (q i : Nat) (L : List Nat), (insOut key a L i q).length = L.length
  | 0, _, _ => rfl
  | q + 1, i, L => by rw [insOut, insOut_len a q, insIn_len]
end

/-- A heap in which a slice has these elements. -/
abbrev GH (H : Heap) (p : Nat) (L : List Nat) : Heap := H.set p (.grow 1 (L.map U))

theorem GH_sl {p : Nat} (hp : p < H.length) (L : List Nat) : SlOk (GH H p L) 1 (.gsl p L.length) (L.map U) :=
  ⟨⟨List.getElem?_set_self hp, by simp⟩, by simp [U, AV.cells]⟩

theorem GH_set {p : Nat} {L M : List Nat} : (GH H p L).set p (.grow 1 (M.map U)) = GH H p M := by simp [GH]

theorem GH_idx {p n : Nat} (hp : p < H.length) {M : List Nat} (te : Ty) (k : Int) (hM : M.length = n) (hs : te.size = 1) (hk : 0 ≤ k ∧ k < n) : idxAddr (GH H p M) te (.gsl p n) k = some (elA (.gsl p n) k 0) := by
  subst hM
  exact (GH_sl hp M).fA (d := 0) |>.2.1 te k hs hk

theorem GH_load {p n : Nat} (hp : p < H.length) {M : List Nat} (te : Ty) (k : Nat) (hM : M.length = n) (hk : k < n) : evLoad (GH H p M) te (elA (.gsl p n) (k : Int) 0) = readPart [U (M.getD k 0)] 0 te := by
  subst hM
  have := (GH_sl hp M).fA (d := 0) |>.2.2.2.1 te (k : Int) 0 (by omega)
  rw [Int.toNat_natCast] at this
  exact this

theorem GH_store {p n b : Nat} (hp : p < H.length) {M : List Nat} {z : Option Value} (k x : Nat) (hM : M.length = n) (hk : k < n) : evStore b (GH H p M) ⟨.int .u64, 1, 8, z⟩ (elA (.gsl p n) (k : Int) 0) (U x) = some (GH H p (M.set k x)) := by
  subst hM
  have h1 : (M.map U)[k]? = some (U (M.getD k 0)) := by simp [hk]
  simp only [elA, Int.toNat_natCast, evStore, GH, List.getElem?_set_self hp, List.length_map, h1]
  simp [AV.lt, writePart, allScalar, AV.cells, AV.scalar, splice, AV.withCells]

/-- What compares: keys. -/
structure Cmp (fn : Fn) (cap : List AV) (key : Nat → Int) (B : Nat) : Prop where
  call : ∀ (x y : Nat) (G : Heap), x < B → y < B → callVL cfg0 prog0 false fn [U x, U y] cap G none = some ⟨.ret (I (key x - key y)), G, none⟩
  bd : ∀ x, -100 ≤ key x ∧ key x ≤ 100

/-- All elements are small. -/
def Small (B : Nat) (L : List Nat) : Prop := ∀ k, k < L.length → L.getD k 0 < B

theorem swp_mem {B : Nat} {L : List Nat} (h : Small B L) {i j : Nat} (hi : i < L.length) (hj : j < L.length) : Small B (swp L i j) := by
  intro k hk
  rw [swp_len] at hk
  have h1 := h i hi
  have h2 := h j hj
  have h3 := h k hk
  have e : (swp L i j).getD k 0 = if j = k then L.getD i 0 else if i = k then L.getD j 0 else L.getD k 0 := by
    simp only [swp, List.getD, List.getElem?_set, List.length_set]
    by_cases h4 : j = k
    · subst h4; simp [hj]
    · by_cases h5 : i = k
      · subst h5; simp [h4, hi]
      · simp [h4, h5]
  rw [e]
  split
  · exact h1
  · split
    · exact h2
    · exact h3

theorem insIn_loop {fn : Fn} {cap : List AV} {key : Nat → Int} {B : Nat} (hc : Cmp fn cap key B) {p : Nat} (hp : p < H.length) (a b i : Nat) (n : Nat) (hn : n ≤ 100000) (hab : i < n) (R0 : List Nat) (K : List Item) (R : Option Done) (hK : ∀ E : Env, E.get 0 = .gsl p n → E.get 1 = I a → E.get 2 = I b → E.get 3 = .func fn [] cap → E.get 8 = I i → Option.map (finishC H.length) (execL cfg0 prog0 ⟨93, none, false, H.length⟩ K ⟨E, [], GH H p R0, none⟩) = R)  :
    ∀ (q j : Nat), j + q = i - a → ∀ (L : List Nat), L.length = n → insIn key a L q = R0 → Small B L → a ≤ i → ∀ E : Env, E.get 0 = .gsl p n → E.get 1 = I a → E.get 2 = I b → E.get 3 = .func fn [] cap → E.get 8 = I i → E.get 9 = I ((a + q : Nat) : Int) →
    Option.map (finishC H.length) (execL cfg0 prog0 ⟨93, none, false, H.length⟩ (loopIt Tryd.f93 4 :: .inBlock 2 :: K) ⟨E, [], GH H p L, none⟩) = R := by
  intro q
  skip
  induction q with
  | zero =>
    intro j hj L hL hr hB hai E g0 g1 g2 g3 g8 g9
    have hk' : ¬ (j : Int) < ((i - a : Nat) : Int) := by omega
    simp only [insIn] at hr
    subst hr
    simp only [loopIt, todoPast, todoAt, todoOf, firstReg, ↓reduceIte, Option.some.injEq, Nat.reduceEqDiff, reduceCtorEq, Tryd.f93]
    rw [execL_inLoop]
    have hz : ¬ (a : Int) < ((a + 0 : Nat) : Int) := by omega
    simp (maxSteps := 1000000) (implicitDefEqProofs := false) (disch := first | rfl | omega | assumption) only [go_sem, ↓reduceIte, Nat.reduceEqDiff, Nat.reduceAdd, Nat.reduceLeDiff, Nat.reduceBEq, Nat.reduceMul, Nat.reduceLT, Int.reduceLT, Int.reduceLE, Int.reduceToNat, Int.reduceNeg, Int.reduceEq, Int.reduceMul, reduceCtorEq, Int.reduceBEq, Int.reduceBNe, Int.reduceAdd, Int.reduceSub, g0, g1, g2, g3, g8, g9, ltT, ltF, leT, leF, hk', hz]
    rw [chkK_of]; rotate_left; kernel_rfl
    simp (maxSteps := 1000000) (implicitDefEqProofs := false) (disch := first | rfl | omega | assumption) only [go_sem, ↓reduceIte, Nat.reduceEqDiff, Nat.reduceAdd, Nat.reduceLeDiff, Nat.reduceBEq, Nat.reduceMul, Nat.reduceLT, Int.reduceLT, Int.reduceLE, Int.reduceToNat, Int.reduceNeg, Int.reduceEq, Int.reduceMul, reduceCtorEq, Int.reduceBEq, Int.reduceBNe, Int.reduceAdd, Int.reduceSub, g0, g1, g2, g3, g8, g9, ltT, ltF, leT, leF, hk', hz]
    exact hK _ (by exact g0) (by exact g1) (by exact g2) (by exact g3) (by exact g8)
  | succ q ih =>
    intro j hj L hL hr hB hai E g0 g1 g2 g3 g8 g9
    have hk' : (j : Int) < ((i - a : Nat) : Int) := by omega
    have hk2 : j < i - a := by omega
    have hz : (a : Int) < ((a + (q + 1) : Nat) : Int) := by omega
    have f1 := @GH_idx H p n hp
    have f2 := @GH_load H p n hp
    have f3 := @GH_store H p n H.length hp
    have hL2 : (L.set (a + (q + 1)) (L.getD (a + q) 0)).length = n := by rw [List.length_set]; exact hL
    have e1 : ((a + (q + 1) : Nat) : Int) - 1 = ((a + q : Nat) : Int) := by omega
    have x1 := hB (a + (q + 1)) (by omega)
    have x2 := hB (a + q) (by omega)
    have hcc := fun G => hc.call _ _ G x1 x2
    have k1 := hc.bd (L.getD (a + (q + 1)) 0)
    have k2 := hc.bd (L.getD (a + q) 0)
    rw [show insIn key a L (q + 1) = if key (L.getD (a + (q + 1)) 0) - key (L.getD (a + q) 0) < 0 then insIn key a (swp L (a + (q + 1)) (a + q)) q else L from rfl] at hr
    by_cases hlt : key (L.getD (a + (q + 1)) 0) - key (L.getD (a + q) 0) < 0
    · rw [if_pos hlt] at hr
      have hsm := swp_mem hB (i := a + (q + 1)) (j := a + q) (by omega) (by omega)
      simp only [loopIt, todoPast, todoAt, todoOf, firstReg, ↓reduceIte, Option.some.injEq, Nat.reduceEqDiff, reduceCtorEq, Tryd.f93]
      rw [execL_inLoop]
      simp (maxSteps := 1000000) (implicitDefEqProofs := false) (disch := first | rfl | omega | assumption) only [go_sem, ↓reduceIte, Nat.reduceEqDiff, Nat.reduceAdd, Nat.reduceLeDiff, Nat.reduceBEq, Nat.reduceMul, Nat.reduceLT, Int.reduceLT, Int.reduceLE, Int.reduceToNat, Int.reduceNeg, Int.reduceEq, Int.reduceMul, reduceCtorEq, Int.reduceBEq, Int.reduceBNe, Int.reduceAdd, Int.reduceSub, g0, g1, g2, g3, g8, g9, ltT, ltF, leT, leF, hk', hz]
      rw [chkK_of]; rotate_left; kernel_rfl
      simp (maxSteps := 1000000) (implicitDefEqProofs := false) (disch := first | rfl | omega | assumption) only [go_sem, ↓reduceIte, Nat.reduceEqDiff, Nat.reduceAdd, Nat.reduceLeDiff, Nat.reduceBEq, Nat.reduceMul, Nat.reduceLT, Int.reduceLT, Int.reduceLE, Int.reduceToNat, Int.reduceNeg, Int.reduceEq, Int.reduceMul, reduceCtorEq, Int.reduceBEq, Int.reduceBNe, Int.reduceAdd, Int.reduceSub, g0, g1, g2, g3, g8, g9, ltT, ltF, leT, leF, hk', hz, f1, f2, f3, e1, hcc, hlt]
      rw [chkK_of]; rotate_left; kernel_rfl
      simp (maxSteps := 1000000) (implicitDefEqProofs := false) (disch := first | rfl | omega | assumption) only [go_sem, ↓reduceIte, Nat.reduceEqDiff, Nat.reduceAdd, Nat.reduceLeDiff, Nat.reduceBEq, Nat.reduceMul, Nat.reduceLT, Int.reduceLT, Int.reduceLE, Int.reduceToNat, Int.reduceNeg, Int.reduceEq, Int.reduceMul, reduceCtorEq, Int.reduceBEq, Int.reduceBNe, Int.reduceAdd, Int.reduceSub, g0, g1, g2, g3, g8, g9, ltT, ltF, leT, leF, hk', hz, f1, f2, f3, e1, hcc, hlt]
      exact ih (j + 1) (by omega) (swp L (a + (q + 1)) (a + q)) (by rw [swp_len]; exact hL) hr hsm hai _ (by exact g0) (by exact g1) (by exact g2) (by exact g3) (by exact g8) (by rfl)
    · rw [if_neg hlt] at hr
      subst hr
      simp only [loopIt, todoPast, todoAt, todoOf, firstReg, ↓reduceIte, Option.some.injEq, Nat.reduceEqDiff, reduceCtorEq, Tryd.f93]
      rw [execL_inLoop]
      simp (maxSteps := 1000000) (implicitDefEqProofs := false) (disch := first | rfl | omega | assumption) only [go_sem, ↓reduceIte, Nat.reduceEqDiff, Nat.reduceAdd, Nat.reduceLeDiff, Nat.reduceBEq, Nat.reduceMul, Nat.reduceLT, Int.reduceLT, Int.reduceLE, Int.reduceToNat, Int.reduceNeg, Int.reduceEq, Int.reduceMul, reduceCtorEq, Int.reduceBEq, Int.reduceBNe, Int.reduceAdd, Int.reduceSub, g0, g1, g2, g3, g8, g9, ltT, ltF, leT, leF, hk', hz]
      rw [chkK_of]; rotate_left; kernel_rfl
      simp (maxSteps := 1000000) (implicitDefEqProofs := false) (disch := first | rfl | omega | assumption) only [go_sem, ↓reduceIte, Nat.reduceEqDiff, Nat.reduceAdd, Nat.reduceLeDiff, Nat.reduceBEq, Nat.reduceMul, Nat.reduceLT, Int.reduceLT, Int.reduceLE, Int.reduceToNat, Int.reduceNeg, Int.reduceEq, Int.reduceMul, reduceCtorEq, Int.reduceBEq, Int.reduceBNe, Int.reduceAdd, Int.reduceSub, g0, g1, g2, g3, g8, g9, ltT, ltF, leT, leF, hk', hz, f1, f2, f3, e1, hcc, hlt]
      exact hK _ (by exact g0) (by exact g1) (by exact g2) (by exact g3) (by exact g8)

theorem insIn_small {B : Nat} (key : Nat → Int) (a : Nat) : ∀ (q : Nat) (L : List Nat), Small B L → a + q < L.length → Small B (insIn key a L q)
  | 0, _, h, _ => h
  | q + 1, L, h, hq => by
    rw [insIn]
    split
    · exact insIn_small key a q _ (swp_mem h (by omega) (by omega)) (by rw [swp_len]; omega)
    · exact h

theorem insOut_loop {fn : Fn} {cap : List AV} {key : Nat → Int} {B : Nat} (hc : Cmp fn cap key B) {p : Nat} (hp : p < H.length) (a b : Nat) (n : Nat) (hn : n ≤ 100000) (hab : a ≤ b ∧ b ≤ n) (R0 : List Nat) :
    ∀ (q j : Nat), j + q = b → ∀ (L : List Nat), L.length = n → insOut key a L j q = R0 → Small B L → a < j → ∀ E : Env, E.get 0 = .gsl p n → E.get 1 = I a → E.get 2 = I b → E.get 3 = .func fn [] cap → E.get 8 = I j →
    Option.map (finishC H.length) (execL cfg0 prog0 ⟨93, none, false, H.length⟩ (todoAt Tryd.f93 1) ⟨E, [], GH H p L, none⟩) = some ⟨.ret (.tup []), GH H p R0, none⟩ := by
  intro q
  skip
  induction q with
  | zero =>
    intro j hj L hL hr hB hai E g0 g1 g2 g3 g8
    have hk' : ¬ (j : Int) < ((b : Nat) : Int) := by omega
    simp only [insOut] at hr
    subst hr
    simp only [loopIt, todoPast, todoAt, todoOf, firstReg, ↓reduceIte, Option.some.injEq, Nat.reduceEqDiff, reduceCtorEq, Tryd.f93]
    rw [execL_inLoop]
    simp (maxSteps := 1000000) (implicitDefEqProofs := false) (disch := first | rfl | omega | assumption) only [go_sem, ↓reduceIte, Nat.reduceEqDiff, Nat.reduceAdd, Nat.reduceLeDiff, Nat.reduceBEq, Nat.reduceMul, Nat.reduceLT, Int.reduceLT, Int.reduceLE, Int.reduceToNat, Int.reduceNeg, Int.reduceEq, Int.reduceMul, reduceCtorEq, Int.reduceBEq, Int.reduceBNe, Int.reduceAdd, Int.reduceSub, g0, g1, g2, g3, g8, ltT, ltF, leT, leF, hk']
  | succ q ih =>
    intro j hj L hL hr hB hai E g0 g1 g2 g3 g8
    have hk' : (j : Int) < ((b : Nat) : Int) := by omega
    have hk2 : j < b := by omega
    simp only [insOut] at hr
    simp only [loopIt, todoPast, todoAt, todoOf, firstReg, ↓reduceIte, Option.some.injEq, Nat.reduceEqDiff, reduceCtorEq, Tryd.f93]
    rw [execL_inLoop]
    simp (maxSteps := 1000000) (implicitDefEqProofs := false) (disch := first | rfl | omega | assumption) only [go_sem, ↓reduceIte, Nat.reduceEqDiff, Nat.reduceAdd, Nat.reduceLeDiff, Nat.reduceBEq, Nat.reduceMul, Nat.reduceLT, Int.reduceLT, Int.reduceLE, Int.reduceToNat, Int.reduceNeg, Int.reduceEq, Int.reduceMul, reduceCtorEq, Int.reduceBEq, Int.reduceBNe, Int.reduceAdd, Int.reduceSub, g0, g1, g2, g3, g8, ltT, ltF, leT, leF, hk']
    refine insIn_loop hc hp a b j n hn (by omega) (insIn key a L (j - a)) _ _ (fun E g0 g1 g2 g3 g8 => ?_) (j - a) 0 (by omega) L hL rfl hB (by omega) _ (by exact g0) (by exact g1) (by exact g2) (by exact g3) (by exact g8) (by rw [show a + (j - a) = j by omega]; rfl)
    simp (maxSteps := 1000000) (implicitDefEqProofs := false) (disch := first | rfl | omega | assumption) only [go_sem, ↓reduceIte, Nat.reduceEqDiff, Nat.reduceAdd, Nat.reduceLeDiff, Nat.reduceBEq, Nat.reduceMul, Nat.reduceLT, Int.reduceLT, Int.reduceLE, Int.reduceToNat, Int.reduceNeg, Int.reduceEq, Int.reduceMul, reduceCtorEq, Int.reduceBEq, Int.reduceBNe, Int.reduceAdd, Int.reduceSub, g0, g1, g2, g3, g8, ltT, ltF, leT, leF, hk']
    exact ih (j + 1) (by omega) _ (by rw [insIn_len]; exact hL) hr (insIn_small key a _ _ hB (by omega)) (by omega) _ (by exact g0) (by exact g1) (by exact g2) (by exact g3) (by rfl)

theorem so_ins {fn : Fn} {cap : List AV} {key : Nat → Int} {B : Nat} (hc : Cmp fn cap key B) {p : Nat} (hp : p < H.length) {a b n : Nat} (hn : n ≤ 100000) (hab : a ≤ b ∧ b ≤ n) {L : List Nat} (hL : L.length = n) (hB : Small B L) :
    callFL cfg0 prog0 false 93 [.gsl p n, I a, I b, .func fn [] cap] (GH H p L) none = some ⟨.ret (.tup []), GH H p (insS key L a b), none⟩ := by
  have hlen : (GH H p L).length = H.length := by simp [GH]
  by_cases h : a + 1 ≤ b
  · have h1 := insOut_loop hc hp a b n hn hab (insS key L a b) (b - (a + 1)) (a + 1) (by omega) L hL rfl hB (by omega)
    refine (callFL_eq fn93 rfl (by simp [Tryd.f93])).trans ?_
    simp (maxSteps := 1000000) (implicitDefEqProofs := false) (disch := first | rfl | omega | assumption) only [go_sem, ↓reduceIte, Nat.reduceEqDiff, Nat.reduceAdd, Nat.reduceLeDiff, Nat.reduceBEq, Nat.reduceMul, Nat.reduceLT, Int.reduceLT, Int.reduceLE, Int.reduceToNat, Int.reduceNeg, Int.reduceEq, Int.reduceMul, reduceCtorEq, Int.reduceBEq, Int.reduceBNe, Int.reduceAdd, Int.reduceSub, ltT, ltF, leT, leF, hlen]
    exact h1 _ (by rfl) (by rfl) (by rfl) (by rfl) (by rfl)
  · have e : insS key L a b = L := by simp only [insS, show b - (a + 1) = 0 by omega, insOut]
    rw [e]
    have hz : ¬ (a : Int) + 1 < b := by omega
    refine (callFL_eq fn93 rfl (by simp [Tryd.f93])).trans ?_
    simp (maxSteps := 1000000) (implicitDefEqProofs := false) (disch := first | rfl | omega | assumption) only [go_sem, ↓reduceIte, Nat.reduceEqDiff, Nat.reduceAdd, Nat.reduceLeDiff, Nat.reduceBEq, Nat.reduceMul, Nat.reduceLT, Int.reduceLT, Int.reduceLE, Int.reduceToNat, Int.reduceNeg, Int.reduceEq, Int.reduceMul, reduceCtorEq, Int.reduceBEq, Int.reduceBNe, Int.reduceAdd, Int.reduceSub, ltT, ltF, leT, leF, hlen]
    rw [execL_inLoop]
    simp (maxSteps := 1000000) (implicitDefEqProofs := false) (disch := first | rfl | omega | assumption) only [go_sem, ↓reduceIte, Nat.reduceEqDiff, Nat.reduceAdd, Nat.reduceLeDiff, Nat.reduceBEq, Nat.reduceMul, Nat.reduceLT, Int.reduceLT, Int.reduceLE, Int.reduceToNat, Int.reduceNeg, Int.reduceEq, Int.reduceMul, reduceCtorEq, Int.reduceBEq, Int.reduceBNe, Int.reduceAdd, Int.reduceSub, ltT, ltF, leT, leF, hz, hlen]

theorem so_short {fn : Fn} {cap : List AV} {key : Nat → Int} {B : Nat} (hc : Cmp fn cap key B) {p : Nat} (hp : p < H.length) {n : Nat} (hn : n < 20) {L : List Nat} (hL : L.length = n) (hB : Small B L) :
    callFL cfg0 prog0 false 86 [.gsl p n, I n, .func fn [] cap] (GH H p L) none = some ⟨.ret (.tup []), GH H p (insS key L 0 n), none⟩ := by
  have hlen : ∀ M, (GH H p M).length = H.length := fun M => by simp [GH]
  have h1 := so_ins hc hp (a := 0) (b := n) (by omega) (by omega) hL hB
  have z1 : ¬ (20 : Int) ≤ n := by omega
  have z2 : ¬ (20 : Int) < n := by omega
  simp only [Int.natCast_zero] at h1
  refine (callFL_eq fn86 rfl (by simp [Tryd.f86])).trans ?_
  simp (maxSteps := 1000000) (implicitDefEqProofs := false) (disch := first | rfl | omega | assumption) only [go_sem, ↓reduceIte, Nat.reduceEqDiff, Nat.reduceAdd, Nat.reduceLeDiff, Nat.reduceBEq, Nat.reduceMul, Nat.reduceLT, Int.reduceLT, Int.reduceLE, Int.reduceToNat, Int.reduceNeg, Int.reduceEq, Int.reduceMul, reduceCtorEq, Int.reduceBEq, Int.reduceBNe, Int.reduceAdd, Int.reduceSub, ltT, ltF, leT, leF, hlen]
  rw [execL_inLoop]
  simp (maxSteps := 1000000) (implicitDefEqProofs := false) (disch := first | rfl | omega | assumption) only [go_sem, ↓reduceIte, Nat.reduceEqDiff, Nat.reduceAdd, Nat.reduceLeDiff, Nat.reduceBEq, Nat.reduceMul, Nat.reduceLT, Int.reduceLT, Int.reduceLE, Int.reduceToNat, Int.reduceNeg, Int.reduceEq, Int.reduceMul, reduceCtorEq, Int.reduceBEq, Int.reduceBNe, Int.reduceAdd, Int.reduceSub, ltT, ltF, leT, leF, z1, h1, hlen]
  rw [execL_inLoop]
  simp (maxSteps := 1000000) (implicitDefEqProofs := false) (disch := first | rfl | omega | assumption) only [go_sem, ↓reduceIte, Nat.reduceEqDiff, Nat.reduceAdd, Nat.reduceLeDiff, Nat.reduceBEq, Nat.reduceMul, Nat.reduceLT, Int.reduceLT, Int.reduceLE, Int.reduceToNat, Int.reduceNeg, Int.reduceEq, Int.reduceMul, reduceCtorEq, Int.reduceBEq, Int.reduceBNe, Int.reduceAdd, Int.reduceSub, ltT, ltF, leT, leF, z2, hlen]

theorem so_sort_short {fn : Fn} {cap : List AV} {key : Nat → Int} {B : Nat} (hc : Cmp fn cap key B) {p : Nat} (hp : p < H.length) {n : Nat} (hn : n < 20) {L : List Nat} (hL : L.length = n) (hB : Small B L) :
    callFL cfg0 prog0 false 68 [.gsl p n, .func fn [] cap] (GH H p L) none = some ⟨.ret (.tup []), GH H p (insS key L 0 n), none⟩ := by
  have hlen : ∀ M, (GH H p M).length = H.length := fun M => by simp [GH]
  have h1 := so_short hc hp hn hL hB
  have hg : (GH H p L)[p]? = some (.grow 1 (L.map U)) := List.getElem?_set_self hp
  refine (callFL_eq fn68 rfl (by simp [Tryd.f68])).trans ?_
  simp (maxSteps := 1000000) (implicitDefEqProofs := false) (disch := first | rfl | omega | assumption) only [go_sem, ↓reduceIte, Nat.reduceEqDiff, Nat.reduceAdd, Nat.reduceLeDiff, Nat.reduceBEq, Nat.reduceMul, Nat.reduceLT, Int.reduceLT, Int.reduceLE, Int.reduceToNat, Int.reduceNeg, Int.reduceEq, Int.reduceMul, reduceCtorEq, Int.reduceBEq, Int.reduceBNe, Int.reduceAdd, Int.reduceSub, ltT, ltF, leT, leF, hg, h1, hlen, hL, List.length_map]

end Go.Ab
/-
  Which readings clash: walked.
-/
namespace Go.Ab
open Go.Proofs
set_option linter.unusedSimpArgs false
set_option linter.unusedVariables false
set_option maxRecDepth 100000

variable {H : Heap}

/-- How many are in a set. -/
def popF : Nat → Nat → Nat
  | 0, _ => 0
  | f + 1, n => n % 2 + popF f (n / 2)
def pop (n : Nat) : Nat := popF 20 n

theorem popF_zero : ∀ f, popF f 0 = 0
  | 0 => rfl
  | f + 1 => by simp [popF, popF_zero f]

theorem popF_le : ∀ f n, popF f n ≤ f
  | 0, _ => Nat.le_refl _
  | f + 1, n => by have := popF_le f (n / 2); simp only [popF]; omega

def M0 : Nat := 6148914691236517205
def M1 : Nat := 3689348814741910323
def M2 : Nat := 1085102592571150095
def y1 (x : Nat) : Nat := (x / 2 &&& M0) + (x &&& M0)
def y2 (x : Nat) : Nat := (y1 x / 4 &&& M1) + (y1 x &&& M1)
def y3 (x : Nat) : Nat := (y2 x / 16 + y2 x) &&& M2
def y4 (x : Nat) : Nat := y3 x + y3 x / 256
def y5 (x : Nat) : Nat := y4 x + y4 x / 65536
def y6 (x : Nat) : Nat := y5 x + y5 x / 4294967296

theorem y_bd : ∀ x < 256, y1 x < 256 ∧ y2 x < 256 ∧ y3 x < 256 ∧ y4 x < 256 ∧ y5 x < 256 ∧ y6 x < 256 ∧ (y6 x &&& 127) = pop x := by decide +kernel

theorem ones64 {x : Nat} (hx : x < 256) : callFL cfg0 prog0 false 88 [U x] H none = some ⟨.ret (I (pop x)), H, none⟩ := by
  obtain ⟨b1, b2, b3, b4, b5, b6, b7⟩ := y_bd x hx
  have f1 : (x : Int).fdiv (2 ^ min 1 64) = ((x / 2 : Nat) : Int) := fdivN x 2
  have f2 : (y1 x : Int).fdiv (2 ^ min 2 64) = ((y1 x / 4 : Nat) : Int) := fdivN (y1 x) 4
  have f3 : (y2 x : Int).fdiv (2 ^ min 4 64) = ((y2 x / 16 : Nat) : Int) := fdivN (y2 x) 16
  have f4 : (y3 x : Int).fdiv (2 ^ min 8 64) = ((y3 x / 256 : Nat) : Int) := fdivN (y3 x) 256
  have f5 : (y4 x : Int).fdiv (2 ^ min 16 64) = ((y4 x / 65536 : Nat) : Int) := fdivN (y4 x) 65536
  have f6 : (y5 x : Int).fdiv (2 ^ min 32 64) = ((y5 x / 4294967296 : Nat) : Int) := fdivN (y5 x) 4294967296
  have g1 : bitsOp .and .u64 ((x / 2 : Nat) : Int) 6148914691236517205 = some ((x / 2 &&& M0 : Nat) : Int) := bitsAnd (b := M0) (by omega) (by decide)
  have g2 : bitsOp .and .u64 (x : Int) 6148914691236517205 = some ((x &&& M0 : Nat) : Int) := bitsAnd (b := M0) (by omega) (by decide)
  have g3 : bitsOp .and .u64 ((y1 x / 4 : Nat) : Int) 3689348814741910323 = some ((y1 x / 4 &&& M1 : Nat) : Int) := bitsAnd (b := M1) (by omega) (by decide)
  have g4 : bitsOp .and .u64 (y1 x : Int) 3689348814741910323 = some ((y1 x &&& M1 : Nat) : Int) := bitsAnd (b := M1) (by omega) (by decide)
  have g5 : bitsOp .and .u64 ((y2 x / 16 + y2 x : Nat) : Int) 1085102592571150095 = some (y3 x : Int) := bitsAnd (b := M2) (by omega) (by decide)
  have g6 : bitsOp .and .i64 (y6 x : Int) 127 = some (pop x : Int) := by rw [← b7]; exact bitsAndI (b := 127) (by omega) (by decide)
  have k1 : IntKind.u64.wrap (((x / 2 &&& M0 : Nat) : Int) + ((x &&& M0 : Nat) : Int)) = (y1 x : Int) := wrapU (n := y1 x) (by omega)
  have k2 : IntKind.u64.wrap (((y1 x / 4 &&& M1 : Nat) : Int) + ((y1 x &&& M1 : Nat) : Int)) = (y2 x : Int) := wrapU (n := y2 x) (by omega)
  have k3 : IntKind.u64.wrap (((y2 x / 16 : Nat) : Int) + (y2 x : Int)) = ((y2 x / 16 + y2 x : Nat) : Int) := wrapU (n := y2 x / 16 + y2 x) (by omega)
  have k4 : IntKind.u64.wrap ((y3 x : Int) + ((y3 x / 256 : Nat) : Int)) = (y4 x : Int) := wrapU (n := y4 x) (by omega)
  have k5 : IntKind.u64.wrap ((y4 x : Int) + ((y4 x / 65536 : Nat) : Int)) = (y5 x : Int) := wrapU (n := y5 x) (by omega)
  have k6 : IntKind.u64.wrap ((y5 x : Int) + ((y5 x / 4294967296 : Nat) : Int)) = (y6 x : Int) := wrapU (n := y6 x) (by omega)
  have k7 : IntKind.i64.wrap (y6 x : Int) = (y6 x : Int) := w64 (by omega) (by omega)
  refine (callFL_eq fn88 rfl (by simp [Tryd.f88])).trans ?_
  simp (maxSteps := 1000000) (implicitDefEqProofs := false) (disch := first | rfl | omega | assumption) only [go_sem, ↓reduceIte, Nat.reduceEqDiff, Nat.reduceAdd, Nat.reduceLeDiff, Nat.reduceBEq, Nat.reduceMul, Nat.reduceLT, Int.reduceLT, Int.reduceLE, Int.reduceToNat, Int.reduceNeg, Int.reduceEq, Int.reduceMul, reduceCtorEq, Int.reduceBEq, Int.reduceBNe, Int.reduceAdd, Int.reduceSub, f1, f2, f3, f4, f5, f6, g1, g2, g3, g4, g5, g6, k1, k2, k3, k4, k5, k6, k7]

theorem ones {x : Nat} (hx : x < 256) : callFL cfg0 prog0 false 70 [U x] H none = some ⟨.ret (I (pop x)), H, none⟩ := by
  have h1 := fun G : Heap => ones64 (H := G) hx
  have h2 : IntKind.u64.wrap (x : Int) = x := wrapU (by omega)
  refine (callFL_eq fn70 rfl (by simp [Tryd.f70])).trans ?_
  simp (maxSteps := 1000000) (implicitDefEqProofs := false) (disch := first | rfl | omega | assumption) only [go_sem, ↓reduceIte, Nat.reduceEqDiff, Nat.reduceAdd, Nat.reduceLeDiff, Nat.reduceBEq, Nat.reduceMul, Nat.reduceLT, Int.reduceLT, Int.reduceLE, Int.reduceToNat, Int.reduceNeg, Int.reduceEq, Int.reduceMul, reduceCtorEq, Int.reduceBEq, Int.reduceBNe, Int.reduceAdd, Int.reduceSub, h1, h2]

def popK (n : Nat) : Int := pop n

theorem cl_cmp : Cmp (.func 69) [] popK 256 where
  call x y G hx hy := by
    have h1 := fun G : Heap => ones (H := G) hx
    have h2 := fun G : Heap => ones (H := G) hy
    have b1 := popF_le 20 x
    have b2 := popF_le 20 y
    have e : IntKind.i64.wrap ((pop x : Int) - (pop y : Int)) = (pop x : Int) - (pop y : Int) := w64 (by simp only [pop]; omega) (by simp only [pop]; omega)
    simp only [callVL_func, List.append_nil, popK]
    refine (callFL_eq fn69 rfl (by simp [Tryd.f69])).trans ?_
    simp (maxSteps := 1000000) (implicitDefEqProofs := false) (disch := first | rfl | omega | assumption) only [go_sem, ↓reduceIte, Nat.reduceEqDiff, Nat.reduceAdd, Nat.reduceLeDiff, Nat.reduceBEq, Nat.reduceMul, Nat.reduceLT, Int.reduceLT, Int.reduceLE, Int.reduceToNat, Int.reduceNeg, Int.reduceEq, Int.reduceMul, reduceCtorEq, Int.reduceBEq, Int.reduceBNe, Int.reduceAdd, Int.reduceSub, h1, h2, e]
  bd x := by have := popF_le 20 x; simp only [popK, pop]; omega

theorem cl_can {l lo lm p : Nat} {w : Wea} (h : BlAt H l lo lm w) (ho : w.Ok) {r : Nat} (hr : r < 256) {es : List (AV × AV)} (hm : H[lm]? = some (.map 88 es)) (hg : GoodM w es) (hp : H[p]? = some (.box (.ptr l 0))) :
    callVL cfg0 prog0 false (.func 72) [U r] [.ptr p 0] H none = some ⟨.ret (.bool !w.canB r w.L), H.set lm (.map 88 (w.folM r w.L es)), none⟩ := by
  have hb := h.box
  have hC := we_can h ho hr (L_bd ho) hm hg
  simp only [qkey, Wea.L] at hC
  simp only [callVL_func, List.cons_append, List.nil_append]
  refine (callFL_eq fn72 rfl (by simp [Tryd.f72])).trans ?_
  simp (maxSteps := 1000000) (implicitDefEqProofs := false) (disch := first | rfl | omega | assumption) only [go_sem, ↓reduceIte, Nat.reduceEqDiff, Nat.reduceAdd, Nat.reduceLeDiff, Nat.reduceBEq, Nat.reduceMul, Nat.reduceLT, Int.reduceLT, Int.reduceLE, Int.reduceToNat, Int.reduceNeg, Int.reduceEq, Int.reduceMul, reduceCtorEq, Int.reduceBEq, Int.reduceBNe, Int.reduceAdd, Int.reduceSub, ltT, ltF, leT, leF, hp]
  rw [chkK_of]; rotate_left; kernel_rfl
  simp (maxSteps := 1000000) (implicitDefEqProofs := false) (disch := first | rfl | omega | assumption) only [go_sem, ↓reduceIte, Nat.reduceEqDiff, Nat.reduceAdd, Nat.reduceLeDiff, Nat.reduceBEq, Nat.reduceMul, Nat.reduceLT, Int.reduceLT, Int.reduceLE, Int.reduceToNat, Int.reduceNeg, Int.reduceEq, Int.reduceMul, reduceCtorEq, Int.reduceBEq, Int.reduceBNe, Int.reduceAdd, Int.reduceSub, ltT, ltF, leT, leF, hp, hb, hC]
  done

theorem firstU_loop {p : Nat} {L : List Nat} (hl : L.length ≤ 1000000) (fn : Fn) (cap : List AV) (b : Nat → Bool) (Hs : Nat → Heap) (N : Nat) (hsl : ∀ j, (Hs j).length = N) (hp : ∀ j, SlOk (Hs j) 1 (.gsl p L.length) (L.map U)) (hc : ∀ (j : Nat) (G : Heap), j < L.length → callVL cfg0 prog0 false fn [U (L.getD j 0)] cap (Hs j ++ G) none = some ⟨.ret (.bool (b j)), Hs (j + 1) ++ G, none⟩) :
    ∀ (q j : Nat), j + q = L.length → ∀ E : Env, E.get 0 = .gsl p L.length → E.get 3 = .ptr N 0 → E.get 7 = .gsl p L.length → E.get 8 = I L.length → E.get 9 = I j →
    Option.map (finishC N) (execL cfg0 prog0 ⟨71, none, false, N⟩ (todoAt Tryd.f71 2) ⟨E, [], Hs j ++ [.box (.agg [.func fn [] cap])], none⟩) = some ⟨.ret (I (firstN b j q)), Hs (stepN b j q), none⟩ := by
  intro q
  skip
  induction q with
  | zero =>
    intro j hj  E g0 g3 g7 g8 g9
    have hk' : ¬ (j : Int) < ((L.length : Nat) : Int) := by omega
    have ej : j = L.length := by omega
    subst ej
    simp only [loopIt, todoPast, todoAt, todoOf, firstReg, ↓reduceIte, Option.some.injEq, Nat.reduceEqDiff, reduceCtorEq, Tryd.f71]
    rw [execL_inLoop]
    have ht : ∀ G : Heap, (Hs L.length ++ G).take N = Hs L.length := fun G => by rw [← hsl L.length, List.take_left]
    have hln := ((hp L.length).app [.box (.agg [.func fn [] cap])]).len
    simp (maxSteps := 1000000) (implicitDefEqProofs := false) (disch := first | rfl | omega | assumption) only [go_sem, ↓reduceIte, Nat.reduceEqDiff, Nat.reduceAdd, Nat.reduceLeDiff, Nat.reduceBEq, Nat.reduceMul, Nat.reduceLT, Int.reduceLT, Int.reduceLE, Int.reduceToNat, Int.reduceNeg, Int.reduceEq, Int.reduceMul, reduceCtorEq, Int.reduceBEq, Int.reduceBNe, Int.reduceAdd, Int.reduceSub, g0, g3, g7, g8, g9, ltT, ltF, leT, leF, hk', hln, firstN, stepN, ht, List.length_map]
  | succ q ih =>
    intro j hj  E g0 g3 g7 g8 g9
    have hk' : (j : Int) < ((L.length : Nat) : Int) := by omega
    have hk2 : j < L.length := by omega
    obtain ⟨a1, a2, a3, a4, a5⟩ := (hp j).fA (d := 0)
    have hx := hc j [.box (.agg [.func fn [] cap])] hk2
    have hgt : (Hs j ++ [.box (.agg [.func fn [] cap])])[N]? = some (.box (.agg [.func fn [] cap])) := by rw [← hsl j, get_at]; rfl
    have ht : ∀ G : Heap, (Hs (j + 1) ++ G).take N = Hs (j + 1) := fun G => by rw [← hsl (j + 1), List.take_left]
    simp only [firstN, stepN]
    rcases Bool.eq_false_or_eq_true (b j) with hb | hb
    · rw [hb] at hx ⊢
      simp only [loopIt, todoPast, todoAt, todoOf, firstReg, ↓reduceIte, Option.some.injEq, Nat.reduceEqDiff, reduceCtorEq, Tryd.f71]
      rw [execL_inLoop]
      simp (maxSteps := 1000000) (implicitDefEqProofs := false) (disch := first | rfl | omega | assumption) only [go_sem, ↓reduceIte, Nat.reduceEqDiff, Nat.reduceAdd, Nat.reduceLeDiff, Nat.reduceBEq, Nat.reduceMul, Nat.reduceLT, Int.reduceLT, Int.reduceLE, Int.reduceToNat, Int.reduceNeg, Int.reduceEq, Int.reduceMul, reduceCtorEq, Int.reduceBEq, Int.reduceBNe, Int.reduceAdd, Int.reduceSub, g0, g3, g7, g8, g9, ltT, ltF, leT, leF, hk', a1, a3, hgt, hx, ht]
    · rw [hb] at hx ⊢
      simp only [loopIt, todoPast, todoAt, todoOf, firstReg, ↓reduceIte, Option.some.injEq, Nat.reduceEqDiff, reduceCtorEq, Tryd.f71]
      rw [execL_inLoop]
      simp (maxSteps := 1000000) (implicitDefEqProofs := false) (disch := first | rfl | omega | assumption) only [go_sem, ↓reduceIte, Nat.reduceEqDiff, Nat.reduceAdd, Nat.reduceLeDiff, Nat.reduceBEq, Nat.reduceMul, Nat.reduceLT, Int.reduceLT, Int.reduceLE, Int.reduceToNat, Int.reduceNeg, Int.reduceEq, Int.reduceMul, reduceCtorEq, Int.reduceBEq, Int.reduceBNe, Int.reduceAdd, Int.reduceSub, g0, g3, g7, g8, g9, ltT, ltF, leT, leF, hk', a1, a3, hgt, hx]
      exact ih (j + 1) (by omega) _ (by exact g0) (by exact g3) (by exact g7) (by exact g8) (by rfl)

theorem we_firstU {p : Nat} {L : List Nat} (hl : L.length ≤ 1000000) (fn : Fn) (cap : List AV) (b : Nat → Bool) (Hs : Nat → Heap) (N : Nat) (hsl : ∀ j, (Hs j).length = N) (hp : ∀ j, SlOk (Hs j) 1 (.gsl p L.length) (L.map U)) (hf : (AV.func fn [] cap).lt N = true ∧ (AV.func fn [] cap).stored = true)
    (hc : ∀ (j : Nat) (G : Heap), j < L.length → callVL cfg0 prog0 false fn [U (L.getD j 0)] cap (Hs j ++ G) none = some ⟨.ret (.bool (b j)), Hs (j + 1) ++ G, none⟩) :
    callFL cfg0 prog0 false 71 [.gsl p L.length, .agg [.func fn [] cap]] (Hs 0) none = some ⟨.ret (I (firstN b 0 L.length)), Hs (stepN b 0 L.length), none⟩ := by
  have h1 := firstU_loop hl fn cap b Hs N hsl hp hc L.length 0 (by omega)
  have h0 := hsl 0
  have hln := ((hp 0).app [.box (.agg [.func fn [] cap])]).len
  refine (callFL_eq fn71 rfl (by simp [Tryd.f71])).trans ?_
  simp (maxSteps := 1000000) (implicitDefEqProofs := false) (disch := first | rfl | omega | assumption) only [go_sem, ↓reduceIte, Nat.reduceEqDiff, Nat.reduceAdd, Nat.reduceLeDiff, Nat.reduceBEq, Nat.reduceMul, Nat.reduceLT, Int.reduceLT, Int.reduceLE, Int.reduceToNat, Int.reduceNeg, Int.reduceEq, Int.reduceMul, reduceCtorEq, Int.reduceBEq, Int.reduceBNe, Int.reduceAdd, Int.reduceSub, ltT, ltF, leT, leF, h0, hln, List.length_map]
  exact h1 _ (by rfl) (by rfl) (by rfl) (by rfl) (by rfl)

end Go.Ab
/-
  Which readings clash.
-/
namespace Go.Ab
open Go.Proofs
set_option linter.unusedSimpArgs false
set_option linter.unusedVariables false
set_option maxRecDepth 100000

variable {H : Heap}

/-- All sets of readings. -/
def subP (r s : Nat) : Bool := ((diffN s r : Nat) : Int) == 0
def subs (r n : Nat) : List Nat := (List.range n).filter (subP r)

theorem subs_succ (r n : Nat) : subs r (n + 1) = if subP r n then subs r n ++ [n] else subs r n := by
  simp only [subs, List.range_succ, List.filter_append]
  cases h : subP r n <;> simp [h]

theorem subs_len (r n : Nat) : (subs r n).length ≤ n := by
  have := List.length_filter_le (subP r) (List.range n)
  simpa [subs] using this

theorem u64nat {n : Nat} (h : (n : Int) < 9223372036854775807) : IntKind.u64.wrap ((n : Int) + 1) = ((n + 1 : Nat) : Int) := wrapU (n := n + 1) (by omega)

theorem sets_loop (G : Heap) (hG : G.length = 7) {r : Nat} (hr : r < 256) (N : Nat) (hN : N ≤ 256) (K : List Item) (R : Option Done) (hK : ∀ E : Env, E.get 1 = .ptr H.length 0 → E.get 3 = .ptr (H.length + 1) 0 → E.get 4 = .ptr (H.length + 6) 0 → E.get 5 = U r → E.get 6 = .gsl (H.length + 7) (subs r N).length → Option.map (finishC H.length) (execL cfg0 prog0 ⟨26, none, false, H.length⟩ K ⟨E, [.fn (.func 41) [.ptr (H.length + 1) 0] []], H ++ (G ++ [.grow 1 ((subs r N).map U)]), none⟩) = R)  :
    ∀ (q j : Nat), j + q = N → ∀ (xs : List AV), xs = (subs r j).map U → ∀ E : Env, E.get 1 = .ptr H.length 0 → E.get 3 = .ptr (H.length + 1) 0 → E.get 4 = .ptr (H.length + 6) 0 → E.get 5 = U r → E.get 6 = .gsl (H.length + 7) (subs r j).length → E.get 22 = U N → E.get 23 = U j →
    Option.map (finishC H.length) (execL cfg0 prog0 ⟨26, none, false, H.length⟩ (loopIt Tryd.f26 7 :: .inBlock 0 :: K) ⟨E, [.fn (.func 41) [.ptr (H.length + 1) 0] []], H ++ (G ++ [.grow 1 xs]), none⟩) = R := by
  intro q
  skip
  induction q with
  | zero =>
    intro j hj xs hx E g1 g3 g4 g5 g6 g22 g23
    have hk' : ¬ (j : Int) < ((N : Nat) : Int) := by omega
    have ej : j = N := by omega
    subst ej
    subst hx
    simp only [loopIt, todoPast, todoAt, todoOf, firstReg, ↓reduceIte, Option.some.injEq, Nat.reduceEqDiff, reduceCtorEq, Tryd.f26]
    rw [execL_inLoop]
    simp (maxSteps := 1000000) (implicitDefEqProofs := false) (disch := first | rfl | omega | assumption) only [go_sem, ↓reduceIte, Nat.reduceEqDiff, Nat.reduceAdd, Nat.reduceLeDiff, Nat.reduceBEq, Nat.reduceMul, Nat.reduceLT, Int.reduceLT, Int.reduceLE, Int.reduceToNat, Int.reduceNeg, Int.reduceEq, Int.reduceMul, reduceCtorEq, Int.reduceBEq, Int.reduceBNe, Int.reduceAdd, Int.reduceSub, g1, g3, g4, g5, g6, g22, g23, ltT, ltF, leT, leF, hk']
    exact hK _ (by exact g1) (by exact g3) (by exact g4) (by exact g5) (by exact g6)
  | succ q ih =>
    intro j hj xs hx E g1 g3 g4 g5 g6 g22 g23
    have hk' : (j : Int) < ((N : Nat) : Int) := by omega
    have hk2 : j < N := by omega
    have hnn : bitsOp .andNot .u64 (j : Int) (r : Int) = some ((diffN j r : Nat) : Int) := bitsNot (by omega) (by omega)
    have hw := u64nat (n := j) (by omega)
    have hsl := subs_len r j
    have hs := subs_succ r j
    have hq : (((diffN j r : Nat) : Int) == 0) = subP r j := rfl
    rcases Bool.eq_false_or_eq_true (subP r j) with hc | hc
    · rw [hc] at hs
      simp only [if_true] at hs
      have hof : addElem (H ++ (G ++ [.grow 1 xs])) 1 false (.gsl (H.length + 7) (subs r j).length) [U j] = some (.gsl (H.length + 7) ((subs r j).length + 1), H ++ (G ++ [.grow 1 (xs ++ [U j])])) := by
        have e : (H ++ (G ++ [.grow 1 xs]))[H.length + 7]? = some (.grow 1 xs) := by rw [get_at', List.getElem?_append_right (by omega), hG]; rfl
        rw [add_gsl e (by rw [hx]; simp) rfl rfl (by simp; omega), set_at', ← hG, List.set_append_right _ _ (Nat.le_refl _)]
        simp
      simp only [loopIt, todoPast, todoAt, todoOf, firstReg, ↓reduceIte, Option.some.injEq, Nat.reduceEqDiff, reduceCtorEq, Tryd.f26]
      rw [execL_inLoop]
      simp (maxSteps := 1000000) (implicitDefEqProofs := false) (disch := first | rfl | omega | assumption) only [go_sem, ↓reduceIte, Nat.reduceEqDiff, Nat.reduceAdd, Nat.reduceLeDiff, Nat.reduceBEq, Nat.reduceMul, Nat.reduceLT, Int.reduceLT, Int.reduceLE, Int.reduceToNat, Int.reduceNeg, Int.reduceEq, Int.reduceMul, reduceCtorEq, Int.reduceBEq, Int.reduceBNe, Int.reduceAdd, Int.reduceSub, g1, g3, g4, g5, g6, g22, g23, ltT, ltF, leT, leF, hk', hnn, hw, hq, hc, hof]
      exact ih (j + 1) (by omega) _ (by rw [hs, hx]; simp) _ (by exact g1) (by exact g3) (by exact g4) (by exact g5) (by rw [hs, List.length_append]; rfl) (by exact g22) (by rfl)
    · rw [hc] at hs
      simp only [Bool.false_eq_true, if_false] at hs
      simp only [loopIt, todoPast, todoAt, todoOf, firstReg, ↓reduceIte, Option.some.injEq, Nat.reduceEqDiff, reduceCtorEq, Tryd.f26]
      rw [execL_inLoop]
      simp (maxSteps := 1000000) (implicitDefEqProofs := false) (disch := first | rfl | omega | assumption) only [go_sem, ↓reduceIte, Nat.reduceEqDiff, Nat.reduceAdd, Nat.reduceLeDiff, Nat.reduceBEq, Nat.reduceMul, Nat.reduceLT, Int.reduceLT, Int.reduceLE, Int.reduceToNat, Int.reduceNeg, Int.reduceEq, Int.reduceMul, reduceCtorEq, Int.reduceBEq, Int.reduceBNe, Int.reduceAdd, Int.reduceSub, g1, g3, g4, g5, g6, g22, g23, ltT, ltF, leT, leF, hk', hnn, hw, hq, hc]
      exact ih (j + 1) (by omega) _ (by rw [hs]; exact hx) _ (by exact g1) (by exact g3) (by exact g4) (by exact g5) (by rw [hs]; exact g6) (by exact g22) (by rfl)

/-- The list that the sort leaves. -/
def SortsTo (S M : List Nat) : Prop := ∀ (H : Heap) (p : Nat), H[p]? = some (.grow 1 (S.map U)) →
  callFL cfg0 prog0 false 68 [.gsl p S.length, .func (.func 69) [] []] H none = some ⟨.ret (.tup []), H.set p (.grow 1 (M.map U)), none⟩

theorem sorts_short {S : List Nat} (hs : Small 256 S) (hl : S.length < 20) : SortsTo S (insS popK S 0 S.length) := by
  intro H p hp
  have hlt : p < H.length := (List.getElem?_eq_some_iff.1 hp).1
  have := so_sort_short (H := H) cl_cmp hlt hl rfl hs
  rwa [show GH H p S = H from set_self hp] at this

def Wea.clB (w : Wea) (M : List Nat) (i : Nat) : Bool := !w.canB (M.getD i 0) w.L

def Wea.clashP (w : Wea) (M : List Nat) : Int × Int := if w.valid then (if w.can then (0, 4) else ((M.getD (firstN (w.clB M) 0 M.length) 0 : Nat), 0)) else (0, 1)

def Wea.esC (w : Wea) (M : List Nat) : Nat → List (AV × AV)
  | 0 => w.folM w.rd w.L []
  | j + 1 => w.folM (M.getD j 0) w.L (w.esC M j)

theorem esC_good (w : Wea) (M : List Nat) : ∀ k, GoodM w (w.esC M k)
  | 0 => (GoodM.nil w).fol _ _
  | k + 1 => (esC_good w M k).fol _ _

abbrev Wea.S (w : Wea) : List Nat := subs w.rd (2 ^ w.es.length)

theorem firstN_lt (b : Nat → Bool) : ∀ (q j : Nat), (∃ i, j ≤ i ∧ i < j + q ∧ b i = true) → firstN b j q < j + q
  | 0, j, ⟨i, h1, h2, _⟩ => by omega
  | q + 1, j, ⟨i, h1, h2, h3⟩ => by
    simp only [firstN]
    by_cases h : b j = true
    · rw [if_pos h]; omega
    · rw [if_neg h]
      have : i ≠ j := by rintro rfl; exact h h3
      have := firstN_lt b q (j + 1) ⟨i, by omega, by omega, h3⟩
      omega

theorem we_Clash {w : Wea} {ve : AV} (h : WeaAt H w ve) (hl : w.es.length ≤ 1000) {M : List Nat} (hM : w.valid = true → w.can = false → SortsTo w.S M ∧ M.length = w.S.length ∧ Small 256 M ∧ ∃ i, i < M.length ∧ w.canB (M.getD i 0) w.L = false) :
    callFL cfg0 prog0 false 26 [w.av ve] H none = some ⟨.ret (.tup [I (w.clashP M).1, I (w.clashP M).2]), H, none⟩ := by
  have s1 := h.es.scal
  have hO := fun (a b : AO) => we_open (H := H ++ [a, b]) (h.app _) hl 0 true
  have hS := fun (e : Int) (x0 : AO) (G : Heap) => we_anss (H.length + 1) e 0 (H ++ (x0 :: .box (I 0) :: G)) (by rw [get_at' 1]; rfl)
  have hN := fun (G : Heap) => we_ansn (H.length + 1) G
  simp only [Wea.clashP]
  rcases Bool.eq_false_or_eq_true w.valid with hv | hv
  rotate_left
  · simp only [hv, if_true, if_false, Bool.false_eq_true, Wea.made, Wea.av, List.length_append, List.length_cons, List.length_nil, List.append_assoc, List.cons_append, List.nil_append, List.append_nil, Nat.add_assoc, Nat.reduceAdd, Nat.zero_add, (show (0 : Int) ≤ 10 by decide), (show ¬ (1 : Int) = 0 by decide)] at hO ⊢
    refine (callFL_eq fn26 rfl (by simp [Tryd.f26])).trans ?_
    simp (maxSteps := 1000000) (implicitDefEqProofs := false) (disch := first | rfl | omega | assumption) only [go_sem, ↓reduceIte, Nat.reduceEqDiff, Nat.reduceAdd, Nat.reduceLeDiff, Nat.reduceBEq, Nat.reduceMul, Nat.reduceLT, Int.reduceLT, Int.reduceLE, Int.reduceToNat, Int.reduceNeg, Int.reduceEq, Int.reduceMul, reduceCtorEq, Int.reduceBEq, Int.reduceBNe, Int.reduceAdd, Int.reduceSub, ltT, ltF, leT, leF, s1, hO, hS]
  · have ho := w.valid_iff.1 hv
    have h8 := ho.many
    have hrl := rd_lt ho
    have hbl : ∀ (a b : AO) (es : List (AV × AV)) (G : Heap), BlAt (H ++ (a :: b :: .box (.agg [I w.llo, I w.lhi, I w.ulo, I w.uhi, .gsl (H.length + 3) w.es.length]) :: .grow 4 (w.es.map Ev.av) :: .map 88 es :: .box (.agg [I w.llo, I w.lhi, I w.ulo, I w.uhi, .gsl (H.length + 3) w.es.length, .map (H.length + 4)]) :: G)) (H.length + 5) (H.length + 3) (H.length + 4) w := by
      intro a b es G
      have := made_bl w (H ++ [a, b]) es G
      simp only [Wea.made, Wea.av, List.length_append, List.length_cons, List.length_nil, List.append_assoc, List.cons_append, List.nil_append, List.append_nil, Nat.add_assoc, Nat.reduceAdd, Nat.zero_add] at this
      exact this
    have hP := fun (a b : AO) (es : List (AV × AV)) (G : Heap) => we_plain (hbl a b es G) ho
    have hR := fun (a b : AO) (es : List (AV × AV)) (G : Heap) => we_reads (hbl a b es G) ho
    have hC := fun (a b : AO) (G : Heap) => we_can (hbl a b [] G) ho hrl (L_bd ho) (by simp [get_at']) (GoodM.nil w)
    simp only [hv, if_true, Wea.made, Wea.av, List.length_append, List.length_cons, List.length_nil, List.append_assoc, List.cons_append, List.nil_append, List.append_nil, Nat.add_assoc, Nat.reduceAdd, Nat.zero_add, (show (0 : Int) ≤ 10 by decide)] at hO ⊢
    simp only [qkey, Wea.L] at hP hC
    rcases Bool.eq_false_or_eq_true w.can with hc | hc
    · have hc' := hc
      simp only [Wea.can, Wea.L] at hc'
      rw [hc'] at hC
      simp only [hc, if_true]
      refine (callFL_eq fn26 rfl (by simp [Tryd.f26])).trans ?_
      simp (maxSteps := 1000000) (implicitDefEqProofs := false) (disch := first | rfl | omega | assumption) only [go_sem, ↓reduceIte, Nat.reduceEqDiff, Nat.reduceAdd, Nat.reduceLeDiff, Nat.reduceBEq, Nat.reduceMul, Nat.reduceLT, Int.reduceLT, Int.reduceLE, Int.reduceToNat, Int.reduceNeg, Int.reduceEq, Int.reduceMul, reduceCtorEq, Int.reduceBEq, Int.reduceBNe, Int.reduceAdd, Int.reduceSub, ltT, ltF, leT, leF, s1, hO]
      rw [chkK_of]; rotate_left; kernel_rfl
      simp (maxSteps := 1000000) (implicitDefEqProofs := false) (disch := first | rfl | omega | assumption) only [go_sem, ↓reduceIte, Nat.reduceEqDiff, Nat.reduceAdd, Nat.reduceLeDiff, Nat.reduceBEq, Nat.reduceMul, Nat.reduceLT, Int.reduceLT, Int.reduceLE, Int.reduceToNat, Int.reduceNeg, Int.reduceEq, Int.reduceMul, reduceCtorEq, Int.reduceBEq, Int.reduceBNe, Int.reduceAdd, Int.reduceSub, ltT, ltF, leT, leF, s1, hO, hP, hC, hS, we_ask]
    · obtain ⟨m1, m2, m3, m4⟩ := hM hv hc
      have hc' := hc
      simp only [Wea.can, Wea.L] at hc'
      rw [hc'] at hC
      simp only [hc, Bool.false_eq_true, if_false]
      have sh := shlU (k := w.es.length) (by omega)
      have z : ¬ (w.es.length : Int) < 0 := by omega
      refine (callFL_eq fn26 rfl (by simp [Tryd.f26])).trans ?_
      simp (maxSteps := 1000000) (implicitDefEqProofs := false) (disch := first | rfl | omega | assumption) only [go_sem, ↓reduceIte, Nat.reduceEqDiff, Nat.reduceAdd, Nat.reduceLeDiff, Nat.reduceBEq, Nat.reduceMul, Nat.reduceLT, Int.reduceLT, Int.reduceLE, Int.reduceToNat, Int.reduceNeg, Int.reduceEq, Int.reduceMul, reduceCtorEq, Int.reduceBEq, Int.reduceBNe, Int.reduceAdd, Int.reduceSub, ltT, ltF, leT, leF, s1, hO]
      rw [chkK_of]; rotate_left; kernel_rfl
      simp (maxSteps := 1000000) (implicitDefEqProofs := false) (disch := first | rfl | omega | assumption) only [go_sem, ↓reduceIte, Nat.reduceEqDiff, Nat.reduceAdd, Nat.reduceLeDiff, Nat.reduceBEq, Nat.reduceMul, Nat.reduceLT, Int.reduceLT, Int.reduceLE, Int.reduceToNat, Int.reduceNeg, Int.reduceEq, Int.reduceMul, reduceCtorEq, Int.reduceBEq, Int.reduceBNe, Int.reduceAdd, Int.reduceSub, ltT, ltF, leT, leF, s1, hO, hP, hC, hR, we_ask, h.es.len, sh, z]
      have hp8 : (2 : Nat) ^ w.es.length ≤ 2 ^ 8 := Nat.pow_le_pow_right (by omega) h8
      refine sets_loop [.box (.agg [I w.llo, I w.lhi, I w.ulo, I w.uhi, ve]), .box (I 0), .box (.agg [I w.llo, I w.lhi, I w.ulo, I w.uhi, .gsl (H.length + 3) w.es.length]), .grow 4 (w.es.map Ev.av), .map 88 (w.folM w.rd w.L []), .box (.agg [I w.llo, I w.lhi, I w.ulo, I w.uhi, .gsl (H.length + 3) w.es.length, .map (H.length + 4)]), .box (.ptr (H.length + 5) 0)] rfl hrl (2 ^ w.es.length) hp8 _ _ (fun E g1 g3 g4 g5 g6 => ?_) (2 ^ w.es.length) 0 (by omega) [] rfl _ (by rfl) (by rfl) (by rfl) (by rfl) (by rfl) (by rfl) (by rfl)
      have hq := m1 (H ++ [.box (.agg [I w.llo, I w.lhi, I w.ulo, I w.uhi, ve]), .box (I 0), .box (.agg [I w.llo, I w.lhi, I w.ulo, I w.uhi, .gsl (H.length + 3) w.es.length]), .grow 4 (w.es.map Ev.av), .map 88 (w.folM w.rd w.L []), .box (.agg [I w.llo, I w.lhi, I w.ulo, I w.uhi, .gsl (H.length + 3) w.es.length, .map (H.length + 4)]), .box (.ptr (H.length + 5) 0), .grow 1 (w.S.map U)]) (H.length + 7) (by simp [get_at'])
      have hF := we_firstU (p := H.length + 7) (L := M) (by rw [m2]; have := subs_len w.rd (2 ^ w.es.length); simp only [Wea.S]; omega) (.func 72) [.ptr (H.length + 6) 0] (w.clB M)
        (fun j => H ++ [.box (.agg [I w.llo, I w.lhi, I w.ulo, I w.uhi, ve]), .box (I 0), .box (.agg [I w.llo, I w.lhi, I w.ulo, I w.uhi, .gsl (H.length + 3) w.es.length]), .grow 4 (w.es.map Ev.av), .map 88 (w.esC M j), .box (.agg [I w.llo, I w.lhi, I w.ulo, I w.uhi, .gsl (H.length + 3) w.es.length, .map (H.length + 4)]), .box (.ptr (H.length + 5) 0), .grow 1 (M.map U)]) (H.length + 8) (fun j => by simp) (fun j => ⟨⟨by simp [get_at'], by simp⟩, by simp [U, AV.cells]⟩) ⟨by simp [AV.lt, ltL, fnLt], rfl⟩ (fun j G hj => by
          have hbj := hbl (.box (.agg [I w.llo, I w.lhi, I w.ulo, I w.uhi, ve])) (.box (I 0)) (w.esC M j) (.box (.ptr (H.length + 5) 0) :: .grow 1 (M.map U) :: G)
          have := cl_can (p := H.length + 6) hbj ho (m3 j hj) (by simp [get_at']) (esC_good w M j) (by simp [get_at'])
          simp only [List.append_assoc, List.cons_append, List.nil_append, set_at', List.set_cons_succ, List.set_cons_zero] at this ⊢
          exact this)
      have hlt := firstN_lt (w.clB M) M.length 0 (by obtain ⟨i, h1, h2⟩ := m4; exact ⟨i, by omega, by omega, by simp only [Wea.clB, h2, Bool.not_false]⟩)
      simp only [set_at', List.set_cons_succ, List.set_cons_zero] at hq
      rw [m2] at hF
      simp only [Wea.esC] at hF
      rw [Nat.zero_add, m2] at hlt
      rw [m2]
      simp only [Wea.S] at *
      generalize hfn : firstN (w.clB M) 0 (subs w.rd (2 ^ w.es.length)).length = fN at *
      obtain ⟨a1, a2, a3, a4, a5⟩ := (show SlOk (H ++ [.box (.agg [I w.llo, I w.lhi, I w.ulo, I w.uhi, ve]), .box (I 0), .box (.agg [I w.llo, I w.lhi, I w.ulo, I w.uhi, .gsl (H.length + 3) w.es.length]), .grow 4 (w.es.map Ev.av), .map 88 (w.esC M (stepN (w.clB M) 0 (subs w.rd (2 ^ w.es.length)).length)), .box (.agg [I w.llo, I w.lhi, I w.ulo, I w.uhi, .gsl (H.length + 3) w.es.length, .map (H.length + 4)]), .box (.ptr (H.length + 5) 0), .grow 1 (M.map U)]) 1 (.gsl (H.length + 7) (subs w.rd (2 ^ w.es.length)).length) (M.map U) from ⟨⟨by simp [get_at'], by simp [m2]⟩, by simp [U, AV.cells]⟩).fA (d := 0)
      have hv1 := m3 fN (by omega)
      have hw : IntKind.i64.wrap ((M.getD fN 0 : Nat) : Int) = ((M.getD fN 0 : Nat) : Int) := w64 (by omega) (by omega)
      simp only [List.cons_append, List.nil_append] at g1 ⊢
      simp (maxSteps := 1000000) (implicitDefEqProofs := false) (disch := first | rfl | omega | assumption) only [go_sem, ↓reduceIte, Nat.reduceEqDiff, Nat.reduceAdd, Nat.reduceLeDiff, Nat.reduceBEq, Nat.reduceMul, Nat.reduceLT, Int.reduceLT, Int.reduceLE, Int.reduceToNat, Int.reduceNeg, Int.reduceEq, Int.reduceMul, reduceCtorEq, Int.reduceBEq, Int.reduceBNe, Int.reduceAdd, Int.reduceSub, ltT, ltF, leT, leF, g1, g3, g4, g5, g6, hq, hF, a2, a4, hw, hN]

end Go.Ab
/-
  What is valid; far too much; the examples of the document.
-/
namespace Go.Ab
open Go.Proofs
set_option linter.unusedSimpArgs false
set_option linter.unusedVariables false
set_option maxRecDepth 100000

variable {H : Heap}

theorem rWear_loop {w : Wea} {ve : AV} (h : WeaAt H w ve) (hl : w.es.length ≤ 8) :
    ∀ (q j : Nat), j + q = w.es.length → ∀ E : Env, E.get 1 = .ptr H.length 0 → E.get 3 = I j →
    Option.map (finishC H.length) (execL cfg0 prog0 ⟨33, none, false, H.length⟩ (todoAt Tryd.f33 4) ⟨E, [], H ++ [.box (.agg [I w.llo, I w.lhi, I w.ulo, I w.uhi, ve])], none⟩) = some ⟨.ret (.bool !anyF (fun i => !(w.es.getD i ev0).ok) j q), H, none⟩ := by
  intro q
  have s1 := h.es.scal
  have hln := h.es.len
  obtain ⟨a1, a2, a3, a4, a5⟩ := h.es.fA (d := ev0)
  induction q with
  | zero =>
    intro j hj  E g1 g3
    have hk' : ¬ (j : Int) < ((w.es.length : Nat) : Int) := by omega
    simp only [loopIt, todoPast, todoAt, todoOf, firstReg, ↓reduceIte, Option.some.injEq, Nat.reduceEqDiff, reduceCtorEq, Tryd.f33]
    rw [execL_inLoop]
    simp (maxSteps := 1000000) (implicitDefEqProofs := false) (disch := first | rfl | omega | assumption) only [go_sem, ↓reduceIte, Nat.reduceEqDiff, Nat.reduceAdd, Nat.reduceLeDiff, Nat.reduceBEq, Nat.reduceMul, Nat.reduceLT, Int.reduceLT, Int.reduceLE, Int.reduceToNat, Int.reduceNeg, Int.reduceEq, Int.reduceMul, reduceCtorEq, Int.reduceBEq, Int.reduceBNe, Int.reduceAdd, Int.reduceSub, g1, g3, ltT, ltF, leT, leF, hk', hln, anyF, s1, List.length_map]
  | succ q ih =>
    intro j hj  E g1 g3
    have hk' : (j : Int) < ((w.es.length : Nat) : Int) := by omega
    have hk2 : j < w.es.length := by omega
    have hb := fun G => ref_event (w.es.getD j ev0) G
    have hr : readPart (w.es.getD j ev0).av.cells 0 ⟨.struct [(0, 3), (1, 3), (2, 23)], 4, 32, some (.agg #[.int .i64 0, .int .i64 0, .int .i64 0, .int .i64 0])⟩ = some (w.es.getD j ev0).av := rfl
    simp only [anyF]
    simp only [loopIt, todoPast, todoAt, todoOf, firstReg, ↓reduceIte, Option.some.injEq, Nat.reduceEqDiff, reduceCtorEq, Tryd.f33]
    rw [execL_inLoop]
    rcases Bool.eq_false_or_eq_true (w.es.getD j ev0).ok with hc | hc
    · simp (maxSteps := 1000000) (implicitDefEqProofs := false) (disch := first | rfl | omega | assumption) only [go_sem, ↓reduceIte, Nat.reduceEqDiff, Nat.reduceAdd, Nat.reduceLeDiff, Nat.reduceBEq, Nat.reduceMul, Nat.reduceLT, Int.reduceLT, Int.reduceLE, Int.reduceToNat, Int.reduceNeg, Int.reduceEq, Int.reduceMul, reduceCtorEq, Int.reduceBEq, Int.reduceBNe, Int.reduceAdd, Int.reduceSub, g1, g3, ltT, ltF, leT, leF, hk', hln, a1, a2, a3, a4, hr, hb, hc, List.length_map]
      exact ih (j + 1) (by omega) _ (by exact g1) (by rfl)
    · simp (maxSteps := 1000000) (implicitDefEqProofs := false) (disch := first | rfl | omega | assumption) only [go_sem, ↓reduceIte, Nat.reduceEqDiff, Nat.reduceAdd, Nat.reduceLeDiff, Nat.reduceBEq, Nat.reduceMul, Nat.reduceLT, Int.reduceLT, Int.reduceLE, Int.reduceToNat, Int.reduceNeg, Int.reduceEq, Int.reduceMul, reduceCtorEq, Int.reduceBEq, Int.reduceBNe, Int.reduceAdd, Int.reduceSub, g1, g3, ltT, ltF, leT, leF, hk', hln, a1, a2, a3, a4, hr, hb, hc, List.length_map]

theorem ref_Wear {w : Wea} {ve : AV} (h : WeaAt H w ve) : callFL cfg0 prog0 false 33 [w.av ve] H none = some ⟨.ret (.bool w.valid), H, none⟩ := by
  have s1 := h.es.scal
  have hln := h.es.len
  rw [List.length_map] at hln
  have hs1 := fun G : Heap => ref_span w.llo w.lhi 0 300 G
  have hs2 := fun G : Heap => ref_span w.ulo w.uhi 0 3 G
  simp only [Wea.av, Wea.valid, Wea.good]
  rcases Bool.eq_false_or_eq_true (spB (w.llo, w.lhi) 0 300) with c1 | c1
  · have b1 := spB_iff.1 c1
    simp only at b1
    by_cases c2 : w.lhi - w.llo ≤ 20
    · have c2' : ¬ 20 < w.lhi - w.llo := by omega
      rcases Bool.eq_false_or_eq_true (spB (w.ulo, w.uhi) 0 3) with c3 | c3
      · by_cases c4 : (w.es.length : Int) ≤ 8
        · have c4' : ¬ (8 : Int) < w.es.length := by omega
          refine (callFL_eq fn33 rfl (by simp [Tryd.f33])).trans ?_
          simp (maxSteps := 1000000) (implicitDefEqProofs := false) (disch := first | rfl | omega | assumption) only [go_sem, ↓reduceIte, Nat.reduceEqDiff, Nat.reduceAdd, Nat.reduceLeDiff, Nat.reduceBEq, Nat.reduceMul, Nat.reduceLT, Int.reduceLT, Int.reduceLE, Int.reduceToNat, Int.reduceNeg, Int.reduceEq, Int.reduceMul, reduceCtorEq, Int.reduceBEq, Int.reduceBNe, Int.reduceAdd, Int.reduceSub, ltT, ltF, leT, leF, s1, hs1, hs2, c1, c2, c2', c3, c4, c4', hln]
          exact rWear_loop h (by omega) w.es.length 0 (by omega) _ (by rfl) (by rfl)
        · have c4' : (8 : Int) < w.es.length := by omega
          refine (callFL_eq fn33 rfl (by simp [Tryd.f33])).trans ?_
          simp (maxSteps := 1000000) (implicitDefEqProofs := false) (disch := first | rfl | omega | assumption) only [go_sem, ↓reduceIte, Nat.reduceEqDiff, Nat.reduceAdd, Nat.reduceLeDiff, Nat.reduceBEq, Nat.reduceMul, Nat.reduceLT, Int.reduceLT, Int.reduceLE, Int.reduceToNat, Int.reduceNeg, Int.reduceEq, Int.reduceMul, reduceCtorEq, Int.reduceBEq, Int.reduceBNe, Int.reduceAdd, Int.reduceSub, ltT, ltF, leT, leF, s1, hs1, hs2, c1, c2, c2', c3, c4, c4', hln]
      · refine (callFL_eq fn33 rfl (by simp [Tryd.f33])).trans ?_
        simp (maxSteps := 1000000) (implicitDefEqProofs := false) (disch := first | rfl | omega | assumption) only [go_sem, ↓reduceIte, Nat.reduceEqDiff, Nat.reduceAdd, Nat.reduceLeDiff, Nat.reduceBEq, Nat.reduceMul, Nat.reduceLT, Int.reduceLT, Int.reduceLE, Int.reduceToNat, Int.reduceNeg, Int.reduceEq, Int.reduceMul, reduceCtorEq, Int.reduceBEq, Int.reduceBNe, Int.reduceAdd, Int.reduceSub, ltT, ltF, leT, leF, s1, hs1, hs2, c1, c2, c2', c3, hln]
    · have c2' : 20 < w.lhi - w.llo := by omega
      refine (callFL_eq fn33 rfl (by simp [Tryd.f33])).trans ?_
      simp (maxSteps := 1000000) (implicitDefEqProofs := false) (disch := first | rfl | omega | assumption) only [go_sem, ↓reduceIte, Nat.reduceEqDiff, Nat.reduceAdd, Nat.reduceLeDiff, Nat.reduceBEq, Nat.reduceMul, Nat.reduceLT, Int.reduceLT, Int.reduceLE, Int.reduceToNat, Int.reduceNeg, Int.reduceEq, Int.reduceMul, reduceCtorEq, Int.reduceBEq, Int.reduceBNe, Int.reduceAdd, Int.reduceSub, ltT, ltF, leT, leF, s1, hs1, hs2, c1, c2, c2', hln]
  · refine (callFL_eq fn33 rfl (by simp [Tryd.f33])).trans ?_
    simp (maxSteps := 1000000) (implicitDefEqProofs := false) (disch := first | rfl | omega | assumption) only [go_sem, ↓reduceIte, Nat.reduceEqDiff, Nat.reduceAdd, Nat.reduceLeDiff, Nat.reduceBEq, Nat.reduceMul, Nat.reduceLT, Int.reduceLT, Int.reduceLE, Int.reduceToNat, Int.reduceNeg, Int.reduceEq, Int.reduceMul, reduceCtorEq, Int.reduceBEq, Int.reduceBNe, Int.reduceAdd, Int.reduceSub, ltT, ltF, leT, leF, s1, hs1, hs2, c1, hln]

theorem law_span (a b : Int) (H : Heap) : callFL cfg0 prog0 false 32 [I a, I b] H none = some ⟨.ret (.agg [I a, I b]), H, none⟩ := by
  refine (callFL_eq fn32 rfl (by simp [Tryd.f32])).trans ?_
  simp (maxSteps := 1000000) (implicitDefEqProofs := false) (disch := first | rfl | omega | assumption) only [go_sem, ↓reduceIte, Nat.reduceEqDiff, Nat.reduceAdd, Nat.reduceLeDiff, Nat.reduceBEq, Nat.reduceMul, Nat.reduceLT, Int.reduceLT, Int.reduceLE, Int.reduceToNat, Int.reduceNeg, Int.reduceEq, Int.reduceMul, reduceCtorEq, Int.reduceBEq, Int.reduceBNe, Int.reduceAdd, Int.reduceSub, ltT, ltF, leT, leF]

theorem law_uses (a : Int) (H : Heap) : callFL cfg0 prog0 false 39 [I a] H none = some ⟨.ret (.agg [I 0, I a, I 0, I 0]), H, none⟩ := by
  refine (callFL_eq fn39 rfl (by simp [Tryd.f39])).trans ?_
  simp (maxSteps := 1000000) (implicitDefEqProofs := false) (disch := first | rfl | omega | assumption) only [go_sem, ↓reduceIte, Nat.reduceEqDiff, Nat.reduceAdd, Nat.reduceLeDiff, Nat.reduceBEq, Nat.reduceMul, Nat.reduceLT, Int.reduceLT, Int.reduceLE, Int.reduceToNat, Int.reduceNeg, Int.reduceEq, Int.reduceMul, reduceCtorEq, Int.reduceBEq, Int.reduceBNe, Int.reduceAdd, Int.reduceSub, ltT, ltF, leT, leF]

theorem law_read (a b : Int) (H : Heap) : callFL cfg0 prog0 false 35 [I a, I b] H none = some ⟨.ret (.agg [I 1, I 0, I a, I b]), H, none⟩ := by
  refine (callFL_eq fn35 rfl (by simp [Tryd.f35])).trans ?_
  simp (maxSteps := 1000000) (implicitDefEqProofs := false) (disch := first | rfl | omega | assumption) only [go_sem, ↓reduceIte, Nat.reduceEqDiff, Nat.reduceAdd, Nat.reduceLeDiff, Nat.reduceBEq, Nat.reduceMul, Nat.reduceLT, Int.reduceLT, Int.reduceLE, Int.reduceToNat, Int.reduceNeg, Int.reduceEq, Int.reduceMul, reduceCtorEq, Int.reduceBEq, Int.reduceBNe, Int.reduceAdd, Int.reduceSub, ltT, ltF, leT, leF, law_span]

theorem law_lap (a b : Int) (H : Heap) : callFL cfg0 prog0 false 78 [I a, I b] H none = some ⟨.ret (.agg [I 2, I 0, I a, I b]), H, none⟩ := by
  refine (callFL_eq fn78 rfl (by simp [Tryd.f78])).trans ?_
  simp (maxSteps := 1000000) (implicitDefEqProofs := false) (disch := first | rfl | omega | assumption) only [go_sem, ↓reduceIte, Nat.reduceEqDiff, Nat.reduceAdd, Nat.reduceLeDiff, Nat.reduceBEq, Nat.reduceMul, Nat.reduceLT, Int.reduceLT, Int.reduceLE, Int.reduceToNat, Int.reduceNeg, Int.reduceEq, Int.reduceMul, reduceCtorEq, Int.reduceBEq, Int.reduceBNe, Int.reduceAdd, Int.reduceSub, ltT, ltF, leT, leF, law_span]

theorem law_inside (n a b : Int) (H : Heap) : callFL cfg0 prog0 false 30 [I n, .agg [I a, I b]] H none = some ⟨.ret (.bool (wi n a b)), H, none⟩ := by
  refine (callFL_eq fn30 rfl (by simp [Tryd.f30])).trans ?_
  simp (maxSteps := 1000000) (implicitDefEqProofs := false) (disch := first | rfl | omega | assumption) only [go_sem, ↓reduceIte, Nat.reduceEqDiff, Nat.reduceAdd, Nat.reduceLeDiff, Nat.reduceBEq, Nat.reduceMul, Nat.reduceLT, Int.reduceLT, Int.reduceLE, Int.reduceToNat, Int.reduceNeg, Int.reduceEq, Int.reduceMul, reduceCtorEq, Int.reduceBEq, Int.reduceBNe, Int.reduceAdd, Int.reduceSub, ltT, ltF, leT, leF, wi]
  repeat' ((with_reducible first
      | refine cond_ifb (fun hc hd he => ?_) (fun hc hd he => ?_)
      | refine guard_ifb (fun hc hd he => ?_) (fun hc hd he => ?_)
      | refine cond_dec (fun hc hd he => ?_) (fun hc hd he => ?_)
      | refine guard_dec (fun hc hd he => ?_) (fun hc hd he => ?_)
      | refine cond_ndec (fun hc hd he => ?_) (fun hc hd he => ?_)
      | refine guard_ndec (fun hc hd he => ?_) (fun hc hd he => ?_)
      | refine cond_not (fun hc hd he => ?_) (fun hc hd he => ?_)
      | refine guard_not (fun hc hd he => ?_) (fun hc hd he => ?_)
      | refine cond_beq (fun hc hd he => ?_) (fun hc hd he => ?_)
      | refine guard_beq (fun hc hd he => ?_) (fun hc hd he => ?_)
      | refine cond_bne (fun hc hd he => ?_) (fun hc hd he => ?_)
      | refine guard_bne (fun hc hd he => ?_) (fun hc hd he => ?_)
      | refine cond_split (fun hc hd he => ?_) (fun hc hd he => ?_)
      | refine guard_split (fun hc hd he => ?_) (fun hc hd he => ?_)
      | refine call_beq (fun hc hd he => ?_) (fun hc hd he => ?_)
      | refine call_ifb (fun hc hd he => ?_) (fun hc hd he => ?_)
      | refine call_ifd (fun hc hd he => ?_) (fun hc hd he => ?_)
      | refine call_dec (fun hc hd he => ?_) (fun hc hd he => ?_)) <;> try simp (maxSteps := 1000000) (implicitDefEqProofs := false) (disch := first | rfl | omega | assumption) only [go_sem, ↓reduceIte, Nat.reduceEqDiff, Nat.reduceAdd, Nat.reduceLeDiff, Nat.reduceBEq, Nat.reduceMul, Nat.reduceLT, Int.reduceLT, Int.reduceLE, Int.reduceToNat, Int.reduceNeg, Int.reduceEq, Int.reduceMul, reduceCtorEq, Int.reduceBEq, Int.reduceBNe, Int.reduceAdd, Int.reduceSub, ltT, ltF, leT, leF, hc, he, wi])

def Wea.farB (w : Wea) (m : Int) : Bool := decide ((40 : Int) < if (w.es.length : Int) < m then m else w.es.length)

theorem Wea.farB_false {w : Wea} {m : Int} (h : w.farB m = false) : w.es.length ≤ 40 ∧ m ≤ 40 := by
  simp only [Wea.farB, decide_eq_false_iff_not] at h
  split at h <;> omega

theorem law_far {w : Wea} {ve v : AV} {l : List Int} (h : WeaAt H w ve) (hv : SlOk H 1 v (l.map I)) : callFL cfg0 prog0 false 12 [w.av ve, v] H none = some ⟨.ret (.bool (w.farB l.length)), H, none⟩ := by
  have s1 := h.es.scal
  have s2 := hv.scal
  simp only [Wea.av]
  refine (callFL_eq fn12 rfl (by simp [Tryd.f12])).trans ?_
  simp (maxSteps := 1000000) (implicitDefEqProofs := false) (disch := first | rfl | omega | assumption) only [go_sem, ↓reduceIte, Nat.reduceEqDiff, Nat.reduceAdd, Nat.reduceLeDiff, Nat.reduceBEq, Nat.reduceMul, Nat.reduceLT, Int.reduceLT, Int.reduceLE, Int.reduceToNat, Int.reduceNeg, Int.reduceEq, Int.reduceMul, reduceCtorEq, Int.reduceBEq, Int.reduceBNe, Int.reduceAdd, Int.reduceSub, s1, s2, h.es.len, hv.len, Wea.farB, List.length_map]

theorem law_fine {w : Wea} {ve : AV} (h : WeaAt H w ve) : callFL cfg0 prog0 false 28 [w.av ve] H none = some ⟨.ret (.bool (!w.farB 0 && w.valid)), H, none⟩ := by
  have s1 := h.es.scal
  have hF := fun G : Heap => law_far (h.app G) (v := .sl true []) (l := []) ⟨rfl, by simp⟩
  have hV := fun G : Heap => ref_Wear (h.app G)
  simp only [Wea.av, List.length_nil, Int.natCast_zero] at hF hV ⊢
  refine (callFL_eq fn28 rfl (by simp [Tryd.f28])).trans ?_
  cases hf : w.farB 0
  · rw [hf] at hF
    simp (maxSteps := 1000000) (implicitDefEqProofs := false) (disch := first | rfl | omega | assumption) only [go_sem, ↓reduceIte, Nat.reduceEqDiff, Nat.reduceAdd, Nat.reduceLeDiff, Nat.reduceBEq, Nat.reduceMul, Nat.reduceLT, Int.reduceLT, Int.reduceLE, Int.reduceToNat, Int.reduceNeg, Int.reduceEq, Int.reduceMul, reduceCtorEq, Int.reduceBEq, Int.reduceBNe, Int.reduceAdd, Int.reduceSub, ltT, ltF, leT, leF, s1, hF, hV]
  · rw [hf] at hF
    simp (maxSteps := 1000000) (implicitDefEqProofs := false) (disch := first | rfl | omega | assumption) only [go_sem, ↓reduceIte, Nat.reduceEqDiff, Nat.reduceAdd, Nat.reduceLeDiff, Nat.reduceBEq, Nat.reduceMul, Nat.reduceLT, Int.reduceLT, Int.reduceLE, Int.reduceToNat, Int.reduceNeg, Int.reduceEq, Int.reduceMul, reduceCtorEq, Int.reduceBEq, Int.reduceBNe, Int.reduceAdd, Int.reduceSub, ltT, ltF, leT, leF, s1, hF, hV]

def smp : Wea := ⟨100, 102, 0, 2, [⟨0, 10, 0, 0⟩, ⟨1, 0, 85, 95⟩, ⟨0, 5, 0, 0⟩, ⟨2, 0, 3, 4⟩, ⟨1, 0, 80, 88⟩]⟩
def smpV : AV := .sl true (smp.es.map Ev.av)
def smp2 : Wea := ⟨100, 102, 0, 2, [⟨0, 10, 0, 0⟩, ⟨1, 0, 85, 95⟩, ⟨0, 5, 0, 0⟩, ⟨2, 0, 3, 4⟩, ⟨1, 0, 80, 88⟩, ⟨1, 0, 89, 90⟩]⟩

theorem smp_at (H : Heap) : WeaAt H smp smpV := ⟨⟨rfl, by simp [Ev.av, AV.cells]⟩⟩

theorem law_sample (H : Heap) : callFL cfg0 prog0 false 40 [.sl true []] H none = some ⟨.ret (smp.av smpV), H, none⟩ := by
  have hE : ∀ G : Heap, addElem G 4 true (.sl true [.agg [I 0, I 10, I 0, I 0], .agg [I 1, I 0, I 85, I 95], .agg [I 0, I 5, I 0, I 0], .agg [I 2, I 0, I 3, I 4], .agg [I 1, I 0, I 80, I 88]]) [] = some (.sl true [.agg [I 0, I 10, I 0, I 0], .agg [I 1, I 0, I 85, I 95], .agg [I 0, I 5, I 0, I 0], .agg [I 2, I 0, I 3, I 4], .agg [I 1, I 0, I 80, I 88]], G) := fun G => rfl
  refine (callFL_eq fn40 rfl (by simp [Tryd.f40])).trans ?_
  simp (maxSteps := 1000000) (implicitDefEqProofs := false) (disch := first | rfl | omega | assumption) only [go_sem, ↓reduceIte, Nat.reduceEqDiff, Nat.reduceAdd, Nat.reduceLeDiff, Nat.reduceBEq, Nat.reduceMul, Nat.reduceLT, Int.reduceLT, Int.reduceLE, Int.reduceToNat, Int.reduceNeg, Int.reduceEq, Int.reduceMul, reduceCtorEq, Int.reduceBEq, Int.reduceBNe, Int.reduceAdd, Int.reduceSub, ltT, ltF, leT, leF, law_span, law_uses, law_read, law_lap, hE, Wea.av, smpV, smp, Ev.av]

def smpV2 : AV := .sl false (smp2.es.map Ev.av)
theorem smp2_at (H : Heap) : WeaAt H smp2 smpV2 := ⟨⟨rfl, by simp [Ev.av, AV.cells]⟩⟩

theorem law_sample2 (H : Heap) : callFL cfg0 prog0 false 40 [.sl true [.agg [I 1, I 0, I 89, I 90]]] H none = some ⟨.ret (smp2.av smpV2), H, none⟩ := by
  have hE : ∀ G : Heap, addElem G 4 true (.sl true [.agg [I 0, I 10, I 0, I 0], .agg [I 1, I 0, I 85, I 95], .agg [I 0, I 5, I 0, I 0], .agg [I 2, I 0, I 3, I 4], .agg [I 1, I 0, I 80, I 88]]) [.agg [I 1, I 0, I 89, I 90]] = some (.gsl G.length 6, G ++ [.grow 4 [.agg [I 0, I 10, I 0, I 0], .agg [I 1, I 0, I 85, I 95], .agg [I 0, I 5, I 0, I 0], .agg [I 2, I 0, I 3, I 4], .agg [I 1, I 0, I 80, I 88], .agg [I 1, I 0, I 89, I 90]]]) := fun G => rfl
  refine (callFL_eq fn40 rfl (by simp [Tryd.f40])).trans ?_
  simp (maxSteps := 1000000) (implicitDefEqProofs := false) (disch := first | rfl | omega | assumption) only [go_sem, ↓reduceIte, Nat.reduceEqDiff, Nat.reduceAdd, Nat.reduceLeDiff, Nat.reduceBEq, Nat.reduceMul, Nat.reduceLT, Int.reduceLT, Int.reduceLE, Int.reduceToNat, Int.reduceNeg, Int.reduceEq, Int.reduceMul, reduceCtorEq, Int.reduceBEq, Int.reduceBNe, Int.reduceAdd, Int.reduceSub, ltT, ltF, leT, leF, law_span, law_uses, law_read, law_lap, hE, Wea.av, smpV2, smp2, Ev.av]

theorem smp_af : smp.afterP 2 = (83, 92) ∧ smp.gate 0 (wi 2 0 (smp.es.length - 1)) = 0 := by decide +kernel
theorem smp_lo : smp.lostP = (12, 22) ∧ smp.gate 0 true = 0 := by decide +kernel
theorem smp_be : smp.sureP 90 = 24 ∧ smp.perP 90 = 31 ∧ smp.gate 0 (wi 90 (-1000) 1000) = 0 := by decide +kernel
theorem smp_un : smp.untilP 76 = (2, 0) ∧ (smp.untilP 81).2 = 4 := by decide +kernel
theorem smp_da : smp.dayP 70 [3, 2, 1] = (2, 0) := by decide +kernel
theorem smp_fi : smp.fitsP (80, 80) = 1 ∧ smp.gate 0 (spB (80, 80) (-1000) 1000) = 0 := by decide +kernel
theorem smp_cl : smp2.clashP (insS popK smp2.S 0 smp2.S.length) = (48, 0) := by decide +kernel

theorem smp_ok : smp2.S.length = 8 ∧ (∀ s ∈ smp2.S, s < 256) ∧ (insS popK smp2.S 0 smp2.S.length).length = 8 ∧ (∀ s ∈ insS popK smp2.S 0 smp2.S.length, s < 256) ∧ smp2.canB ((insS popK smp2.S 0 smp2.S.length).getD 7 0) smp2.L = false := by decide +kernel

theorem small_of {B : Nat} {L : List Nat} (h : ∀ s ∈ L, s < B) : Small B L := by
  intro k hk
  have e : L.getD k 0 = L[k] := by simp [hk]
  rw [e]
  exact h _ (List.getElem_mem hk)

theorem law_awake (H : Heap) : callFL cfg0 prog0 false 13 [] H none = some ⟨.ret (.bool true), H, none⟩ := by
  have h1 := fun G : Heap => we_After (smp_at G) (by decide) 2
  have h2 := fun G : Heap => we_Lost (smp_at G) (by decide)
  have h3 := fun G : Heap => we_Below (smp_at G) (by decide) 90
  have h4 := fun G : Heap => we_Until (smp_at G) (by decide) 76
  have h5 := fun G : Heap => we_Until (smp_at G) (by decide) 81
  have h6 := fun G : Heap => we_Day (smp_at G) (by decide) (v := .sl true ([3, 2, 1].map I)) (l := [3, 2, 1]) ⟨rfl, by simp [I, AV.cells]⟩ (by decide) 70
  have h7 := fun G : Heap => we_Fits (smp_at G) (by decide) (80, 80)
  obtain ⟨k1, k2, k3, k4, k5⟩ := smp_ok
  have h8 := fun G : Heap => we_Clash (smp2_at G) (by decide) (M := insS popK smp2.S 0 smp2.S.length) (fun _ _ => ⟨sorts_short (small_of k2) (by omega), by rw [k3, k1], small_of k4, 7, by rw [k3]; decide, k5⟩)
  simp only [smp_af.1, smp_af.2] at h1
  simp only [smp_lo.1, smp_lo.2] at h2
  simp only [smp_be.1, smp_be.2.1, smp_be.2.2] at h3
  simp only [smp_un.1] at h4
  simp only [smp_un.2] at h5
  simp only [smp_da] at h6
  simp only [smp_fi.1, smp_fi.2] at h7
  simp only [smp_cl] at h8
  have hS := law_sample
  have hS2 := law_sample2
  have e1 : smp.av smpV = .agg [I 100, I 102, I 0, I 2, smpV] := rfl
  have e2 : smp2.av smpV2 = .agg [I 100, I 102, I 0, I 2, smpV2] := rfl
  have s1 : smpV.scalar = true := rfl
  have s2 : smpV.cells = [smpV] := rfl
  rw [e1] at hS
  rw [e2] at hS2
  simp only [e1] at h1 h2 h3 h4 h5 h6 h7
  simp only [e2] at h8
  clear k1 k2 k3 k4 k5 e1 e2
  generalize smpV = sv at *
  generalize smpV2 = sw at *
  generalize (smp.untilP 81).1 = u at *
  simp only [List.map_cons, List.map_nil] at h6
  refine (callFL_eq fn13 rfl (by simp [Tryd.f13])).trans ?_
  simp (maxSteps := 1000000) (implicitDefEqProofs := false) (disch := first | rfl | omega | assumption) only [go_sem, ↓reduceIte, Nat.reduceEqDiff, Nat.reduceAdd, Nat.reduceLeDiff, Nat.reduceBEq, Nat.reduceMul, Nat.reduceLT, Int.reduceLT, Int.reduceLE, Int.reduceToNat, Int.reduceNeg, Int.reduceEq, Int.reduceMul, reduceCtorEq, Int.reduceBEq, Int.reduceBNe, Int.reduceAdd, Int.reduceSub, hS, s1, s2, h1, h2, h3, h4, h5, h6, law_span, law_read]
  rw [chkK_of]; rotate_left; kernel_rfl
  simp (maxSteps := 1000000) (implicitDefEqProofs := false) (disch := first | rfl | omega | assumption) only [go_sem, ↓reduceIte, Nat.reduceEqDiff, Nat.reduceAdd, Nat.reduceLeDiff, Nat.reduceBEq, Nat.reduceMul, Nat.reduceLT, Int.reduceLT, Int.reduceLE, Int.reduceToNat, Int.reduceNeg, Int.reduceEq, Int.reduceMul, reduceCtorEq, Int.reduceBEq, Int.reduceBNe, Int.reduceAdd, Int.reduceSub, hS, hS2, s1, s2, h1, h2, h3, h4, h5, h6, h7, h8, law_span, law_read]
  rw [chkK_of]; rotate_left; kernel_rfl
  simp (maxSteps := 1000000) (implicitDefEqProofs := false) (disch := first | rfl | omega | assumption) only [go_sem, ↓reduceIte, Nat.reduceEqDiff, Nat.reduceAdd, Nat.reduceLeDiff, Nat.reduceBEq, Nat.reduceMul, Nat.reduceLT, Int.reduceLT, Int.reduceLE, Int.reduceToNat, Int.reduceNeg, Int.reduceEq, Int.reduceMul, reduceCtorEq, Int.reduceBEq, Int.reduceBNe, Int.reduceAdd, Int.reduceSub, hS, hS2, s1, s2, h1, h2, h3, h4, h5, h6, h7, h8, law_span, law_read]

end Go.Ab
/-
  The reference, walked: powers, sets, steps.
-/
namespace Go.Ab
open Go.Proofs
set_option linter.unusedSimpArgs false
set_option linter.unusedVariables false
set_option maxRecDepth 100000

variable {H : Heap}

theorem ld_ne {k m : Nat} {o : Option Nat} {r : Lds} (h : m ≠ k) : getAt (addLd k o r) m = getAt r m := by
  cases o
  · rfl
  · simp only [addLd, getAt]; rw [if_neg (Ne.symm h)]

theorem ld_eq {k : Nat} {o : Option Nat} {r : Lds} : getAt (addLd k o r) k = o.or (getAt r k) := by
  cases o
  · simp [addLd]
  · simp [addLd, getAt]

/-- What lies at a slice that was there before has not turned by what is made later. -/
theorem SlOk.old {sz : Nat} {v : AV} {xs : List AV} (h : SlOk H sz v xs) (A B : Heap) : pairM (some (H ++ A, H ++ B)) (gslOf v) = true := by
  rcases h.obj with hg | ⟨l, hg, hlt, hget⟩
  · rw [hg]; rfl
  · rw [hg, pairM_some]
    have hs : ∀ l : List AV, sameL l l = true := fun l => by
      induction l with
      | nil => rfl
      | cons x r ih => simp [sameL, AV.same_refl, ih]
    simp only [sameAt, List.getElem?_append_left hlt, hget, AO.same, hs]
    simp

theorem or_none' (o : Option Nat) : o.or none = o := by cases o <;> rfl

theorem pow_le {j n : Nat} (h : j ≤ n) : (2 : Nat) ^ j ≤ 2 ^ n := Nat.pow_le_pow_right (by omega) h

theorem wN {m : Nat} (h : m < 2 ^ 62) : IntKind.i64.wrap (m : Int) = m := w64 (by omega) (by omega)

abbrev pw (n : Nat) : Int := ((2 ^ n : Nat) : Int)

theorem power_loop (n : Nat) (hn : n ≤ 60) :
    ∀ (q j : Nat), j + q = n → ∀ E : Env, E.get 0 = I n → E.get 3 = I (pw j) → E.get 4 = I j →
    Option.map (finishC H.length) (execL cfg0 prog0 ⟨54, none, false, H.length⟩ (todoAt Tryd.f54 3) ⟨E, [], H, none⟩) = some ⟨.ret (I (pw n)), H, none⟩ := by
  intro q
  skip
  induction q with
  | zero =>
    intro j hj  E g0 g3 g4
    have hk' : ¬ (j : Int) < ((n : Nat) : Int) := by omega
    have ej : j = n := by omega
    subst ej
    simp only [loopIt, todoPast, todoAt, todoOf, firstReg, ↓reduceIte, Option.some.injEq, Nat.reduceEqDiff, reduceCtorEq, Tryd.f54]
    rw [execL_inLoop]
    simp (maxSteps := 1000000) (implicitDefEqProofs := false) (disch := first | rfl | omega | assumption) only [go_sem, ↓reduceIte, Nat.reduceEqDiff, Nat.reduceAdd, Nat.reduceLeDiff, Nat.reduceBEq, Nat.reduceMul, Nat.reduceLT, Int.reduceLT, Int.reduceLE, Int.reduceToNat, Int.reduceNeg, Int.reduceEq, Int.reduceMul, reduceCtorEq, Int.reduceBEq, Int.reduceBNe, Int.reduceAdd, Int.reduceSub, g0, g3, g4, ltT, ltF, leT, leF, hk']
  | succ q ih =>
    intro j hj  E g0 g3 g4
    have hk' : (j : Int) < ((n : Nat) : Int) := by omega
    have hk2 : j < n := by omega
    have p1 := pow_le (show j + 1 ≤ 60 by omega)
    have e1 : (2 : Int) * ((2 ^ j : Nat) : Int) = ((2 ^ (j + 1) : Nat) : Int) := by rw [Nat.pow_succ]; omega
    have e2 := wN (m := 2 ^ (j + 1)) (by omega)
    simp only [loopIt, todoPast, todoAt, todoOf, firstReg, ↓reduceIte, Option.some.injEq, Nat.reduceEqDiff, reduceCtorEq, Tryd.f54]
    rw [execL_inLoop]
    simp (maxSteps := 1000000) (implicitDefEqProofs := false) (disch := first | rfl | omega | assumption) only [go_sem, ↓reduceIte, Nat.reduceEqDiff, Nat.reduceAdd, Nat.reduceLeDiff, Nat.reduceBEq, Nat.reduceMul, Nat.reduceLT, Int.reduceLT, Int.reduceLE, Int.reduceToNat, Int.reduceNeg, Int.reduceEq, Int.reduceMul, reduceCtorEq, Int.reduceBEq, Int.reduceBNe, Int.reduceAdd, Int.reduceSub, g0, g3, g4, ltT, ltF, leT, leF, hk', e1, e2]
    exact ih (j + 1) (by omega) _ (by exact g0) (by rfl) (by rfl)

theorem ref_power (n : Nat) (hn : n ≤ 60) (H : Heap) : callFL cfg0 prog0 false 54 [I n] H none = some ⟨.ret (I (pw n)), H, none⟩ := by
  refine (callFL_eq fn54 rfl (by simp [Tryd.f54])).trans ?_
  simp (maxSteps := 1000000) (implicitDefEqProofs := false) (disch := first | rfl | omega | assumption) only [go_sem, ↓reduceIte, Nat.reduceEqDiff, Nat.reduceAdd, Nat.reduceLeDiff, Nat.reduceBEq, Nat.reduceMul, Nat.reduceLT, Int.reduceLT, Int.reduceLE, Int.reduceToNat, Int.reduceNeg, Int.reduceEq, Int.reduceMul, reduceCtorEq, Int.reduceBEq, Int.reduceBNe, Int.reduceAdd, Int.reduceSub, ltT, ltF, leT, leF]
  exact power_loop n hn n 0 (by omega) _ (by rfl) (by rfl) (by rfl)

theorem ref_Has {s n : Nat} (hs : s < 2 ^ 60) (hn : n ≤ 60) (H : Heap) : callFL cfg0 prog0 false 74 [I s, I n] H none = some ⟨.ret (.bool (s.testBit n)), H, none⟩ := by
  have hp := fun G : Heap => ref_power n hn G
  have p1 := pow_le hn
  have p2 : 0 < (2 : Nat) ^ n := Nat.two_pow_pos n
  have e1 : ((s : Nat) : Int).tdiv ((2 ^ n : Nat) : Int) = ((s / 2 ^ n : Nat) : Int) := rfl
  have e2 : ((s / 2 ^ n : Nat) : Int).tmod 2 = ((s / 2 ^ n % 2 : Nat) : Int) := rfl
  have e3 : (((s / 2 ^ n % 2 : Nat) : Int) == 1) = s.testBit n := by
    rw [Nat.testBit_eq_decide_div_mod_eq]
    have : s / 2 ^ n % 2 = 0 ∨ s / 2 ^ n % 2 = 1 := by omega
    rcases this with h | h <;> rw [h] <;> rfl
  have z : ((2 ^ n : Nat) : Int) ≠ 0 := by omega
  have d := div_lt (j := n) hs
  have e4 : IntKind.i64.wrap ((s / 2 ^ n : Nat) : Int) = ((s / 2 ^ n : Nat) : Int) := wN (by omega)
  refine (callFL_eq fn74 rfl (by simp [Tryd.f74])).trans ?_
  simp (maxSteps := 1000000) (implicitDefEqProofs := false) (disch := first | rfl | omega | assumption) only [go_sem, ↓reduceIte, Nat.reduceEqDiff, Nat.reduceAdd, Nat.reduceLeDiff, Nat.reduceBEq, Nat.reduceMul, Nat.reduceLT, Int.reduceLT, Int.reduceLE, Int.reduceToNat, Int.reduceNeg, Int.reduceEq, Int.reduceMul, reduceCtorEq, Int.reduceBEq, Int.reduceBNe, Int.reduceAdd, Int.reduceSub, ltT, ltF, leT, leF, hp, e1, e2, e3, e4, z]

def takP (w : Wea) (e : Ev) : Int × Int := if e.k = 0 then (e.u * w.ulo, e.u * w.uhi) else if e.k = 2 then (e.lo, e.hi) else (0, 0)

theorem ref_takes {w : Wea} {ve : AV} (h : WeaAt H w ve) (ho : w.Ok) (e : Ev) (he : e.ok = true) : callFL cfg0 prog0 false 92 [w.av ve, e.av] H none = some ⟨.ret (KV (takP w e)), H, none⟩ := by
  have s1 := h.es.scal
  have hu := ho.use
  simp only [Wea.av, Ev.av, takP]
  rcases (Ev.ok_iff e).1 he with ⟨k0, k1⟩ | ⟨k0, k1⟩ | ⟨k0, k1⟩
  · have b1 := mul_bd k1 (show 0 ≤ w.ulo ∧ w.ulo ≤ 3 by omega)
    have b2 := mul_bd k1 (show 0 ≤ w.uhi ∧ w.uhi ≤ 3 by omega)
    refine (callFL_eq fn92 rfl (by simp [Tryd.f92])).trans ?_
    simp (maxSteps := 1000000) (implicitDefEqProofs := false) (disch := first | rfl | omega | assumption) only [go_sem, ↓reduceIte, Nat.reduceEqDiff, Nat.reduceAdd, Nat.reduceLeDiff, Nat.reduceBEq, Nat.reduceMul, Nat.reduceLT, Int.reduceLT, Int.reduceLE, Int.reduceToNat, Int.reduceNeg, Int.reduceEq, Int.reduceMul, reduceCtorEq, Int.reduceBEq, Int.reduceBNe, Int.reduceAdd, Int.reduceSub, ltT, ltF, leT, leF, s1, k0]
  · refine (callFL_eq fn92 rfl (by simp [Tryd.f92])).trans ?_
    simp (maxSteps := 1000000) (implicitDefEqProofs := false) (disch := first | rfl | omega | assumption) only [go_sem, ↓reduceIte, Nat.reduceEqDiff, Nat.reduceAdd, Nat.reduceLeDiff, Nat.reduceBEq, Nat.reduceMul, Nat.reduceLT, Int.reduceLT, Int.reduceLE, Int.reduceToNat, Int.reduceNeg, Int.reduceEq, Int.reduceMul, reduceCtorEq, Int.reduceBEq, Int.reduceBNe, Int.reduceAdd, Int.reduceSub, ltT, ltF, leT, leF, s1, k0]
  · refine (callFL_eq fn92 rfl (by simp [Tryd.f92])).trans ?_
    simp (maxSteps := 1000000) (implicitDefEqProofs := false) (disch := first | rfl | omega | assumption) only [go_sem, ↓reduceIte, Nat.reduceEqDiff, Nat.reduceAdd, Nat.reduceLeDiff, Nat.reduceBEq, Nat.reduceMul, Nat.reduceLT, Int.reduceLT, Int.reduceLE, Int.reduceToNat, Int.reduceNeg, Int.reduceEq, Int.reduceMul, reduceCtorEq, Int.reduceBEq, Int.reduceBNe, Int.reduceAdd, Int.reduceSub, ltT, ltF, leT, leF, s1, k0]

/-- One step of the reference. -/
def nxE (w : Wea) (e : Ev) (b : Bool) (l : Int × Int) : Int × Int :=
  if (decide (e.k = 1) && b) = true then (max (l.1 - (takP w e).2) e.lo, min (l.2 - (takP w e).1) e.hi) else (l.1 - (takP w e).2, l.2 - (takP w e).1)

theorem takP_bd {w : Wea} (ho : w.Ok) {e : Ev} (he : e.ok = true) : 0 ≤ (takP w e).1 ∧ (takP w e).1 ≤ (takP w e).2 ∧ (takP w e).2 ≤ 60 := by
  have hu := ho.use
  simp only [takP]
  rcases (Ev.ok_iff e).1 he with ⟨k0, k1⟩ | ⟨k0, k1⟩ | ⟨k0, k1⟩
  · have b1 := mul_bd k1 (show 0 ≤ w.ulo ∧ w.ulo ≤ 3 by omega)
    have b2 := mul_bd k1 (show 0 ≤ w.uhi ∧ w.uhi ≤ 3 by omega)
    have b3 : e.u * w.ulo ≤ e.u * w.uhi := Int.mul_le_mul_of_nonneg_left (by omega) (by omega)
    rw [if_pos k0]
    simp only
    omega
  · rw [if_neg (by omega), if_neg (by omega)]
    simp only
    omega
  · rw [if_neg (by omega), if_pos k0]
    simp only
    omega

theorem ref_next {w : Wea} {ve : AV} (h : WeaAt H w ve) (ho : w.Ok) (e : Ev) (he : e.ok = true) (l : Int × Int) (hb : bd 1000000 l) (b : Bool) :
    callFL cfg0 prog0 false 84 [w.av ve, KV l, e.av, .bool b] H none = some ⟨.ret (KV (nxE w e b l)), H, none⟩ := by
  have s1 := h.es.scal
  have hT := fun G : Heap => ref_takes (h.app G) ho e he
  obtain ⟨t1, t2, t3⟩ := takP_bd ho he
  simp only [bd] at hb
  have hmx : ∀ a c : Int, (if a < c then c else a) = max a c := by intro a c; split <;> omega
  have hmn : ∀ a c : Int, (if c < a then c else a) = min a c := by intro a c; split <;> omega
  simp only [Wea.av, Ev.av, nxE] at hT ⊢
  generalize takP w e = t at *
  by_cases hk : e.k = 1
  · have hk' : (e.k == 1) = true := beq_iff_eq.2 hk
    have dk : decide (e.k = 1) = true := decide_eq_true hk
    cases b
    · refine (callFL_eq fn84 rfl (by simp [Tryd.f84])).trans ?_
      simp (maxSteps := 1000000) (implicitDefEqProofs := false) (disch := first | rfl | omega | assumption) only [go_sem, ↓reduceIte, Nat.reduceEqDiff, Nat.reduceAdd, Nat.reduceLeDiff, Nat.reduceBEq, Nat.reduceMul, Nat.reduceLT, Int.reduceLT, Int.reduceLE, Int.reduceToNat, Int.reduceNeg, Int.reduceEq, Int.reduceMul, reduceCtorEq, Int.reduceBEq, Int.reduceBNe, Int.reduceAdd, Int.reduceSub, ltT, ltF, leT, leF, s1, hT, dk, hk', hmx, hmn, Bool.true_and, Bool.and_true]
      done
    · refine (callFL_eq fn84 rfl (by simp [Tryd.f84])).trans ?_
      simp (maxSteps := 1000000) (implicitDefEqProofs := false) (disch := first | rfl | omega | assumption) only [go_sem, ↓reduceIte, Nat.reduceEqDiff, Nat.reduceAdd, Nat.reduceLeDiff, Nat.reduceBEq, Nat.reduceMul, Nat.reduceLT, Int.reduceLT, Int.reduceLE, Int.reduceToNat, Int.reduceNeg, Int.reduceEq, Int.reduceMul, reduceCtorEq, Int.reduceBEq, Int.reduceBNe, Int.reduceAdd, Int.reduceSub, ltT, ltF, leT, leF, s1, hT, dk, hk', hmx, hmn, Bool.true_and, Bool.and_true]
      done
  · have hk' : (e.k == 1) = false := beq_eq_false_iff_ne.2 hk
    have dk : decide (e.k = 1) = false := decide_eq_false hk
    refine (callFL_eq fn84 rfl (by simp [Tryd.f84])).trans ?_
    simp (maxSteps := 1000000) (implicitDefEqProofs := false) (disch := first | rfl | omega | assumption) only [go_sem, ↓reduceIte, Nat.reduceEqDiff, Nat.reduceAdd, Nat.reduceLeDiff, Nat.reduceBEq, Nat.reduceMul, Nat.reduceLT, Int.reduceLT, Int.reduceLE, Int.reduceToNat, Int.reduceNeg, Int.reduceEq, Int.reduceMul, reduceCtorEq, Int.reduceBEq, Int.reduceBNe, Int.reduceAdd, Int.reduceSub, ltT, ltF, leT, leF, s1, hT, dk, hk', hmx, hmn, Bool.false_and]
    done

/-- The reference's run. -/
def Wea.runP (w : Wea) (s : Nat) (l : Int × Int) : Nat → Nat → Int × Int
  | _, 0 => l
  | i, q + 1 => if l.1 ≤ l.2 then w.runP s (nxE w (w.ev i) (s.testBit i) l) (i + 1) q else l

theorem nxE_bd {w : Wea} (ho : w.Ok) {e : Ev} (he : e.ok = true) (b : Bool) {l : Int × Int} {K : Int} (hK : 1000 ≤ K) (h : bd K l) : bd (K + 60) (nxE w e b l) := by
  obtain ⟨t1, t2, t3⟩ := takP_bd ho he
  simp only [bd, nxE] at h ⊢
  by_cases hk : e.k = 1
  · rcases (Ev.ok_iff e).1 he with ⟨k0, k1⟩ | ⟨k0, k1⟩ | ⟨k0, k1⟩
    · omega
    · split <;> simp only <;> omega
    · omega
  · simp only [hk, decide_false, Bool.false_and, Bool.false_eq_true, if_false]
    omega

theorem ok_ev {w : Wea} (ho : w.Ok) {i : Nat} (hi : i < w.es.length) : (w.ev i).ok = true := (Ev.ok_iff _).2 (ho.ev i hi)

theorem run_loop {w : Wea} {ve : AV} (h : WeaAt H w ve) (ho : w.Ok) (s : Nat) (hs : s < 2 ^ 60) (n : Nat) (hn : n ≤ w.es.length) :
    ∀ (q j : Nat), j + q = n → ∀ (l : Int × Int), bd (100000 + 60 * j) l → ∀ E : Env, E.get 3 = I n → E.get 4 = I s → E.get 5 = .ptr H.length 0 → E.get 6 = .ptr (H.length + 1) 0 → E.get 10 = .ptr (H.length + 2) 0 → E.get 11 = I j →
    Option.map (finishC H.length) (execL cfg0 prog0 ⟨50, none, false, H.length⟩ (todoAt Tryd.f50 2) ⟨E, [], H ++ [.box (w.av ve), .box (KV l), .box (KV (0, 0))], none⟩) = some ⟨.ret (KV (w.runP s l j q)), H, none⟩ := by
  intro q
  have h8 := ho.many
  have s1 := h.es.scal
  obtain ⟨a1, a2, a3, a4, a5⟩ := h.es.fA (d := ev0)
  simp only [Wea.av]
  induction q with
  | zero =>
    intro j hj l hl E g3 g4 g5 g6 g10 g11
    have hk' : ¬ (j : Int) < ((n : Nat) : Int) := by omega
    simp only [loopIt, todoPast, todoAt, todoOf, firstReg, ↓reduceIte, Option.some.injEq, Nat.reduceEqDiff, reduceCtorEq, Tryd.f50]
    rw [execL_inLoop]
    simp (maxSteps := 1000000) (implicitDefEqProofs := false) (disch := first | rfl | omega | assumption) only [go_sem, ↓reduceIte, Nat.reduceEqDiff, Nat.reduceAdd, Nat.reduceLeDiff, Nat.reduceBEq, Nat.reduceMul, Nat.reduceLT, Int.reduceLT, Int.reduceLE, Int.reduceToNat, Int.reduceNeg, Int.reduceEq, Int.reduceMul, reduceCtorEq, Int.reduceBEq, Int.reduceBNe, Int.reduceAdd, Int.reduceSub, g3, g4, g5, g6, g10, g11, ltT, ltF, leT, leF, hk', s1, Wea.runP]
    done
  | succ q ih =>
    intro j hj l hl E g3 g4 g5 g6 g10 g11
    have hk' : (j : Int) < ((n : Nat) : Int) := by omega
    have hk2 : j < n := by omega
    simp only [Wea.runP]
    have hj8 : j < w.es.length := by omega
    have hH := fun G : Heap => ref_Has hs (show j ≤ 60 by omega) G
    have hN := fun G : Heap => ref_next (h.app G) ho (w.es.getD j ev0) (ok_ev ho hj8) l (bd_mono (by omega) hl) (s.testBit j)
    have hr : readPart (w.es.getD j ev0).av.cells 0 ⟨.struct [(0, 3), (1, 3), (2, 23)], 4, 32, some (.agg #[.int .i64 0, .int .i64 0, .int .i64 0, .int .i64 0])⟩ = some (w.es.getD j ev0).av := rfl
    have hb' := nxE_bd ho (ok_ev ho hj8) (s.testBit j) (by omega) hl
    have o1 := h.es.old
    have o2 := fun (k : Int) (off : Nat) => ptrOf_elA (k := k) (off := off) h.es
    simp only [Wea.av] at hN
    by_cases hc : l.1 ≤ l.2
    · skip
      simp only [loopIt, todoPast, todoAt, todoOf, firstReg, ↓reduceIte, Option.some.injEq, Nat.reduceEqDiff, reduceCtorEq, Tryd.f50]
      rw [execL_inLoop]
      simp (maxSteps := 1000000) (implicitDefEqProofs := false) (disch := first | rfl | omega | assumption) only [go_sem, ↓reduceIte, Nat.reduceEqDiff, Nat.reduceAdd, Nat.reduceLeDiff, Nat.reduceBEq, Nat.reduceMul, Nat.reduceLT, Int.reduceLT, Int.reduceLE, Int.reduceToNat, Int.reduceNeg, Int.reduceEq, Int.reduceMul, reduceCtorEq, Int.reduceBEq, Int.reduceBNe, Int.reduceAdd, Int.reduceSub, g3, g4, g5, g6, g10, g11, ltT, ltF, leT, leF, hk', s1, hc]
      rw [chkK_of]; rotate_left; kernel_rfl
      simp (maxSteps := 1000000) (implicitDefEqProofs := false) (disch := first | rfl | omega | assumption) only [go_sem, ↓reduceIte, Nat.reduceEqDiff, Nat.reduceAdd, Nat.reduceLeDiff, Nat.reduceBEq, Nat.reduceMul, Nat.reduceLT, Int.reduceLT, Int.reduceLE, Int.reduceToNat, Int.reduceNeg, Int.reduceEq, Int.reduceMul, reduceCtorEq, Int.reduceBEq, Int.reduceBNe, Int.reduceAdd, Int.reduceSub, g3, g4, g5, g6, g10, g11, ltT, ltF, leT, leF, hk', s1, hc, a1, a2, a3, a4, hr, hH, hN, o1, o2, ld_ne, ld_eq, or_none']
      exact ih (j + 1) (by omega) _ (bd_mono (by omega) hb') _ (by exact g3) (by exact g4) (by exact g5) (by exact g6) (by exact g10) (by rfl)
    · skip
      simp only [loopIt, todoPast, todoAt, todoOf, firstReg, ↓reduceIte, Option.some.injEq, Nat.reduceEqDiff, reduceCtorEq, Tryd.f50]
      rw [execL_inLoop]
      simp (maxSteps := 1000000) (implicitDefEqProofs := false) (disch := first | rfl | omega | assumption) only [go_sem, ↓reduceIte, Nat.reduceEqDiff, Nat.reduceAdd, Nat.reduceLeDiff, Nat.reduceBEq, Nat.reduceMul, Nat.reduceLT, Int.reduceLT, Int.reduceLE, Int.reduceToNat, Int.reduceNeg, Int.reduceEq, Int.reduceMul, reduceCtorEq, Int.reduceBEq, Int.reduceBNe, Int.reduceAdd, Int.reduceSub, g3, g4, g5, g6, g10, g11, ltT, ltF, leT, leF, hk', s1, hc]

end Go.Ab
/-
  What the reference's runs tell.
-/
namespace Go.Ab
open Go.Proofs
set_option linter.unusedSimpArgs false
set_option linter.unusedVariables false
set_option maxRecDepth 100000

variable {H : Heap}

theorem nx_tells {w : Wea} (ho : w.Ok) {S : Int → Prop} {l : Int × Int} (h : isSp S l) (s : Nat) {i : Nat} (hi : i < w.es.length) : tells (fun y => ∃ x, S x ∧ (w.evz s i).go x y) 0 (nxE w (w.ev i) (s.testBit i) l) := by
  have hle := h.1
  have hu := ho.use
  simp only [nxE, takP, Wea.evz, h.2]
  rcases ho.ev i hi with ⟨k0, k1⟩ | ⟨k0, k1⟩ | ⟨k0, k1⟩
  · have b3 : (w.ev i).u * w.ulo ≤ (w.ev i).u * w.uhi := Int.mul_le_mul_of_nonneg_left (by omega) (by omega)
    simp only [k0, if_true, (show ¬ (0 : Int) = 1 by decide), decide_false, Bool.false_and, Bool.false_eq_true, if_false, EvZ.go, inP]
    refine .inl ⟨by simp only; omega, fun y => ?_⟩
    simp only [inP]
    exact ⟨fun ⟨x, hx⟩ => by omega, fun hy => ⟨max l.1 (y + (w.ev i).u * w.ulo), by omega⟩⟩
  · cases hb : s.testBit i
    · simp only [k0, if_true, (show ¬ (1 : Int) = 0 by decide), (show ¬ (1 : Int) = 2 by decide), decide_true, Bool.and_false, Bool.false_eq_true, if_false, EvZ.go, inP]
      refine .inl ⟨by simp only; omega, fun y => ?_⟩
      simp only [inP]
      exact ⟨fun ⟨x, hx⟩ => by omega, fun hy => ⟨y, by omega⟩⟩
    · simp only [k0, if_true, (show ¬ (1 : Int) = 0 by decide), (show ¬ (1 : Int) = 2 by decide), decide_true, Bool.and_true, Bool.false_eq_true, if_false, EvZ.go, inP]
      by_cases hc : max (l.1 - 0) (w.ev i).lo ≤ min (l.2 - 0) (w.ev i).hi
      · refine .inl ⟨hc, fun y => ?_⟩
        simp only [inP]
        exact ⟨fun ⟨x, hx⟩ => by omega, fun hy => ⟨y, by omega⟩⟩
      · exact .inr ⟨fun y ⟨x, hx⟩ => by omega, by simp only; omega⟩
  · simp only [k0, if_true, (show ¬ (2 : Int) = 0 by decide), (show ¬ (2 : Int) = 1 by decide), decide_false, Bool.false_and, Bool.false_eq_true, if_false, EvZ.go, inP]
    refine .inl ⟨by simp only; omega, fun y => ?_⟩
    simp only [inP]
    exact ⟨fun ⟨x, hx⟩ => by omega, fun hy => ⟨max l.1 (y + (w.ev i).lo), by omega⟩⟩

/-- From some lengths on, through some events. -/
def Wea.rS (w : Wea) (s : Nat) (S : Int → Prop) (i q : Nat) (y : Int) : Prop := ∃ k : Nat → Int, S (k i) ∧ (∀ j, i ≤ j → j < i + q → (w.evz s j).go (k j) (k (j + 1))) ∧ k (i + q) = y

theorem run_tells {w : Wea} (ho : w.Ok) (s : Nat) : ∀ (q i : Nat) (S : Int → Prop) (l : Int × Int), i + q ≤ w.es.length → tells S 0 l → tells (w.rS s S i q) 0 (w.runP s l i q)
  | 0, i, S, l, _, h => by
    refine tells_cong (fun y => ?_) h
    exact ⟨fun hy => ⟨fun _ => y, hy, by omega, rfl⟩, fun ⟨k, h1, _, h3⟩ => h3 ▸ h1⟩
  | q + 1, i, S, l, hi, h => by
    simp only [Wea.runP]
    split
    · rename_i hc
      have hs : isSp S l := tells_sp h ((tells_some h (by omega)).1 hc)
      have ih := run_tells ho s q (i + 1) _ _ (by omega) (nx_tells ho hs s (show i < w.es.length by omega))
      refine tells_cong (fun y => ?_) ih
      constructor
      · rintro ⟨k, ⟨x, h1, h2⟩, h3, h4⟩
        refine ⟨fun j => if j ≤ i then x else k j, by simpa using h1, fun j h5 h6 => ?_, ?_⟩
        · by_cases hj : j = i
          · subst hj
            simpa [show ¬ j + 1 ≤ j by omega] using h2
          · have := h3 j (by omega) (by omega)
            simpa [show ¬ j ≤ i by omega, show ¬ j + 1 ≤ i by omega] using this
        · rw [← h4]
          simp [show ¬ i + (q + 1) ≤ i by omega, show i + 1 + q = i + (q + 1) by omega]
      · rintro ⟨k, h1, h2, h3⟩
        exact ⟨k, ⟨k i, h1, h2 i (by omega) (by omega)⟩, fun j h4 h5 => h2 j (by omega) (by omega), by rw [← h3, show i + 1 + q = i + (q + 1) by omega]⟩
    · rename_i hc
      have hn : ∀ x, ¬ S x := fun x hx => hc ((tells_some h (by omega)).2 ⟨x, hx⟩)
      exact .inr ⟨fun y ⟨k, h1, _⟩ => hn _ h1, by omega⟩

/-- The set of all events. -/
def Wea.ev1 (w : Wea) : Nat := 2 ^ w.es.length - 1

theorem ev1_bit (w : Wea) (i : Nat) : w.ev1.testBit i = decide (i < w.es.length) := Nat.testBit_two_pow_sub_one ..

theorem ev1_go {w : Wea} (ho : w.Ok) {i : Nat} (hi : i < w.es.length) (x y : Int) : (w.evz w.ev1 i).go x y ↔ (w.ev i).go w.U x y := by
  simp only [Wea.evz, Ev.go, ev1_bit, hi, decide_true]
  rcases ho.ev i hi with ⟨k0, k1⟩ | ⟨k0, k1⟩ | ⟨k0, k1⟩
  · simp only [k0, if_true, EvZ.go]
  · simp only [k0, if_true, if_false, EvZ.go, (show ¬ (1 : Int) = 0 by decide), (show ¬ (1 : Int) = 2 by decide)]
  · simp only [k0, if_true, if_false, EvZ.go, (show ¬ (2 : Int) = 0 by decide)]

/-- By all events. -/
def Wea.rT (w : Wea) (S : Int → Prop) (i q : Nat) (y : Int) : Prop := ∃ k : Nat → Int, S (k i) ∧ (∀ j, i ≤ j → j < i + q → (w.ev j).go w.U (k j) (k (j + 1))) ∧ k (i + q) = y

theorem runT {w : Wea} (ho : w.Ok) {q i : Nat} {l : Int × Int} (hl : l.1 ≤ l.2) (h : i + q ≤ w.es.length) : tells (w.rT (inP l) i q) 0 (w.runP w.ev1 l i q) := by
  refine tells_cong (fun y => ?_) (run_tells ho w.ev1 q i (inP l) l h (.inl ⟨hl, fun _ => Iff.rfl⟩))
  constructor
  · rintro ⟨k, h1, h2, h3⟩
    exact ⟨k, h1, fun j a b => (ev1_go ho (by omega) _ _).1 (h2 j a b), h3⟩
  · rintro ⟨k, h1, h2, h3⟩
    exact ⟨k, h1, fun j a b => (ev1_go ho (by omega) _ _).2 (h2 j a b), h3⟩

theorem canR {w : Wea} (ho : w.Ok) : decide ((w.runP w.ev1 w.L 0 w.es.length).1 ≤ (w.runP w.ev1 w.L 0 w.es.length).2) = w.can := by
  have h := tells_some (runT ho (i := 0) (q := w.es.length) (L_ok ho) (by omega)) (by omega)
  rw [Bool.eq_iff_iff, decide_eq_true_eq, canT ho, h]
  constructor
  · rintro ⟨x, k, h1, h2, h3⟩
    exact ⟨k, h1, fun i hi => h2 i (by omega) (by omega)⟩
  · rintro ⟨l, h1, h2⟩
    exact ⟨_, l, h1, fun i _ hi => h2 i (by omega), rfl⟩

/-- The lengths that can be, at some place. -/
def Wea.aT (w : Wea) (i : Nat) (x : Int) : Prop := ∃ l, w.T l ∧ l i = x

/-- A length there is that can be, if it can be up to there and from there on. -/
theorem aT_iff {w : Wea} {i : Nat} (hi : i ≤ w.es.length) (x : Int) : w.aT i x ↔ w.rT (inP w.L) 0 i x ∧ ∃ y, w.rT (inP (x, x)) i (w.es.length - i) y := by
  constructor
  · rintro ⟨l, h, rfl⟩
    exact ⟨⟨l, h.1, fun j _ hj => h.2 j (by omega), by rw [Nat.zero_add]⟩, _, l, ⟨Int.le_refl _, Int.le_refl _⟩, fun j _ hj => h.2 j (by omega), rfl⟩
  · rintro ⟨⟨k, h1, h2, h3⟩, y, k', g1, g2, -⟩
    simp only [inP] at g1
    rw [Nat.zero_add] at h3
    refine ⟨fun j => if j ≤ i then k j else k' j, ⟨by simpa using h1, fun j hj => ?_⟩, by simpa using h3⟩
    rcases Nat.lt_trichotomy j i with hji | hji | hji
    · have := h2 j (by omega) (by omega)
      simpa [show j ≤ i by omega, show j + 1 ≤ i by omega] using this
    · subst hji
      have := g2 j (by omega) (by omega)
      have e : k j = k' j := by omega
      simpa [show ¬ j + 1 ≤ j by omega, e] using this
    · have := g2 j (by omega) (by omega)
      simpa [show ¬ j ≤ i by omega, show ¬ j + 1 ≤ i by omega] using this

/-- The ends of what is told up to a number; none yet. -/
def hullTo (S : Int → Prop) (x : Int) (b : Bool) (p : Int × Int) : Prop := if b then hull (fun y => S y ∧ y < x) p else p = (0, 0) ∧ ∀ y, S y → ¬ y < x

theorem hullTo_step {S : Int → Prop} {x : Int} {b : Bool} {p : Int × Int} (h : hullTo S x b p) (hx : S x) : hullTo S (x + 1) true (if b then p.1 else x, x) := by
  simp only [hullTo, if_true]
  cases b
  · simp only [hullTo, Bool.false_eq_true, if_false] at h ⊢
    exact ⟨⟨hx, by omega⟩, ⟨hx, by omega⟩, fun y ⟨h1, h2⟩ => by have := h.2 y h1; simp only [inP]; omega⟩
  · simp only [hullTo, if_true] at h ⊢
    obtain ⟨h1, h2, h3⟩ := h
    refine ⟨⟨h1.1, by have := h1.2; simp only; omega⟩, ⟨hx, by omega⟩, fun y ⟨g1, g2⟩ => ?_⟩
    by_cases hy : y = x
    · have := h1.2
      simp only [inP]
      omega
    · have := h3 y ⟨g1, by omega⟩
      simp only [inP] at this ⊢
      omega

theorem hullTo_skip {S : Int → Prop} {x : Int} {b : Bool} {p : Int × Int} (h : hullTo S x b p) (hx : ¬ S x) : hullTo S (x + 1) b p := by
  have e : ∀ y, (S y ∧ y < x + 1) ↔ S y ∧ y < x := fun y => ⟨fun ⟨h1, h2⟩ => ⟨h1, by
    by_cases hy : y = x
    · subst hy; exact absurd h1 hx
    · omega⟩, fun ⟨h1, h2⟩ => ⟨h1, by omega⟩⟩
  cases b
  · simp only [hullTo, Bool.false_eq_true, if_false] at h ⊢
    refine ⟨h.1, fun y h1 h2 => h.2 y h1 ((e y).1 ⟨h1, h2⟩).2⟩
  · simp only [hullTo, if_true] at h ⊢
    exact hull_cong (fun y => (e y).symm) h

end Go.Ab
/-
  The reference, walked: runs, errors, lengths.
-/
namespace Go.Ab
open Go.Proofs
set_option linter.unusedSimpArgs false
set_option linter.unusedVariables false
set_option maxRecDepth 100000

variable {H : Heap}

theorem ref_run {w : Wea} {ve : AV} (h : WeaAt H w ve) (ho : w.Ok) (s : Nat) (hs : s < 2 ^ 60) {l : Int × Int} (hb : bd 100000 l) {i n : Nat} (hi : i ≤ n) (hn : n ≤ w.es.length) :
    callFL cfg0 prog0 false 50 [w.av ve, KV l, I i, I n, I s] H none = some ⟨.ret (KV (w.runP s l i (n - i))), H, none⟩ := by
  have s1 := h.es.scal
  have hr := run_loop h ho s hs n hn (n - i) i (by omega)
  simp only [Wea.av] at hr ⊢
  refine (callFL_eq fn50 rfl (by simp [Tryd.f50])).trans ?_
  simp (maxSteps := 1000000) (implicitDefEqProofs := false) (disch := first | rfl | omega | assumption) only [go_sem, ↓reduceIte, Nat.reduceEqDiff, Nat.reduceAdd, Nat.reduceLeDiff, Nat.reduceBEq, Nat.reduceMul, Nat.reduceLT, Int.reduceLT, Int.reduceLE, Int.reduceToNat, Int.reduceNeg, Int.reduceEq, Int.reduceMul, reduceCtorEq, Int.reduceBEq, Int.reduceBNe, Int.reduceAdd, Int.reduceSub, ltT, ltF, leT, leF, s1]
  exact hr l (bd_mono (by omega) hb) _ (by rfl) (by rfl) (by rfl) (by rfl) (by rfl) (by rfl)

theorem ev1_lt {w : Wea} (ho : w.Ok) : w.ev1 < 2 ^ 60 := by
  have h8 := ho.many
  have := pow_le h8
  simp only [Wea.ev1]
  omega

theorem ref_every {w : Wea} {ve : AV} (h : WeaAt H w ve) (ho : w.Ok) : callFL cfg0 prog0 false 51 [w.av ve] H none = some ⟨.ret (I w.ev1), H, none⟩ := by
  have s1 := h.es.scal
  have s2 := h.es.len
  rw [List.length_map] at s2
  have h8 := ho.many
  have hp := fun G : Heap => ref_power w.es.length (by omega) G
  have p1 := pow_le h8
  have p2 : 0 < (2 : Nat) ^ w.es.length := Nat.two_pow_pos _
  have e1 : pw w.es.length - 1 = (w.ev1 : Int) := by simp only [pw, Wea.ev1]; omega
  have e2 := wN (m := w.ev1) (by have := ev1_lt ho; omega)
  simp only [Wea.av]
  refine (callFL_eq fn51 rfl (by simp [Tryd.f51])).trans ?_
  simp (maxSteps := 1000000) (implicitDefEqProofs := false) (disch := first | rfl | omega | assumption) only [go_sem, ↓reduceIte, Nat.reduceEqDiff, Nat.reduceAdd, Nat.reduceLeDiff, Nat.reduceBEq, Nat.reduceMul, Nat.reduceLT, Int.reduceLT, Int.reduceLE, Int.reduceToNat, Int.reduceNeg, Int.reduceEq, Int.reduceMul, reduceCtorEq, Int.reduceBEq, Int.reduceBNe, Int.reduceAdd, Int.reduceSub, ltT, ltF, leT, leF, s1, s2, hp, e1, e2]
  done

theorem ref_can {w : Wea} {ve : AV} (h : WeaAt H w ve) (ho : w.Ok) (s : Nat) (hs : s < 2 ^ 60) {l : Int × Int} (hb : bd 100000 l) :
    callFL cfg0 prog0 false 73 [w.av ve, KV l, I s] H none = some ⟨.ret (.bool (decide ((w.runP s l 0 w.es.length).1 ≤ (w.runP s l 0 w.es.length).2))), H, none⟩ := by
  have s1 := h.es.scal
  have s2 := h.es.len
  rw [List.length_map] at s2
  have hR := fun G : Heap => ref_run (h.app G) ho s hs hb (Nat.zero_le w.es.length) (Nat.le_refl _)
  simp only [Wea.av, Nat.sub_zero, Int.natCast_zero] at hR ⊢
  refine (callFL_eq fn73 rfl (by simp [Tryd.f73])).trans ?_
  simp (maxSteps := 1000000) (implicitDefEqProofs := false) (disch := first | rfl | omega | assumption) only [go_sem, ↓reduceIte, Nat.reduceEqDiff, Nat.reduceAdd, Nat.reduceLeDiff, Nat.reduceBEq, Nat.reduceMul, Nat.reduceLT, Int.reduceLT, Int.reduceLE, Int.reduceToNat, Int.reduceNeg, Int.reduceEq, Int.reduceMul, reduceCtorEq, Int.reduceBEq, Int.reduceBNe, Int.reduceAdd, Int.reduceSub, ltT, ltF, leT, leF, s1, s2, hR]
  done

theorem L_bd5 {w : Wea} (ho : w.Ok) : bd 100000 w.L := by
  have := ho.len
  simp only [bd, Wea.L]
  omega

theorem ref_check {w : Wea} {ve : AV} (h : WeaAt H w ve) (many : Int) (b : Bool) :
    callFL cfg0 prog0 false 45 [w.av ve, I many, .bool b] H none = some ⟨.ret (I (w.gate many b)), H, none⟩ := by
  have s1 := h.es.scal
  have hV := fun G : Heap => ref_Wear (h.app G)
  have hav : w.av ve = .agg [I w.llo, I w.lhi, I w.ulo, I w.uhi, ve] := rfl
  simp only [Wea.gate, hav] at hV ⊢
  rcases Bool.eq_false_or_eq_true w.valid with hv | hv
  rotate_left
  · simp only [hv, Bool.false_eq_true, if_false] at hV ⊢
    refine (callFL_eq fn45 rfl (by simp [Tryd.f45])).trans ?_
    simp (maxSteps := 1000000) (implicitDefEqProofs := false) (disch := first | rfl | omega | assumption) only [go_sem, ↓reduceIte, Nat.reduceEqDiff, Nat.reduceAdd, Nat.reduceLeDiff, Nat.reduceBEq, Nat.reduceMul, Nat.reduceLT, Int.reduceLT, Int.reduceLE, Int.reduceToNat, Int.reduceNeg, Int.reduceEq, Int.reduceMul, reduceCtorEq, Int.reduceBEq, Int.reduceBNe, Int.reduceAdd, Int.reduceSub, ltT, ltF, leT, leF, s1, hV]
    done
  · have ho := w.valid_iff.1 hv
    have hE := fun G : Heap => ref_every (h.app G) ho
    have hC := fun G : Heap => ref_can (h.app G) ho w.ev1 (ev1_lt ho) (L_bd5 ho)
    rw [canR ho] at hC
    simp only [hv, if_true, hav, Wea.L] at hV hE hC ⊢
    by_cases hm : many ≤ 10
    · have hm' : ¬ 10 < many := by omega
      cases b
      · simp only [hm, if_true, Bool.false_eq_true, if_false]
        refine (callFL_eq fn45 rfl (by simp [Tryd.f45])).trans ?_
        simp (maxSteps := 1000000) (implicitDefEqProofs := false) (disch := first | rfl | omega | assumption) only [go_sem, ↓reduceIte, Nat.reduceEqDiff, Nat.reduceAdd, Nat.reduceLeDiff, Nat.reduceBEq, Nat.reduceMul, Nat.reduceLT, Int.reduceLT, Int.reduceLE, Int.reduceToNat, Int.reduceNeg, Int.reduceEq, Int.reduceMul, reduceCtorEq, Int.reduceBEq, Int.reduceBNe, Int.reduceAdd, Int.reduceSub, ltT, ltF, leT, leF, s1, hV, hm']
        done
      · simp only [hm, if_true]
        rcases Bool.eq_false_or_eq_true w.can with hc | hc
        · simp only [hc, if_true] at hC ⊢
          refine (callFL_eq fn45 rfl (by simp [Tryd.f45])).trans ?_
          simp (maxSteps := 1000000) (implicitDefEqProofs := false) (disch := first | rfl | omega | assumption) only [go_sem, ↓reduceIte, Nat.reduceEqDiff, Nat.reduceAdd, Nat.reduceLeDiff, Nat.reduceBEq, Nat.reduceMul, Nat.reduceLT, Int.reduceLT, Int.reduceLE, Int.reduceToNat, Int.reduceNeg, Int.reduceEq, Int.reduceMul, reduceCtorEq, Int.reduceBEq, Int.reduceBNe, Int.reduceAdd, Int.reduceSub, ltT, ltF, leT, leF, s1, hV, hm']
          rw [chkK_of]; rotate_left; kernel_rfl
          simp (maxSteps := 1000000) (implicitDefEqProofs := false) (disch := first | rfl | omega | assumption) only [go_sem, ↓reduceIte, Nat.reduceEqDiff, Nat.reduceAdd, Nat.reduceLeDiff, Nat.reduceBEq, Nat.reduceMul, Nat.reduceLT, Int.reduceLT, Int.reduceLE, Int.reduceToNat, Int.reduceNeg, Int.reduceEq, Int.reduceMul, reduceCtorEq, Int.reduceBEq, Int.reduceBNe, Int.reduceAdd, Int.reduceSub, ltT, ltF, leT, leF, s1, hV, hm', hE, hC]
          done
        · simp only [hc, Bool.false_eq_true, if_false] at hC ⊢
          refine (callFL_eq fn45 rfl (by simp [Tryd.f45])).trans ?_
          simp (maxSteps := 1000000) (implicitDefEqProofs := false) (disch := first | rfl | omega | assumption) only [go_sem, ↓reduceIte, Nat.reduceEqDiff, Nat.reduceAdd, Nat.reduceLeDiff, Nat.reduceBEq, Nat.reduceMul, Nat.reduceLT, Int.reduceLT, Int.reduceLE, Int.reduceToNat, Int.reduceNeg, Int.reduceEq, Int.reduceMul, reduceCtorEq, Int.reduceBEq, Int.reduceBNe, Int.reduceAdd, Int.reduceSub, ltT, ltF, leT, leF, s1, hV, hm']
          rw [chkK_of]; rotate_left; kernel_rfl
          simp (maxSteps := 1000000) (implicitDefEqProofs := false) (disch := first | rfl | omega | assumption) only [go_sem, ↓reduceIte, Nat.reduceEqDiff, Nat.reduceAdd, Nat.reduceLeDiff, Nat.reduceBEq, Nat.reduceMul, Nat.reduceLT, Int.reduceLT, Int.reduceLE, Int.reduceToNat, Int.reduceNeg, Int.reduceEq, Int.reduceMul, reduceCtorEq, Int.reduceBEq, Int.reduceBNe, Int.reduceAdd, Int.reduceSub, ltT, ltF, leT, leF, s1, hV, hm', hE, hC]
          done
    · have hm' : 10 < many := by omega
      simp only [hm, if_false]
      refine (callFL_eq fn45 rfl (by simp [Tryd.f45])).trans ?_
      simp (maxSteps := 1000000) (implicitDefEqProofs := false) (disch := first | rfl | omega | assumption) only [go_sem, ↓reduceIte, Nat.reduceEqDiff, Nat.reduceAdd, Nat.reduceLeDiff, Nat.reduceBEq, Nat.reduceMul, Nat.reduceLT, Int.reduceLT, Int.reduceLE, Int.reduceToNat, Int.reduceNeg, Int.reduceEq, Int.reduceMul, reduceCtorEq, Int.reduceBEq, Int.reduceBNe, Int.reduceAdd, Int.reduceSub, ltT, ltF, leT, leF, s1, hV, hm']
      done

end Go.Ab
