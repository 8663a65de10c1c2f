/-
  The layer settle, function by function: what each small one computes.
-/
import Derived.Test.YtppmifiahebgfaaT0
namespace Go.Ab
open Go.Proofs
set_option linter.unusedSimpArgs false
set_option linter.unusedVariables false

abbrev I (n : Int) : AV := .int .i64 n

theorem w64 {n : Int} (h1 : -9223372036854775808 ≤ n) (h2 : n < 9223372036854775808) : IntKind.i64.wrap n = n := by
  simp only [IntKind.wrap, IntKind.bits, IntKind.signed]
  have e : (2 : Int) ^ 64 = 18446744073709551616 := by decide
  have e' : (2 : Int) ^ (64 - 1) = 9223372036854775808 := by decide
  simp only [Bool.true_and, decide_eq_true_eq, e, e']
  split <;> omega

theorem f74 (n lo hi : Int) (H : Heap) : callFL cfg0 prog0 false 74 [I n, I lo, I hi] H none = some ⟨.ret (.bool (decide (lo ≤ n) && decide (n ≤ hi))), H, none⟩ := by
  refine (callFL_eq fn74 rfl (by simp [Try.f74])).trans ?_
  by_cases h1 : lo ≤ n <;> simp only [go_sem, ↓reduceIte, Nat.reduceEqDiff, Nat.reduceAdd, Nat.reduceLeDiff, Nat.reduceBEq, Nat.reduceMul, Nat.reduceLT, Int.reduceLT, Int.reduceLE, Int.reduceToNat, Int.reduceNeg, Int.reduceEq, Int.reduceMul, reduceCtorEq, fn74, res74, gc74, grow74, ty3, h1]

theorem f77 (n lo hi : Int) (H : Heap) : callFL cfg0 prog0 false 77 [I n, I lo, I hi] H none = some ⟨.ret (.bool (decide (lo ≤ n) && decide (n ≤ hi))), H, none⟩ := by
  refine (callFL_eq fn77 rfl (by simp [Try.f77])).trans ?_
  by_cases h1 : lo ≤ n <;> simp only [go_sem, ↓reduceIte, Nat.reduceEqDiff, Nat.reduceAdd, Nat.reduceLeDiff, Nat.reduceBEq, Nat.reduceMul, Nat.reduceLT, Int.reduceLT, Int.reduceLE, Int.reduceToNat, Int.reduceNeg, Int.reduceEq, Int.reduceMul, reduceCtorEq, fn77, res77, gc77, grow77, ty3, h1]

theorem f91 (a b lo hi : Int) (H : Heap) : callFL cfg0 prog0 false 91 [.agg [I a, I b], I lo, I hi] H none = some ⟨.ret (.bool (decide (lo ≤ a) && decide (a ≤ b) && decide (b ≤ hi))), H, none⟩ := by
  refine (callFL_eq fn91 rfl (by simp [Try.f91])).trans ?_
  by_cases h1 : lo ≤ a <;> by_cases h2 : a ≤ b <;> simp only [go_sem, ↓reduceIte, Nat.reduceEqDiff, Nat.reduceAdd, Nat.reduceLeDiff, Nat.reduceBEq, Nat.reduceMul, Nat.reduceLT, Int.reduceLT, Int.reduceLE, Int.reduceToNat, Int.reduceNeg, Int.reduceEq, Int.reduceMul, reduceCtorEq, fn91, res91, gc91, grow91, ty3, ty29, h1, h2]

theorem f87 (a b lo hi : Int) (H : Heap) : callFL cfg0 prog0 false 87 [.agg [I a, I b], I lo, I hi] H none = some ⟨.ret (.bool (decide (lo ≤ a) && decide (a ≤ b) && decide (b ≤ hi))), H, none⟩ := by
  refine (callFL_eq fn87 rfl (by simp [Try.f87])).trans ?_
  by_cases h1 : lo ≤ a <;> by_cases h2 : a ≤ b <;> simp only [go_sem, ↓reduceIte, Nat.reduceEqDiff, Nat.reduceAdd, Nat.reduceLeDiff, Nat.reduceBEq, Nat.reduceMul, Nat.reduceLT, Int.reduceLT, Int.reduceLE, Int.reduceToNat, Int.reduceNeg, Int.reduceEq, Int.reduceMul, reduceCtorEq, fn87, res87, gc87, grow87, ty3, ty29, h1, h2]

theorem f85 (b : Bool) (e : Int) (H : Heap) : callFL cfg0 prog0 false 85 [.bool b, I e] H none = some ⟨if b then .ret (.tup []) else .pan (.iface 109 (.agg [I e])), H, none⟩ := by
  refine (callFL_eq fn85 rfl (by simp [Try.f85])).trans ?_
  cases b <;> simp only [go_sem, ↓reduceIte, Nat.reduceEqDiff, Nat.reduceAdd, Nat.reduceLeDiff, Nat.reduceBEq, Nat.reduceMul, Nat.reduceLT, Int.reduceLT, Int.reduceLE, Int.reduceToNat, Int.reduceNeg, Int.reduceEq, Int.reduceMul, reduceCtorEq, fn85, res85, gc85, grow85, ty30, ty109]

theorem f41n (l : Nat) (H : Heap) : callFL cfg0 prog0 false 41 [.nilIface, .ptr l 0] H none = some ⟨.ret (.tup []), H, none⟩ := by
  refine (callFL_eq fn41 rfl (by simp [Try.f41])).trans ?_
  simp only [go_sem, ↓reduceIte, Nat.reduceEqDiff, Nat.reduceAdd, Nat.reduceLeDiff, Nat.reduceBEq, Nat.reduceMul, Nat.reduceLT, Int.reduceLT, Int.reduceLE, Int.reduceToNat, Int.reduceNeg, Int.reduceEq, Int.reduceMul, reduceCtorEq, fn41, res41, gc41, grow41, ty20, ty30, ty109, ifc20]

theorem f41s (l : Nat) (x e : Int) (H : Heap) (h : H[l]? = some (.box (I x))) : callFL cfg0 prog0 false 41 [.iface 109 (.agg [I e]), .ptr l 0] H none = some ⟨.ret (.tup []), H.set l (.box (I e)), none⟩ := by
  refine (callFL_eq fn41 rfl (by simp [Try.f41])).trans ?_
  have hl : l < H.length := (List.getElem?_eq_some_iff.1 h).1
  simp only [go_sem, ↓reduceIte, Nat.reduceEqDiff, Nat.reduceAdd, Nat.reduceLeDiff, Nat.reduceBEq, Nat.reduceMul, Nat.reduceLT, Int.reduceLT, Int.reduceLE, Int.reduceToNat, Int.reduceNeg, Int.reduceEq, Int.reduceMul, reduceCtorEq, fn41, res41, gc41, grow41, ty20, ty30, ty109, ifc20, get_lt hl, set_lt hl, h]

theorem f73 (n : Int) (H : Heap) : callFL cfg0 prog0 false 73 [I n] H none = some ⟨.ret (.bool (decide (-100 ≤ n) && decide (n ≤ 100))), H, none⟩ := by
  refine (callFL_eq fn73 rfl (by simp [Try.f73])).trans ?_
  simp only [go_sem, ↓reduceIte, Nat.reduceEqDiff, Nat.reduceAdd, Nat.reduceLeDiff, Nat.reduceBEq, Nat.reduceMul, Nat.reduceLT, Int.reduceLT, Int.reduceLE, Int.reduceToNat, Int.reduceNeg, Int.reduceEq, Int.reduceMul, reduceCtorEq, fn73, res73, gc73, grow73, ty3, f74]

theorem f76 (n : Int) (H : Heap) : callFL cfg0 prog0 false 76 [I n] H none = some ⟨.ret (.bool (decide (-100 ≤ n) && decide (n ≤ 100))), H, none⟩ := by
  refine (callFL_eq fn76 rfl (by simp [Try.f76])).trans ?_
  simp only [go_sem, ↓reduceIte, Nat.reduceEqDiff, Nat.reduceAdd, Nat.reduceLeDiff, Nat.reduceBEq, Nat.reduceMul, Nat.reduceLT, Int.reduceLT, Int.reduceLE, Int.reduceToNat, Int.reduceNeg, Int.reduceEq, Int.reduceMul, reduceCtorEq, fn76, res76, gc76, grow76, ty3, f77]

def fallsZ (x k : Int) : Int := if x < 0 then -(-x - (-x + k - 1).tdiv k) else x - (x + k - 1).tdiv k

theorem tdiv_bd {a k : Int} (ha : 0 ≤ a) (hk : 1 ≤ k) : 0 ≤ a.tdiv k ∧ a.tdiv k ≤ a := by
  rw [Int.tdiv_eq_ediv_of_nonneg ha]
  exact ⟨Int.ediv_nonneg ha (by omega), Int.ediv_le_self _ ha⟩

theorem f75p (x k : Int) (H : Heap) (h0 : 0 ≤ x) (h1 : x ≤ 1000000) (k1 : 1 ≤ k) (k2 : k ≤ 1000000) : callFL cfg0 prog0 false 75 [I x, I k] H none = some ⟨.ret (I (fallsZ x k)), H, none⟩ := by
  refine (callFL_eq fn75 rfl (by simp [Try.f75])).trans ?_
  have hn : ¬ x < 0 := by omega
  have hk : ¬ k = 0 := by omega
  obtain ⟨q1, q2⟩ := tdiv_bd (a := x + k - 1) (k := k) (by omega) k1
  have e1 : IntKind.i64.wrap (x + k) = x + k := w64 (by omega) (by omega)
  have e2 : IntKind.i64.wrap (x + k - 1) = x + k - 1 := w64 (by omega) (by omega)
  have e3 : IntKind.i64.wrap ((x + k - 1).tdiv k) = (x + k - 1).tdiv k := w64 (by omega) (by omega)
  have e4 : IntKind.i64.wrap (x - (x + k - 1).tdiv k) = x - (x + k - 1).tdiv k := w64 (by omega) (by omega)
  simp only [go_sem, ↓reduceIte, Nat.reduceEqDiff, Nat.reduceAdd, Nat.reduceLeDiff, Nat.reduceBEq, Nat.reduceMul, Nat.reduceLT, Int.reduceLT, Int.reduceLE, Int.reduceToNat, Int.reduceNeg, Int.reduceEq, Int.reduceMul, reduceCtorEq, fn75, res75, gc75, grow75, ty3, ty83, hn, hk, e1, e2, e3, e4, fallsZ]

theorem f75 (x k : Int) (H : Heap) (h0 : -1000000 ≤ x) (h1 : x ≤ 1000000) (k1 : 1 ≤ k) (k2 : k ≤ 1000000) : callFL cfg0 prog0 false 75 [I x, I k] H none = some ⟨.ret (I (fallsZ x k)), H, none⟩ := by
  by_cases hx : 0 ≤ x
  · exact f75p x k H hx h1 k1 k2
  · refine (callFL_eq fn75 rfl (by simp [Try.f75])).trans ?_
    have hn : x < 0 := by omega
    have hn2 : ¬ -x < 0 := by omega
    obtain ⟨q1, q2⟩ := tdiv_bd (a := -x + k - 1) (k := k) (by omega) k1
    have e1 : IntKind.i64.wrap (0 - x) = -x := by rw [w64 (by omega) (by omega)]; omega
    have e2 : IntKind.i64.wrap (0 - fallsZ (-x) k) = fallsZ x k := by
      simp only [fallsZ, if_pos hn, if_neg hn2]
      rw [w64 (by omega) (by omega)]; omega
    simp only [go_sem, ↓reduceIte, Nat.reduceEqDiff, Nat.reduceAdd, Nat.reduceLeDiff, Nat.reduceBEq, Nat.reduceMul, Nat.reduceLT, Int.reduceLT, Int.reduceLE, Int.reduceToNat, Int.reduceNeg, Int.reduceEq, Int.reduceMul, reduceCtorEq, fn75, res75, gc75, grow75, ty3, ty83, hn, e1, f75p (-x) k H (by omega) (by omega) k1 k2, e2]

theorem f78p (x k : Int) (H : Heap) (h0 : 0 ≤ x) (h1 : x ≤ 1000000) (k1 : 1 ≤ k) (k2 : k ≤ 1000000) : callFL cfg0 prog0 false 78 [I x, I k] H none = some ⟨.ret (I (fallsZ x k)), H, none⟩ := by
  refine (callFL_eq fn78 rfl (by simp [Try.f78])).trans ?_
  have hn : ¬ x < 0 := by omega
  have hk : ¬ k = 0 := by omega
  obtain ⟨q1, q2⟩ := tdiv_bd (a := x + k - 1) (k := k) (by omega) k1
  have e1 : IntKind.i64.wrap (x + k) = x + k := w64 (by omega) (by omega)
  have e2 : IntKind.i64.wrap (x + k - 1) = x + k - 1 := w64 (by omega) (by omega)
  have e3 : IntKind.i64.wrap ((x + k - 1).tdiv k) = (x + k - 1).tdiv k := w64 (by omega) (by omega)
  have e4 : IntKind.i64.wrap (x - (x + k - 1).tdiv k) = x - (x + k - 1).tdiv k := w64 (by omega) (by omega)
  simp only [go_sem, ↓reduceIte, Nat.reduceEqDiff, Nat.reduceAdd, Nat.reduceLeDiff, Nat.reduceBEq, Nat.reduceMul, Nat.reduceLT, Int.reduceLT, Int.reduceLE, Int.reduceToNat, Int.reduceNeg, Int.reduceEq, Int.reduceMul, reduceCtorEq, fn78, res78, gc78, grow78, ty3, hn, hk, e1, e2, e3, e4, fallsZ]

theorem f78 (x k : Int) (H : Heap) (h0 : -1000000 ≤ x) (h1 : x ≤ 1000000) (k1 : 1 ≤ k) (k2 : k ≤ 1000000) : callFL cfg0 prog0 false 78 [I x, I k] H none = some ⟨.ret (I (fallsZ x k)), H, none⟩ := by
  by_cases hx : 0 ≤ x
  · exact f78p x k H hx h1 k1 k2
  · refine (callFL_eq fn78 rfl (by simp [Try.f78])).trans ?_
    have hn : x < 0 := by omega
    have hn2 : ¬ -x < 0 := by omega
    obtain ⟨q1, q2⟩ := tdiv_bd (a := -x + k - 1) (k := k) (by omega) k1
    have e1 : IntKind.i64.wrap (0 - x) = -x := by rw [w64 (by omega) (by omega)]; omega
    have e2 : IntKind.i64.wrap (0 - fallsZ (-x) k) = fallsZ x k := by
      simp only [fallsZ, if_pos hn, if_neg hn2]
      rw [w64 (by omega) (by omega)]; omega
    simp only [go_sem, ↓reduceIte, Nat.reduceEqDiff, Nat.reduceAdd, Nat.reduceLeDiff, Nat.reduceBEq, Nat.reduceMul, Nat.reduceLT, Int.reduceLT, Int.reduceLE, Int.reduceToNat, Int.reduceNeg, Int.reduceEq, Int.reduceMul, reduceCtorEq, fn78, res78, gc78, grow78, ty3, hn, e1, f78p (-x) k H (by omega) (by omega) k1 k2, e2]

/-- A number by ten, rounded down. -/
def downZ (n : Int) : Int := if n.tmod 10 < 0 then n.tdiv 10 - 1 else n.tdiv 10

theorem f54 (x g : Int) (H : Heap) (h0 : -1000000 ≤ x * g) (h1 : x * g ≤ 1000000) : callFL cfg0 prog0 false 54 [I x, I g] H none = some ⟨.ret (I (downZ (x * g))), H, none⟩ := by
  refine (callFL_eq fn54 rfl (by simp [Try.f54])).trans ?_
  have hd : -1000000 ≤ (x * g).tdiv 10 ∧ (x * g).tdiv 10 ≤ 1000000 := by
    generalize x * g = n at *
    rcases Int.le_total 0 n with hn | hn
    · have := tdiv_bd hn (k := 10) (by omega); omega
    · have := tdiv_bd (a := -n) (k := 10) (by omega) (by omega)
      rw [Int.neg_tdiv] at this; omega
  have e1 : IntKind.i64.wrap (x * g) = x * g := w64 (by omega) (by omega)
  have e2 : IntKind.i64.wrap ((x * g).tdiv 10) = (x * g).tdiv 10 := w64 (by omega) (by omega)
  have e3 : IntKind.i64.wrap ((x * g).tdiv 10 - 1) = (x * g).tdiv 10 - 1 := w64 (by omega) (by omega)
  have h10 : ¬ (10 : Int) = 0 := by omega
  by_cases hm : (x * g).tmod 10 < 0 <;> simp only [go_sem, ↓reduceIte, Nat.reduceEqDiff, Nat.reduceAdd, Nat.reduceLeDiff, Nat.reduceBEq, Nat.reduceMul, Nat.reduceLT, Int.reduceLT, Int.reduceLE, Int.reduceToNat, Int.reduceNeg, Int.reduceEq, Int.reduceMul, reduceCtorEq, fn54, res54, gc54, grow54, ty3, e1, e2, e3, h10, hm, downZ]

theorem f119 (a b : Int) (H : Heap) : callFL cfg0 prog0 false 119 [.agg [], .agg [I a, I b]] H none = some ⟨.ret (I a), H, none⟩ := by
  refine (callFL_eq fn119 rfl (by simp [Try.f119])).trans ?_
  simp only [go_sem, ↓reduceIte, Nat.reduceEqDiff, Nat.reduceAdd, Nat.reduceLeDiff, Nat.reduceBEq, Nat.reduceMul, Nat.reduceLT, Int.reduceLT, Int.reduceLE, Int.reduceToNat, Int.reduceNeg, Int.reduceEq, Int.reduceMul, reduceCtorEq, fn119, res119, gc119, grow119, ty3, ty29, ty129]

theorem f101 (H : Heap) : callFL cfg0 prog0 false 101 [] H none = some ⟨.ret (.agg [.iface 129 (.agg []), .iface 131 (.agg [])]), H, none⟩ := by
  refine (callFL_eq fn101 rfl (by simp [Try.f101])).trans ?_
  simp only [go_sem, ↓reduceIte, Nat.reduceEqDiff, Nat.reduceAdd, Nat.reduceLeDiff, Nat.reduceBEq, Nat.reduceMul, Nat.reduceLT, Int.reduceLT, Int.reduceLE, Int.reduceToNat, Int.reduceNeg, Int.reduceEq, Int.reduceMul, reduceCtorEq, fn101, res101, gc101, grow101, ty122, ty123, ty129, ty131, evZero_of zf131_0]


theorem f102_loop (v : AV) (xs : List Int) (H : Heap) (hv : SlOk H 1 v (xs.map I)) (hb : ∀ x ∈ xs, -1000000 ≤ x ∧ x ≤ 1000000) (hl : xs.length ≤ 1000000) : ∀ (n k : Nat) (acc : Int) (e : Env), k + n = xs.length → -1000000 * k ≤ acc → acc ≤ 1000000 * k →
    e.get 2 = I acc → e.get 5 = v → e.get 6 = I xs.length → e.get 7 = I k →
    execL cfg0 prog0 ⟨102, none, false, H.length⟩ (todoAt Try.f102 2) ⟨e, [], H, none⟩ = some ⟨.ret (I (acc + (xs.drop k).sum)), H, none⟩ := by
  intro n
  induction n with
  | zero =>
    intro k acc e hk h1 h2 g2 g5 g6 g7
    have hk' : ¬ (k : Int) < xs.length := by omega
    have hd : xs.drop k = [] := List.drop_eq_nil_of_le (by omega)
    simp only [todoAt, todoOf, firstReg, Try.f102, ↓reduceIte]
    rw [execL_inLoop]
    simp only [go_sem, ↓reduceIte, Nat.reduceEqDiff, Nat.reduceAdd, Nat.reduceLeDiff, Nat.reduceBEq, Nat.reduceMul, Nat.reduceLT, Int.reduceLT, Int.reduceLE, Int.reduceToNat, Int.reduceNeg, Int.reduceEq, Int.reduceMul, reduceCtorEq, fn102, res102, gc102_0, gc102_1, gc102_2, gc102_3, gc102_4, gc102_5, gc102_6, gcSt, keepEnv, envLt, heapLt, dfrLt, ADefer.lt, grow102, ty3, ty83, ty125, g2, g5, g6, g7, hk', hv.lt0, hd, List.sum_nil, Int.add_zero]
  | succ n ih =>
    intro k acc e hk h1 h2 g2 g5 g6 g7
    have hk' : (k : Int) < xs.length := by omega
    have hk2 : k < xs.length := by omega
    obtain ⟨a1, a2, a3, -, -⟩ := hv.at (k := (k : Int)) (x := I xs[k]) (by omega) (by simp [hk2])
    have hx := hb xs[k] (List.getElem_mem _)
    have e1 : IntKind.i64.wrap ((k : Int) + 1) = ((k + 1 : Nat) : Int) := by rw [w64 (by omega) (by omega)]; omega
    have e2 : IntKind.i64.wrap (acc + xs[k]) = acc + xs[k] := w64 (by omega) (by omega)
    simp only [todoAt, todoOf, firstReg, Try.f102, ↓reduceIte]
    rw [execL_inLoop]
    simp only [go_sem, ↓reduceIte, Nat.reduceEqDiff, Nat.reduceAdd, Nat.reduceLeDiff, Nat.reduceBEq, Nat.reduceMul, Nat.reduceLT, Int.reduceLT, Int.reduceLE, Int.reduceToNat, Int.reduceNeg, Int.reduceEq, Int.reduceMul, reduceCtorEq, fn102, res102, gc102_0, gc102_1, gc102_2, gc102_3, gc102_4, gc102_5, gc102_6, gcSt, keepEnv, envLt, heapLt, dfrLt, ADefer.lt, grow102, ty3, ty83, ty125, g2, g5, g6, g7, hk', hv.lt0, a1, a2, a3, e1, e2]
    refine Eq.trans (ih (k + 1) (acc + xs[k]) _ (by omega) (by omega) (by omega) (by rfl) (by rfl) (by rfl) (by rfl)) ?_
    rw [List.drop_eq_getElem_cons hk2, List.sum_cons, Int.add_assoc]

theorem f102 (v : AV) (xs : List Int) (H : Heap) (hv : SlOk H 1 v (xs.map I)) (hb : ∀ x ∈ xs, -1000000 ≤ x ∧ x ≤ 1000000) (hl : xs.length ≤ 1000000) : callFL cfg0 prog0 false 102 [v] H none = some ⟨.ret (I xs.sum), H, none⟩ := by
  refine (callFL_eq fn102 rfl (by simp [Try.f102])).trans ?_
  simp only [go_sem, ↓reduceIte, Nat.reduceEqDiff, Nat.reduceAdd, Nat.reduceLeDiff, Nat.reduceBEq, Nat.reduceMul, Nat.reduceLT, Int.reduceLT, Int.reduceLE, Int.reduceToNat, Int.reduceNeg, Int.reduceEq, Int.reduceMul, reduceCtorEq, fn102, res102, gc102_0, gc102_1, gc102_2, gc102_3, gc102_4, gc102_5, gc102_6, gcSt, keepEnv, envLt, heapLt, dfrLt, ADefer.lt, grow102, ty3, ty83, ty125, hv.len, List.length_map]
  have h := fun e => f102_loop v xs H hv hb hl xs.length 0 0 e (by omega) (by omega) (by omega)
  erw [h _ (by rfl) (by rfl) (by rfl) (by rfl)]
  simp only [go_sem, ↓reduceIte, Nat.reduceEqDiff, Nat.reduceAdd, Nat.reduceLeDiff, Nat.reduceBEq, Nat.reduceMul, Nat.reduceLT, Int.reduceLT, Int.reduceLE, Int.reduceToNat, Int.reduceNeg, Int.reduceEq, Int.reduceMul, reduceCtorEq, List.drop_zero, Int.zero_add]

theorem sl_full {H : Heap} {sz : Nat} {xs : List AV} (h : ∀ x ∈ xs, x.cells.length = sz) : SlOk H sz (.sl true xs) xs := ⟨rfl, h⟩

theorem f120 (a b : Int) (H : Heap) (ha : -1000000 ≤ a ∧ a ≤ 1000000) (hb : -1000000 ≤ b ∧ b ≤ 1000000) (hd : -1000000 ≤ b - a ∧ b - a ≤ 1000000) : callFL cfg0 prog0 false 120 [.agg [], .agg [I a, I b]] H none = some ⟨.ret (I b), H, none⟩ := by
  refine (callFL_eq fn120 rfl (by simp [Try.f120])).trans ?_
  have e1 : IntKind.i64.wrap (b - a) = b - a := w64 (by omega) (by omega)
  have hs := f102 (.sl true [I a, I (b - a)]) [a, b - a] (H ++ [.box (.agg []), .box (.agg [I a, I b])]) (sl_full (by simp [AV.cells])) (by simp; omega) (by simp)
  have e2 : [a, b - a].sum = b := by simp; omega
  rw [e2] at hs
  simp only [go_sem, ↓reduceIte, Nat.reduceEqDiff, Nat.reduceAdd, Nat.reduceLeDiff, Nat.reduceBEq, Nat.reduceMul, Nat.reduceLT, Int.reduceLT, Int.reduceLE, Int.reduceToNat, Int.reduceNeg, Int.reduceEq, Int.reduceMul, reduceCtorEq, fn120, res120, gc120, grow120, ty3, ty29, ty83, ty125, ty129, ty131, plan120_1, evZero_of zf131_0]
  rw [chkK_of]; rotate_left; kernel_rfl
  simp only [go_sem, ↓reduceIte, Nat.reduceEqDiff, Nat.reduceAdd, Nat.reduceLeDiff, Nat.reduceBEq, Nat.reduceMul, Nat.reduceLT, Int.reduceLT, Int.reduceLE, Int.reduceToNat, Int.reduceNeg, Int.reduceEq, Int.reduceMul, reduceCtorEq, fn120, res120, gc120, grow120, ty3, ty29, ty83, ty125, ty129, ty131, plan120_1, evZero_of zf131_0, f119, e1, hs]

end Go.Ab
/-
  The layer settle: the plate, and what a block's excess is.
-/
namespace Go.Ab
open Go.Proofs
set_option linter.unusedSimpArgs false
set_option linter.unusedVariables false

structure Blk where
  (x0 x1 s0 s1 g0 g1 : Int)

structure Tch where
  (b m h0 h1 : Int)

structure Stl where
  bs : List Blk
  near : Int
  last : Int
  ts : List Tch

def Blk.av (b : Blk) : AV := .agg [I b.x0, I b.x1, I b.s0, I b.s1, I b.g0, I b.g1]
def Tch.av (t : Tch) : AV := .agg [I t.b, I t.m, I t.h0, I t.h1]

structure Blk.Ok (b : Blk) : Prop where
  (a1 : -100 ≤ b.x0) (a2 : b.x0 ≤ b.x1) (a3 : b.x1 ≤ 100) (a4 : 2 ≤ b.s0) (a5 : b.s0 ≤ b.s1) (a6 : b.s1 ≤ 8) (a7 : 0 ≤ b.g0) (a8 : b.g0 ≤ b.g1) (a9 : b.g1 ≤ 20)

/-- Bounds that a plate keeps. -/
structure Stl.Wf (s : Stl) : Prop where
  bs : ∀ b ∈ s.bs, b.Ok
  ts : ∀ t ∈ s.ts, -100 ≤ t.h0 ∧ t.h0 ≤ t.h1 ∧ t.h1 ≤ 100
  len : s.ts.length ≤ 7
  near : 0 ≤ s.near ∧ s.near ≤ 20
  last : 1 ≤ s.last ∧ s.last ≤ 60
  blen : s.bs.length ≤ 4

def Tch.h (t : Tch) (e : Int) : Int := if e = 0 then t.h0 else t.h1
def Blk.x (b : Blk) (e : Int) : Int := if e = 0 then b.x0 else b.x1

def heats (ts : List Tch) (blk m e : Int) : List Int := (ts.filter fun t => t.b == blk && t.m == m).map (·.h e)

/-- The excess of a block at an end, as slow as k. -/
def exc (ts : List Tch) (blk : Int) (b0 : Int) (k e : Int) : Nat → Int
  | 0 => (heats ts blk 0 e).sum + b0
  | n + 1 => (heats ts blk ((n + 1 : Nat) : Int) e).sum + fallsZ (exc ts blk b0 k e n) k

theorem Tch.h_bd {t : Tch} {e : Int} (h : -100 ≤ t.h0 ∧ t.h0 ≤ t.h1 ∧ t.h1 ≤ 100) : -100 ≤ t.h e ∧ t.h e ≤ 100 := by
  simp only [Tch.h]; split <;> omega

theorem heats_bd (ts : List Tch) (blk m e : Int) (h : ∀ t ∈ ts, -100 ≤ t.h0 ∧ t.h0 ≤ t.h1 ∧ t.h1 ≤ 100) : ∀ x ∈ heats ts blk m e, -100 ≤ x ∧ x ≤ 100 := by
  intro x hx
  simp only [heats, List.mem_map, List.mem_filter] at hx
  obtain ⟨t, ⟨h1, _⟩, rfl⟩ := hx
  exact Tch.h_bd (h t h1)

theorem heats_len (ts : List Tch) (blk m e : Int) : (heats ts blk m e).length ≤ ts.length := by
  simp only [heats, List.length_map]
  exact List.length_filter_le _ _

theorem sum_bd : ∀ (l : List Int) (B : Int), (∀ x ∈ l, -B ≤ x ∧ x ≤ B) → -(B * l.length) ≤ l.sum ∧ l.sum ≤ B * l.length
  | [], B, _ => by simp
  | x :: r, B, h => by
    have h1 := h x (by simp)
    have h2 := sum_bd r B fun y hy => h y (by simp [hy])
    simp only [List.sum_cons, List.length_cons]
    have : B * ((r.length + 1 : Nat) : Int) = B * r.length + B := by rw [Int.natCast_add]; rw [Int.mul_add]; simp
    omega

theorem fallsZ_bd {x k : Int} (hk : 1 ≤ k) : (0 ≤ x → 0 ≤ fallsZ x k ∧ fallsZ x k ≤ x) ∧ (x ≤ 0 → x ≤ fallsZ x k ∧ fallsZ x k ≤ 0) := by
  have key : ∀ y : Int, 0 ≤ y → 0 ≤ y - (y + k - 1).tdiv k ∧ y - (y + k - 1).tdiv k ≤ y := by
    intro y hy
    rw [Int.tdiv_eq_ediv_of_nonneg (by omega)]
    have h1 : (y + k - 1) / k < y + 1 := by
      apply Int.ediv_lt_of_lt_mul (by omega)
      have : y * k ≥ y * 1 := Int.mul_le_mul_of_nonneg_left hk hy
      rw [Int.add_mul]; omega
    have h2 : 0 ≤ (y + k - 1) / k := Int.ediv_nonneg (by omega) (by omega)
    omega
  constructor
  · intro h
    simp only [fallsZ, if_neg (show ¬ x < 0 by omega)]
    exact key x h
  · intro h
    simp only [fallsZ]
    split
    · have := key (-x) (by omega)
      omega
    · have : x = 0 := by omega
      subst this
      exact ⟨(key 0 (by omega)).1, (key 0 (by omega)).2⟩


theorem exc_bd {ts : List Tch} {blk b0 k e : Int} (h : ∀ t ∈ ts, -100 ≤ t.h0 ∧ t.h0 ≤ t.h1 ∧ t.h1 ≤ 100) (hl : ts.length ≤ 7) (hb : -100 ≤ b0 ∧ b0 ≤ 100) (hk : 1 ≤ k) : ∀ n : Nat, -(800 + 700 * n) ≤ exc ts blk b0 k e n ∧ exc ts blk b0 k e n ≤ 800 + 700 * n := by
  have hs : ∀ m : Int, -700 ≤ (heats ts blk m e).sum ∧ (heats ts blk m e).sum ≤ 700 := by
    intro m
    have h1 := sum_bd _ 100 (heats_bd ts blk m e h)
    have h2 := heats_len ts blk m e
    omega
  intro n
  induction n with
  | zero =>
    simp only [exc]
    have := hs 0
    omega
  | succ n ih =>
    simp only [exc]
    have h1 := hs ((n + 1 : Nat) : Int)
    obtain ⟨h2, h3⟩ := fallsZ_bd (x := exc ts blk b0 k e n) hk
    rcases Int.le_total 0 (exc ts blk b0 k e n) with h4 | h4
    · have := h2 h4; omega
    · have := h3 h4; omega

theorem heats_step {ts : List Tch} {j : Nat} (hj : j < ts.length) (blk m e : Int) : heats (ts.take (j + 1)) blk m e = heats (ts.take j) blk m e ++ (if ts[j].b = blk ∧ ts[j].m = m then [ts[j].h e] else []) := by
  rw [List.take_succ_eq_append_getElem hj]
  simp only [heats, List.filter_append, List.map_append]
  congr 1
  by_cases h1 : ts[j].b = blk <;> by_cases h2 : ts[j].m = m <;> simp [h1, h2]

theorem f94_loop (K : List Item) (H : Heap) (L : Nat) (vt : AV) (ts : List Tch) (blk m k e : Int) (fn : Fn) (first : List AV) (hL : L < H.length) (hv : SlOk H 4 vt (ts.map Tch.av)) (hb : ∀ t ∈ ts, -100 ≤ t.h0 ∧ t.h0 ≤ t.h1 ∧ t.h1 ≤ 100) (hl : ts.length ≤ 7)
    (hof : ∀ (G : Heap) (a b : Int), -100 ≤ a → a ≤ b → b ≤ 100 → callVL cfg0 prog0 false fn (first ++ [.agg [I a, I b]]) [] G none = some ⟨.ret (I (if e = 0 then a else b)), G, none⟩) (hfl : ∀ N, fnLt N fn = true ∧ ltL N first = true) :
    ∀ (n j : Nat) (len : Nat) (xs : List AV) (G : Heap) (E : Env), j + n = ts.length → xs = (heats (ts.take j) blk m e).map I → len = xs.length →
    E.get 0 = .ptr L 0 → E.get 3 = .ptr H.length 0 → E.get 7 = .func fn first [] → E.get 8 = .gsl (H.length + 1) len → E.get 36 = vt → E.get 37 = I ts.length → E.get 38 = I j →
    execL cfg0 prog0 ⟨94, none, false, H.length⟩ (loopIt Try.f94 7 :: .inBlock 0 :: K) ⟨E, [], H ++ (.box (.agg [I blk, I m, I k, I e]) :: .grow 1 xs :: G), none⟩ =
    execL cfg0 prog0 ⟨94, none, false, H.length⟩ K ⟨[(39, .bool false), (0, .ptr L 0), (3, .ptr H.length 0), (7, .func fn first []), (8, .gsl (H.length + 1) (heats ts blk m e).length), (36, vt), (37, I ts.length), (38, I ts.length)], [], H ++ [.box (.agg [I blk, I m, I k, I e]), .grow 1 ((heats ts blk m e).map I)], none⟩ := by
  intro n
  have hL2 : L < H.length + 2 := by omega
  induction n with
  | zero =>
    intro j len xs G E hj hxs hlen g0 g3 g7 g8 g36 g37 g38
    have hk' : ¬ (j : Int) < ts.length := by omega
    have hjl : j = ts.length := by omega
    have hlx : ltL 0 xs = true := by rw [hxs]; exact ltL_map (fun _ => rfl) _
    have hh : heats (ts.take j) blk m e = heats ts blk m e := by rw [hjl, List.take_length]
    rw [hh] at hxs
    have hlen' : len = (heats ts blk m e).length := by rw [hlen, hxs, List.length_map]
    simp only [loopIt, todoPast, todoAt, todoOf, firstReg, ↓reduceIte, Option.some.injEq, Nat.reduceEqDiff, reduceCtorEq, Try.f94]
    rw [execL_inLoop]
    simp only [go_sem, ↓reduceIte, Nat.reduceEqDiff, Nat.reduceAdd, Nat.reduceLeDiff, Nat.reduceBEq, Nat.reduceMul, Nat.reduceLT, Int.reduceLT, Int.reduceLE, Int.reduceToNat, Int.reduceNeg, Int.reduceEq, Int.reduceMul, reduceCtorEq, fn94, res94, gc94_0, gc94_1, gc94_2, gc94_3, gc94_4, gc94_5, gc94_6, gc94_7, gc94_8, gc94_9, gc94_10, gc94_11, gc94_12, gc94_13, gc94_14, gc94_15, gc94_16, gc94_17, gc94_18, gc94_19, gc94_20, gcSt, keepEnv, envLt, heapLt, dfrLt, ADefer.lt, grow94_4, grow94_5, grow94_6, grow94_7, grow94_8, grow94_10, grow94_11, grow94_12, grow94_13, grow94_14, grow94_81, ty3, ty22, ty23, ty25, ty29, ty56, ty63, ty69, ty80, ty82, ty83, ty114, ty122, ty123, ty125, plan94_1, plan94_4, plan94_12, plan94_17, plan94_19, eqt114, g0, g3, g7, g8, g36, g37, g38, hk', (hv.app _).ltn, hv.ltn, (hfl _).1, (hfl _).2, hL2, hlx]
    subst hxs hlen' hjl
    trivial
  | succ n ih =>
    intro j len xs G E hj hxs hlen g0 g3 g7 g8 g36 g37 g38
    have hk' : (j : Int) < ts.length := by omega
    have hk2 : j < ts.length := by omega
    have hlx : ltL 0 xs = true := by rw [hxs]; exact ltL_map (fun _ => rfl) _
    have hj1 : IntKind.i64.wrap ((j : Int) + 1) = ((j + 1 : Nat) : Int) := by rw [w64 (by omega) (by omega)]; omega
    obtain ⟨-, -, a3, a4, a5⟩ := hv.at (k := (j : Int)) (x := Tch.av ts[j]) (by omega) (by simp [hk2])
    have ht := hb ts[j] (List.getElem_mem _)
    have hxl : xs.length ≤ 7 := by
      rw [hxs, List.length_map]
      have h1 := heats_len (ts.take j) blk m e
      have h2 : (ts.take j).length ≤ 7 := by rw [List.length_take]; omega
      omega
    have hst := heats_step hk2 blk m e
    have hc := fun G => hof G ts[j].h0 ts[j].h1 ht.1 ht.2.1 ht.2.2
    have hof2 : ∀ o : AO, addElem (H ++ [.box (.agg [I blk, I m, I k, I e]), .grow 1 xs, o]) 1 false (.gsl (H.length + 1) len) [I (if e = 0 then ts[j].h0 else ts[j].h1)] = some (.gsl (H.length + 1) (len + 1), H ++ [.box (.agg [I blk, I m, I k, I e]), .grow 1 (xs ++ [I (if e = 0 then ts[j].h0 else ts[j].h1)]), o]) := by
      intro o
      rw [add_gsl (by simp [get_at']) hlen.symm rfl rfl (by simp; omega), set_at']
      rfl
    simp only [loopIt, todoPast, todoAt, todoOf, firstReg, ↓reduceIte, Option.some.injEq, Nat.reduceEqDiff, reduceCtorEq, Try.f94]
    rw [execL_inLoop]
    by_cases h1 : ts[j].b = blk
    · by_cases h2 : ts[j].m = m
      · have b1 : (ts[j].b == blk) = true := by simp [h1]
        have b2 : (ts[j].m == m) = true := by simp [h2]
        simp only [go_sem, ↓reduceIte, Nat.reduceEqDiff, Nat.reduceAdd, Nat.reduceLeDiff, Nat.reduceBEq, Nat.reduceMul, Nat.reduceLT, Int.reduceLT, Int.reduceLE, Int.reduceToNat, Int.reduceNeg, Int.reduceEq, Int.reduceMul, reduceCtorEq, fn94, res94, gc94_0, gc94_1, gc94_2, gc94_3, gc94_4, gc94_5, gc94_6, gc94_7, gc94_8, gc94_9, gc94_10, gc94_11, gc94_12, gc94_13, gc94_14, gc94_15, gc94_16, gc94_17, gc94_18, gc94_19, gc94_20, gcSt, keepEnv, envLt, heapLt, dfrLt, ADefer.lt, grow94_4, grow94_5, grow94_6, grow94_7, grow94_8, grow94_10, grow94_11, grow94_12, grow94_13, grow94_14, grow94_81, ty3, ty22, ty23, ty25, ty29, ty56, ty63, ty69, ty80, ty82, ty83, ty114, ty122, ty123, ty125, plan94_1, plan94_4, plan94_12, plan94_17, plan94_19, eqt114, g0, g3, g7, g8, g36, g37, g38, hk', (hv.app _).ltn, hv.ltn, (hfl _).1, (hfl _).2, hL2, hlx, a3, a4, a5, Tch.av, b1, b2, hc, hof2, hj1]
        refine ih (j + 1) (len + 1) (xs ++ [I (ts[j].h e)]) _ _ (by omega) (by rw [hst, if_pos ⟨h1, h2⟩, List.map_append, hxs]; rfl) (by rw [hlen]; simp) (by rfl) (by rfl) (by rfl) (by rfl) (by rfl) (by rfl) (by rfl)
      · have b1 : (ts[j].b == blk) = true := by simp [h1]
        have b2 : (ts[j].m == m) = false := by simp [h2]
        simp only [go_sem, ↓reduceIte, Nat.reduceEqDiff, Nat.reduceAdd, Nat.reduceLeDiff, Nat.reduceBEq, Nat.reduceMul, Nat.reduceLT, Int.reduceLT, Int.reduceLE, Int.reduceToNat, Int.reduceNeg, Int.reduceEq, Int.reduceMul, reduceCtorEq, fn94, res94, gc94_0, gc94_1, gc94_2, gc94_3, gc94_4, gc94_5, gc94_6, gc94_7, gc94_8, gc94_9, gc94_10, gc94_11, gc94_12, gc94_13, gc94_14, gc94_15, gc94_16, gc94_17, gc94_18, gc94_19, gc94_20, gcSt, keepEnv, envLt, heapLt, dfrLt, ADefer.lt, grow94_4, grow94_5, grow94_6, grow94_7, grow94_8, grow94_10, grow94_11, grow94_12, grow94_13, grow94_14, grow94_81, ty3, ty22, ty23, ty25, ty29, ty56, ty63, ty69, ty80, ty82, ty83, ty114, ty122, ty123, ty125, plan94_1, plan94_4, plan94_12, plan94_17, plan94_19, eqt114, g0, g3, g7, g8, g36, g37, g38, hk', (hv.app _).ltn, hv.ltn, (hfl _).1, (hfl _).2, hL2, hlx, a3, a4, a5, Tch.av, b1, b2, hj1]
        exact ih (j + 1) len xs _ _ (by omega) (by rw [hst, if_neg (by simp [h2]), List.append_nil]; exact hxs) hlen (by rfl) (by rfl) (by rfl) (by rfl) (by rfl) (by rfl) (by rfl)
    · have b1 : (ts[j].b == blk) = false := by simp [h1]
      simp only [go_sem, ↓reduceIte, Nat.reduceEqDiff, Nat.reduceAdd, Nat.reduceLeDiff, Nat.reduceBEq, Nat.reduceMul, Nat.reduceLT, Int.reduceLT, Int.reduceLE, Int.reduceToNat, Int.reduceNeg, Int.reduceEq, Int.reduceMul, reduceCtorEq, fn94, res94, gc94_0, gc94_1, gc94_2, gc94_3, gc94_4, gc94_5, gc94_6, gc94_7, gc94_8, gc94_9, gc94_10, gc94_11, gc94_12, gc94_13, gc94_14, gc94_15, gc94_16, gc94_17, gc94_18, gc94_19, gc94_20, gcSt, keepEnv, envLt, heapLt, dfrLt, ADefer.lt, grow94_4, grow94_5, grow94_6, grow94_7, grow94_8, grow94_10, grow94_11, grow94_12, grow94_13, grow94_14, grow94_81, ty3, ty22, ty23, ty25, ty29, ty56, ty63, ty69, ty80, ty82, ty83, ty114, ty122, ty123, ty125, plan94_1, plan94_4, plan94_12, plan94_17, plan94_19, eqt114, g0, g3, g7, g8, g36, g37, g38, hk', (hv.app _).ltn, hv.ltn, (hfl _).1, (hfl _).2, hL2, hlx, a3, a4, a5, Tch.av, b1, hj1]
      exact ih (j + 1) len xs _ _ (by omega) (by rw [hst, if_neg (by simp [h1]), List.append_nil]; exact hxs) hlen (by rfl) (by rfl) (by rfl) (by rfl) (by rfl) (by rfl) (by rfl)


structure PlOk (H : Heap) (L M : Nat) (vb vt : AV) (s : Stl) (es : List (AV × AV)) : Prop where
  box : H[L]? = some (.box (.agg [vb, I s.near, I s.last, vt, .map M]))
  mp : H[M]? = some (.map 114 es)
  bs : SlOk H 6 vb (s.bs.map Blk.av)
  ts : SlOk H 4 vt (s.ts.map Tch.av)

/-- What the plate knows is so. -/
def Good (s : Stl) (es : List (AV × AV)) : Prop := (∀ N, mapLt N es = true) ∧ ∀ (blk : Int) (n : Nat) (k e : Int) (b : Blk), 0 ≤ blk → s.bs[blk.toNat]? = some b → ∀ v, lookupM (.agg [I blk, I n, I k, I e]) es = some v → v = I (exc s.ts blk (b.x e) k e n)

theorem lookup_put (k v k' : AV) : ∀ es : List (AV × AV), lookupM k' (putM k v es) = if k'.same k then some v else lookupM k' es
  | [] => by simp [putM, lookupM]
  | (k1, v1) :: r => by
    by_cases h : k.same k1
    · have := same_eq _ _ h
      subst this
      simp only [putM, h, if_true, lookupM]
      split <;> simp_all
    · simp only [putM, h, lookupM]
      by_cases h2 : k'.same k1
      · have := same_eq _ _ h2
        subst this
        have h3 : k'.same k = false := by
          cases h4 : k'.same k with
          | false => rfl
          | true =>
            have := same_eq _ _ h4
            subst this
            exact absurd (AV.same_refl _) h
        simp [h3, AV.same_refl, lookupM]
      · simp [h2, lookup_put k v k' r, lookupM]

theorem mapLt_put {N : Nat} {k v : AV} (hk : k.lt N = true) (hv : v.lt N = true) : ∀ es : List (AV × AV), mapLt N es = true → mapLt N (putM k v es) = true
  | [], _ => by simp [putM, mapLt, hk, hv]
  | (k1, v1) :: r, h => by
    simp only [mapLt, Bool.and_eq_true] at h
    simp only [putM]
    split
    · simp only [mapLt, hk, hv, h.2.2, Bool.and_self]
    · simp only [mapLt, h.1, h.2.1, mapLt_put hk hv r h.2.2, Bool.and_self]

theorem Good.put {s : Stl} {es : List (AV × AV)} (h : Good s es) {blk : Int} {n : Nat} {k e : Int} {b : Blk} (h0 : 0 ≤ blk) (hb : s.bs[blk.toNat]? = some b) : Good s (putM (.agg [I blk, I n, I k, I e]) (I (exc s.ts blk (b.x e) k e n)) es) := by
  refine ⟨fun N => mapLt_put rfl rfl es (h.1 N), ?_⟩
  intro blk' n' k' e' b' h0' hb' v hv
  rw [lookup_put] at hv
  split at hv
  · rename_i hsame
    have := same_eq _ _ hsame
    simp only [I, AV.agg.injEq, List.cons.injEq, AV.int.injEq, true_and, and_true, Int.natCast_inj] at this
    obtain ⟨rfl, rfl, rfl, rfl⟩ := this
    rw [hb] at hb'
    cases hb'
    cases hv
    rfl
  · exact h.2 blk' n' k' e' b' h0' hb' v hv

theorem Good.nil (s : Stl) : Good s [] := by
  refine ⟨fun _ => rfl, ?_⟩
  intro _ _ _ _ _ _ _ v hv
  simp [lookupM] at hv

theorem of_cold : ∀ (G : Heap) (a b : Int), -100 ≤ a → a ≤ b → b ≤ 100 → callVL cfg0 prog0 false (.method "blockworks/settle.of") ([.iface 129 (.agg [])] ++ [.agg [I a, I b]]) [] G none = some ⟨.ret (I (if (0 : Int) = 0 then a else b)), G, none⟩ := by
  intro G a b _ _ _
  simp only [List.cons_append, List.nil_append, callVL_method, meth119, f119, if_true]

theorem of_warm : ∀ (G : Heap) (a b : Int), -100 ≤ a → a ≤ b → b ≤ 100 → callVL cfg0 prog0 false (.method "blockworks/settle.of") ([.iface 131 (.agg [])] ++ [.agg [I a, I b]]) [] G none = some ⟨.ret (I (if (1 : Int) = 0 then a else b)), G, none⟩ := by
  intro G a b _ _ _
  simp only [List.cons_append, List.nil_append, callVL_method, meth120]
  rw [f120 a b G (by omega) (by omega) (by omega)]
  rfl

theorem app_fact (H : Heap) (n : Nat) (hn : H.length = n) (o : AO) (G : Heap) (hs : List Int) (x : Int) (hl : hs.length ≤ 1000) :
    addElem (H ++ o :: .grow 1 (hs.map I) :: G) 1 false (.gsl (n + 1) hs.length) [I x] = some (.gsl (n + 1) (hs.length + 1), H ++ o :: .grow 1 (hs.map I ++ [I x]) :: G) := by
  subst hn
  rw [add_gsl (xs := hs.map I) (by simp [get_at']) (by simp) rfl rfl (by simp; omega), set_at']
  rfl

theorem sum_fact (H : Heap) (n : Nat) (hn : H.length = n) (o : AO) (G : Heap) (hs : List Int) (x : Int) (hl : hs.length ≤ 1000) (hb : ∀ y ∈ hs, -100 ≤ y ∧ y ≤ 100) (hx : -1000000 ≤ x ∧ x ≤ 1000000) :
    callFL cfg0 prog0 false 102 [.gsl (n + 1) (hs.length + 1)] (H ++ o :: .grow 1 (hs.map I ++ [I x]) :: G) none = some ⟨.ret (I (hs.sum + x)), H ++ o :: .grow 1 (hs.map I ++ [I x]) :: G, none⟩ := by
  subst hn
  have := f102 (.gsl (H.length + 1) (hs.length + 1)) (hs ++ [x]) (H ++ o :: .grow 1 (hs.map I ++ [I x]) :: G) ⟨by simp [get_at'], by simp [AV.cells]; rintro a (⟨y, _, rfl⟩ | rfl) <;> rfl⟩ (by
    intro y hy
    rcases List.mem_append.1 hy with hy | hy
    · have := hb y hy; omega
    · simp at hy; subst hy; exact hx) (by simp; omega)
  rw [this]
  simp

theorem f94z0 (L M : Nat) (vb vt : AV) (s : Stl) (hs : s.Wf) (blk k : Int) (b : Blk) (h0 : 0 ≤ blk) (hb : s.bs[blk.toNat]? = some b) (H : Heap) (es : List (AV × AV)) (hp : PlOk H L M vb vt s es) (hlk : lookupM (.agg [I blk, I 0, I k, I 0]) es = none) :
    callFL cfg0 prog0 false 94 [.ptr L 0, .agg [I blk, I 0, I k, I 0]] H none = some ⟨.ret (I (exc s.ts blk (b.x 0) k 0 0)), H.set M (.map 114 (putM (.agg [I blk, I 0, I k, I 0]) (I (exc s.ts blk (b.x 0) k 0 0)) es)), none⟩ := by
  have hL : L < H.length := (List.getElem?_eq_some_iff.1 hp.box).1
  have hM : M < H.length := (List.getElem?_eq_some_iff.1 hp.mp).1
  obtain ⟨-, -, a3, a4, a5⟩ := hp.bs.at (k := blk) (x := Blk.av b) h0 (by simp [hb])
  have hbo := hs.bs b (List.mem_of_getElem? hb)
  have hsb := heats_bd s.ts blk 0 0 hs.ts
  have hsl : (heats s.ts blk 0 0).length ≤ 1000 := by have := heats_len s.ts blk 0 0; have := hs.len; omega
  have hw := fun G => f120 b.x0 b.x1 G (by have := hbo.a1; have := hbo.a2; have := hbo.a3; omega) (by have := hbo.a1; have := hbo.a2; have := hbo.a3; omega) (by have := hbo.a1; have := hbo.a2; have := hbo.a3; omega)
  refine (callFL_eq fn94 rfl (by simp [Try.f94])).trans ?_
  simp only [go_sem, ↓reduceIte, Nat.reduceEqDiff, Nat.reduceAdd, Nat.reduceLeDiff, Nat.reduceBEq, Nat.reduceMul, Nat.reduceLT, Int.reduceLT, Int.reduceLE, Int.reduceToNat, Int.reduceNeg, Int.reduceEq, Int.reduceMul, reduceCtorEq, fn94, res94, gc94_0, gc94_1, gc94_2, gc94_3, gc94_4, gc94_5, gc94_6, gc94_7, gc94_8, gc94_9, gc94_10, gc94_11, gc94_12, gc94_13, gc94_14, gc94_15, gc94_16, gc94_17, gc94_18, gc94_19, gc94_20, gcSt, keepEnv, envLt, heapLt, dfrLt, ADefer.lt, grow94_4, grow94_5, grow94_6, grow94_7, grow94_8, grow94_10, grow94_11, grow94_12, grow94_13, grow94_14, grow94_81, ty3, ty22, ty23, ty25, ty29, ty56, ty63, ty69, ty80, ty82, ty83, ty114, ty122, ty123, ty125, plan94_1, plan94_4, plan94_12, plan94_17, plan94_19, eqt114, get_lt hL, hp.box]
  rw [chkK_of]; rotate_left; kernel_rfl
  simp only [go_sem, ↓reduceIte, Nat.reduceEqDiff, Nat.reduceAdd, Nat.reduceLeDiff, Nat.reduceBEq, Nat.reduceMul, Nat.reduceLT, Int.reduceLT, Int.reduceLE, Int.reduceToNat, Int.reduceNeg, Int.reduceEq, Int.reduceMul, reduceCtorEq, fn94, res94, gc94_0, gc94_1, gc94_2, gc94_3, gc94_4, gc94_5, gc94_6, gc94_7, gc94_8, gc94_9, gc94_10, gc94_11, gc94_12, gc94_13, gc94_14, gc94_15, gc94_16, gc94_17, gc94_18, gc94_19, gc94_20, gcSt, keepEnv, envLt, heapLt, dfrLt, ADefer.lt, grow94_4, grow94_5, grow94_6, grow94_7, grow94_8, grow94_10, grow94_11, grow94_12, grow94_13, grow94_14, grow94_81, ty3, ty22, ty23, ty25, ty29, ty56, ty63, ty69, ty80, ty82, ty83, ty114, ty122, ty123, ty125, plan94_1, plan94_4, plan94_12, plan94_17, plan94_19, eqt114, get_lt hL, get_lt hM, hp.box, hp.mp, hlk]
  rw [chkK_of]; rotate_left; kernel_rfl
  simp only [go_sem, ↓reduceIte, Nat.reduceEqDiff, Nat.reduceAdd, Nat.reduceLeDiff, Nat.reduceBEq, Nat.reduceMul, Nat.reduceLT, Int.reduceLT, Int.reduceLE, Int.reduceToNat, Int.reduceNeg, Int.reduceEq, Int.reduceMul, reduceCtorEq, fn94, res94, gc94_0, gc94_1, gc94_2, gc94_3, gc94_4, gc94_5, gc94_6, gc94_7, gc94_8, gc94_9, gc94_10, gc94_11, gc94_12, gc94_13, gc94_14, gc94_15, gc94_16, gc94_17, gc94_18, gc94_19, gc94_20, gcSt, keepEnv, envLt, heapLt, dfrLt, ADefer.lt, grow94_4, grow94_5, grow94_6, grow94_7, grow94_8, grow94_10, grow94_11, grow94_12, grow94_13, grow94_14, grow94_81, ty3, ty22, ty23, ty25, ty29, ty56, ty63, ty69, ty80, ty82, ty83, ty114, ty122, ty123, ty125, plan94_1, plan94_4, plan94_12, plan94_17, plan94_19, eqt114, get_lt hL, get_lt hM, hp.box, hp.mp, hlk, f101, hp.ts.len, List.length_map]
  refine (congrArg (Option.map _) (f94_loop _ H L vt s.ts blk 0 k 0 _ _ hL hp.ts hs.ts hs.len of_cold (fun _ => ⟨rfl, rfl⟩) s.ts.length 0 0 [] [] _ (by omega) (by simp [heats]) (by simp) (by rfl) (by rfl) (by rfl) (by rfl) (by rfl) (by rfl) (by rfl))).trans ?_
  simp only [go_sem, ↓reduceIte, Nat.reduceEqDiff, Nat.reduceAdd, Nat.reduceLeDiff, Nat.reduceBEq, Nat.reduceMul, Nat.reduceLT, Int.reduceLT, Int.reduceLE, Int.reduceToNat, Int.reduceNeg, Int.reduceEq, Int.reduceMul, reduceCtorEq, fn94, res94, gc94_0, gc94_1, gc94_2, gc94_3, gc94_4, gc94_5, gc94_6, gc94_7, gc94_8, gc94_9, gc94_10, gc94_11, gc94_12, gc94_13, gc94_14, gc94_15, gc94_16, gc94_17, gc94_18, gc94_19, gc94_20, gcSt, keepEnv, envLt, heapLt, dfrLt, ADefer.lt, grow94_4, grow94_5, grow94_6, grow94_7, grow94_8, grow94_10, grow94_11, grow94_12, grow94_13, grow94_14, grow94_81, ty3, ty22, ty23, ty25, ty29, ty56, ty63, ty69, ty80, ty82, ty83, ty114, ty122, ty123, ty125, plan94_1, plan94_4, plan94_12, plan94_17, plan94_19, eqt114]
  rw [chkK_of]; rotate_left; kernel_rfl
  simp only [go_sem, ↓reduceIte, Nat.reduceEqDiff, Nat.reduceAdd, Nat.reduceLeDiff, Nat.reduceBEq, Nat.reduceMul, Nat.reduceLT, Int.reduceLT, Int.reduceLE, Int.reduceToNat, Int.reduceNeg, Int.reduceEq, Int.reduceMul, reduceCtorEq, fn94, res94, gc94_0, gc94_1, gc94_2, gc94_3, gc94_4, gc94_5, gc94_6, gc94_7, gc94_8, gc94_9, gc94_10, gc94_11, gc94_12, gc94_13, gc94_14, gc94_15, gc94_16, gc94_17, gc94_18, gc94_19, gc94_20, gcSt, keepEnv, envLt, heapLt, dfrLt, ADefer.lt, grow94_4, grow94_5, grow94_6, grow94_7, grow94_8, grow94_10, grow94_11, grow94_12, grow94_13, grow94_14, grow94_81, ty3, ty22, ty23, ty25, ty29, ty56, ty63, ty69, ty80, ty82, ty83, ty114, ty122, ty123, ty125, plan94_1, plan94_4, plan94_12, plan94_17, plan94_19, eqt114, get_lt hL, hp.box, a3, a4, a5, Blk.av, meth119, f119, app_fact H _ rfl _ [] _ _ hsl, sum_fact H _ rfl _ [] _ b.x0 hsl hsb (by have := hbo.a1; have := hbo.a2; have := hbo.a3; omega)]
  rw [chkK_of]; rotate_left; kernel_rfl
  simp only [go_sem, ↓reduceIte, Nat.reduceEqDiff, Nat.reduceAdd, Nat.reduceLeDiff, Nat.reduceBEq, Nat.reduceMul, Nat.reduceLT, Int.reduceLT, Int.reduceLE, Int.reduceToNat, Int.reduceNeg, Int.reduceEq, Int.reduceMul, reduceCtorEq, fn94, res94, gc94_0, gc94_1, gc94_2, gc94_3, gc94_4, gc94_5, gc94_6, gc94_7, gc94_8, gc94_9, gc94_10, gc94_11, gc94_12, gc94_13, gc94_14, gc94_15, gc94_16, gc94_17, gc94_18, gc94_19, gc94_20, gcSt, keepEnv, envLt, heapLt, dfrLt, ADefer.lt, grow94_4, grow94_5, grow94_6, grow94_7, grow94_8, grow94_10, grow94_11, grow94_12, grow94_13, grow94_14, grow94_81, ty3, ty22, ty23, ty25, ty29, ty56, ty63, ty69, ty80, ty82, ty83, ty114, ty122, ty123, ty125, plan94_1, plan94_4, plan94_12, plan94_17, plan94_19, eqt114, get_lt hL, get_lt hM, hp.box, hp.mp, set_lt hM, exc, Blk.x]

theorem f94z1 (L M : Nat) (vb vt : AV) (s : Stl) (hs : s.Wf) (blk k : Int) (b : Blk) (h0 : 0 ≤ blk) (hb : s.bs[blk.toNat]? = some b) (H : Heap) (es : List (AV × AV)) (hp : PlOk H L M vb vt s es) (hlk : lookupM (.agg [I blk, I 0, I k, I 1]) es = none) :
    callFL cfg0 prog0 false 94 [.ptr L 0, .agg [I blk, I 0, I k, I 1]] H none = some ⟨.ret (I (exc s.ts blk (b.x 1) k 1 0)), H.set M (.map 114 (putM (.agg [I blk, I 0, I k, I 1]) (I (exc s.ts blk (b.x 1) k 1 0)) es)), none⟩ := by
  have hL : L < H.length := (List.getElem?_eq_some_iff.1 hp.box).1
  have hM : M < H.length := (List.getElem?_eq_some_iff.1 hp.mp).1
  obtain ⟨-, -, a3, a4, a5⟩ := hp.bs.at (k := blk) (x := Blk.av b) h0 (by simp [hb])
  have hbo := hs.bs b (List.mem_of_getElem? hb)
  have hsb := heats_bd s.ts blk 0 1 hs.ts
  have hsl : (heats s.ts blk 0 1).length ≤ 1000 := by have := heats_len s.ts blk 0 1; have := hs.len; omega
  have hw := fun G => f120 b.x0 b.x1 G (by have := hbo.a1; have := hbo.a2; have := hbo.a3; omega) (by have := hbo.a1; have := hbo.a2; have := hbo.a3; omega) (by have := hbo.a1; have := hbo.a2; have := hbo.a3; omega)
  refine (callFL_eq fn94 rfl (by simp [Try.f94])).trans ?_
  simp only [go_sem, ↓reduceIte, Nat.reduceEqDiff, Nat.reduceAdd, Nat.reduceLeDiff, Nat.reduceBEq, Nat.reduceMul, Nat.reduceLT, Int.reduceLT, Int.reduceLE, Int.reduceToNat, Int.reduceNeg, Int.reduceEq, Int.reduceMul, reduceCtorEq, fn94, res94, gc94_0, gc94_1, gc94_2, gc94_3, gc94_4, gc94_5, gc94_6, gc94_7, gc94_8, gc94_9, gc94_10, gc94_11, gc94_12, gc94_13, gc94_14, gc94_15, gc94_16, gc94_17, gc94_18, gc94_19, gc94_20, gcSt, keepEnv, envLt, heapLt, dfrLt, ADefer.lt, grow94_4, grow94_5, grow94_6, grow94_7, grow94_8, grow94_10, grow94_11, grow94_12, grow94_13, grow94_14, grow94_81, ty3, ty22, ty23, ty25, ty29, ty56, ty63, ty69, ty80, ty82, ty83, ty114, ty122, ty123, ty125, plan94_1, plan94_4, plan94_12, plan94_17, plan94_19, eqt114, get_lt hL, hp.box]
  rw [chkK_of]; rotate_left; kernel_rfl
  simp only [go_sem, ↓reduceIte, Nat.reduceEqDiff, Nat.reduceAdd, Nat.reduceLeDiff, Nat.reduceBEq, Nat.reduceMul, Nat.reduceLT, Int.reduceLT, Int.reduceLE, Int.reduceToNat, Int.reduceNeg, Int.reduceEq, Int.reduceMul, reduceCtorEq, fn94, res94, gc94_0, gc94_1, gc94_2, gc94_3, gc94_4, gc94_5, gc94_6, gc94_7, gc94_8, gc94_9, gc94_10, gc94_11, gc94_12, gc94_13, gc94_14, gc94_15, gc94_16, gc94_17, gc94_18, gc94_19, gc94_20, gcSt, keepEnv, envLt, heapLt, dfrLt, ADefer.lt, grow94_4, grow94_5, grow94_6, grow94_7, grow94_8, grow94_10, grow94_11, grow94_12, grow94_13, grow94_14, grow94_81, ty3, ty22, ty23, ty25, ty29, ty56, ty63, ty69, ty80, ty82, ty83, ty114, ty122, ty123, ty125, plan94_1, plan94_4, plan94_12, plan94_17, plan94_19, eqt114, get_lt hL, get_lt hM, hp.box, hp.mp, hlk]
  rw [chkK_of]; rotate_left; kernel_rfl
  simp only [go_sem, ↓reduceIte, Nat.reduceEqDiff, Nat.reduceAdd, Nat.reduceLeDiff, Nat.reduceBEq, Nat.reduceMul, Nat.reduceLT, Int.reduceLT, Int.reduceLE, Int.reduceToNat, Int.reduceNeg, Int.reduceEq, Int.reduceMul, reduceCtorEq, fn94, res94, gc94_0, gc94_1, gc94_2, gc94_3, gc94_4, gc94_5, gc94_6, gc94_7, gc94_8, gc94_9, gc94_10, gc94_11, gc94_12, gc94_13, gc94_14, gc94_15, gc94_16, gc94_17, gc94_18, gc94_19, gc94_20, gcSt, keepEnv, envLt, heapLt, dfrLt, ADefer.lt, grow94_4, grow94_5, grow94_6, grow94_7, grow94_8, grow94_10, grow94_11, grow94_12, grow94_13, grow94_14, grow94_81, ty3, ty22, ty23, ty25, ty29, ty56, ty63, ty69, ty80, ty82, ty83, ty114, ty122, ty123, ty125, plan94_1, plan94_4, plan94_12, plan94_17, plan94_19, eqt114, get_lt hL, get_lt hM, hp.box, hp.mp, hlk, f101, hp.ts.len, List.length_map]
  refine (congrArg (Option.map _) (f94_loop _ H L vt s.ts blk 0 k 1 _ _ hL hp.ts hs.ts hs.len of_warm (fun _ => ⟨rfl, rfl⟩) s.ts.length 0 0 [] [] _ (by omega) (by simp [heats]) (by simp) (by rfl) (by rfl) (by rfl) (by rfl) (by rfl) (by rfl) (by rfl))).trans ?_
  simp only [go_sem, ↓reduceIte, Nat.reduceEqDiff, Nat.reduceAdd, Nat.reduceLeDiff, Nat.reduceBEq, Nat.reduceMul, Nat.reduceLT, Int.reduceLT, Int.reduceLE, Int.reduceToNat, Int.reduceNeg, Int.reduceEq, Int.reduceMul, reduceCtorEq, fn94, res94, gc94_0, gc94_1, gc94_2, gc94_3, gc94_4, gc94_5, gc94_6, gc94_7, gc94_8, gc94_9, gc94_10, gc94_11, gc94_12, gc94_13, gc94_14, gc94_15, gc94_16, gc94_17, gc94_18, gc94_19, gc94_20, gcSt, keepEnv, envLt, heapLt, dfrLt, ADefer.lt, grow94_4, grow94_5, grow94_6, grow94_7, grow94_8, grow94_10, grow94_11, grow94_12, grow94_13, grow94_14, grow94_81, ty3, ty22, ty23, ty25, ty29, ty56, ty63, ty69, ty80, ty82, ty83, ty114, ty122, ty123, ty125, plan94_1, plan94_4, plan94_12, plan94_17, plan94_19, eqt114]
  rw [chkK_of]; rotate_left; kernel_rfl
  simp only [go_sem, ↓reduceIte, Nat.reduceEqDiff, Nat.reduceAdd, Nat.reduceLeDiff, Nat.reduceBEq, Nat.reduceMul, Nat.reduceLT, Int.reduceLT, Int.reduceLE, Int.reduceToNat, Int.reduceNeg, Int.reduceEq, Int.reduceMul, reduceCtorEq, fn94, res94, gc94_0, gc94_1, gc94_2, gc94_3, gc94_4, gc94_5, gc94_6, gc94_7, gc94_8, gc94_9, gc94_10, gc94_11, gc94_12, gc94_13, gc94_14, gc94_15, gc94_16, gc94_17, gc94_18, gc94_19, gc94_20, gcSt, keepEnv, envLt, heapLt, dfrLt, ADefer.lt, grow94_4, grow94_5, grow94_6, grow94_7, grow94_8, grow94_10, grow94_11, grow94_12, grow94_13, grow94_14, grow94_81, ty3, ty22, ty23, ty25, ty29, ty56, ty63, ty69, ty80, ty82, ty83, ty114, ty122, ty123, ty125, plan94_1, plan94_4, plan94_12, plan94_17, plan94_19, eqt114, get_lt hL, hp.box, a3, a4, a5, Blk.av, meth120, hw, app_fact H _ rfl _ [] _ _ hsl, sum_fact H _ rfl _ [] _ b.x1 hsl hsb (by have := hbo.a1; have := hbo.a2; have := hbo.a3; omega)]
  rw [chkK_of]; rotate_left; kernel_rfl
  simp only [go_sem, ↓reduceIte, Nat.reduceEqDiff, Nat.reduceAdd, Nat.reduceLeDiff, Nat.reduceBEq, Nat.reduceMul, Nat.reduceLT, Int.reduceLT, Int.reduceLE, Int.reduceToNat, Int.reduceNeg, Int.reduceEq, Int.reduceMul, reduceCtorEq, fn94, res94, gc94_0, gc94_1, gc94_2, gc94_3, gc94_4, gc94_5, gc94_6, gc94_7, gc94_8, gc94_9, gc94_10, gc94_11, gc94_12, gc94_13, gc94_14, gc94_15, gc94_16, gc94_17, gc94_18, gc94_19, gc94_20, gcSt, keepEnv, envLt, heapLt, dfrLt, ADefer.lt, grow94_4, grow94_5, grow94_6, grow94_7, grow94_8, grow94_10, grow94_11, grow94_12, grow94_13, grow94_14, grow94_81, ty3, ty22, ty23, ty25, ty29, ty56, ty63, ty69, ty80, ty82, ty83, ty114, ty122, ty123, ty125, plan94_1, plan94_4, plan94_12, plan94_17, plan94_19, eqt114, get_lt hL, get_lt hM, hp.box, hp.mp, set_lt hM, exc, Blk.x]

theorem f94s0 (L M : Nat) (vb vt : AV) (s : Stl) (hs : s.Wf) (blk k : Int) (b : Blk) (h0 : 0 ≤ blk) (hb : s.bs[blk.toNat]? = some b) (hk : 1 ≤ k ∧ k ≤ 100) (n : Nat) (hn : n ≤ 100) (H : Heap) (es es' : List (AV × AV)) (hp : PlOk H L M vb vt s es) (hlk : lookupM (.agg [I blk, I ((n + 1 : Nat) : Int), I k, I 0]) es = none)
    (ih : callFL cfg0 prog0 false 94 [.ptr L 0, .agg [I blk, I n, I k, I 0]] (H ++ [.box (.agg [I blk, I ((n + 1 : Nat) : Int), I k, I 0]), .grow 1 ((heats s.ts blk ((n + 1 : Nat) : Int) 0).map I), .box (.agg [I blk, I n, I k, I 0])]) none =
      some ⟨.ret (I (exc s.ts blk (b.x 0) k 0 n)), List.set (H ++ [AO.box (.agg [I blk, I ((n + 1 : Nat) : Int), I k, I 0]), AO.grow 1 ((heats s.ts blk ((n + 1 : Nat) : Int) 0).map I), AO.box (.agg [I blk, I n, I k, I 0])]) M (.map 114 es'), none⟩) :
    callFL cfg0 prog0 false 94 [.ptr L 0, .agg [I blk, I ((n + 1 : Nat) : Int), I k, I 0]] H none = some ⟨.ret (I (exc s.ts blk (b.x 0) k 0 (n + 1))), H.set M (.map 114 (putM (.agg [I blk, I ((n + 1 : Nat) : Int), I k, I 0]) (I (exc s.ts blk (b.x 0) k 0 (n + 1))) es')), none⟩ := by
  have hL : L < H.length := (List.getElem?_eq_some_iff.1 hp.box).1
  have hM : M < H.length := (List.getElem?_eq_some_iff.1 hp.mp).1
  have hLM : M ≠ L := by
    rintro rfl
    have h1 := hp.box
    rw [hp.mp] at h1
    cases h1
  obtain ⟨-, -, a3, a4, a5⟩ := hp.bs.at (k := blk) (x := Blk.av b) h0 (by simp [hb])
  have hbo := hs.bs b (List.mem_of_getElem? hb)
  have hbb : -100 ≤ b.x 0 ∧ b.x 0 ≤ 100 := by have := hbo.a1; have := hbo.a2; have := hbo.a3; simp only [Blk.x]; constructor <;> split <;> omega
  have hw := fun G => f120 b.x0 b.x1 G (by have := hbo.a1; have := hbo.a2; have := hbo.a3; omega) (by have := hbo.a1; have := hbo.a2; have := hbo.a3; omega) (by have := hbo.a1; have := hbo.a2; have := hbo.a3; omega)
  have hx := exc_bd (blk := blk) (e := 0) hs.ts hs.len hbb hk.1 n
  have hff := fun G => f75 (exc s.ts blk (b.x 0) k 0 n) k G (by omega) (by omega) hk.1 (by omega)
  have hfb : -1000000 ≤ fallsZ (exc s.ts blk (b.x 0) k 0 n) k ∧ fallsZ (exc s.ts blk (b.x 0) k 0 n) k ≤ 1000000 := by
    obtain ⟨q1, q2⟩ := fallsZ_bd (x := exc s.ts blk (b.x 0) k 0 n) hk.1
    rcases Int.le_total 0 (exc s.ts blk (b.x 0) k 0 n) with h4 | h4
    · have := q1 h4; omega
    · have := q2 h4; omega
  have hpos : (0 : Int) < ((n + 1 : Nat) : Int) := by omega
  have hm1 : IntKind.i64.wrap (((n + 1 : Nat) : Int) - 1) = (n : Int) := by rw [w64 (by omega) (by omega)]; omega
  have hex : exc s.ts blk (b.x 0) k 0 (n + 1) = (heats s.ts blk ((n + 1 : Nat) : Int) 0).sum + fallsZ (exc s.ts blk (b.x 0) k 0 n) k := rfl
  rw [hex]
  clear hex
  generalize hmm : ((n + 1 : Nat) : Int) = m at *
  have hsb := heats_bd s.ts blk m 0 hs.ts
  have hsl : (heats s.ts blk m 0).length ≤ 1000 := by have := heats_len s.ts blk m 0; have := hs.len; omega
  refine (callFL_eq fn94 rfl (by simp [Try.f94])).trans ?_
  simp only [go_sem, ↓reduceIte, Nat.reduceEqDiff, Nat.reduceAdd, Nat.reduceLeDiff, Nat.reduceBEq, Nat.reduceMul, Nat.reduceLT, Int.reduceLT, Int.reduceLE, Int.reduceToNat, Int.reduceNeg, Int.reduceEq, Int.reduceMul, reduceCtorEq, fn94, res94, gc94_0, gc94_1, gc94_2, gc94_3, gc94_4, gc94_5, gc94_6, gc94_7, gc94_8, gc94_9, gc94_10, gc94_11, gc94_12, gc94_13, gc94_14, gc94_15, gc94_16, gc94_17, gc94_18, gc94_19, gc94_20, gcSt, keepEnv, envLt, heapLt, dfrLt, ADefer.lt, grow94_4, grow94_5, grow94_6, grow94_7, grow94_8, grow94_10, grow94_11, grow94_12, grow94_13, grow94_14, grow94_81, ty3, ty22, ty23, ty25, ty29, ty56, ty63, ty69, ty80, ty82, ty83, ty114, ty122, ty123, ty125, plan94_1, plan94_4, plan94_12, plan94_17, plan94_19, eqt114, get_lt hL, hp.box]
  rw [chkK_of]; rotate_left; kernel_rfl
  simp only [go_sem, ↓reduceIte, Nat.reduceEqDiff, Nat.reduceAdd, Nat.reduceLeDiff, Nat.reduceBEq, Nat.reduceMul, Nat.reduceLT, Int.reduceLT, Int.reduceLE, Int.reduceToNat, Int.reduceNeg, Int.reduceEq, Int.reduceMul, reduceCtorEq, fn94, res94, gc94_0, gc94_1, gc94_2, gc94_3, gc94_4, gc94_5, gc94_6, gc94_7, gc94_8, gc94_9, gc94_10, gc94_11, gc94_12, gc94_13, gc94_14, gc94_15, gc94_16, gc94_17, gc94_18, gc94_19, gc94_20, gcSt, keepEnv, envLt, heapLt, dfrLt, ADefer.lt, grow94_4, grow94_5, grow94_6, grow94_7, grow94_8, grow94_10, grow94_11, grow94_12, grow94_13, grow94_14, grow94_81, ty3, ty22, ty23, ty25, ty29, ty56, ty63, ty69, ty80, ty82, ty83, ty114, ty122, ty123, ty125, plan94_1, plan94_4, plan94_12, plan94_17, plan94_19, eqt114, get_lt hL, get_lt hM, hp.box, hp.mp, hlk]
  rw [chkK_of]; rotate_left; kernel_rfl
  simp only [go_sem, ↓reduceIte, Nat.reduceEqDiff, Nat.reduceAdd, Nat.reduceLeDiff, Nat.reduceBEq, Nat.reduceMul, Nat.reduceLT, Int.reduceLT, Int.reduceLE, Int.reduceToNat, Int.reduceNeg, Int.reduceEq, Int.reduceMul, reduceCtorEq, fn94, res94, gc94_0, gc94_1, gc94_2, gc94_3, gc94_4, gc94_5, gc94_6, gc94_7, gc94_8, gc94_9, gc94_10, gc94_11, gc94_12, gc94_13, gc94_14, gc94_15, gc94_16, gc94_17, gc94_18, gc94_19, gc94_20, gcSt, keepEnv, envLt, heapLt, dfrLt, ADefer.lt, grow94_4, grow94_5, grow94_6, grow94_7, grow94_8, grow94_10, grow94_11, grow94_12, grow94_13, grow94_14, grow94_81, ty3, ty22, ty23, ty25, ty29, ty56, ty63, ty69, ty80, ty82, ty83, ty114, ty122, ty123, ty125, plan94_1, plan94_4, plan94_12, plan94_17, plan94_19, eqt114, get_lt hL, get_lt hM, hp.box, hp.mp, hlk, f101, hp.ts.len, List.length_map]
  refine (congrArg (Option.map _) (f94_loop _ H L vt s.ts blk m k 0 _ _ hL hp.ts hs.ts hs.len of_cold (fun _ => ⟨rfl, rfl⟩) s.ts.length 0 0 [] [] _ (by omega) (by simp [heats]) (by simp) (by rfl) (by rfl) (by rfl) (by rfl) (by rfl) (by rfl) (by rfl))).trans ?_
  simp only [go_sem, ↓reduceIte, Nat.reduceEqDiff, Nat.reduceAdd, Nat.reduceLeDiff, Nat.reduceBEq, Nat.reduceMul, Nat.reduceLT, Int.reduceLT, Int.reduceLE, Int.reduceToNat, Int.reduceNeg, Int.reduceEq, Int.reduceMul, reduceCtorEq, fn94, res94, gc94_0, gc94_1, gc94_2, gc94_3, gc94_4, gc94_5, gc94_6, gc94_7, gc94_8, gc94_9, gc94_10, gc94_11, gc94_12, gc94_13, gc94_14, gc94_15, gc94_16, gc94_17, gc94_18, gc94_19, gc94_20, gcSt, keepEnv, envLt, heapLt, dfrLt, ADefer.lt, grow94_4, grow94_5, grow94_6, grow94_7, grow94_8, grow94_10, grow94_11, grow94_12, grow94_13, grow94_14, grow94_81, ty3, ty22, ty23, ty25, ty29, ty56, ty63, ty69, ty80, ty82, ty83, ty114, ty122, ty123, ty125, plan94_1, plan94_4, plan94_12, plan94_17, plan94_19, eqt114]
  rw [chkK_of]; rotate_left; kernel_rfl
  simp only [go_sem, ↓reduceIte, Nat.reduceEqDiff, Nat.reduceAdd, Nat.reduceLeDiff, Nat.reduceBEq, Nat.reduceMul, Nat.reduceLT, Int.reduceLT, Int.reduceLE, Int.reduceToNat, Int.reduceNeg, Int.reduceEq, Int.reduceMul, reduceCtorEq, fn94, res94, gc94_0, gc94_1, gc94_2, gc94_3, gc94_4, gc94_5, gc94_6, gc94_7, gc94_8, gc94_9, gc94_10, gc94_11, gc94_12, gc94_13, gc94_14, gc94_15, gc94_16, gc94_17, gc94_18, gc94_19, gc94_20, gcSt, keepEnv, envLt, heapLt, dfrLt, ADefer.lt, grow94_4, grow94_5, grow94_6, grow94_7, grow94_8, grow94_10, grow94_11, grow94_12, grow94_13, grow94_14, grow94_81, ty3, ty22, ty23, ty25, ty29, ty56, ty63, ty69, ty80, ty82, ty83, ty114, ty122, ty123, ty125, plan94_1, plan94_4, plan94_12, plan94_17, plan94_19, eqt114, get_lt hL, hp.box, a3, a4, a5, Blk.av, meth119, f119, hpos, hm1]
  rw [chkK_of]; rotate_left; kernel_rfl
  simp only [go_sem, ↓reduceIte, Nat.reduceEqDiff, Nat.reduceAdd, Nat.reduceLeDiff, Nat.reduceBEq, Nat.reduceMul, Nat.reduceLT, Int.reduceLT, Int.reduceLE, Int.reduceToNat, Int.reduceNeg, Int.reduceEq, Int.reduceMul, reduceCtorEq, fn94, res94, gc94_0, gc94_1, gc94_2, gc94_3, gc94_4, gc94_5, gc94_6, gc94_7, gc94_8, gc94_9, gc94_10, gc94_11, gc94_12, gc94_13, gc94_14, gc94_15, gc94_16, gc94_17, gc94_18, gc94_19, gc94_20, gcSt, keepEnv, envLt, heapLt, dfrLt, ADefer.lt, grow94_4, grow94_5, grow94_6, grow94_7, grow94_8, grow94_10, grow94_11, grow94_12, grow94_13, grow94_14, grow94_81, ty3, ty22, ty23, ty25, ty29, ty56, ty63, ty69, ty80, ty82, ty83, ty114, ty122, ty123, ty125, plan94_1, plan94_4, plan94_12, plan94_17, plan94_19, eqt114, get_lt hL, ih, set_lt hM, hff]
  generalize fallsZ (exc s.ts blk (b.x 0) k 0 n) k = y at *
  simp only [go_sem, ↓reduceIte, Nat.reduceEqDiff, Nat.reduceAdd, Nat.reduceLeDiff, Nat.reduceBEq, Nat.reduceMul, Nat.reduceLT, Int.reduceLT, Int.reduceLE, Int.reduceToNat, Int.reduceNeg, Int.reduceEq, Int.reduceMul, reduceCtorEq, fn94, res94, gc94_0, gc94_1, gc94_2, gc94_3, gc94_4, gc94_5, gc94_6, gc94_7, gc94_8, gc94_9, gc94_10, gc94_11, gc94_12, gc94_13, gc94_14, gc94_15, gc94_16, gc94_17, gc94_18, gc94_19, gc94_20, gcSt, keepEnv, envLt, heapLt, dfrLt, ADefer.lt, grow94_4, grow94_5, grow94_6, grow94_7, grow94_8, grow94_10, grow94_11, grow94_12, grow94_13, grow94_14, grow94_81, ty3, ty22, ty23, ty25, ty29, ty56, ty63, ty69, ty80, ty82, ty83, ty114, ty122, ty123, ty125, plan94_1, plan94_4, plan94_12, plan94_17, plan94_19, eqt114, app_fact (H.set M (.map 114 es')) H.length (by simp) _ [_] _ _ hsl, sum_fact (H.set M (.map 114 es')) H.length (by simp) _ [_] _ y hsl hsb hfb]
  have hgL : (H.set M (.map 114 es'))[L]? = H[L]? := List.getElem?_set_ne hLM
  have hgM : (H.set M (.map 114 es'))[M]? = some (.map 114 es') := List.getElem?_set_self hM
  have hL' : L < (H.set M (.map 114 es')).length := by simpa using hL
  have hM' : M < (H.set M (.map 114 es')).length := by simpa using hM
  rw [chkK_of]; rotate_left; kernel_rfl
  simp only [go_sem, ↓reduceIte, Nat.reduceEqDiff, Nat.reduceAdd, Nat.reduceLeDiff, Nat.reduceBEq, Nat.reduceMul, Nat.reduceLT, Int.reduceLT, Int.reduceLE, Int.reduceToNat, Int.reduceNeg, Int.reduceEq, Int.reduceMul, reduceCtorEq, fn94, res94, gc94_0, gc94_1, gc94_2, gc94_3, gc94_4, gc94_5, gc94_6, gc94_7, gc94_8, gc94_9, gc94_10, gc94_11, gc94_12, gc94_13, gc94_14, gc94_15, gc94_16, gc94_17, gc94_18, gc94_19, gc94_20, gcSt, keepEnv, envLt, heapLt, dfrLt, ADefer.lt, grow94_4, grow94_5, grow94_6, grow94_7, grow94_8, grow94_10, grow94_11, grow94_12, grow94_13, grow94_14, grow94_81, ty3, ty22, ty23, ty25, ty29, ty56, ty63, ty69, ty80, ty82, ty83, ty114, ty122, ty123, ty125, plan94_1, plan94_4, plan94_12, plan94_17, plan94_19, eqt114, get_lt hL', get_lt hM', hgL, hgM, hp.box, set_lt hM']

theorem f94s1 (L M : Nat) (vb vt : AV) (s : Stl) (hs : s.Wf) (blk k : Int) (b : Blk) (h0 : 0 ≤ blk) (hb : s.bs[blk.toNat]? = some b) (hk : 1 ≤ k ∧ k ≤ 100) (n : Nat) (hn : n ≤ 100) (H : Heap) (es es' : List (AV × AV)) (hp : PlOk H L M vb vt s es) (hlk : lookupM (.agg [I blk, I ((n + 1 : Nat) : Int), I k, I 1]) es = none)
    (ih : callFL cfg0 prog0 false 94 [.ptr L 0, .agg [I blk, I n, I k, I 1]] (H ++ [.box (.agg [I blk, I ((n + 1 : Nat) : Int), I k, I 1]), .grow 1 ((heats s.ts blk ((n + 1 : Nat) : Int) 1).map I), .box (.agg [I blk, I n, I k, I 1])]) none =
      some ⟨.ret (I (exc s.ts blk (b.x 1) k 1 n)), List.set (H ++ [AO.box (.agg [I blk, I ((n + 1 : Nat) : Int), I k, I 1]), AO.grow 1 ((heats s.ts blk ((n + 1 : Nat) : Int) 1).map I), AO.box (.agg [I blk, I n, I k, I 1])]) M (.map 114 es'), none⟩) :
    callFL cfg0 prog0 false 94 [.ptr L 0, .agg [I blk, I ((n + 1 : Nat) : Int), I k, I 1]] H none = some ⟨.ret (I (exc s.ts blk (b.x 1) k 1 (n + 1))), H.set M (.map 114 (putM (.agg [I blk, I ((n + 1 : Nat) : Int), I k, I 1]) (I (exc s.ts blk (b.x 1) k 1 (n + 1))) es')), none⟩ := by
  have hL : L < H.length := (List.getElem?_eq_some_iff.1 hp.box).1
  have hM : M < H.length := (List.getElem?_eq_some_iff.1 hp.mp).1
  have hLM : M ≠ L := by
    rintro rfl
    have h1 := hp.box
    rw [hp.mp] at h1
    cases h1
  obtain ⟨-, -, a3, a4, a5⟩ := hp.bs.at (k := blk) (x := Blk.av b) h0 (by simp [hb])
  have hbo := hs.bs b (List.mem_of_getElem? hb)
  have hbb : -100 ≤ b.x 1 ∧ b.x 1 ≤ 100 := by have := hbo.a1; have := hbo.a2; have := hbo.a3; simp only [Blk.x]; constructor <;> split <;> omega
  have hw := fun G => f120 b.x0 b.x1 G (by have := hbo.a1; have := hbo.a2; have := hbo.a3; omega) (by have := hbo.a1; have := hbo.a2; have := hbo.a3; omega) (by have := hbo.a1; have := hbo.a2; have := hbo.a3; omega)
  have hx := exc_bd (blk := blk) (e := 1) hs.ts hs.len hbb hk.1 n
  have hff := fun G => f75 (exc s.ts blk (b.x 1) k 1 n) k G (by omega) (by omega) hk.1 (by omega)
  have hfb : -1000000 ≤ fallsZ (exc s.ts blk (b.x 1) k 1 n) k ∧ fallsZ (exc s.ts blk (b.x 1) k 1 n) k ≤ 1000000 := by
    obtain ⟨q1, q2⟩ := fallsZ_bd (x := exc s.ts blk (b.x 1) k 1 n) hk.1
    rcases Int.le_total 0 (exc s.ts blk (b.x 1) k 1 n) with h4 | h4
    · have := q1 h4; omega
    · have := q2 h4; omega
  have hpos : (0 : Int) < ((n + 1 : Nat) : Int) := by omega
  have hm1 : IntKind.i64.wrap (((n + 1 : Nat) : Int) - 1) = (n : Int) := by rw [w64 (by omega) (by omega)]; omega
  have hex : exc s.ts blk (b.x 1) k 1 (n + 1) = (heats s.ts blk ((n + 1 : Nat) : Int) 1).sum + fallsZ (exc s.ts blk (b.x 1) k 1 n) k := rfl
  rw [hex]
  clear hex
  generalize hmm : ((n + 1 : Nat) : Int) = m at *
  have hsb := heats_bd s.ts blk m 1 hs.ts
  have hsl : (heats s.ts blk m 1).length ≤ 1000 := by have := heats_len s.ts blk m 1; have := hs.len; omega
  refine (callFL_eq fn94 rfl (by simp [Try.f94])).trans ?_
  simp only [go_sem, ↓reduceIte, Nat.reduceEqDiff, Nat.reduceAdd, Nat.reduceLeDiff, Nat.reduceBEq, Nat.reduceMul, Nat.reduceLT, Int.reduceLT, Int.reduceLE, Int.reduceToNat, Int.reduceNeg, Int.reduceEq, Int.reduceMul, reduceCtorEq, fn94, res94, gc94_0, gc94_1, gc94_2, gc94_3, gc94_4, gc94_5, gc94_6, gc94_7, gc94_8, gc94_9, gc94_10, gc94_11, gc94_12, gc94_13, gc94_14, gc94_15, gc94_16, gc94_17, gc94_18, gc94_19, gc94_20, gcSt, keepEnv, envLt, heapLt, dfrLt, ADefer.lt, grow94_4, grow94_5, grow94_6, grow94_7, grow94_8, grow94_10, grow94_11, grow94_12, grow94_13, grow94_14, grow94_81, ty3, ty22, ty23, ty25, ty29, ty56, ty63, ty69, ty80, ty82, ty83, ty114, ty122, ty123, ty125, plan94_1, plan94_4, plan94_12, plan94_17, plan94_19, eqt114, get_lt hL, hp.box]
  rw [chkK_of]; rotate_left; kernel_rfl
  simp only [go_sem, ↓reduceIte, Nat.reduceEqDiff, Nat.reduceAdd, Nat.reduceLeDiff, Nat.reduceBEq, Nat.reduceMul, Nat.reduceLT, Int.reduceLT, Int.reduceLE, Int.reduceToNat, Int.reduceNeg, Int.reduceEq, Int.reduceMul, reduceCtorEq, fn94, res94, gc94_0, gc94_1, gc94_2, gc94_3, gc94_4, gc94_5, gc94_6, gc94_7, gc94_8, gc94_9, gc94_10, gc94_11, gc94_12, gc94_13, gc94_14, gc94_15, gc94_16, gc94_17, gc94_18, gc94_19, gc94_20, gcSt, keepEnv, envLt, heapLt, dfrLt, ADefer.lt, grow94_4, grow94_5, grow94_6, grow94_7, grow94_8, grow94_10, grow94_11, grow94_12, grow94_13, grow94_14, grow94_81, ty3, ty22, ty23, ty25, ty29, ty56, ty63, ty69, ty80, ty82, ty83, ty114, ty122, ty123, ty125, plan94_1, plan94_4, plan94_12, plan94_17, plan94_19, eqt114, get_lt hL, get_lt hM, hp.box, hp.mp, hlk]
  rw [chkK_of]; rotate_left; kernel_rfl
  simp only [go_sem, ↓reduceIte, Nat.reduceEqDiff, Nat.reduceAdd, Nat.reduceLeDiff, Nat.reduceBEq, Nat.reduceMul, Nat.reduceLT, Int.reduceLT, Int.reduceLE, Int.reduceToNat, Int.reduceNeg, Int.reduceEq, Int.reduceMul, reduceCtorEq, fn94, res94, gc94_0, gc94_1, gc94_2, gc94_3, gc94_4, gc94_5, gc94_6, gc94_7, gc94_8, gc94_9, gc94_10, gc94_11, gc94_12, gc94_13, gc94_14, gc94_15, gc94_16, gc94_17, gc94_18, gc94_19, gc94_20, gcSt, keepEnv, envLt, heapLt, dfrLt, ADefer.lt, grow94_4, grow94_5, grow94_6, grow94_7, grow94_8, grow94_10, grow94_11, grow94_12, grow94_13, grow94_14, grow94_81, ty3, ty22, ty23, ty25, ty29, ty56, ty63, ty69, ty80, ty82, ty83, ty114, ty122, ty123, ty125, plan94_1, plan94_4, plan94_12, plan94_17, plan94_19, eqt114, get_lt hL, get_lt hM, hp.box, hp.mp, hlk, f101, hp.ts.len, List.length_map]
  refine (congrArg (Option.map _) (f94_loop _ H L vt s.ts blk m k 1 _ _ hL hp.ts hs.ts hs.len of_warm (fun _ => ⟨rfl, rfl⟩) s.ts.length 0 0 [] [] _ (by omega) (by simp [heats]) (by simp) (by rfl) (by rfl) (by rfl) (by rfl) (by rfl) (by rfl) (by rfl))).trans ?_
  simp only [go_sem, ↓reduceIte, Nat.reduceEqDiff, Nat.reduceAdd, Nat.reduceLeDiff, Nat.reduceBEq, Nat.reduceMul, Nat.reduceLT, Int.reduceLT, Int.reduceLE, Int.reduceToNat, Int.reduceNeg, Int.reduceEq, Int.reduceMul, reduceCtorEq, fn94, res94, gc94_0, gc94_1, gc94_2, gc94_3, gc94_4, gc94_5, gc94_6, gc94_7, gc94_8, gc94_9, gc94_10, gc94_11, gc94_12, gc94_13, gc94_14, gc94_15, gc94_16, gc94_17, gc94_18, gc94_19, gc94_20, gcSt, keepEnv, envLt, heapLt, dfrLt, ADefer.lt, grow94_4, grow94_5, grow94_6, grow94_7, grow94_8, grow94_10, grow94_11, grow94_12, grow94_13, grow94_14, grow94_81, ty3, ty22, ty23, ty25, ty29, ty56, ty63, ty69, ty80, ty82, ty83, ty114, ty122, ty123, ty125, plan94_1, plan94_4, plan94_12, plan94_17, plan94_19, eqt114]
  rw [chkK_of]; rotate_left; kernel_rfl
  simp only [go_sem, ↓reduceIte, Nat.reduceEqDiff, Nat.reduceAdd, Nat.reduceLeDiff, Nat.reduceBEq, Nat.reduceMul, Nat.reduceLT, Int.reduceLT, Int.reduceLE, Int.reduceToNat, Int.reduceNeg, Int.reduceEq, Int.reduceMul, reduceCtorEq, fn94, res94, gc94_0, gc94_1, gc94_2, gc94_3, gc94_4, gc94_5, gc94_6, gc94_7, gc94_8, gc94_9, gc94_10, gc94_11, gc94_12, gc94_13, gc94_14, gc94_15, gc94_16, gc94_17, gc94_18, gc94_19, gc94_20, gcSt, keepEnv, envLt, heapLt, dfrLt, ADefer.lt, grow94_4, grow94_5, grow94_6, grow94_7, grow94_8, grow94_10, grow94_11, grow94_12, grow94_13, grow94_14, grow94_81, ty3, ty22, ty23, ty25, ty29, ty56, ty63, ty69, ty80, ty82, ty83, ty114, ty122, ty123, ty125, plan94_1, plan94_4, plan94_12, plan94_17, plan94_19, eqt114, get_lt hL, hp.box, a3, a4, a5, Blk.av, meth120, hw, hpos, hm1]
  rw [chkK_of]; rotate_left; kernel_rfl
  simp only [go_sem, ↓reduceIte, Nat.reduceEqDiff, Nat.reduceAdd, Nat.reduceLeDiff, Nat.reduceBEq, Nat.reduceMul, Nat.reduceLT, Int.reduceLT, Int.reduceLE, Int.reduceToNat, Int.reduceNeg, Int.reduceEq, Int.reduceMul, reduceCtorEq, fn94, res94, gc94_0, gc94_1, gc94_2, gc94_3, gc94_4, gc94_5, gc94_6, gc94_7, gc94_8, gc94_9, gc94_10, gc94_11, gc94_12, gc94_13, gc94_14, gc94_15, gc94_16, gc94_17, gc94_18, gc94_19, gc94_20, gcSt, keepEnv, envLt, heapLt, dfrLt, ADefer.lt, grow94_4, grow94_5, grow94_6, grow94_7, grow94_8, grow94_10, grow94_11, grow94_12, grow94_13, grow94_14, grow94_81, ty3, ty22, ty23, ty25, ty29, ty56, ty63, ty69, ty80, ty82, ty83, ty114, ty122, ty123, ty125, plan94_1, plan94_4, plan94_12, plan94_17, plan94_19, eqt114, get_lt hL, ih, set_lt hM, hff]
  generalize fallsZ (exc s.ts blk (b.x 1) k 1 n) k = y at *
  simp only [go_sem, ↓reduceIte, Nat.reduceEqDiff, Nat.reduceAdd, Nat.reduceLeDiff, Nat.reduceBEq, Nat.reduceMul, Nat.reduceLT, Int.reduceLT, Int.reduceLE, Int.reduceToNat, Int.reduceNeg, Int.reduceEq, Int.reduceMul, reduceCtorEq, fn94, res94, gc94_0, gc94_1, gc94_2, gc94_3, gc94_4, gc94_5, gc94_6, gc94_7, gc94_8, gc94_9, gc94_10, gc94_11, gc94_12, gc94_13, gc94_14, gc94_15, gc94_16, gc94_17, gc94_18, gc94_19, gc94_20, gcSt, keepEnv, envLt, heapLt, dfrLt, ADefer.lt, grow94_4, grow94_5, grow94_6, grow94_7, grow94_8, grow94_10, grow94_11, grow94_12, grow94_13, grow94_14, grow94_81, ty3, ty22, ty23, ty25, ty29, ty56, ty63, ty69, ty80, ty82, ty83, ty114, ty122, ty123, ty125, plan94_1, plan94_4, plan94_12, plan94_17, plan94_19, eqt114, app_fact (H.set M (.map 114 es')) H.length (by simp) _ [_] _ _ hsl, sum_fact (H.set M (.map 114 es')) H.length (by simp) _ [_] _ y hsl hsb hfb]
  have hgL : (H.set M (.map 114 es'))[L]? = H[L]? := List.getElem?_set_ne hLM
  have hgM : (H.set M (.map 114 es'))[M]? = some (.map 114 es') := List.getElem?_set_self hM
  have hL' : L < (H.set M (.map 114 es')).length := by simpa using hL
  have hM' : M < (H.set M (.map 114 es')).length := by simpa using hM
  rw [chkK_of]; rotate_left; kernel_rfl
  simp only [go_sem, ↓reduceIte, Nat.reduceEqDiff, Nat.reduceAdd, Nat.reduceLeDiff, Nat.reduceBEq, Nat.reduceMul, Nat.reduceLT, Int.reduceLT, Int.reduceLE, Int.reduceToNat, Int.reduceNeg, Int.reduceEq, Int.reduceMul, reduceCtorEq, fn94, res94, gc94_0, gc94_1, gc94_2, gc94_3, gc94_4, gc94_5, gc94_6, gc94_7, gc94_8, gc94_9, gc94_10, gc94_11, gc94_12, gc94_13, gc94_14, gc94_15, gc94_16, gc94_17, gc94_18, gc94_19, gc94_20, gcSt, keepEnv, envLt, heapLt, dfrLt, ADefer.lt, grow94_4, grow94_5, grow94_6, grow94_7, grow94_8, grow94_10, grow94_11, grow94_12, grow94_13, grow94_14, grow94_81, ty3, ty22, ty23, ty25, ty29, ty56, ty63, ty69, ty80, ty82, ty83, ty114, ty122, ty123, ty125, plan94_1, plan94_4, plan94_12, plan94_17, plan94_19, eqt114, get_lt hL', get_lt hM', hgL, hgM, hp.box, set_lt hM']


theorem f94 (L M : Nat) (vb vt : AV) (s : Stl) (hs : s.Wf) (blk k e : Int) (b : Blk) (h0 : 0 ≤ blk) (hb : s.bs[blk.toNat]? = some b) (hk : 1 ≤ k ∧ k ≤ 100) (he : e = 0 ∨ e = 1) : ∀ (n : Nat) (H : Heap) (es : List (AV × AV)), n ≤ 100 → PlOk H L M vb vt s es → Good s es →
    ∃ es', Good s es' ∧ callFL cfg0 prog0 false 94 [.ptr L 0, .agg [I blk, I n, I k, I e]] H none = some ⟨.ret (I (exc s.ts blk (b.x e) k e n)), H.set M (.map 114 es'), none⟩ := by
  intro n
  have hit : ∀ (n : Nat) (H : Heap) (es : List (AV × AV)) (v : AV), PlOk H L M vb vt s es → Good s es → lookupM (.agg [I blk, I n, I k, I e]) es = some v →
      callFL cfg0 prog0 false 94 [.ptr L 0, .agg [I blk, I n, I k, I e]] H none = some ⟨.ret (I (exc s.ts blk (b.x e) k e n)), H.set M (.map 114 es), none⟩ := by
    intro n H es v hp hg hlk
    have hL : L < H.length := (List.getElem?_eq_some_iff.1 hp.box).1
    have hM : M < H.length := (List.getElem?_eq_some_iff.1 hp.mp).1
    have hv := hg.2 blk n k e b h0 hb v hlk
    subst hv
    rw [set_self hp.mp]
    refine (callFL_eq fn94 rfl (by simp [Try.f94])).trans ?_
    simp only [go_sem, ↓reduceIte, Nat.reduceEqDiff, Nat.reduceAdd, Nat.reduceLeDiff, Nat.reduceBEq, Nat.reduceMul, Nat.reduceLT, Int.reduceLT, Int.reduceLE, Int.reduceToNat, Int.reduceNeg, Int.reduceEq, Int.reduceMul, reduceCtorEq, fn94, res94, gc94_0, gc94_1, gc94_2, gc94_3, gc94_4, gc94_5, gc94_6, gc94_7, gc94_8, gc94_9, gc94_10, gc94_11, gc94_12, gc94_13, gc94_14, gc94_15, gc94_16, gc94_17, gc94_18, gc94_19, gc94_20, gcSt, keepEnv, envLt, heapLt, dfrLt, ADefer.lt, grow94_4, grow94_5, grow94_6, grow94_7, grow94_8, grow94_10, grow94_11, grow94_12, grow94_13, grow94_14, grow94_81, ty3, ty22, ty23, ty25, ty29, ty56, ty63, ty69, ty80, ty82, ty83, ty114, ty122, ty123, ty125, plan94_1, plan94_4, plan94_12, plan94_17, plan94_19, eqt114, get_lt hL, hp.box]
    rw [chkK_of]; rotate_left; kernel_rfl
    simp only [go_sem, ↓reduceIte, Nat.reduceEqDiff, Nat.reduceAdd, Nat.reduceLeDiff, Nat.reduceBEq, Nat.reduceMul, Nat.reduceLT, Int.reduceLT, Int.reduceLE, Int.reduceToNat, Int.reduceNeg, Int.reduceEq, Int.reduceMul, reduceCtorEq, fn94, res94, gc94_0, gc94_1, gc94_2, gc94_3, gc94_4, gc94_5, gc94_6, gc94_7, gc94_8, gc94_9, gc94_10, gc94_11, gc94_12, gc94_13, gc94_14, gc94_15, gc94_16, gc94_17, gc94_18, gc94_19, gc94_20, gcSt, keepEnv, envLt, heapLt, dfrLt, ADefer.lt, grow94_4, grow94_5, grow94_6, grow94_7, grow94_8, grow94_10, grow94_11, grow94_12, grow94_13, grow94_14, grow94_81, ty3, ty22, ty23, ty25, ty29, ty56, ty63, ty69, ty80, ty82, ty83, ty114, ty122, ty123, ty125, plan94_1, plan94_4, plan94_12, plan94_17, plan94_19, eqt114, get_lt hL, get_lt hM, hp.box, hp.mp, hlk]
  induction n with
  | zero =>
    intro H es hn hp hg
    cases hlk : lookupM (.agg [I blk, I ((0 : Nat) : Int), I k, I e]) es with
    | some v => exact ⟨es, hg, hit 0 H es v hp hg hlk⟩
    | none =>
      refine ⟨_, hg.put (n := 0) (k := k) (e := e) h0 hb, ?_⟩
      rcases he with rfl | rfl
      · exact f94z0 L M vb vt s hs blk k b h0 hb H es hp hlk
      · exact f94z1 L M vb vt s hs blk k b h0 hb H es hp hlk
  | succ n ih =>
    intro H es hn hp hg
    cases hlk : lookupM (.agg [I blk, I ((n + 1 : Nat) : Int), I k, I e]) es with
    | some v => exact ⟨es, hg, hit (n + 1) H es v hp hg hlk⟩
    | none =>
      have hL : L < H.length := (List.getElem?_eq_some_iff.1 hp.box).1
      have hM : M < H.length := (List.getElem?_eq_some_iff.1 hp.mp).1
      obtain ⟨es', h1, h2⟩ := ih (H ++ [.box (.agg [I blk, I ((n + 1 : Nat) : Int), I k, I e]), .grow 1 ((heats s.ts blk ((n + 1 : Nat) : Int) e).map I), .box (.agg [I blk, I n, I k, I e])]) es (by omega)
        ⟨by rw [get_lt hL]; exact hp.box, by rw [get_lt hM]; exact hp.mp, hp.bs.app _, hp.ts.app _⟩ hg
      refine ⟨_, h1.put (n := n + 1) (k := k) (e := e) h0 hb, ?_⟩
      rcases he with rfl | rfl
      · exact f94s0 L M vb vt s hs blk k b h0 hb hk n (by omega) H es es' hp hlk h2
      · exact f94s1 L M vb vt s hs blk k b h0 hb hk n (by omega) H es es' hp hlk h2

end Go.Ab
/-
  The layer settle: what is yielded, and what is looked for.
-/
namespace Go.Ab
open Go.Proofs
set_option linter.unusedSimpArgs false
set_option linter.unusedVariables false

variable {H : Heap} {L M : Nat} {vb vt : AV} {s : Stl} {es : List (AV × AV)}

theorem PlOk.hL (hp : PlOk H L M vb vt s es) : L < H.length := (List.getElem?_eq_some_iff.1 hp.box).1
theorem PlOk.hM (hp : PlOk H L M vb vt s es) : M < H.length := (List.getElem?_eq_some_iff.1 hp.mp).1
theorem PlOk.ne (hp : PlOk H L M vb vt s es) : M ≠ L := by
  rintro rfl
  have h1 := hp.box
  rw [hp.mp] at h1
  cases h1

theorem PlOk.app (hp : PlOk H L M vb vt s es) (G : Heap) : PlOk (H ++ G) L M vb vt s es :=
  ⟨by rw [get_lt hp.hL]; exact hp.box, by rw [get_lt hp.hM]; exact hp.mp, hp.bs.app _, hp.ts.app _⟩

theorem SlOk.setM {sz : Nat} {v : AV} {xs : List AV} (h : SlOk H sz v xs) (hm : H[M]? = some (.map 114 es)) (o : AO) : SlOk (H.set M o) sz v xs := by
  obtain ⟨h1, h2⟩ := h
  refine ⟨?_, h2⟩
  cases v <;> simp only at h1 ⊢
  · exact h1
  · rename_i l n
    refine ⟨?_, h1.2⟩
    rw [List.getElem?_set_ne]
    · exact h1.1
    · rintro rfl
      rw [hm] at h1
      cases h1.1

theorem PlOk.set (hp : PlOk H L M vb vt s es) (es' : List (AV × AV)) : PlOk (H.set M (.map 114 es')) L M vb vt s es' :=
  ⟨by rw [List.getElem?_set_ne hp.ne]; exact hp.box, List.getElem?_set_self hp.hM, hp.bs.setM hp.mp _, hp.ts.setM hp.mp _⟩

theorem f12 (near last : Int) (vb vt : AV) (nb nt : Nat) (H : Heap) (h1 : evLen vb = some (I nb)) (h2 : evLen vt = some (I nt)) (s1 : vb.scalar = true) (s2 : vt.scalar = true) :
    callFL cfg0 prog0 false 12 [.agg [vb, I near, I last, vt]] H none = some ⟨.ret (.bool (decide (40 < (if (nb : Int) < nt then (nt : Int) else nb)))), H, none⟩ := by
  refine (callFL_eq fn12 rfl (by simp [Try.f12])).trans ?_
  simp only [go_sem, ↓reduceIte, Nat.reduceEqDiff, Nat.reduceAdd, Nat.reduceLeDiff, Nat.reduceBEq, Nat.reduceMul, Nat.reduceLT, Int.reduceLT, Int.reduceLE, Int.reduceToNat, Int.reduceNeg, Int.reduceEq, Int.reduceMul, reduceCtorEq, fn12, res12, gc12, grow12, ty3, ty22, ty23, ty25, ty29, ty56, ty63, h1, h2, s1, s2]

theorem f44 (hp : PlOk H L M vb vt s es) (n : Int) (hl : s.bs.length ≤ 1000) : callFL cfg0 prog0 false 44 [.ptr L 0, I n] H none = some ⟨.ret (.bool (decide (0 ≤ n) && decide (n ≤ (s.bs.length : Int) - 1))), H, none⟩ := by
  have e1 : IntKind.i64.wrap ((s.bs.length : Int) - 1) = (s.bs.length : Int) - 1 := w64 (by omega) (by omega)
  refine (callFL_eq fn44 rfl (by simp [Try.f44])).trans ?_
  simp only [go_sem, ↓reduceIte, Nat.reduceEqDiff, Nat.reduceAdd, Nat.reduceLeDiff, Nat.reduceBEq, Nat.reduceMul, Nat.reduceLT, Int.reduceLT, Int.reduceLE, Int.reduceToNat, Int.reduceNeg, Int.reduceEq, Int.reduceMul, reduceCtorEq, fn44, res44, gc44, grow44, ty3, ty22, ty23, ty25, ty29, ty56, ty63, ty80, ty82, ty83, ty114, hp.box, hp.bs.len, List.length_map, e1, f74]

theorem f45 (hp : PlOk H L M vb vt s es) (n : Int) : callFL cfg0 prog0 false 45 [.ptr L 0, I n] H none = some ⟨.ret (.bool (decide (0 ≤ n) && decide (n ≤ s.last))), H, none⟩ := by
  refine (callFL_eq fn45 rfl (by simp [Try.f45])).trans ?_
  simp only [go_sem, ↓reduceIte, Nat.reduceEqDiff, Nat.reduceAdd, Nat.reduceLeDiff, Nat.reduceBEq, Nat.reduceMul, Nat.reduceLT, Int.reduceLT, Int.reduceLE, Int.reduceToNat, Int.reduceNeg, Int.reduceEq, Int.reduceMul, reduceCtorEq, fn45, res45, gc45, grow45, ty3, ty22, ty23, ty25, ty29, ty56, ty63, ty80, ty82, ty83, ty114, hp.box, f74]

theorem f92 (near last : Int) (vb vt : AV) (H : Heap) (s1 : vb.scalar = true) (s2 : vt.scalar = true) :
    callFL cfg0 prog0 false 92 [.agg [vb, I near, I last, vt]] H none = some ⟨.ret (.ptr (H.length + 2) 0), H ++ [.box (.agg [vb, I near, I last, vt]), .map 114 [], .box (.agg [vb, I near, I last, vt, .map (H.length + 1)])], none⟩ := by
  refine (callFL_eq fn92 rfl (by simp [Try.f92])).trans ?_
  simp only [go_sem, ↓reduceIte, Nat.reduceEqDiff, Nat.reduceAdd, Nat.reduceLeDiff, Nat.reduceBEq, Nat.reduceMul, Nat.reduceLT, Int.reduceLT, Int.reduceLE, Int.reduceToNat, Int.reduceNeg, Int.reduceEq, Int.reduceMul, reduceCtorEq, fn92, res92, gc92, grow92, ty3, ty22, ty23, ty25, ty29, ty56, ty63, ty80, ty82, ty83, ty114, s1, s2]

theorem f47 (blk m : Int) (hL : L < H.length) : callFL cfg0 prog0 false 47 [.ptr L 0, I blk, I m] H none = some ⟨.ret (.func (.func 93) [] [.ptr H.length 0, .ptr (H.length + 1) 0, .ptr (H.length + 2) 0]), H ++ [.box (.ptr L 0), .box (I blk), .box (I m)], none⟩ := by
  refine (callFL_eq fn47 rfl (by simp [Try.f47])).trans ?_
  simp only [go_sem, ↓reduceIte, Nat.reduceEqDiff, Nat.reduceAdd, Nat.reduceLeDiff, Nat.reduceBEq, Nat.reduceMul, Nat.reduceLT, Int.reduceLT, Int.reduceLE, Int.reduceToNat, Int.reduceNeg, Int.reduceEq, Int.reduceMul, reduceCtorEq, fn47, res47, gc47, grow47, ty3, ty69]


/-- What 'spans' yields: one span for each number that tells how slow the block can be. -/
def spanAt (s : Stl) (blk : Int) (b : Blk) (m : Nat) (j : Nat) : AV := .agg [I (exc s.ts blk (b.x 0) (b.s0 + j) 0 m), I (exc s.ts blk (b.x 1) (b.s0 + j) 1 m)]

/-- The frame of a plate and of what 'spans' keeps: in a heap. -/
structure ItOk (H : Heap) (L M : Nat) (vb vt : AV) (s : Stl) (es : List (AV × AV)) (A : Nat) (blk : Int) (m : Nat) : Prop where
  pl : PlOk H L M vb vt s es
  a : H[A]? = some (.box (.ptr L 0))
  b : H[A + 1]? = some (.box (I blk))
  c : H[A + 2]? = some (.box (I m))

theorem ItOk.set {A m : Nat} {blk : Int} (h : ItOk H L M vb vt s es A blk m) (es' : List (AV × AV)) : ItOk (H.set M (.map 114 es')) L M vb vt s es' A blk m := by
  have hne : ∀ {l : Nat} {v : AV}, H[l]? = some (.box v) → (H.set M (.map 114 es'))[l]? = some (.box v) := by
    intro l v hl
    rw [List.getElem?_set_ne]
    · exact hl
    · rintro rfl
      rw [h.pl.mp] at hl
      cases hl
  exact ⟨h.pl.set es', hne h.a, hne h.b, hne h.c⟩

theorem ItOk.app {A m : Nat} {blk : Int} (h : ItOk H L M vb vt s es A blk m) (G : Heap) : ItOk (H ++ G) L M vb vt s es A blk m :=
  ⟨h.pl.app G, by rw [get_lt (List.getElem?_eq_some_iff.1 h.a).1]; exact h.a, by rw [get_lt (List.getElem?_eq_some_iff.1 h.b).1]; exact h.b, by rw [get_lt (List.getElem?_eq_some_iff.1 h.c).1]; exact h.c⟩

theorem reach {c : Nat → Bool} {j : Nat} (h : ∀ i, i < j → c i = true) (hj : c j = true) : ∀ i, i < j + 1 → c i = true := by
  intro i hi
  rcases Nat.lt_or_ge i j with h1 | h1
  · exact h i h1
  · have : i = j := by omega
    subst this; exact hj

theorem f93_loop (hs : s.Wf) (blk : Int) (b : Blk) (h0 : 0 ≤ blk) (hb : s.bs[blk.toNat]? = some b) (A m : Nat) (hm : m ≤ 60) (fy : Fn) (first cap : List AV) (T : Nat → Heap) (b0 : Nat) (hT : ∀ j, H.length + (T j).length = b0) (c : Nat → Bool) (n : Nat) (hn : b.s0 + n = b.s1 + 1)
    (hfy : fnLt b0 fy = true) (hf1 : ltL b0 first = true) (hf2 : ltL b0 cap = true)
    (hstep : ∀ j es E, j < n → (∀ i, i < j → c i = true) → Good s es → ∃ es', Good s es' ∧ callVL cfg0 prog0 false fy (first ++ [spanAt s blk b m j]) cap (H.set M (.map 114 es) ++ (T j ++ E)) none = some ⟨.ret (.bool (c j)), H.set M (.map 114 es') ++ (T (j + 1) ++ E), none⟩)
    (hi : ItOk H L M vb vt s es A blk m) : ∀ (q j : Nat) (es1 : List (AV × AV)), j + q = n → (∀ i, i < j → c i = true) → Good s es1 →
    ∃ es' E', Good s es' ∧ ∀ (E : Heap) (e : Env), e.get 0 = .func fy first cap → e.get 1 = .ptr A 0 → e.get 2 = .ptr (A + 1) 0 → e.get 3 = .ptr (A + 2) 0 → e.get 5 = I (b.s0 + j) →
     execL cfg0 prog0 ⟨93, none, false, b0⟩ (todoAt Try.f93 1) ⟨e, [], H.set M (.map 114 es1) ++ (T j ++ E), none⟩ = some ⟨.ret (.tup []), H.set M (.map 114 es') ++ (T (stopAt c j q) ++ E'), none⟩ := by
  intro q
  have hbo := hs.bs b (List.mem_of_getElem? hb)
  induction q with
  | zero =>
    intro j es1 hj hre hg
    refine ⟨es1, [], hg, ?_⟩
    intro E e g0 g1 g2 g3 g5
    have hiG := (hi.set es1).app (T j)
    rw [← List.append_assoc, List.append_nil]
    generalize hG : H.set M (.map 114 es1) ++ T j = G at *
    have hlen : G.length = b0 := by rw [← hG, ← hT j]; simp
    subst hlen
    have A1 := (List.getElem?_eq_some_iff.1 hiG.a).1
    have B1 := (List.getElem?_eq_some_iff.1 hiG.b).1
    have C1 := (List.getElem?_eq_some_iff.1 hiG.c).1
    obtain ⟨a1, a2, a3, a4, a5⟩ := hiG.pl.bs.at (k := blk) (x := Blk.av b) h0 (by simp [hb])
    have hc : ¬ b.s0 + (j : Int) ≤ b.s1 := by omega
    simp only [loopIt, todoPast, todoAt, todoOf, firstReg, ↓reduceIte, Option.some.injEq, Nat.reduceEqDiff, reduceCtorEq, Try.f93]
    rw [execL_inLoop]
    simp only [go_sem, ↓reduceIte, Nat.reduceEqDiff, Nat.reduceAdd, Nat.reduceLeDiff, Nat.reduceBEq, Nat.reduceMul, Nat.reduceLT, Int.reduceLT, Int.reduceLE, Int.reduceToNat, Int.reduceNeg, Int.reduceEq, Int.reduceMul, reduceCtorEq, fn93, res93, gc93_0, gc93_1, gc93_3, gc93_4, gc93_2, gcSt, keepEnv, envLt, heapLt, dfrLt, ADefer.lt, grow93, ty3, ty22, ty23, ty25, ty29, ty56, ty63, ty69, ty80, ty82, ty83, ty114, plan93_0, plan93_1, plan93_3, g0, g1, g2, g3, g5, hfy, hf1, hf2, A1, B1, C1]
    rw [chkK_of]; rotate_left; kernel_rfl
    simp only [go_sem, ↓reduceIte, Nat.reduceEqDiff, Nat.reduceAdd, Nat.reduceLeDiff, Nat.reduceBEq, Nat.reduceMul, Nat.reduceLT, Int.reduceLT, Int.reduceLE, Int.reduceToNat, Int.reduceNeg, Int.reduceEq, Int.reduceMul, reduceCtorEq, fn93, res93, gc93_0, gc93_1, gc93_3, gc93_4, gc93_2, gcSt, keepEnv, envLt, heapLt, dfrLt, ADefer.lt, grow93, ty3, ty22, ty23, ty25, ty29, ty56, ty63, ty69, ty80, ty82, ty83, ty114, plan93_0, plan93_1, plan93_3, hiG.a, hiG.b, hiG.c, hiG.pl.box, a1, a2, a3, Blk.av, hc, stopAt]
    rw [← hG]
  | succ q ih =>
    intro j es1 hj hre hg
    have hiG := (hi.set es1).app (T j)
    generalize hG : H.set M (.map 114 es1) ++ T j = G at *
    have hlen : G.length = b0 := by rw [← hG, ← hT j]; simp
    have A1 := (List.getElem?_eq_some_iff.1 hiG.a).1
    have B1 := (List.getElem?_eq_some_iff.1 hiG.b).1
    have C1 := (List.getElem?_eq_some_iff.1 hiG.c).1
    have hM := hiG.pl.hM
    obtain ⟨es2, hg2, hc2⟩ := f94 L M vb vt s hs blk (b.s0 + j) 0 b h0 hb (by have := hbo.a4; have := hbo.a6; omega) (.inl rfl) m (G ++ [.box (.agg [I 0, I 0])]) es1 (by omega) (hiG.pl.app _) hg
    obtain ⟨es3, hg3, hc3⟩ := f94 L M vb vt s hs blk (b.s0 + j) 1 b h0 hb (by have := hbo.a4; have := hbo.a6; omega) (.inr rfl) m (G.set M (.map 114 es2) ++ [.box (.agg [I 0, I 0])]) es2 (by omega) ((hiG.pl.set es2).app _) hg2
    rw [set_lt hM] at hc2
    rw [set_lt (show M < (G.set M (.map 114 es2)).length by simpa using hM), List.set_set] at hc3
    have hi2 := hiG.set es2
    have hi3 := hiG.set es3
    have A2 := (List.getElem?_eq_some_iff.1 hi2.a).1
    have B2 := (List.getElem?_eq_some_iff.1 hi2.b).1
    have C2 := (List.getElem?_eq_some_iff.1 hi2.c).1
    obtain ⟨es4, hg4, hc4⟩ := hstep j es3 [.box (spanAt s blk b m j)] (by omega) hre hg3
    have hM2 : M < (G.set M (.map 114 es2)).length := by simpa using hM
    have hMH : M < (H.set M (.map 114 es1)).length := by simpa using hi.pl.hM
    rw [← List.append_assoc, show H.set M (.map 114 es3) ++ T j = G.set M (.map 114 es3) by rw [← hG, set_lt hMH, List.set_set]] at hc4
    simp only [spanAt] at hc4
    have hk1 : b.s0 + (j : Int) ≤ b.s1 := by omega
    have e1 : IntKind.i64.wrap (b.s0 + (j : Int) + 1) = b.s0 + ((j + 1 : Nat) : Int) := by
      have := hbo.a4; have := hbo.a6
      rw [w64 (by omega) (by omega)]; omega
    obtain ⟨a1, a2, a3, a4, a5⟩ := hiG.pl.bs.at (k := blk) (x := Blk.av b) h0 (by simp [hb])
    cases hcj : c j with
    | false =>
      refine ⟨es4, [.box (spanAt s blk b m j)], hg4, ?_⟩
      intro E e g0 g1 g2 g3 g5
      rw [← List.append_assoc, hG]
      subst hlen
      simp only [loopIt, todoPast, todoAt, todoOf, firstReg, ↓reduceIte, Option.some.injEq, Nat.reduceEqDiff, reduceCtorEq, Try.f93]
      rw [execL_inLoop]
      simp only [go_sem, ↓reduceIte, Nat.reduceEqDiff, Nat.reduceAdd, Nat.reduceLeDiff, Nat.reduceBEq, Nat.reduceMul, Nat.reduceLT, Int.reduceLT, Int.reduceLE, Int.reduceToNat, Int.reduceNeg, Int.reduceEq, Int.reduceMul, reduceCtorEq, fn93, res93, gc93_0, gc93_1, gc93_3, gc93_4, gc93_2, gcSt, keepEnv, envLt, heapLt, dfrLt, ADefer.lt, grow93, ty3, ty22, ty23, ty25, ty29, ty56, ty63, ty69, ty80, ty82, ty83, ty114, plan93_0, plan93_1, plan93_3, g0, g1, g2, g3, g5, hfy, hf1, hf2, A1, B1, C1]
      rw [chkK_of]; rotate_left; kernel_rfl
      simp only [go_sem, ↓reduceIte, Nat.reduceEqDiff, Nat.reduceAdd, Nat.reduceLeDiff, Nat.reduceBEq, Nat.reduceMul, Nat.reduceLT, Int.reduceLT, Int.reduceLE, Int.reduceToNat, Int.reduceNeg, Int.reduceEq, Int.reduceMul, reduceCtorEq, fn93, res93, gc93_0, gc93_1, gc93_3, gc93_4, gc93_2, gcSt, keepEnv, envLt, heapLt, dfrLt, ADefer.lt, grow93, ty3, ty22, ty23, ty25, ty29, ty56, ty63, ty69, ty80, ty82, ty83, ty114, plan93_0, plan93_1, plan93_3, hiG.a, hiG.b, hiG.c, hiG.pl.box, a1, a2, a3, Blk.av, hk1]
      rw [chkK_of]; rotate_left; kernel_rfl
      simp only [go_sem, ↓reduceIte, Nat.reduceEqDiff, Nat.reduceAdd, Nat.reduceLeDiff, Nat.reduceBEq, Nat.reduceMul, Nat.reduceLT, Int.reduceLT, Int.reduceLE, Int.reduceToNat, Int.reduceNeg, Int.reduceEq, Int.reduceMul, reduceCtorEq, fn93, res93, gc93_0, gc93_1, gc93_3, gc93_4, gc93_2, gcSt, keepEnv, envLt, heapLt, dfrLt, ADefer.lt, grow93, ty3, ty22, ty23, ty25, ty29, ty56, ty63, ty69, ty80, ty82, ty83, ty114, plan93_0, plan93_1, plan93_3, hiG.a, hiG.b, hiG.c, hi2.a, hi2.b, hi2.c, get_lt A1, get_lt B1, get_lt C1, get_lt A2, get_lt B2, get_lt C2, hc2, hc3, hc4, hcj, stopAt]
      rfl
    | true =>
      obtain ⟨es', E', hg', hih⟩ := ih (j + 1) es4 (by omega) (reach hre hcj) hg4
      refine ⟨es', E', hg', ?_⟩
      intro E e g0 g1 g2 g3 g5
      rw [← List.append_assoc, hG]
      subst hlen
      simp only [loopIt, todoPast, todoAt, todoOf, firstReg, ↓reduceIte, Option.some.injEq, Nat.reduceEqDiff, reduceCtorEq, Try.f93]
      rw [execL_inLoop]
      simp only [go_sem, ↓reduceIte, Nat.reduceEqDiff, Nat.reduceAdd, Nat.reduceLeDiff, Nat.reduceBEq, Nat.reduceMul, Nat.reduceLT, Int.reduceLT, Int.reduceLE, Int.reduceToNat, Int.reduceNeg, Int.reduceEq, Int.reduceMul, reduceCtorEq, fn93, res93, gc93_0, gc93_1, gc93_3, gc93_4, gc93_2, gcSt, keepEnv, envLt, heapLt, dfrLt, ADefer.lt, grow93, ty3, ty22, ty23, ty25, ty29, ty56, ty63, ty69, ty80, ty82, ty83, ty114, plan93_0, plan93_1, plan93_3, g0, g1, g2, g3, g5, hfy, hf1, hf2, A1, B1, C1]
      rw [chkK_of]; rotate_left; kernel_rfl
      simp only [go_sem, ↓reduceIte, Nat.reduceEqDiff, Nat.reduceAdd, Nat.reduceLeDiff, Nat.reduceBEq, Nat.reduceMul, Nat.reduceLT, Int.reduceLT, Int.reduceLE, Int.reduceToNat, Int.reduceNeg, Int.reduceEq, Int.reduceMul, reduceCtorEq, fn93, res93, gc93_0, gc93_1, gc93_3, gc93_4, gc93_2, gcSt, keepEnv, envLt, heapLt, dfrLt, ADefer.lt, grow93, ty3, ty22, ty23, ty25, ty29, ty56, ty63, ty69, ty80, ty82, ty83, ty114, plan93_0, plan93_1, plan93_3, hiG.a, hiG.b, hiG.c, hiG.pl.box, a1, a2, a3, Blk.av, hk1]
      rw [chkK_of]; rotate_left; kernel_rfl
      simp only [go_sem, ↓reduceIte, Nat.reduceEqDiff, Nat.reduceAdd, Nat.reduceLeDiff, Nat.reduceBEq, Nat.reduceMul, Nat.reduceLT, Int.reduceLT, Int.reduceLE, Int.reduceToNat, Int.reduceNeg, Int.reduceEq, Int.reduceMul, reduceCtorEq, fn93, res93, gc93_0, gc93_1, gc93_3, gc93_4, gc93_2, gcSt, keepEnv, envLt, heapLt, dfrLt, ADefer.lt, grow93, ty3, ty22, ty23, ty25, ty29, ty56, ty63, ty69, ty80, ty82, ty83, ty114, plan93_0, plan93_1, plan93_3, hiG.a, hiG.b, hiG.c, hi2.a, hi2.b, hi2.c, get_lt A1, get_lt B1, get_lt C1, get_lt A2, get_lt B2, get_lt C2, hc2, hc3, hc4, hcj, stopAt, e1]
      exact hih _ _ (by rfl) (by rfl) (by rfl) (by rfl) (by rfl)

theorem f93 (hs : s.Wf) (blk : Int) (b : Blk) (h0 : 0 ≤ blk) (hb : s.bs[blk.toNat]? = some b) (A m : Nat) (hm : m ≤ 60) (fy : Fn) (first cap : List AV) (T : Nat → Heap) (b0 : Nat) (hT : ∀ j, H.length + (T j).length = b0) (c : Nat → Bool) (n : Nat) (hn : b.s0 + n = b.s1 + 1)
    (hfy : fnLt b0 fy = true) (hf1 : ltL b0 first = true) (hf2 : ltL b0 cap = true)
    (hstep : ∀ j es E, j < n → (∀ i, i < j → c i = true) → Good s es → ∃ es', Good s es' ∧ callVL cfg0 prog0 false fy (first ++ [spanAt s blk b m j]) cap (H.set M (.map 114 es) ++ (T j ++ E)) none = some ⟨.ret (.bool (c j)), H.set M (.map 114 es') ++ (T (j + 1) ++ E), none⟩)
    (hi : ItOk H L M vb vt s es A blk m) (hg : Good s es) :
    ∃ es', Good s es' ∧ callFL cfg0 prog0 false 93 [.func fy first cap, .ptr A 0, .ptr (A + 1) 0, .ptr (A + 2) 0] (H.set M (.map 114 es) ++ T 0) none = some ⟨.ret (.tup []), H.set M (.map 114 es') ++ T (stopAt c 0 n), none⟩ := by
  obtain ⟨es', E', hg', hr⟩ := f93_loop hs blk b h0 hb A m hm fy first cap T b0 hT c n hn hfy hf1 hf2 hstep hi n 0 es (by omega) (fun i hi' => by omega) hg
  refine ⟨es', hg', ?_⟩
  have hiG := (hi.set es).app (T 0)
  have hlen2 : (H.set M (.map 114 es') ++ T (stopAt c 0 n)).length = b0 := by rw [← hT (stopAt c 0 n)]; simp
  have hr := hr []
  rw [List.append_nil] at hr
  generalize hG : H.set M (.map 114 es) ++ T 0 = G at *
  have hlen : G.length = b0 := by rw [← hG, ← hT 0]; simp
  have A1 := (List.getElem?_eq_some_iff.1 hiG.a).1
  have B1 := (List.getElem?_eq_some_iff.1 hiG.b).1
  have C1 := (List.getElem?_eq_some_iff.1 hiG.c).1
  obtain ⟨a1, a2, a3, a4, a5⟩ := hiG.pl.bs.at (k := blk) (x := Blk.av b) h0 (by simp [hb])
  refine (callFL_eq fn93 rfl (by simp [Try.f93])).trans ?_
  simp only [go_sem, ↓reduceIte, Nat.reduceEqDiff, Nat.reduceAdd, Nat.reduceLeDiff, Nat.reduceBEq, Nat.reduceMul, Nat.reduceLT, Int.reduceLT, Int.reduceLE, Int.reduceToNat, Int.reduceNeg, Int.reduceEq, Int.reduceMul, reduceCtorEq, fn93, res93, gc93_0, gc93_1, gc93_3, gc93_4, gc93_2, gcSt, keepEnv, envLt, heapLt, dfrLt, ADefer.lt, grow93, ty3, ty22, ty23, ty25, ty29, ty56, ty63, ty69, ty80, ty82, ty83, ty114, plan93_0, plan93_1, plan93_3]
  rw [chkK_of]; rotate_left; kernel_rfl
  simp only [go_sem, ↓reduceIte, Nat.reduceEqDiff, Nat.reduceAdd, Nat.reduceLeDiff, Nat.reduceBEq, Nat.reduceMul, Nat.reduceLT, Int.reduceLT, Int.reduceLE, Int.reduceToNat, Int.reduceNeg, Int.reduceEq, Int.reduceMul, reduceCtorEq, fn93, res93, gc93_0, gc93_1, gc93_3, gc93_4, gc93_2, gcSt, keepEnv, envLt, heapLt, dfrLt, ADefer.lt, grow93, ty3, ty22, ty23, ty25, ty29, ty56, ty63, ty69, ty80, ty82, ty83, ty114, plan93_0, plan93_1, plan93_3, hiG.a, hiG.b, hiG.c, hiG.pl.box, a1, a2, a3, Blk.av]
  subst hlen
  refine (congrArg (Option.map _) (hr _ (by rfl) (by rfl) (by rfl) (by rfl) (by simp [Env.get]))).trans ?_
  rw [← List.append_assoc]
  generalize hG2 : H.set M (.map 114 es') ++ T (stopAt c 0 n) = G2 at *
  simp only [go_sem, ↓reduceIte, Nat.reduceEqDiff, Nat.reduceAdd, Nat.reduceLeDiff, Nat.reduceBEq, Nat.reduceMul, Nat.reduceLT, Int.reduceLT, Int.reduceLE, Int.reduceToNat, Int.reduceNeg, Int.reduceEq, Int.reduceMul, reduceCtorEq, ← hlen2]

/-- The span of so many spans. -/
def loS (f : Nat → Int) : Nat → Int
  | 0 => 0
  | j + 1 => if j = 0 then f 0 else if f j < loS f j then f j else loS f j
def hiS (f : Nat → Int) : Nat → Int
  | 0 => 0
  | j + 1 => if j = 0 then f 0 else if hiS f j < f j then f j else hiS f j

theorem hull_step (G E : Heap) (h : Nat) (hh : G.length = h) (lo hi x y : Int) (f : Bool) (v5 v0 : AV) :
    callVL cfg0 prog0 false (.yield (h + 3)) [.agg [I x, I y]] [] (G ++ ([.box (.agg [I lo, I hi]), .box (.bool f), .dfr, .loop (loopRec Try.f46 46 0 [(5, v5), (3, .ptr (h + 1) 0), (2, .ptr h 0), (0, v0)] (h + 2))] ++ E)) none =
    some ⟨.ret (.bool true), G ++ ([.box (.agg [I (if f then (if x < lo then x else lo) else x), I (if f then (if hi < y then y else hi) else y)]), .box (.bool true), .dfr, .loop (loopRec Try.f46 46 0 [(5, v5), (3, .ptr (h + 1) 0), (2, .ptr h 0), (0, v0)] (h + 2))] ++ E), none⟩ := by
  subst hh
  cases f
  · simp only [go_sem, ↓reduceIte, Nat.reduceEqDiff, Nat.reduceAdd, Nat.reduceLeDiff, Nat.reduceBEq, Nat.reduceMul, Nat.reduceLT, Int.reduceLT, Int.reduceLE, Int.reduceToNat, Int.reduceNeg, Int.reduceEq, Int.reduceMul, reduceCtorEq, fn46, res46, gc46, grow46, ty3, ty4, ty29, loopRec, rangesOf, List.nil_append, List.append_nil, List.cons_append, List.getElem?_cons_zero, List.getElem?_cons_succ, Try.f46]
  · simp only [go_sem, ↓reduceIte, Nat.reduceEqDiff, Nat.reduceAdd, Nat.reduceLeDiff, Nat.reduceBEq, Nat.reduceMul, Nat.reduceLT, Int.reduceLT, Int.reduceLE, Int.reduceToNat, Int.reduceNeg, Int.reduceEq, Int.reduceMul, reduceCtorEq, fn46, res46, gc46, grow46, ty3, ty4, ty29, loopRec, rangesOf, List.nil_append, List.append_nil, List.cons_append, List.getElem?_cons_zero, List.getElem?_cons_succ, Try.f46]


theorem f46 (hs : s.Wf) (blk : Int) (b : Blk) (h0 : 0 ≤ blk) (hb : s.bs[blk.toNat]? = some b) (A m : Nat) (hm : m ≤ 60) (n : Nat) (hn : b.s0 + n = b.s1 + 1) (hi : ItOk H L M vb vt s es A blk m) (hg : Good s es) :
    ∃ es', Good s es' ∧ callFL cfg0 prog0 false 46 [.func (.func 93) [] [.ptr A 0, .ptr (A + 1) 0, .ptr (A + 2) 0]] H none =
      some ⟨.ret (.agg [I (loS (fun j => exc s.ts blk (b.x 0) (b.s0 + j) 0 m) n), I (hiS (fun j => exc s.ts blk (b.x 1) (b.s0 + j) 1 m) n)]), H.set M (.map 114 es'), none⟩ := by
  obtain ⟨es', hg', hr⟩ := f93 hs blk b h0 hb A m hm (.yield (H.length + 3)) [] []
    (fun j => [.box (.agg [I (loS (fun j => exc s.ts blk (b.x 0) (b.s0 + j) 0 m) j), I (hiS (fun j => exc s.ts blk (b.x 1) (b.s0 + j) 1 m) j)]), .box (.bool (decide (0 < j))), .dfr,
      .loop (loopRec Try.f46 46 0 [(5, .func (.func 93) [] [.ptr A 0, .ptr (A + 1) 0, .ptr (A + 2) 0]), (3, .ptr (H.length + 1) 0), (2, .ptr H.length 0), (0, .func (.func 93) [] [.ptr A 0, .ptr (A + 1) 0, .ptr (A + 2) 0])] (H.length + 2))])
    (H.length + 4) (fun j => by simp) (fun _ => true) n hn (by simp [fnLt]) rfl rfl (by
      intro j es1 E hj _ hg1
      refine ⟨es1, hg1, ?_⟩
      have := hull_step (H.set M (.map 114 es1)) E H.length (by simp) (loS (fun j => exc s.ts blk (b.x 0) (b.s0 + j) 0 m) j) (hiS (fun j => exc s.ts blk (b.x 1) (b.s0 + j) 1 m) j) (exc s.ts blk (b.x 0) (b.s0 + j) 0 m) (exc s.ts blk (b.x 1) (b.s0 + j) 1 m) (decide (0 < j)) (.func (.func 93) [] [.ptr A 0, .ptr (A + 1) 0, .ptr (A + 2) 0]) (.func (.func 93) [] [.ptr A 0, .ptr (A + 1) 0, .ptr (A + 2) 0])
      rw [List.nil_append]
      refine this.trans ?_
      simp only [loS, hiS]
      by_cases hj0 : j = 0
      · subst hj0; simp
      · have : 0 < j := by omega
        simp [hj0, this]) hi hg
  refine ⟨es', hg', ?_⟩
  have hst : stopAt (fun _ => true) 0 n = n := by
    have : ∀ q j, stopAt (fun _ => true) j q = j + q := by
      intro q
      induction q with
      | zero => intro j; rfl
      | succ q ih => intro j; simp only [stopAt, if_true]; rw [ih]; omega
    rw [this]; omega
  rw [hst, set_self hi.pl.mp] at hr
  simp only [loopRec, rangesOf, List.nil_append, List.append_nil, List.cons_append, List.getElem?_cons_zero, List.getElem?_cons_succ, Try.f46, loS, hiS, lt_irr, decide_false] at hr
  generalize loS (fun j => exc s.ts blk (b.x 0) (b.s0 + j) 0 m) n = x at *
  generalize hiS (fun j => exc s.ts blk (b.x 1) (b.s0 + j) 1 m) n = y at *
  refine (callFL_eq fn46 rfl (by simp [Try.f46])).trans ?_
  simp only [go_sem, ↓reduceIte, Nat.reduceEqDiff, Nat.reduceAdd, Nat.reduceLeDiff, Nat.reduceBEq, Nat.reduceMul, Nat.reduceLT, Int.reduceLT, Int.reduceLE, Int.reduceToNat, Int.reduceNeg, Int.reduceEq, Int.reduceMul, reduceCtorEq, fn46, res46, gc46, grow46, ty3, ty4, ty29, hr]


def Blk.n (b : Blk) : Nat := (b.s1 + 1 - b.s0).toNat
/-- The span of the excess of a block in a minute. -/
def warmLo (s : Stl) (blk : Int) (b : Blk) (m : Nat) : Int := loS (fun j => exc s.ts blk (b.x 0) (b.s0 + j) 0 m) b.n
def warmHi (s : Stl) (blk : Int) (b : Blk) (m : Nat) : Int := hiS (fun j => exc s.ts blk (b.x 1) (b.s0 + j) 1 m) b.n
/-- A block surely has settled in a minute. -/
def settl (s : Stl) (blk : Int) (b : Blk) (m : Nat) : Bool := decide (-s.near ≤ warmLo s blk b m) && decide (warmHi s blk b m ≤ s.near)

theorem Blk.Ok.hn {b : Blk} (h : b.Ok) : b.s0 + (b.n : Int) = b.s1 + 1 := by
  have := h.a5
  simp only [Blk.n]; omega

theorem spans_it (hp : PlOk H L M vb vt s es) (blk : Int) (m : Nat) : ItOk (H ++ [.box (.ptr L 0), .box (I blk), .box (I m)]) L M vb vt s es H.length blk m :=
  ⟨hp.app _, by rw [get_at]; rfl, by rw [get_at' 1]; rfl, by rw [get_at' 2]; rfl⟩

theorem f59 (hs : s.Wf) (blk : Int) (b : Blk) (h0 : 0 ≤ blk) (hb : s.bs[blk.toNat]? = some b) (m : Nat) (hm : m ≤ 60) (hp : PlOk H L M vb vt s es) (hg : Good s es) :
    ∃ es', Good s es' ∧ callFL cfg0 prog0 false 59 [.ptr L 0, I blk, I m] H none = some ⟨.ret (.bool (settl s blk b m)), H.set M (.map 114 es'), none⟩ := by
  have hbo := hs.bs b (List.mem_of_getElem? hb)
  obtain ⟨es', hg', hr⟩ := f46 hs blk b h0 hb H.length m hm b.n hbo.hn (spans_it hp blk m) hg
  refine ⟨es', hg', ?_⟩
  have hM := hp.hM
  have hL := hp.hL
  have hp2 := hp.set es'
  have hL2 : L < (H.set M (.map 114 es')).length := by simpa using hL
  rw [set_lt hM] at hr
  have e1 : IntKind.i64.wrap (0 - s.near) = -s.near := by have := hs.near; rw [w64 (by omega) (by omega)]; omega
  simp only [settl]
  change callFL cfg0 prog0 false 46 _ _ none = some ⟨.ret (.agg [I (warmLo s blk b m), I (warmHi s blk b m)]), _, _⟩ at hr
  refine (callFL_eq fn59 rfl (by simp [Try.f59])).trans ?_
  simp only [go_sem, ↓reduceIte, Nat.reduceEqDiff, Nat.reduceAdd, Nat.reduceLeDiff, Nat.reduceBEq, Nat.reduceMul, Nat.reduceLT, Int.reduceLT, Int.reduceLE, Int.reduceToNat, Int.reduceNeg, Int.reduceEq, Int.reduceMul, reduceCtorEq, fn59, res59, gc59, grow59, ty3, ty22, ty23, ty25, ty29, ty56, ty63, ty69, ty75, ty80, ty82, ty83, ty114, plan59_2, f47 blk m hL, hr]
  rw [chkK_of]; rotate_left; kernel_rfl
  by_cases hx : -s.near ≤ warmLo s blk b m
  · simp only [go_sem, ↓reduceIte, Nat.reduceEqDiff, Nat.reduceAdd, Nat.reduceLeDiff, Nat.reduceBEq, Nat.reduceMul, Nat.reduceLT, Int.reduceLT, Int.reduceLE, Int.reduceToNat, Int.reduceNeg, Int.reduceEq, Int.reduceMul, reduceCtorEq, fn59, res59, gc59, grow59, ty3, ty22, ty23, ty25, ty29, ty56, ty63, ty69, ty75, ty80, ty82, ty83, ty114, plan59_2, get_lt hL2, hp2.box, e1, hx]
  · simp only [go_sem, ↓reduceIte, Nat.reduceEqDiff, Nat.reduceAdd, Nat.reduceLeDiff, Nat.reduceBEq, Nat.reduceMul, Nat.reduceLT, Int.reduceLT, Int.reduceLE, Int.reduceToNat, Int.reduceNeg, Int.reduceEq, Int.reduceMul, reduceCtorEq, fn59, res59, gc59, grow59, ty3, ty22, ty23, ty25, ty29, ty56, ty63, ty69, ty75, ty80, ty82, ty83, ty114, plan59_2, get_lt hL2, hp2.box, e1, hx]


theorem stopAt_spec (c : Nat → Bool) : ∀ q j, ((∀ i, j ≤ i → i < j + q → c i = true) ∧ stopAt c j q = j + q) ∨ ∃ i, j ≤ i ∧ i < j + q ∧ (∀ i', j ≤ i' → i' < i → c i' = true) ∧ c i = false ∧ stopAt c j q = i + 1 := by
  intro q
  induction q with
  | zero => intro j; exact .inl ⟨fun i h1 h2 => by omega, rfl⟩
  | succ q ih =>
    intro j
    simp only [stopAt]
    cases hc : c j with
    | false => exact .inr ⟨j, by omega, by omega, fun i h1 h2 => by omega, hc, by simp⟩
    | true =>
      simp only [if_true]
      rcases ih (j + 1) with ⟨h1, h2⟩ | ⟨i, h1, h2, h3, h4, h5⟩
      · refine .inl ⟨fun i hi1 hi2 => ?_, by rw [h2]; omega⟩
        rcases Nat.lt_or_ge j i with h | h
        · exact h1 i h (by omega)
        · have : i = j := by omega
          subst this; exact hc
      · refine .inr ⟨i, by omega, by omega, fun i' hi1 hi2 => ?_, h4, h5⟩
        rcases Nat.lt_or_ge j i' with h | h
        · exact h3 i' h hi2
        · have : i' = j := by omega
          subst this; exact hc

end Go.Ab
/-
  The layer settle: a settle is opened, if it is valid.
-/
namespace Go.Ab
open Go.Proofs
set_option linter.unusedSimpArgs false
set_option linter.unusedVariables false

variable {H : Heap} {L M : Nat} {vb vt : AV} {s : Stl} {es : List (AV × AV)}

def wi (n lo hi : Int) : Bool := decide (lo ≤ n) && decide (n ≤ hi)
def spn (a b lo hi : Int) : Bool := decide (lo ≤ a) && decide (a ≤ b) && decide (b ≤ hi)

theorem f74w (n lo hi : Int) (H : Heap) : callFL cfg0 prog0 false 74 [I n, I lo, I hi] H none = some ⟨.ret (.bool (wi n lo hi)), H, none⟩ := f74 n lo hi H
theorem f91w (a b lo hi : Int) (H : Heap) : callFL cfg0 prog0 false 91 [.agg [I a, I b], I lo, I hi] H none = some ⟨.ret (.bool (spn a b lo hi)), H, none⟩ := f91 a b lo hi H
theorem f85t (e : Int) (H : Heap) : callFL cfg0 prog0 false 85 [.bool true, I e] H none = some ⟨.ret (.tup []), H, none⟩ := f85 true e H
theorem f85f (e : Int) (H : Heap) : callFL cfg0 prog0 false 85 [.bool false, I e] H none = some ⟨.pan (.iface 109 (.agg [I e])), H, none⟩ := f85 false e H

def Blk.okb (b : Blk) : Bool := spn b.x0 b.x1 (-100) 100 && (spn b.s0 b.s1 2 8 && spn b.g0 b.g1 0 20)
def Tch.okb (n last : Int) (t : Tch) : Bool := wi t.b 0 (n - 1) && (wi t.m 0 last && spn t.h0 t.h1 (-100) 100)
def Stl.nums (s : Stl) : Bool := wi s.bs.length 1 4 && (wi s.near 0 20 && (wi s.last 1 60 && decide ((s.ts.length : Int) ≤ 6)))
def Stl.valid (s : Stl) : Bool := s.nums && (s.bs.all Blk.okb && s.ts.all (Tch.okb s.bs.length s.last))

theorem f42_l1 (K : List Item) (H : Heap) (vb : AV) (bs : List Blk) (st cl : AV) (hv : SlOk H 6 vb (bs.map Blk.av)) (hl : bs.length ≤ 1000) (hst : ∀ N, st.lt (H.length + N) = true) (hcl : ∀ N, cl.lt (H.length + N) = true) :
    ∀ (n j : Nat), j + n = bs.length → ∃ G', ∀ (E : Env) (G : Heap), E.get 1 = cl → E.get 2 = .ptr H.length 0 → E.get 32 = vb → E.get 33 = I bs.length → E.get 34 = I j →
    execL cfg0 prog0 ⟨42, none, false, H.length⟩ (loopIt Try.f42 3 :: .inBlock 0 :: K) ⟨E, [], H ++ (.box st :: G), none⟩ =
      if (bs.drop j).all Blk.okb then execL cfg0 prog0 ⟨42, none, false, H.length⟩ K ⟨[(35, .bool false), (1, cl), (2, .ptr H.length 0), (32, vb), (33, I bs.length), (34, I bs.length)], [], H ++ [.box st], none⟩
      else some ⟨.pan (.iface 109 (.agg [I 1])), H ++ G', none⟩ := by
  intro n
  induction n with
  | zero =>
    intro j hj
    refine ⟨[], ?_⟩
    intro E G g1 g2 g32 g33 g34
    have hjl : j = bs.length := by omega
    have hk' : ¬ (j : Int) < bs.length := by omega
    rw [List.drop_eq_nil_of_le (by omega), List.all_nil, if_pos rfl]
    simp only [loopIt, todoPast, todoAt, todoOf, firstReg, ↓reduceIte, Option.some.injEq, Nat.reduceEqDiff, reduceCtorEq, Try.f42]
    rw [execL_inLoop]
    simp only [go_sem, ↓reduceIte, Nat.reduceEqDiff, Nat.reduceAdd, Nat.reduceLeDiff, Nat.reduceBEq, Nat.reduceMul, Nat.reduceLT, Int.reduceLT, Int.reduceLE, Int.reduceToNat, Int.reduceNeg, Int.reduceEq, Int.reduceMul, reduceCtorEq, fn42, res42, gc42_0, gc42_1, gc42_2, gc42_3, gc42_4, gc42_5, gc42_6, gc42_7, gc42_8, gc42_9, gc42_10, gc42_11, gc42_12, gc42_13, gc42_14, gcSt, keepEnv, envLt, heapLt, dfrLt, ADefer.lt, grow42, ty3, ty4, ty22, ty23, ty25, ty29, ty30, ty56, ty63, ty69, g1, g2, g32, g33, g34, hk', hv.ltn, hst, hcl]
    subst hjl
    trivial
  | succ n ih =>
    intro j hj
    have hk' : (j : Int) < bs.length := by omega
    have hk2 : j < bs.length := by omega
    obtain ⟨-, -, a3, a4, a5⟩ := hv.at (k := (j : Int)) (x := Blk.av bs[j]) (by omega) (by simp [hk2])
    have hj1 : IntKind.i64.wrap ((j : Int) + 1) = ((j + 1 : Nat) : Int) := by rw [w64 (by omega) (by omega)]; omega
    rw [List.drop_eq_getElem_cons hk2, List.all_cons]
    cases h1 : spn bs[j].x0 bs[j].x1 (-100) 100 with
    | false =>
      refine ⟨[.box st, .box bs[j].av], ?_⟩
      intro E G g1 g2 g32 g33 g34
      simp only [loopIt, todoPast, todoAt, todoOf, firstReg, ↓reduceIte, Option.some.injEq, Nat.reduceEqDiff, reduceCtorEq, Try.f42]
      rw [execL_inLoop]
      simp only [go_sem, ↓reduceIte, Nat.reduceEqDiff, Nat.reduceAdd, Nat.reduceLeDiff, Nat.reduceBEq, Nat.reduceMul, Nat.reduceLT, Int.reduceLT, Int.reduceLE, Int.reduceToNat, Int.reduceNeg, Int.reduceEq, Int.reduceMul, reduceCtorEq, fn42, res42, gc42_0, gc42_1, gc42_2, gc42_3, gc42_4, gc42_5, gc42_6, gc42_7, gc42_8, gc42_9, gc42_10, gc42_11, gc42_12, gc42_13, gc42_14, gcSt, keepEnv, envLt, heapLt, dfrLt, ADefer.lt, grow42, ty3, ty4, ty22, ty23, ty25, ty29, ty30, ty56, ty63, ty69, g1, g2, g32, g33, g34, hk', hv.ltn, hst, hcl, a3, a4, a5, Blk.av, f91w, h1, f85f, Blk.okb]
    | true =>
      cases h2 : spn bs[j].s0 bs[j].s1 2 8 with
      | false =>
        refine ⟨[.box st, .box bs[j].av], ?_⟩
        intro E G g1 g2 g32 g33 g34
        simp only [loopIt, todoPast, todoAt, todoOf, firstReg, ↓reduceIte, Option.some.injEq, Nat.reduceEqDiff, reduceCtorEq, Try.f42]
        rw [execL_inLoop]
        simp only [go_sem, ↓reduceIte, Nat.reduceEqDiff, Nat.reduceAdd, Nat.reduceLeDiff, Nat.reduceBEq, Nat.reduceMul, Nat.reduceLT, Int.reduceLT, Int.reduceLE, Int.reduceToNat, Int.reduceNeg, Int.reduceEq, Int.reduceMul, reduceCtorEq, fn42, res42, gc42_0, gc42_1, gc42_2, gc42_3, gc42_4, gc42_5, gc42_6, gc42_7, gc42_8, gc42_9, gc42_10, gc42_11, gc42_12, gc42_13, gc42_14, gcSt, keepEnv, envLt, heapLt, dfrLt, ADefer.lt, grow42, ty3, ty4, ty22, ty23, ty25, ty29, ty30, ty56, ty63, ty69, g1, g2, g32, g33, g34, hk', hv.ltn, hst, hcl, a3, a4, a5, Blk.av, f91w, h1, h2, f85f, Blk.okb]
      | true =>
        cases h3 : spn bs[j].g0 bs[j].g1 0 20 with
        | false =>
          refine ⟨[.box st, .box bs[j].av], ?_⟩
          intro E G g1 g2 g32 g33 g34
          simp only [loopIt, todoPast, todoAt, todoOf, firstReg, ↓reduceIte, Option.some.injEq, Nat.reduceEqDiff, reduceCtorEq, Try.f42]
          rw [execL_inLoop]
          simp only [go_sem, ↓reduceIte, Nat.reduceEqDiff, Nat.reduceAdd, Nat.reduceLeDiff, Nat.reduceBEq, Nat.reduceMul, Nat.reduceLT, Int.reduceLT, Int.reduceLE, Int.reduceToNat, Int.reduceNeg, Int.reduceEq, Int.reduceMul, reduceCtorEq, fn42, res42, gc42_0, gc42_1, gc42_2, gc42_3, gc42_4, gc42_5, gc42_6, gc42_7, gc42_8, gc42_9, gc42_10, gc42_11, gc42_12, gc42_13, gc42_14, gcSt, keepEnv, envLt, heapLt, dfrLt, ADefer.lt, grow42, ty3, ty4, ty22, ty23, ty25, ty29, ty30, ty56, ty63, ty69, g1, g2, g32, g33, g34, hk', hv.ltn, hst, hcl, a3, a4, a5, Blk.av, f91w, h1, h2, h3, f85f, Blk.okb]
        | true =>
          have hok : bs[j].okb = true := by simp only [Blk.okb, h1, h2, h3]; rfl
          obtain ⟨G', hih⟩ := ih (j + 1) (by omega)
          refine ⟨G', ?_⟩
          intro E G g1 g2 g32 g33 g34
          rw [hok, Bool.true_and]
          simp only [loopIt, todoPast, todoAt, todoOf, firstReg, ↓reduceIte, Option.some.injEq, Nat.reduceEqDiff, reduceCtorEq, Try.f42]
          rw [execL_inLoop]
          simp only [go_sem, ↓reduceIte, Nat.reduceEqDiff, Nat.reduceAdd, Nat.reduceLeDiff, Nat.reduceBEq, Nat.reduceMul, Nat.reduceLT, Int.reduceLT, Int.reduceLE, Int.reduceToNat, Int.reduceNeg, Int.reduceEq, Int.reduceMul, reduceCtorEq, fn42, res42, gc42_0, gc42_1, gc42_2, gc42_3, gc42_4, gc42_5, gc42_6, gc42_7, gc42_8, gc42_9, gc42_10, gc42_11, gc42_12, gc42_13, gc42_14, gcSt, keepEnv, envLt, heapLt, dfrLt, ADefer.lt, grow42, ty3, ty4, ty22, ty23, ty25, ty29, ty30, ty56, ty63, ty69, g1, g2, g32, g33, g34, hk', hv.ltn, hst, hcl, a3, a4, a5, Blk.av, f91w, h1, h2, h3, f85t, hj1]
          exact hih _ [.box bs[j].av] (by rfl) (by rfl) (by rfl) (by rfl) (by rfl)


/-- What lies behind 'open', when it comes back. -/
def pl4 (n : Nat) (vb vt : AV) (s : Stl) : Heap := [.box (.agg [vb, I s.near, I s.last, vt]), .box (.agg [vb, I s.near, I s.last, vt]), .map 114 [], .box (.agg [vb, I s.near, I s.last, vt, .map (n + 2)])]

theorem pl4_ok (H : Heap) (vb vt : AV) (s : Stl) (hvb : SlOk H 6 vb (s.bs.map Blk.av)) (hvt : SlOk H 4 vt (s.ts.map Tch.av)) : PlOk (H ++ pl4 H.length vb vt s) (H.length + 3) (H.length + 2) vb vt s [] :=
  ⟨by rw [get_at' 3]; rfl, by rw [get_at' 2]; rfl, hvb.app _, hvt.app _⟩

theorem f42_l2 (K : List Item) (H : Heap) (vb vt : AV) (s : Stl) (cl : AV) (hvb : SlOk H 6 vb (s.bs.map Blk.av)) (hvt : SlOk H 4 vt (s.ts.map Tch.av)) (hl : s.bs.length ≤ 1000) (hl2 : s.ts.length ≤ 1000) (hcl : ∀ N, cl.lt (H.length + N) = true) :
    ∀ (n j : Nat), j + n = s.ts.length → ∃ G', ∀ (E : Env) (G : Heap), E.get 1 = cl → E.get 7 = .ptr (H.length + 3) 0 → E.get 56 = vt → E.get 57 = I s.ts.length → E.get 58 = I j →
    execL cfg0 prog0 ⟨42, none, false, H.length⟩ (loopIt Try.f42 9 :: .inBlock 2 :: K) ⟨E, [], H ++ (pl4 H.length vb vt s ++ G), none⟩ =
      if (s.ts.drop j).all (Tch.okb s.bs.length s.last) then execL cfg0 prog0 ⟨42, none, false, H.length⟩ K ⟨[(59, .bool false), (1, cl), (7, .ptr (H.length + 3) 0), (56, vt), (57, I s.ts.length), (58, I s.ts.length)], [], H ++ pl4 H.length vb vt s, none⟩
      else some ⟨.pan (.iface 109 (.agg [I 1])), H ++ G', none⟩ := by
  intro n
  have hp := pl4_ok H vb vt s hvb hvt
  have sb := hvb.scal
  have st := hvt.scal
  induction n with
  | zero =>
    intro j hj
    refine ⟨[], ?_⟩
    intro E G g1 g7 g56 g57 g58
    have hjl : j = s.ts.length := by omega
    have hk' : ¬ (j : Int) < s.ts.length := by omega
    rw [List.drop_eq_nil_of_le (by omega), List.all_nil, if_pos rfl]
    simp only [loopIt, todoPast, todoAt, todoOf, firstReg, ↓reduceIte, Option.some.injEq, Nat.reduceEqDiff, reduceCtorEq, Try.f42]
    rw [execL_inLoop]
    simp only [go_sem, ↓reduceIte, Nat.reduceEqDiff, Nat.reduceAdd, Nat.reduceLeDiff, Nat.reduceBEq, Nat.reduceMul, Nat.reduceLT, Int.reduceLT, Int.reduceLE, Int.reduceToNat, Int.reduceNeg, Int.reduceEq, Int.reduceMul, reduceCtorEq, fn42, res42, gc42_0, gc42_1, gc42_2, gc42_3, gc42_4, gc42_5, gc42_6, gc42_7, gc42_8, gc42_9, gc42_10, gc42_11, gc42_12, gc42_13, gc42_14, gcSt, keepEnv, envLt, heapLt, dfrLt, ADefer.lt, grow42, ty3, ty4, ty22, ty23, ty25, ty29, ty30, ty56, ty63, ty69, pl4, g1, g7, g56, g57, g58, hk', hvb.ltn, hvt.ltn, hcl]
    subst hjl
    trivial
  | succ n ih =>
    intro j hj
    have hk' : (j : Int) < s.ts.length := by omega
    have hk2 : j < s.ts.length := by omega
    obtain ⟨-, -, a3, a4, a5⟩ := hvt.at (k := (j : Int)) (x := Tch.av s.ts[j]) (by omega) (by simp [hk2])
    have hj1 : IntKind.i64.wrap ((j : Int) + 1) = ((j + 1 : Nat) : Int) := by rw [w64 (by omega) (by omega)]; omega
    have h44 := fun (G : Heap) n => f44 (hp.app G) n hl
    have h45 := fun (G : Heap) n => f45 (hp.app G) n
    obtain ⟨G', hih⟩ := ih (j + 1) (by omega)
    simp only [pl4, List.append_assoc, List.cons_append, List.nil_append] at h44 h45 hih ⊢
    rw [List.drop_eq_getElem_cons hk2, List.all_cons]
    cases h1 : (decide (0 ≤ s.ts[j].b) && decide (s.ts[j].b ≤ (s.bs.length : Int) - 1)) with
    | false =>
      refine ⟨pl4 H.length vb vt s ++ [.box s.ts[j].av], ?_⟩
      intro E G g1 g7 g56 g57 g58
      simp only [loopIt, todoPast, todoAt, todoOf, firstReg, ↓reduceIte, Option.some.injEq, Nat.reduceEqDiff, reduceCtorEq, Try.f42]
      rw [execL_inLoop]
      simp only [go_sem, ↓reduceIte, Nat.reduceEqDiff, Nat.reduceAdd, Nat.reduceLeDiff, Nat.reduceBEq, Nat.reduceMul, Nat.reduceLT, Int.reduceLT, Int.reduceLE, Int.reduceToNat, Int.reduceNeg, Int.reduceEq, Int.reduceMul, reduceCtorEq, fn42, res42, gc42_0, gc42_1, gc42_2, gc42_3, gc42_4, gc42_5, gc42_6, gc42_7, gc42_8, gc42_9, gc42_10, gc42_11, gc42_12, gc42_13, gc42_14, gcSt, keepEnv, envLt, heapLt, dfrLt, ADefer.lt, grow42, ty3, ty4, ty22, ty23, ty25, ty29, ty30, ty56, ty63, ty69, pl4, g1, g7, g56, g57, g58, hk', hvb.ltn, hvt.ltn, hcl, a3, a4, a5, Tch.av, h44, h45, h1, f85f, Tch.okb, wi]
    | true =>
      cases h2 : (decide (0 ≤ s.ts[j].m) && decide (s.ts[j].m ≤ s.last)) with
      | false =>
        refine ⟨pl4 H.length vb vt s ++ [.box s.ts[j].av], ?_⟩
        intro E G g1 g7 g56 g57 g58
        simp only [loopIt, todoPast, todoAt, todoOf, firstReg, ↓reduceIte, Option.some.injEq, Nat.reduceEqDiff, reduceCtorEq, Try.f42]
        rw [execL_inLoop]
        simp only [go_sem, ↓reduceIte, Nat.reduceEqDiff, Nat.reduceAdd, Nat.reduceLeDiff, Nat.reduceBEq, Nat.reduceMul, Nat.reduceLT, Int.reduceLT, Int.reduceLE, Int.reduceToNat, Int.reduceNeg, Int.reduceEq, Int.reduceMul, reduceCtorEq, fn42, res42, gc42_0, gc42_1, gc42_2, gc42_3, gc42_4, gc42_5, gc42_6, gc42_7, gc42_8, gc42_9, gc42_10, gc42_11, gc42_12, gc42_13, gc42_14, gcSt, keepEnv, envLt, heapLt, dfrLt, ADefer.lt, grow42, ty3, ty4, ty22, ty23, ty25, ty29, ty30, ty56, ty63, ty69, pl4, g1, g7, g56, g57, g58, hk', hvb.ltn, hvt.ltn, hcl, a3, a4, a5, Tch.av, h44, h45, h1, h2, f85f, Tch.okb, wi]
      | true =>
        cases h3 : spn s.ts[j].h0 s.ts[j].h1 (-100) 100 with
        | false =>
          refine ⟨pl4 H.length vb vt s ++ [.box s.ts[j].av], ?_⟩
          intro E G g1 g7 g56 g57 g58
          simp only [loopIt, todoPast, todoAt, todoOf, firstReg, ↓reduceIte, Option.some.injEq, Nat.reduceEqDiff, reduceCtorEq, Try.f42]
          rw [execL_inLoop]
          simp only [go_sem, ↓reduceIte, Nat.reduceEqDiff, Nat.reduceAdd, Nat.reduceLeDiff, Nat.reduceBEq, Nat.reduceMul, Nat.reduceLT, Int.reduceLT, Int.reduceLE, Int.reduceToNat, Int.reduceNeg, Int.reduceEq, Int.reduceMul, reduceCtorEq, fn42, res42, gc42_0, gc42_1, gc42_2, gc42_3, gc42_4, gc42_5, gc42_6, gc42_7, gc42_8, gc42_9, gc42_10, gc42_11, gc42_12, gc42_13, gc42_14, gcSt, keepEnv, envLt, heapLt, dfrLt, ADefer.lt, grow42, ty3, ty4, ty22, ty23, ty25, ty29, ty30, ty56, ty63, ty69, pl4, g1, g7, g56, g57, g58, hk', hvb.ltn, hvt.ltn, hcl, a3, a4, a5, Tch.av, h44, h45, h1, h2, f91w, h3, f85f, Tch.okb, wi]
        | true =>
          have hok : s.ts[j].okb s.bs.length s.last = true := by simp only [Tch.okb, wi, h1, h2, h3]; rfl
          refine ⟨G', ?_⟩
          intro E G g1 g7 g56 g57 g58
          rw [hok, Bool.true_and]
          simp only [loopIt, todoPast, todoAt, todoOf, firstReg, ↓reduceIte, Option.some.injEq, Nat.reduceEqDiff, reduceCtorEq, Try.f42]
          rw [execL_inLoop]
          simp only [go_sem, ↓reduceIte, Nat.reduceEqDiff, Nat.reduceAdd, Nat.reduceLeDiff, Nat.reduceBEq, Nat.reduceMul, Nat.reduceLT, Int.reduceLT, Int.reduceLE, Int.reduceToNat, Int.reduceNeg, Int.reduceEq, Int.reduceMul, reduceCtorEq, fn42, res42, gc42_0, gc42_1, gc42_2, gc42_3, gc42_4, gc42_5, gc42_6, gc42_7, gc42_8, gc42_9, gc42_10, gc42_11, gc42_12, gc42_13, gc42_14, gcSt, keepEnv, envLt, heapLt, dfrLt, ADefer.lt, grow42, ty3, ty4, ty22, ty23, ty25, ty29, ty30, ty56, ty63, ty69, g1, g7, g56, g57, g58, hk', hvb.ltn, hvt.ltn, hcl, a3, a4, a5, Tch.av, h44, h45, h1, h2, f91w, h3, f85t, hj1]
          exact hih _ [.box s.ts[j].av] (by rfl) (by rfl) (by rfl) (by rfl) (by rfl)

/-- 'open'. -/
theorem f42 (H : Heap) (vb vt : AV) (s : Stl) (fi : FuncId) (caps : List AV) (okb : Bool) (hvb : SlOk H 6 vb (s.bs.map Blk.av)) (hvt : SlOk H 4 vt (s.ts.map Tch.av)) (hl : s.bs.length ≤ 1000) (hl2 : s.ts.length ≤ 1000) (hcl : ∀ N, ltL (H.length + N) caps = true)
    (hok : callFL cfg0 prog0 false fi (.ptr (H.length + 3) 0 :: caps) (H ++ pl4 H.length vb vt s) none = some ⟨.ret (.bool okb), H ++ pl4 H.length vb vt s, none⟩) :
    callFL cfg0 prog0 false 42 [.agg [vb, I s.near, I s.last, vt], .func (.func fi) [] caps] H none = some (if s.valid then (if okb then ⟨.ret (.ptr (H.length + 3) 0), H ++ pl4 H.length vb vt s, none⟩ else ⟨.pan (.iface 109 (.agg [I 2])), H, none⟩) else ⟨.pan (.iface 109 (.agg [I 1])), H, none⟩) := by
  have sb := hvb.scal
  have st := hvt.scal
  have hcl' : ∀ N, (AV.func (.func fi) [] caps).lt (H.length + N) = true := fun N => by simp only [AV.lt, fnLt, ltL, hcl, Bool.and_self]
  have hst : ∀ N, (AV.agg [vb, I s.near, I s.last, vt]).lt (H.length + N) = true := fun N => by simp only [AV.lt, ltL, hvb.ltn, hvt.ltn, Bool.and_self]
  refine (callFL_eq fn42 rfl (by simp [Try.f42])).trans ?_
  cases h1 : wi s.bs.length 1 4 with
  | false => simp only [go_sem, ↓reduceIte, Nat.reduceEqDiff, Nat.reduceAdd, Nat.reduceLeDiff, Nat.reduceBEq, Nat.reduceMul, Nat.reduceLT, Int.reduceLT, Int.reduceLE, Int.reduceToNat, Int.reduceNeg, Int.reduceEq, Int.reduceMul, reduceCtorEq, fn42, res42, gc42_0, gc42_1, gc42_2, gc42_3, gc42_4, gc42_5, gc42_6, gc42_7, gc42_8, gc42_9, gc42_10, gc42_11, gc42_12, gc42_13, gc42_14, gcSt, keepEnv, envLt, heapLt, dfrLt, ADefer.lt, grow42, ty3, ty4, ty22, ty23, ty25, ty29, ty30, ty56, ty63, ty69, sb, st, hvb.len, List.length_map, f74w, h1, f85f, Stl.valid, Stl.nums]
  | true =>
    cases h2 : wi s.near 0 20 with
    | false => simp only [go_sem, ↓reduceIte, Nat.reduceEqDiff, Nat.reduceAdd, Nat.reduceLeDiff, Nat.reduceBEq, Nat.reduceMul, Nat.reduceLT, Int.reduceLT, Int.reduceLE, Int.reduceToNat, Int.reduceNeg, Int.reduceEq, Int.reduceMul, reduceCtorEq, fn42, res42, gc42_0, gc42_1, gc42_2, gc42_3, gc42_4, gc42_5, gc42_6, gc42_7, gc42_8, gc42_9, gc42_10, gc42_11, gc42_12, gc42_13, gc42_14, gcSt, keepEnv, envLt, heapLt, dfrLt, ADefer.lt, grow42, ty3, ty4, ty22, ty23, ty25, ty29, ty30, ty56, ty63, ty69, sb, st, hvb.len, List.length_map, f74w, h1, h2, f85f, Stl.valid, Stl.nums]
    | true =>
      cases h3 : wi s.last 1 60 with
      | false => simp only [go_sem, ↓reduceIte, Nat.reduceEqDiff, Nat.reduceAdd, Nat.reduceLeDiff, Nat.reduceBEq, Nat.reduceMul, Nat.reduceLT, Int.reduceLT, Int.reduceLE, Int.reduceToNat, Int.reduceNeg, Int.reduceEq, Int.reduceMul, reduceCtorEq, fn42, res42, gc42_0, gc42_1, gc42_2, gc42_3, gc42_4, gc42_5, gc42_6, gc42_7, gc42_8, gc42_9, gc42_10, gc42_11, gc42_12, gc42_13, gc42_14, gcSt, keepEnv, envLt, heapLt, dfrLt, ADefer.lt, grow42, ty3, ty4, ty22, ty23, ty25, ty29, ty30, ty56, ty63, ty69, sb, st, hvb.len, List.length_map, f74w, h1, h2, h3, f85f, Stl.valid, Stl.nums]
      | true =>
        cases h4 : decide ((s.ts.length : Int) ≤ 6) with
        | false => simp only [go_sem, ↓reduceIte, Nat.reduceEqDiff, Nat.reduceAdd, Nat.reduceLeDiff, Nat.reduceBEq, Nat.reduceMul, Nat.reduceLT, Int.reduceLT, Int.reduceLE, Int.reduceToNat, Int.reduceNeg, Int.reduceEq, Int.reduceMul, reduceCtorEq, fn42, res42, gc42_0, gc42_1, gc42_2, gc42_3, gc42_4, gc42_5, gc42_6, gc42_7, gc42_8, gc42_9, gc42_10, gc42_11, gc42_12, gc42_13, gc42_14, gcSt, keepEnv, envLt, heapLt, dfrLt, ADefer.lt, grow42, ty3, ty4, ty22, ty23, ty25, ty29, ty30, ty56, ty63, ty69, sb, st, hvb.len, hvt.len, List.length_map, f74w, h1, h2, h3, h4, f85f, Stl.valid, Stl.nums]
        | true =>
          have hn : s.nums = true := by simp only [Stl.nums, h1, h2, h3, h4]; rfl
          obtain ⟨G1, e1⟩ := f42_l1 (todoPast Try.f42 3) H vb s.bs _ _ hvb hl hst hcl' s.bs.length 0 (by omega)
          obtain ⟨G2, e2⟩ := f42_l2 (todoPast Try.f42 9) H vb vt s _ hvb hvt hl hl2 hcl' s.ts.length 0 (by omega)
          simp only [List.drop_zero] at e1 e2
          simp only [Stl.valid, hn, Bool.true_and]
          simp only [go_sem, ↓reduceIte, Nat.reduceEqDiff, Nat.reduceAdd, Nat.reduceLeDiff, Nat.reduceBEq, Nat.reduceMul, Nat.reduceLT, Int.reduceLT, Int.reduceLE, Int.reduceToNat, Int.reduceNeg, Int.reduceEq, Int.reduceMul, reduceCtorEq, fn42, res42, gc42_0, gc42_1, gc42_2, gc42_3, gc42_4, gc42_5, gc42_6, gc42_7, gc42_8, gc42_9, gc42_10, gc42_11, gc42_12, gc42_13, gc42_14, gcSt, keepEnv, envLt, heapLt, dfrLt, ADefer.lt, grow42, ty3, ty4, ty22, ty23, ty25, ty29, ty30, ty56, ty63, ty69, sb, st, hvb.len, hvt.len, List.length_map, f74w, h1, h2, h3, h4, f85t]
          refine (congrArg (Option.map _) (e1 _ [] (by rfl) (by rfl) (by rfl) (by rfl) (by rfl))).trans ?_
          cases h5 : s.bs.all Blk.okb with
          | false => simp only [go_sem, ↓reduceIte, Nat.reduceEqDiff, Nat.reduceAdd, Nat.reduceLeDiff, Nat.reduceBEq, Nat.reduceMul, Nat.reduceLT, Int.reduceLT, Int.reduceLE, Int.reduceToNat, Int.reduceNeg, Int.reduceEq, Int.reduceMul, reduceCtorEq]
          | true =>
            simp only [go_sem, ↓reduceIte, Nat.reduceEqDiff, Nat.reduceAdd, Nat.reduceLeDiff, Nat.reduceBEq, Nat.reduceMul, Nat.reduceLT, Int.reduceLT, Int.reduceLE, Int.reduceToNat, Int.reduceNeg, Int.reduceEq, Int.reduceMul, reduceCtorEq, fn42, res42, gc42_0, gc42_1, gc42_2, gc42_3, gc42_4, gc42_5, gc42_6, gc42_7, gc42_8, gc42_9, gc42_10, gc42_11, gc42_12, gc42_13, gc42_14, gcSt, keepEnv, envLt, heapLt, dfrLt, ADefer.lt, grow42, ty3, ty4, ty22, ty23, ty25, ty29, ty30, ty56, ty63, ty69, loopIt, todoPast, todoAt, todoOf, firstReg, ↓reduceIte, Option.some.injEq, Nat.reduceEqDiff, reduceCtorEq, Try.f42, f92 _ _ _ _ _ sb st, hvt.len, List.length_map]
            refine (congrArg (Option.map _) (e2 _ [] (by rfl) (by rfl) (by rfl) (by rfl) (by rfl))).trans ?_
            cases h6 : s.ts.all (Tch.okb s.bs.length s.last) with
            | false => simp only [go_sem, ↓reduceIte, Nat.reduceEqDiff, Nat.reduceAdd, Nat.reduceLeDiff, Nat.reduceBEq, Nat.reduceMul, Nat.reduceLT, Int.reduceLT, Int.reduceLE, Int.reduceToNat, Int.reduceNeg, Int.reduceEq, Int.reduceMul, reduceCtorEq]
            | true =>
              cases okb with
              | false => simp only [go_sem, ↓reduceIte, Nat.reduceEqDiff, Nat.reduceAdd, Nat.reduceLeDiff, Nat.reduceBEq, Nat.reduceMul, Nat.reduceLT, Int.reduceLT, Int.reduceLE, Int.reduceToNat, Int.reduceNeg, Int.reduceEq, Int.reduceMul, reduceCtorEq, fn42, res42, gc42_0, gc42_1, gc42_2, gc42_3, gc42_4, gc42_5, gc42_6, gc42_7, gc42_8, gc42_9, gc42_10, gc42_11, gc42_12, gc42_13, gc42_14, gcSt, keepEnv, envLt, heapLt, dfrLt, ADefer.lt, grow42, ty3, ty4, ty22, ty23, ty25, ty29, ty30, ty56, ty63, ty69, loopIt, todoPast, todoAt, todoOf, firstReg, ↓reduceIte, Option.some.injEq, Nat.reduceEqDiff, reduceCtorEq, Try.f42, hok, f85f]
              | true =>
                simp only [go_sem, ↓reduceIte, Nat.reduceEqDiff, Nat.reduceAdd, Nat.reduceLeDiff, Nat.reduceBEq, Nat.reduceMul, Nat.reduceLT, Int.reduceLT, Int.reduceLE, Int.reduceToNat, Int.reduceNeg, Int.reduceEq, Int.reduceMul, reduceCtorEq, fn42, res42, gc42_0, gc42_1, gc42_2, gc42_3, gc42_4, gc42_5, gc42_6, gc42_7, gc42_8, gc42_9, gc42_10, gc42_11, gc42_12, gc42_13, gc42_14, gcSt, keepEnv, envLt, heapLt, dfrLt, ADefer.lt, grow42, ty3, ty4, ty22, ty23, ty25, ty29, ty30, ty56, ty63, ty69, loopIt, todoPast, todoAt, todoOf, firstReg, ↓reduceIte, Option.some.injEq, Nat.reduceEqDiff, reduceCtorEq, Try.f42, hok, f85t]

end Go.Ab
/-
  The layer settle: its exported functions, walked.
-/
namespace Go.Ab
open Go.Proofs
set_option linter.unusedSimpArgs false
set_option linter.unusedVariables false

variable {H : Heap} {L M : Nat} {vb vt : AV} {s : Stl} {es : List (AV × AV)}

theorem f40n (l : Nat) (H : Heap) : callFL cfg0 prog0 true 40 [.ptr l 0] H none = some ⟨.ret (.tup []), H, none⟩ := by
  refine (callFL_eq fn40 rfl (by simp [Try.f40])).trans ?_
  simp only [go_sem, ↓reduceIte, Nat.reduceEqDiff, Nat.reduceAdd, Nat.reduceLeDiff, Nat.reduceBEq, Nat.reduceMul, Nat.reduceLT, Int.reduceLT, Int.reduceLE, Int.reduceToNat, Int.reduceNeg, Int.reduceEq, Int.reduceMul, reduceCtorEq, fn40, res40, gc40, grow40, ty20, ty68, f41n]

theorem f40s (l : Nat) (e x : Int) (H : Heap) (h : H[l]? = some (.box (I x))) : callFL cfg0 prog0 true 40 [.ptr l 0] H (some (.iface 109 (.agg [I e]), false)) = some ⟨.ret (.tup []), H.set l (.box (I e)), some (.iface 109 (.agg [I e]), true)⟩ := by
  refine (callFL_eq fn40 rfl (by simp [Try.f40])).trans ?_
  simp only [go_sem, ↓reduceIte, Nat.reduceEqDiff, Nat.reduceAdd, Nat.reduceLeDiff, Nat.reduceBEq, Nat.reduceMul, Nat.reduceLT, Int.reduceLT, Int.reduceLE, Int.reduceToNat, Int.reduceNeg, Int.reduceEq, Int.reduceMul, reduceCtorEq, fn40, res40, gc40, grow40, ty20, ty68, f41s l x e H h]

theorem f52n (l : Nat) (H : Heap) : callFL cfg0 prog0 true 52 [.ptr l 0] H none = some ⟨.ret (.tup []), H, none⟩ := by
  refine (callFL_eq fn52 rfl (by simp [Try.f52])).trans ?_
  simp only [go_sem, ↓reduceIte, Nat.reduceEqDiff, Nat.reduceAdd, Nat.reduceLeDiff, Nat.reduceBEq, Nat.reduceMul, Nat.reduceLT, Int.reduceLT, Int.reduceLE, Int.reduceToNat, Int.reduceNeg, Int.reduceEq, Int.reduceMul, reduceCtorEq, fn52, res52, gc52, grow52, ty20, ty68, f41n]

theorem f52s (l : Nat) (e x : Int) (H : Heap) (h : H[l]? = some (.box (I x))) : callFL cfg0 prog0 true 52 [.ptr l 0] H (some (.iface 109 (.agg [I e]), false)) = some ⟨.ret (.tup []), H.set l (.box (I e)), some (.iface 109 (.agg [I e]), true)⟩ := by
  refine (callFL_eq fn52 rfl (by simp [Try.f52])).trans ?_
  simp only [go_sem, ↓reduceIte, Nat.reduceEqDiff, Nat.reduceAdd, Nat.reduceLeDiff, Nat.reduceBEq, Nat.reduceMul, Nat.reduceLT, Int.reduceLT, Int.reduceLE, Int.reduceToNat, Int.reduceNeg, Int.reduceEq, Int.reduceMul, reduceCtorEq, fn52, res52, gc52, grow52, ty20, ty68, f41s l x e H h]

theorem f57n (l : Nat) (H : Heap) : callFL cfg0 prog0 true 57 [.ptr l 0] H none = some ⟨.ret (.tup []), H, none⟩ := by
  refine (callFL_eq fn57 rfl (by simp [Try.f57])).trans ?_
  simp only [go_sem, ↓reduceIte, Nat.reduceEqDiff, Nat.reduceAdd, Nat.reduceLeDiff, Nat.reduceBEq, Nat.reduceMul, Nat.reduceLT, Int.reduceLT, Int.reduceLE, Int.reduceToNat, Int.reduceNeg, Int.reduceEq, Int.reduceMul, reduceCtorEq, fn57, res57, gc57, grow57, ty20, ty68, f41n]

theorem f57s (l : Nat) (e x : Int) (H : Heap) (h : H[l]? = some (.box (I x))) : callFL cfg0 prog0 true 57 [.ptr l 0] H (some (.iface 109 (.agg [I e]), false)) = some ⟨.ret (.tup []), H.set l (.box (I e)), some (.iface 109 (.agg [I e]), true)⟩ := by
  refine (callFL_eq fn57 rfl (by simp [Try.f57])).trans ?_
  simp only [go_sem, ↓reduceIte, Nat.reduceEqDiff, Nat.reduceAdd, Nat.reduceLeDiff, Nat.reduceBEq, Nat.reduceMul, Nat.reduceLT, Int.reduceLT, Int.reduceLE, Int.reduceToNat, Int.reduceNeg, Int.reduceEq, Int.reduceMul, reduceCtorEq, fn57, res57, gc57, grow57, ty20, ty68, f41s l x e H h]

theorem f64n (l : Nat) (H : Heap) : callFL cfg0 prog0 true 64 [.ptr l 0] H none = some ⟨.ret (.tup []), H, none⟩ := by
  refine (callFL_eq fn64 rfl (by simp [Try.f64])).trans ?_
  simp only [go_sem, ↓reduceIte, Nat.reduceEqDiff, Nat.reduceAdd, Nat.reduceLeDiff, Nat.reduceBEq, Nat.reduceMul, Nat.reduceLT, Int.reduceLT, Int.reduceLE, Int.reduceToNat, Int.reduceNeg, Int.reduceEq, Int.reduceMul, reduceCtorEq, fn64, res64, gc64, grow64, ty20, ty68, f41n]

theorem f64s (l : Nat) (e x : Int) (H : Heap) (h : H[l]? = some (.box (I x))) : callFL cfg0 prog0 true 64 [.ptr l 0] H (some (.iface 109 (.agg [I e]), false)) = some ⟨.ret (.tup []), H.set l (.box (I e)), some (.iface 109 (.agg [I e]), true)⟩ := by
  refine (callFL_eq fn64 rfl (by simp [Try.f64])).trans ?_
  simp only [go_sem, ↓reduceIte, Nat.reduceEqDiff, Nat.reduceAdd, Nat.reduceLeDiff, Nat.reduceBEq, Nat.reduceMul, Nat.reduceLT, Int.reduceLT, Int.reduceLE, Int.reduceToNat, Int.reduceNeg, Int.reduceEq, Int.reduceMul, reduceCtorEq, fn64, res64, gc64, grow64, ty20, ty68, f41s l x e H h]

theorem f67n (l : Nat) (H : Heap) : callFL cfg0 prog0 true 67 [.ptr l 0] H none = some ⟨.ret (.tup []), H, none⟩ := by
  refine (callFL_eq fn67 rfl (by simp [Try.f67])).trans ?_
  simp only [go_sem, ↓reduceIte, Nat.reduceEqDiff, Nat.reduceAdd, Nat.reduceLeDiff, Nat.reduceBEq, Nat.reduceMul, Nat.reduceLT, Int.reduceLT, Int.reduceLE, Int.reduceToNat, Int.reduceNeg, Int.reduceEq, Int.reduceMul, reduceCtorEq, fn67, res67, gc67, grow67, ty20, ty68, f41n]

theorem f67s (l : Nat) (e x : Int) (H : Heap) (h : H[l]? = some (.box (I x))) : callFL cfg0 prog0 true 67 [.ptr l 0] H (some (.iface 109 (.agg [I e]), false)) = some ⟨.ret (.tup []), H.set l (.box (I e)), some (.iface 109 (.agg [I e]), true)⟩ := by
  refine (callFL_eq fn67 rfl (by simp [Try.f67])).trans ?_
  simp only [go_sem, ↓reduceIte, Nat.reduceEqDiff, Nat.reduceAdd, Nat.reduceLeDiff, Nat.reduceBEq, Nat.reduceMul, Nat.reduceLT, Int.reduceLT, Int.reduceLE, Int.reduceToNat, Int.reduceNeg, Int.reduceEq, Int.reduceMul, reduceCtorEq, fn67, res67, gc67, grow67, ty20, ty68, f41s l x e H h]

theorem f69n (l : Nat) (H : Heap) : callFL cfg0 prog0 true 69 [.ptr l 0] H none = some ⟨.ret (.tup []), H, none⟩ := by
  refine (callFL_eq fn69 rfl (by simp [Try.f69])).trans ?_
  simp only [go_sem, ↓reduceIte, Nat.reduceEqDiff, Nat.reduceAdd, Nat.reduceLeDiff, Nat.reduceBEq, Nat.reduceMul, Nat.reduceLT, Int.reduceLT, Int.reduceLE, Int.reduceToNat, Int.reduceNeg, Int.reduceEq, Int.reduceMul, reduceCtorEq, fn69, res69, gc69, grow69, ty20, ty68, f41n]

theorem f69s (l : Nat) (e x : Int) (H : Heap) (h : H[l]? = some (.box (I x))) : callFL cfg0 prog0 true 69 [.ptr l 0] H (some (.iface 109 (.agg [I e]), false)) = some ⟨.ret (.tup []), H.set l (.box (I e)), some (.iface 109 (.agg [I e]), true)⟩ := by
  refine (callFL_eq fn69 rfl (by simp [Try.f69])).trans ?_
  simp only [go_sem, ↓reduceIte, Nat.reduceEqDiff, Nat.reduceAdd, Nat.reduceLeDiff, Nat.reduceBEq, Nat.reduceMul, Nat.reduceLT, Int.reduceLT, Int.reduceLE, Int.reduceToNat, Int.reduceNeg, Int.reduceEq, Int.reduceMul, reduceCtorEq, fn69, res69, gc69, grow69, ty20, ty68, f41s l x e H h]

theorem f71n (l : Nat) (H : Heap) : callFL cfg0 prog0 true 71 [.ptr l 0] H none = some ⟨.ret (.tup []), H, none⟩ := by
  refine (callFL_eq fn71 rfl (by simp [Try.f71])).trans ?_
  simp only [go_sem, ↓reduceIte, Nat.reduceEqDiff, Nat.reduceAdd, Nat.reduceLeDiff, Nat.reduceBEq, Nat.reduceMul, Nat.reduceLT, Int.reduceLT, Int.reduceLE, Int.reduceToNat, Int.reduceNeg, Int.reduceEq, Int.reduceMul, reduceCtorEq, fn71, res71, gc71, grow71, ty20, ty68, f41n]

theorem f71s (l : Nat) (e x : Int) (H : Heap) (h : H[l]? = some (.box (I x))) : callFL cfg0 prog0 true 71 [.ptr l 0] H (some (.iface 109 (.agg [I e]), false)) = some ⟨.ret (.tup []), H.set l (.box (I e)), some (.iface 109 (.agg [I e]), true)⟩ := by
  refine (callFL_eq fn71 rfl (by simp [Try.f71])).trans ?_
  simp only [go_sem, ↓reduceIte, Nat.reduceEqDiff, Nat.reduceAdd, Nat.reduceLeDiff, Nat.reduceBEq, Nat.reduceMul, Nat.reduceLT, Int.reduceLT, Int.reduceLE, Int.reduceToNat, Int.reduceNeg, Int.reduceEq, Int.reduceMul, reduceCtorEq, fn71, res71, gc71, grow71, ty20, ty68, f41s l x e H h]

theorem f79n (l : Nat) (H : Heap) : callFL cfg0 prog0 true 79 [.ptr l 0] H none = some ⟨.ret (.tup []), H, none⟩ := by
  refine (callFL_eq fn79 rfl (by simp [Try.f79])).trans ?_
  simp only [go_sem, ↓reduceIte, Nat.reduceEqDiff, Nat.reduceAdd, Nat.reduceLeDiff, Nat.reduceBEq, Nat.reduceMul, Nat.reduceLT, Int.reduceLT, Int.reduceLE, Int.reduceToNat, Int.reduceNeg, Int.reduceEq, Int.reduceMul, reduceCtorEq, fn79, res79, gc79, grow79, ty20, ty68, f41n]

theorem f79s (l : Nat) (e x : Int) (H : Heap) (h : H[l]? = some (.box (I x))) : callFL cfg0 prog0 true 79 [.ptr l 0] H (some (.iface 109 (.agg [I e]), false)) = some ⟨.ret (.tup []), H.set l (.box (I e)), some (.iface 109 (.agg [I e]), true)⟩ := by
  refine (callFL_eq fn79 rfl (by simp [Try.f79])).trans ?_
  simp only [go_sem, ↓reduceIte, Nat.reduceEqDiff, Nat.reduceAdd, Nat.reduceLeDiff, Nat.reduceBEq, Nat.reduceMul, Nat.reduceLT, Int.reduceLT, Int.reduceLE, Int.reduceToNat, Int.reduceNeg, Int.reduceEq, Int.reduceMul, reduceCtorEq, fn79, res79, gc79, grow79, ty20, ty68, f41s l x e H h]

def Stl.inB (s : Stl) (n : Int) : Bool := wi n 0 ((s.bs.length : Int) - 1)
def Stl.inM (s : Stl) (n : Int) : Bool := wi n 0 s.last
def inW (n : Int) : Bool := wi n (-100) 100

theorem f44w (hp : PlOk H L M vb vt s es) (n : Int) (hl : s.bs.length ≤ 1000) : callFL cfg0 prog0 false 44 [.ptr L 0, I n] H none = some ⟨.ret (.bool (s.inB n)), H, none⟩ := f44 hp n hl
theorem f45w (hp : PlOk H L M vb vt s es) (n : Int) : callFL cfg0 prog0 false 45 [.ptr L 0, I n] H none = some ⟨.ret (.bool (s.inM n)), H, none⟩ := f45 hp n
theorem f73w (n : Int) (H : Heap) : callFL cfg0 prog0 false 73 [I n] H none = some ⟨.ret (.bool (inW n)), H, none⟩ := f73 n H

theorem f43 (hp : PlOk H L M vb vt s es) (hl : s.bs.length ≤ 1000) (A B : Nat) (x y : Int) (ha : H[A]? = some (.box (I x))) (hb : H[B]? = some (.box (I y))) : callFL cfg0 prog0 false 43 [.ptr L 0, .ptr A 0, .ptr B 0] H none = some ⟨.ret (.bool (s.inB x && s.inM y)), H, none⟩ := by
  refine (callFL_eq fn43 rfl (by simp [Try.f43])).trans ?_
  cases h1 : s.inB x <;> simp only [go_sem, ↓reduceIte, Nat.reduceEqDiff, Nat.reduceAdd, Nat.reduceLeDiff, Nat.reduceBEq, Nat.reduceMul, Nat.reduceLT, Int.reduceLT, Int.reduceLE, Int.reduceToNat, Int.reduceNeg, Int.reduceEq, Int.reduceMul, reduceCtorEq, fn43, res43, gc43, grow43, ty3, ty69, ha, hb, f44w hp _ hl, f45w hp, h1]

theorem f53 (hp : PlOk H L M vb vt s es) (hl : s.bs.length ≤ 1000) (A B : Nat) (x y : Int) (ha : H[A]? = some (.box (I x))) (hb : H[B]? = some (.box (I y))) : callFL cfg0 prog0 false 53 [.ptr L 0, .ptr A 0, .ptr B 0] H none = some ⟨.ret (.bool (s.inB x && s.inM y)), H, none⟩ := by
  refine (callFL_eq fn53 rfl (by simp [Try.f53])).trans ?_
  cases h1 : s.inB x <;> simp only [go_sem, ↓reduceIte, Nat.reduceEqDiff, Nat.reduceAdd, Nat.reduceLeDiff, Nat.reduceBEq, Nat.reduceMul, Nat.reduceLT, Int.reduceLT, Int.reduceLE, Int.reduceToNat, Int.reduceNeg, Int.reduceEq, Int.reduceMul, reduceCtorEq, fn53, res53, gc53, grow53, ty3, ty69, ha, hb, f44w hp _ hl, f45w hp, h1]

theorem f58 (hp : PlOk H L M vb vt s es) (hl : s.bs.length ≤ 1000) (A B : Nat) (x y : Int) (ha : H[A]? = some (.box (I x))) (hb : H[B]? = some (.box (I y))) : callFL cfg0 prog0 false 58 [.ptr L 0, .ptr A 0, .ptr B 0] H none = some ⟨.ret (.bool (s.inB x && s.inM y)), H, none⟩ := by
  refine (callFL_eq fn58 rfl (by simp [Try.f58])).trans ?_
  cases h1 : s.inB x <;> simp only [go_sem, ↓reduceIte, Nat.reduceEqDiff, Nat.reduceAdd, Nat.reduceLeDiff, Nat.reduceBEq, Nat.reduceMul, Nat.reduceLT, Int.reduceLT, Int.reduceLE, Int.reduceToNat, Int.reduceNeg, Int.reduceEq, Int.reduceMul, reduceCtorEq, fn58, res58, gc58, grow58, ty3, ty69, ha, hb, f44w hp _ hl, f45w hp, h1]

theorem f65 (hp : PlOk H L M vb vt s es) (hl : s.bs.length ≤ 1000) (A : Nat) (x : Int) (ha : H[A]? = some (.box (I x))) : callFL cfg0 prog0 false 65 [.ptr L 0, .ptr A 0] H none = some ⟨.ret (.bool (s.inB x)), H, none⟩ := by
  refine (callFL_eq fn65 rfl (by simp [Try.f65])).trans ?_
  simp only [go_sem, ↓reduceIte, Nat.reduceEqDiff, Nat.reduceAdd, Nat.reduceLeDiff, Nat.reduceBEq, Nat.reduceMul, Nat.reduceLT, Int.reduceLT, Int.reduceLE, Int.reduceToNat, Int.reduceNeg, Int.reduceEq, Int.reduceMul, reduceCtorEq, fn65, res65, gc65, grow65, ty3, ty69, ha, f44w hp _ hl]

theorem f70 (hp : PlOk H L M vb vt s es) (hl : s.bs.length ≤ 1000) (A : Nat) (x : Int) (ha : H[A]? = some (.box (I x))) : callFL cfg0 prog0 false 70 [.ptr L 0, .ptr A 0] H none = some ⟨.ret (.bool (s.inB x)), H, none⟩ := by
  refine (callFL_eq fn70 rfl (by simp [Try.f70])).trans ?_
  simp only [go_sem, ↓reduceIte, Nat.reduceEqDiff, Nat.reduceAdd, Nat.reduceLeDiff, Nat.reduceBEq, Nat.reduceMul, Nat.reduceLT, Int.reduceLT, Int.reduceLE, Int.reduceToNat, Int.reduceNeg, Int.reduceEq, Int.reduceMul, reduceCtorEq, fn70, res70, gc70, grow70, ty3, ty69, ha, f44w hp _ hl]

theorem f68 (H : Heap) (v : AV) : callFL cfg0 prog0 false 68 [v] H none = some ⟨.ret (.bool true), H, none⟩ := by
  refine (callFL_eq fn68 rfl (by simp [Try.f68])).trans ?_
  simp only [go_sem, ↓reduceIte, Nat.reduceEqDiff, Nat.reduceAdd, Nat.reduceLeDiff, Nat.reduceBEq, Nat.reduceMul, Nat.reduceLT, Int.reduceLT, Int.reduceLE, Int.reduceToNat, Int.reduceNeg, Int.reduceEq, Int.reduceMul, reduceCtorEq, fn68, res68, gc68, grow68]

theorem f72 (hp : PlOk H L M vb vt s es) (hl : s.bs.length ≤ 1000) (A B : Nat) (x y : Int) (ha : H[A]? = some (.box (I x))) (hb : H[B]? = some (.box (I y))) : callFL cfg0 prog0 false 72 [.ptr L 0, .ptr A 0, .ptr B 0] H none = some ⟨.ret (.bool (s.inB x && inW y)), H, none⟩ := by
  refine (callFL_eq fn72 rfl (by simp [Try.f72])).trans ?_
  cases h1 : s.inB x <;> simp only [go_sem, ↓reduceIte, Nat.reduceEqDiff, Nat.reduceAdd, Nat.reduceLeDiff, Nat.reduceBEq, Nat.reduceMul, Nat.reduceLT, Int.reduceLT, Int.reduceLE, Int.reduceToNat, Int.reduceNeg, Int.reduceEq, Int.reduceMul, reduceCtorEq, fn72, res72, gc72, grow72, ty3, ty69, ha, hb, f44w hp _ hl, f73w, h1]

theorem f80 (hp : PlOk H L M vb vt s es) (hl : s.bs.length ≤ 1000) (A B D : Nat) (x y z : Int) (ha : H[A]? = some (.box (I x))) (hb : H[B]? = some (.box (I y))) (hd : H[D]? = some (.box (I z))) : callFL cfg0 prog0 false 80 [.ptr L 0, .ptr A 0, .ptr B 0, .ptr D 0] H none = some ⟨.ret (.bool (s.inB x && inW y && s.inM z)), H, none⟩ := by
  refine (callFL_eq fn80 rfl (by simp [Try.f80])).trans ?_
  cases h1 : s.inB x <;> cases h2 : inW y <;> simp only [go_sem, ↓reduceIte, Nat.reduceEqDiff, Nat.reduceAdd, Nat.reduceLeDiff, Nat.reduceBEq, Nat.reduceMul, Nat.reduceLT, Int.reduceLT, Int.reduceLE, Int.reduceToNat, Int.reduceNeg, Int.reduceEq, Int.reduceMul, reduceCtorEq, fn80, res80, gc80, grow80, ty3, ty69, ha, hb, hd, f44w hp _ hl, f45w hp, f73w, h1, h2]

theorem Stl.valid_wf (h : s.valid = true) : s.Wf := by
  simp only [Stl.valid, Stl.nums, Bool.and_eq_true, List.all_eq_true, Blk.okb, Tch.okb, wi, spn, decide_eq_true_eq] at h
  obtain ⟨⟨⟨h1, h2⟩, ⟨h3, h4⟩, ⟨h5, h6⟩, h7⟩, h8, h9⟩ := h
  refine ⟨fun b hb => ?_, fun t ht => ?_, by omega, by omega, by omega, by omega⟩
  · obtain ⟨⟨⟨a1, a2⟩, a3⟩, ⟨⟨b1, b2⟩, b3⟩, ⟨c1, c2⟩, c3⟩ := h8 b hb
    exact ⟨a1, a2, a3, b1, b2, b3, c1, c2, c3⟩
  · obtain ⟨_, _, ⟨a1, a2⟩, a3⟩ := h9 t ht
    exact ⟨a1, a2, a3⟩

def Stl.blk (s : Stl) (n : Int) : Blk := s.bs.getD n.toNat ⟨0, 0, 0, 0, 0, 0⟩

theorem Stl.inB_blk {n : Int} (h : s.inB n = true) : 0 ≤ n ∧ s.bs[n.toNat]? = some (s.blk n) := by
  simp only [Stl.inB, wi, Bool.and_eq_true, decide_eq_true_eq] at h
  refine ⟨h.1, ?_⟩
  have hlt : n.toNat < s.bs.length := by omega
  simp only [Stl.blk, List.getD_eq_getElem?_getD, List.getElem?_eq_getElem hlt, Option.getD_some]

theorem Stl.inM_nat {n : Int} (hs : s.Wf) (h : s.inM n = true) : ∃ m : Nat, n = m ∧ m ≤ 60 := by
  simp only [Stl.inM, wi, Bool.and_eq_true, decide_eq_true_eq] at h
  have := hs.last
  exact ⟨n.toNat, by omega, by omega⟩

/-- What Excess tells. -/
def Stl.excess (s : Stl) (n m : Int) : Int × Int × Int :=
  if s.valid then (if s.inB n && s.inM m then (warmLo s n (s.blk n) m.toNat, warmHi s n (s.blk n) m.toNat, 0) else (0, 0, 2)) else (0, 0, 1)

theorem f14 (s : Stl) (hvb : SlOk H 6 vb (s.bs.map Blk.av)) (hvt : SlOk H 4 vt (s.ts.map Tch.av)) (hl : s.bs.length ≤ 1000) (hl2 : s.ts.length ≤ 1000) (n m : Int) :
    callFL cfg0 prog0 false 14 [.agg [vb, I s.near, I s.last, vt], I n, I m] H none = some ⟨.ret (.tup [.agg [I (s.excess n m).1, I (s.excess n m).2.1], I (s.excess n m).2.2]), H, none⟩ := by
  have sb := hvb.scal
  have st := hvt.scal
  have hp := pl4_ok (H ++ [.box (.agg [vb, I s.near, I s.last, vt]), .box (I n), .box (I m), .box (.agg [I 0, I 0]), .box (I 0)]) vb vt s (hvb.app _) (hvt.app _)
  have h42 := f42 (H ++ [.box (.agg [vb, I s.near, I s.last, vt]), .box (I n), .box (I m), .box (.agg [I 0, I 0]), .box (I 0)]) vb vt s 43 [.ptr (H.length + 1) 0, .ptr (H.length + 2) 0] (s.inB n && s.inM m) (hvb.app _) (hvt.app _) hl hl2
    (fun N => by simp [ltL, AV.lt]; omega) (f43 hp hl _ _ n m (by simp [pl4, List.append_assoc, List.cons_append, List.nil_append, List.append_nil, List.length_append, List.length_cons, List.length_nil, Nat.zero_add, Nat.add_zero, Nat.add_assoc, Nat.reduceAdd, set_at, set_at', List.set_cons_zero, List.set_cons_succ, get_at']) (by simp [pl4, List.append_assoc, List.cons_append, List.nil_append, List.append_nil, List.length_append, List.length_cons, List.length_nil, Nat.zero_add, Nat.add_zero, Nat.add_assoc, Nat.reduceAdd, set_at, set_at', List.set_cons_zero, List.set_cons_succ, get_at']))
  simp only [pl4, List.append_assoc, List.cons_append, List.nil_append, List.append_nil, List.length_append, List.length_cons, List.length_nil, Nat.zero_add, Nat.add_zero, Nat.add_assoc, Nat.reduceAdd, set_at, set_at', List.set_cons_zero, List.set_cons_succ] at h42
  have h40 := fun e => f40s (H.length + 4) e 0 (H ++ [.box (.agg [vb, I s.near, I s.last, vt]), .box (I n), .box (I m), .box (.agg [I 0, I 0]), .box (I 0)]) (by simp [get_at'])
  refine (callFL_eq fn14 rfl (by simp [Try.f14])).trans ?_
  simp only [Stl.excess]
  cases hv : s.valid with
  | false =>
    simp only [hv, Bool.false_eq_true, ↓reduceIte] at h42
    simp only [go_sem, ↓reduceIte, Nat.reduceEqDiff, Nat.reduceAdd, Nat.reduceLeDiff, Nat.reduceBEq, Nat.reduceMul, Nat.reduceLT, Int.reduceLT, Int.reduceLE, Int.reduceToNat, Int.reduceNeg, Int.reduceEq, Int.reduceMul, reduceCtorEq, fn14, res14, gc14, grow14, ty3, ty22, ty23, ty25, ty29, ty30, ty56, ty63, ty69, ty72, ty75, sb, st, h42, h40]
  | true =>
    cases hc : (s.inB n && s.inM m) with
    | false =>
      simp only [hv, hc, Bool.false_eq_true, ↓reduceIte] at h42
      simp only [go_sem, ↓reduceIte, Nat.reduceEqDiff, Nat.reduceAdd, Nat.reduceLeDiff, Nat.reduceBEq, Nat.reduceMul, Nat.reduceLT, Int.reduceLT, Int.reduceLE, Int.reduceToNat, Int.reduceNeg, Int.reduceEq, Int.reduceMul, reduceCtorEq, fn14, res14, gc14, grow14, ty3, ty22, ty23, ty25, ty29, ty30, ty56, ty63, ty69, ty72, ty75, sb, st, h42, h40]
    | true =>
      have hw := Stl.valid_wf hv
      simp only [Bool.and_eq_true] at hc
      obtain ⟨h0, hb⟩ := Stl.inB_blk hc.1
      obtain ⟨mm, rfl, hmm⟩ := Stl.inM_nat hw hc.2
      have hbo := hw.bs _ (List.mem_of_getElem? hb)
      obtain ⟨es', hg', hr⟩ := f46 hw n (s.blk n) h0 hb _ mm hmm (s.blk n).n hbo.hn (spans_it hp n mm) (Good.nil s)
      change callFL cfg0 prog0 false 46 _ _ none = some ⟨.ret (.agg [I (warmLo s n (s.blk n) mm), I (warmHi s n (s.blk n) mm)]), _, _⟩ at hr
      have h47 := f47 n mm hp.hL
      simp only [pl4, List.append_assoc, List.cons_append, List.nil_append, List.append_nil, List.length_append, List.length_cons, List.length_nil, Nat.zero_add, Nat.add_zero, Nat.add_assoc, Nat.reduceAdd, set_at, set_at', List.set_cons_zero, List.set_cons_succ] at hr h47
      simp only [hv, hc, Bool.and_self, ↓reduceIte] at h42
      simp only [go_sem, ↓reduceIte, Nat.reduceEqDiff, Nat.reduceAdd, Nat.reduceLeDiff, Nat.reduceBEq, Nat.reduceMul, Nat.reduceLT, Int.reduceLT, Int.reduceLE, Int.reduceToNat, Int.reduceNeg, Int.reduceEq, Int.reduceMul, reduceCtorEq, fn14, res14, gc14, grow14, ty3, ty22, ty23, ty25, ty29, ty30, ty56, ty63, ty69, ty72, ty75, sb, st, h42, h47, hr, f40n, Int.toNat_natCast]

end Go.Ab
/-
  The layer settle: what is looked for, in spans and in minutes.
-/
namespace Go.Ab
open Go.Proofs
set_option linter.unusedSimpArgs false
set_option linter.unusedVariables false

/-! ### first, in spans -/

theorem first_step (G E : Heap) (h : Nat) (hh : G.length = h) (fi : Fn) (caps : List AV) (x y : Int) (d : Bool) (v7 v0 v1 : AV)
    (hd : ∀ E, callVL cfg0 prog0 false fi [.agg [I x, I y]] caps (G ++ E) none = some ⟨.ret (.bool d), G ++ E, none⟩) :
    callVL cfg0 prog0 false (.yield (h + 4)) [.agg [I x, I y]] [] (G ++ ([.box (.agg [.func fi [] caps]), .box (.agg [I 0, I 0]), .box (.bool false), .dfr, .loop (loopRec Try.f60 60 0 [(7, v7), (5, .ptr (h + 2) 0), (4, .ptr (h + 1) 0), (3, .ptr h 0), (0, v0), (1, v1)] (h + 3))] ++ E)) none =
    some (if d then ⟨.ret (.bool false), G ++ ([.box (.agg [.func fi [] caps]), .box (.agg [I x, I y]), .box (.bool true), .dfr, .loop { loopRec Try.f60 60 0 [(7, v7), (5, .ptr (h + 2) 0), (4, .ptr (h + 1) 0), (3, .ptr h 0), (0, v0), (1, v1)] (h + 3) with state := .done, pending := some .ret }] ++ E), none⟩
      else ⟨.ret (.bool true), G ++ ([.box (.agg [.func fi [] caps]), .box (.agg [I 0, I 0]), .box (.bool false), .dfr, .loop (loopRec Try.f60 60 0 [(7, v7), (5, .ptr (h + 2) 0), (4, .ptr (h + 1) 0), (3, .ptr h 0), (0, v0), (1, v1)] (h + 3))] ++ E), none⟩) := by
  subst hh
  cases d
  · simp only [go_sem, ↓reduceIte, Nat.reduceEqDiff, Nat.reduceAdd, Nat.reduceLeDiff, Nat.reduceBEq, Nat.reduceMul, Nat.reduceLT, Int.reduceLT, Int.reduceLE, Int.reduceToNat, Int.reduceNeg, Int.reduceEq, Int.reduceMul, reduceCtorEq, fn60, res60, gc60, grow60, ty3, ty4, ty29, ty88, ty90, loopRec, rangesOf, List.nil_append, List.append_nil, List.cons_append, List.getElem?_cons_zero, List.getElem?_cons_succ, Try.f60, hd]
  · simp only [go_sem, ↓reduceIte, Nat.reduceEqDiff, Nat.reduceAdd, Nat.reduceLeDiff, Nat.reduceBEq, Nat.reduceMul, Nat.reduceLT, Int.reduceLT, Int.reduceLE, Int.reduceToNat, Int.reduceNeg, Int.reduceEq, Int.reduceMul, reduceCtorEq, fn60, res60, gc60, grow60, ty3, ty4, ty29, ty88, ty90, loopRec, rangesOf, List.nil_append, List.append_nil, List.cons_append, List.getElem?_cons_zero, List.getElem?_cons_succ, Try.f60, hd]

/-! ### first, in minutes -/

noncomputable def busy81 (h : Nat) (is v7 v0 v1 : AV) : Heap := [.box (.agg [is]), .box (I 0), .box (.bool false), .dfr, .loop { loopRec Try.f81 81 0 [(7, v7), (5, .ptr (h + 2) 0), (4, .ptr (h + 1) 0), (3, .ptr h 0), (0, v0), (1, v1)] (h + 3) with state := .busy }]

theorem firstI_step (G G' E : Heap) (h : Nat) (hh : G.length = h) (hh' : G'.length = h) (fi : Fn) (caps : List AV) (x : Int) (d : Bool) (v7 v0 v1 : AV)
    (hd : callVL cfg0 prog0 false fi [I x] caps (G ++ (busy81 h (.func fi [] caps) v7 v0 v1 ++ E)) none = some ⟨.ret (.bool d), G' ++ (busy81 h (.func fi [] caps) v7 v0 v1 ++ E), none⟩) :
    callVL cfg0 prog0 false (.yield (h + 4)) [I x] [] (G ++ ([.box (.agg [.func fi [] caps]), .box (I 0), .box (.bool false), .dfr, .loop (loopRec Try.f81 81 0 [(7, v7), (5, .ptr (h + 2) 0), (4, .ptr (h + 1) 0), (3, .ptr h 0), (0, v0), (1, v1)] (h + 3))] ++ E)) none =
    some (if d then ⟨.ret (.bool false), G' ++ ([.box (.agg [.func fi [] caps]), .box (I x), .box (.bool true), .dfr, .loop { loopRec Try.f81 81 0 [(7, v7), (5, .ptr (h + 2) 0), (4, .ptr (h + 1) 0), (3, .ptr h 0), (0, v0), (1, v1)] (h + 3) with state := .done, pending := some .ret }] ++ E), none⟩
      else ⟨.ret (.bool true), G' ++ ([.box (.agg [.func fi [] caps]), .box (I 0), .box (.bool false), .dfr, .loop (loopRec Try.f81 81 0 [(7, v7), (5, .ptr (h + 2) 0), (4, .ptr (h + 1) 0), (3, .ptr h 0), (0, v0), (1, v1)] (h + 3))] ++ E), none⟩) := by
  have a0 : ∀ E, (G' ++ E)[h]? = E[0]? := fun E => by rw [← hh']; exact get_at
  have a1 : ∀ n E, (G' ++ E)[h + n]? = E[n]? := fun n E => by rw [← hh']; exact get_at' n
  have a2 : ∀ o E, (G' ++ E).set h o = G' ++ E.set 0 o := fun o E => by rw [← hh']; exact set_at
  have a3 : ∀ n o E, (G' ++ E).set (h + n) o = G' ++ E.set n o := fun n o E => by rw [← hh']; exact set_at' n
  have a4 : ∀ E n, (G' ++ E).take (h + n) = G' ++ E.take n := fun E n => by rw [← hh']; exact List.take_length_add_append _
  simp only [busy81, loopRec, rangesOf, List.nil_append, List.append_nil, List.cons_append, List.getElem?_cons_zero, List.getElem?_cons_succ, Try.f81] at hd
  subst hh
  cases d
  · simp only [go_sem, ↓reduceIte, Nat.reduceEqDiff, Nat.reduceAdd, Nat.reduceLeDiff, Nat.reduceBEq, Nat.reduceMul, Nat.reduceLT, Int.reduceLT, Int.reduceLE, Int.reduceToNat, Int.reduceNeg, Int.reduceEq, Int.reduceMul, reduceCtorEq, fn81, res81, gc81, grow81, ty3, ty4, ty71, ty101, loopRec, rangesOf, List.nil_append, List.append_nil, List.cons_append, List.getElem?_cons_zero, List.getElem?_cons_succ, Try.f81, hd, a0, a1, a2, a3, a4]
  · simp only [go_sem, ↓reduceIte, Nat.reduceEqDiff, Nat.reduceAdd, Nat.reduceLeDiff, Nat.reduceBEq, Nat.reduceMul, Nat.reduceLT, Int.reduceLT, Int.reduceLE, Int.reduceToNat, Int.reduceNeg, Int.reduceEq, Int.reduceMul, reduceCtorEq, fn81, res81, gc81, grow81, ty3, ty4, ty71, ty101, loopRec, rangesOf, List.nil_append, List.append_nil, List.cons_append, List.getElem?_cons_zero, List.getElem?_cons_succ, Try.f81, hd, a0, a1, a2, a3, a4]

section
variable {σ : Type} (G : Nat → σ → Heap) (Inv : σ → Prop) (A : Nat) (frm : Nat) (fy : Fn) (first cap : List AV) (b0 : Nat) (c : Nat → Bool)

theorem f100_loop (hlen : ∀ j x, (G j x).length = b0) (hA : ∀ j x, (G j x)[A]? = some (.box (I frm))) (hfrm : frm ≤ 1000) (hfy : fnLt b0 fy = true) (hf1 : ltL b0 first = true) (hf2 : ltL b0 cap = true)
    (hstep : ∀ j x E, j ≤ frm → (∀ i, i < j → c i = true) → Inv x → ∃ x', Inv x' ∧ callVL cfg0 prog0 false fy (first ++ [I ((frm : Int) - j)]) cap (G j x ++ E) none = some ⟨.ret (.bool (c j)), G (j + 1) x' ++ E, none⟩) :
    ∀ (q j : Nat) (x : σ), j + q = frm + 1 → (∀ i, i < j → c i = true) → Inv x →
    ∃ x' E', Inv x' ∧ ∀ (E : Heap) (e : Env), e.get 0 = .func fy first cap → e.get 3 = I ((frm : Int) - j) →
      execL cfg0 prog0 ⟨100, none, false, b0⟩ (todoAt Try.f100 1) ⟨e, [], G j x ++ E, none⟩ = some ⟨.ret (.tup []), G (stopAt c j q) x' ++ E', none⟩ := by
  intro q
  induction q with
  | zero =>
    intro j x hj hre hx
    refine ⟨x, [], hx, ?_⟩
    intro E e g0 g3
    have hl := hlen j x
    have hc : ¬ 0 ≤ (frm : Int) - j := by omega
    simp only [stopAt]
    generalize G j x = G0 at *
    subst hl
    simp only [loopIt, todoPast, todoAt, todoOf, firstReg, ↓reduceIte, Option.some.injEq, Nat.reduceEqDiff, reduceCtorEq, Try.f100]
    rw [execL_inLoop]
    simp only [go_sem, ↓reduceIte, Nat.reduceEqDiff, Nat.reduceAdd, Nat.reduceLeDiff, Nat.reduceBEq, Nat.reduceMul, Nat.reduceLT, Int.reduceLT, Int.reduceLE, Int.reduceToNat, Int.reduceNeg, Int.reduceEq, Int.reduceMul, reduceCtorEq, fn100, res100, gc100_0, gc100_1, gc100_3, gc100_2, gcSt, keepEnv, envLt, heapLt, dfrLt, ADefer.lt, grow100, ty3, g0, g3, hfy, hf1, hf2, hc]
  | succ q ih =>
    intro j x hj hre hx
    obtain ⟨x1, hx1, hc1⟩ := hstep j x [] (by omega) hre hx
    simp only [List.append_nil] at hc1
    have hl := hlen j x
    have hl1 := hlen (j + 1) x1
    have hc : 0 ≤ (frm : Int) - j := by omega
    have e1 : IntKind.i64.wrap ((frm : Int) - j - 1) = (frm : Int) - ((j + 1 : Nat) : Int) := by rw [w64 (by omega) (by omega)]; omega
    cases hcj : c j with
    | false =>
      refine ⟨x1, [], hx1, ?_⟩
      intro E e g0 g3
      simp only [stopAt, hcj, Bool.false_eq_true, if_false]
      rw [hcj] at hc1
      generalize G (j + 1) x1 = G1 at *
      generalize G j x = G0 at *
      subst hl
      simp only [loopIt, todoPast, todoAt, todoOf, firstReg, ↓reduceIte, Option.some.injEq, Nat.reduceEqDiff, reduceCtorEq, Try.f100]
      rw [execL_inLoop]
      simp only [go_sem, ↓reduceIte, Nat.reduceEqDiff, Nat.reduceAdd, Nat.reduceLeDiff, Nat.reduceBEq, Nat.reduceMul, Nat.reduceLT, Int.reduceLT, Int.reduceLE, Int.reduceToNat, Int.reduceNeg, Int.reduceEq, Int.reduceMul, reduceCtorEq, fn100, res100, gc100_0, gc100_1, gc100_3, gc100_2, gcSt, keepEnv, envLt, heapLt, dfrLt, ADefer.lt, grow100, ty3, g0, g3, hfy, hf1, hf2, hc, hc1]
    | true =>
      obtain ⟨x', E', hx', hih⟩ := ih (j + 1) x1 (by omega) (reach hre hcj) hx1
      refine ⟨x', E', hx', ?_⟩
      intro E e g0 g3
      simp only [stopAt, hcj, if_true]
      have hih := hih []
      rw [List.append_nil] at hih
      rw [hcj] at hc1
      generalize G (j + 1) x1 = G1 at *
      generalize G j x = G0 at *
      subst hl
      simp only [loopIt, todoPast, todoAt, todoOf, firstReg, ↓reduceIte, Option.some.injEq, Nat.reduceEqDiff, reduceCtorEq, Try.f100]
      rw [execL_inLoop]
      simp only [go_sem, ↓reduceIte, Nat.reduceEqDiff, Nat.reduceAdd, Nat.reduceLeDiff, Nat.reduceBEq, Nat.reduceMul, Nat.reduceLT, Int.reduceLT, Int.reduceLE, Int.reduceToNat, Int.reduceNeg, Int.reduceEq, Int.reduceMul, reduceCtorEq, fn100, res100, gc100_0, gc100_1, gc100_3, gc100_2, gcSt, keepEnv, envLt, heapLt, dfrLt, ADefer.lt, grow100, ty3, g0, g3, hfy, hf1, hf2, hc, hc1, e1]
      exact hih _ (by rfl) (by rfl)

theorem f100 (hlen : ∀ j x, (G j x).length = b0) (hA : ∀ j x, (G j x)[A]? = some (.box (I frm))) (hfrm : frm ≤ 1000) (hfy : fnLt b0 fy = true) (hf1 : ltL b0 first = true) (hf2 : ltL b0 cap = true)
    (hstep : ∀ j x E, j ≤ frm → (∀ i, i < j → c i = true) → Inv x → ∃ x', Inv x' ∧ callVL cfg0 prog0 false fy (first ++ [I ((frm : Int) - j)]) cap (G j x ++ E) none = some ⟨.ret (.bool (c j)), G (j + 1) x' ++ E, none⟩) (x : σ) (hx : Inv x) :
    ∃ x', Inv x' ∧ callFL cfg0 prog0 false 100 [.func fy first cap, .ptr A 0] (G 0 x) none = some ⟨.ret (.tup []), G (stopAt c 0 (frm + 1)) x', none⟩ := by
  obtain ⟨x', E', hx', hr⟩ := f100_loop G Inv A frm fy first cap b0 c hlen hA hfrm hfy hf1 hf2 hstep (frm + 1) 0 x (by omega) (fun i hi' => by omega) hx
  refine ⟨x', hx', ?_⟩
  have hr := hr []
  rw [List.append_nil] at hr
  have hl := hlen 0 x
  have hl1 := hlen (stopAt c 0 (frm + 1)) x'
  have ha := hA 0 x
  generalize G (stopAt c 0 (frm + 1)) x' = G1 at *
  generalize G 0 x = G0 at *
  subst hl
  refine (callFL_eq fn100 rfl (by simp [Try.f100])).trans ?_
  simp only [go_sem, ↓reduceIte, Nat.reduceEqDiff, Nat.reduceAdd, Nat.reduceLeDiff, Nat.reduceBEq, Nat.reduceMul, Nat.reduceLT, Int.reduceLT, Int.reduceLE, Int.reduceToNat, Int.reduceNeg, Int.reduceEq, Int.reduceMul, reduceCtorEq, fn100, res100, gc100_0, gc100_1, gc100_3, gc100_2, gcSt, keepEnv, envLt, heapLt, dfrLt, ADefer.lt, grow100, ty3, ha]
  refine (congrArg (Option.map _) (hr _ (by rfl) (by simp [Env.get]))).trans ?_
  simp only [go_sem, ↓reduceIte, Nat.reduceEqDiff, Nat.reduceAdd, Nat.reduceLeDiff, Nat.reduceBEq, Nat.reduceMul, Nat.reduceLT, Int.reduceLT, Int.reduceLE, Int.reduceToNat, Int.reduceNeg, Int.reduceEq, Int.reduceMul, reduceCtorEq, ← hl1]
end

theorem f82 (n : Int) (H : Heap) : callFL cfg0 prog0 false 82 [I n] H none = some ⟨.ret (.func (.func 100) [] [.ptr H.length 0]), H ++ [.box (I n)], none⟩ := by
  refine (callFL_eq fn82 rfl (by simp [Try.f82])).trans ?_
  simp only [go_sem, ↓reduceIte, Nat.reduceEqDiff, Nat.reduceAdd, Nat.reduceLeDiff, Nat.reduceBEq, Nat.reduceMul, Nat.reduceLT, Int.reduceLT, Int.reduceLE, Int.reduceToNat, Int.reduceNeg, Int.reduceEq, Int.reduceMul, reduceCtorEq, fn82, res82, gc82, grow82, ty3]

/-- The first number of so many, from j on, that is so. -/
def findN (d : Nat → Bool) : Nat → Nat → Option Nat
  | _, 0 => none
  | j, m + 1 => if d j then some j else findN d (j + 1) m

theorem stop_find (d : Nat → Bool) : ∀ m j, (findN d j m = none ∧ stopAt (fun i => !d i) j m = j + m ∧ ∀ i, j ≤ i → i < j + m → d i = false) ∨ ∃ i, findN d j m = some i ∧ stopAt (fun i => !d i) j m = i + 1 ∧ d i = true ∧ j ≤ i ∧ i < j + m ∧ ∀ i', j ≤ i' → i' < i → d i' = false := by
  intro m
  induction m with
  | zero => intro j; exact .inl ⟨rfl, rfl, fun i h1 h2 => by omega⟩
  | succ m ih =>
    intro j
    simp only [findN, stopAt]
    by_cases hd : d j = true
    · exact .inr ⟨j, by simp [hd], by simp [hd], hd, by omega, by omega, fun i h1 h2 => by omega⟩
    · have hd : d j = false := by simpa using hd
      simp only [hd, Bool.false_eq_true, if_false, Bool.not_false, if_true]
      rcases ih (j + 1) with ⟨h1, h2, h3⟩ | ⟨i, h1, h2, h3, h4, h5, h6⟩
      · refine .inl ⟨h1, by omega, fun i hi1 hi2 => ?_⟩
        rcases Nat.lt_or_ge j i with h | h
        · exact h3 i h (by omega)
        · have : i = j := by omega
          subst this; exact hd
      · refine .inr ⟨i, h1, h2, h3, by omega, by omega, fun i' hi1 hi2 => ?_⟩
        rcases Nat.lt_or_ge j i' with h | h
        · exact h6 i' h hi2
        · have : i' = j := by omega
          subst this; exact hd

/-- The frame of 'first', in minutes. -/
noncomputable def tl81 (h : Nat) (is v7 v0 v1 : AV) (r : Option Int) : Heap :=
  match r with
  | none => [.box (.agg [is]), .box (I 0), .box (.bool false), .dfr, .loop (loopRec Try.f81 81 0 [(7, v7), (5, .ptr (h + 2) 0), (4, .ptr (h + 1) 0), (3, .ptr h 0), (0, v0), (1, v1)] (h + 3))]
  | some x => [.box (.agg [is]), .box (I x), .box (.bool true), .dfr, .loop { loopRec Try.f81 81 0 [(7, v7), (5, .ptr (h + 2) 0), (4, .ptr (h + 1) 0), (3, .ptr h 0), (0, v0), (1, v1)] (h + 3) with state := .done, pending := some .ret }]

noncomputable def tl81At (d : Nat → Bool) (frm : Nat) (j : Nat) : Option Int :=
  match j with
  | 0 => none
  | i + 1 => if d i then some ((frm : Int) - i) else none

theorem f81 {σ : Type} (H : σ → Heap) (Inv : σ → Prop) (h A frm : Nat) (fi : Fn) (caps : List AV) (d : Nat → Bool) (hlen : ∀ x, (H x).length = h) (hA : ∀ x, (H x)[A]? = some (.box (I frm))) (hfrm : frm ≤ 1000) (hfi : fnLt (h + 5) fi = true) (hcaps : ltL (h + 5) caps = true)
    (hd : ∀ j x E, j ≤ frm → Inv x → ∃ x', Inv x' ∧ callVL cfg0 prog0 false fi [I ((frm : Int) - j)] caps (H x ++ E) none = some ⟨.ret (.bool (d j)), H x' ++ E, none⟩) (x : σ) (hx : Inv x) :
    ∃ x', Inv x' ∧ callFL cfg0 prog0 false 81 [.func (.func 100) [] [.ptr A 0], .agg [.func fi [] caps]] (H x) none =
      some ⟨.ret (match findN d 0 (frm + 1) with | some i => .tup [I ((frm : Int) - i), .bool true] | none => .tup [I 0, .bool false]), H x', none⟩ := by
  have hAl : ∀ x, A < (H x).length := fun x => (List.getElem?_eq_some_iff.1 (hA x)).1
  obtain ⟨x', hx', hr⟩ := f100 (fun j x => H x ++ tl81 h (.func fi [] caps) (.func (.func 100) [] [.ptr A 0]) (.func (.func 100) [] [.ptr A 0]) (.agg [.func fi [] caps]) (tl81At d frm j)) Inv A frm (.yield (h + 4)) [] [] (h + 5) (fun j => !d j)
    (fun j x => by simp only [List.length_append, hlen]; unfold tl81; split <;> rfl) (fun j x => by rw [get_lt (hAl x)]; exact hA x) hfrm (by simp [fnLt]) rfl rfl (by
      intro j y E hj hre hy
      obtain ⟨y', hy', hy2⟩ := hd j y (busy81 h (.func fi [] caps) (.func (.func 100) [] [.ptr A 0]) (.func (.func 100) [] [.ptr A 0]) (.agg [.func fi [] caps]) ++ E) hj hy
      refine ⟨y', hy', ?_⟩
      have h0 : tl81At d frm j = none := by
        cases j with
        | zero => rfl
        | succ i =>
          have := hre i (by omega)
          simp only [tl81At]
          rw [if_neg (by simpa using this)]
      have hs := firstI_step (H y) (H y') E h (hlen y) (hlen y') fi caps ((frm : Int) - j) (d j) (.func (.func 100) [] [.ptr A 0]) (.func (.func 100) [] [.ptr A 0]) (.agg [.func fi [] caps]) hy2
      simp only [List.nil_append, h0, List.append_assoc, tl81] at hs ⊢
      rw [hs]
      cases hdj : d j <;> simp [tl81At, hdj]) x hx
  refine ⟨x', hx', ?_⟩
  have hl := hlen x
  have hl' := hlen x'
  have a0 : ∀ E, (H x' ++ E)[h]? = E[0]? := fun E => by rw [← hl']; exact get_at
  have a1 : ∀ n E, (H x' ++ E)[h + n]? = E[n]? := fun n E => by rw [← hl']; exact get_at' n
  have a2 : ∀ o E, (H x' ++ E).set h o = H x' ++ E.set 0 o := fun o E => by rw [← hl']; exact set_at
  have a3 : ∀ n o E, (H x' ++ E).set (h + n) o = H x' ++ E.set n o := fun n o E => by rw [← hl']; exact set_at' n
  have a4 : ∀ E, (H x' ++ E).take h = H x' := fun E => by rw [← hl']; exact List.take_left
  refine (callFL_eq fn81 rfl (by simp [Try.f81])).trans ?_
  rcases stop_find d (frm + 1) 0 with ⟨h1, h2, h3⟩ | ⟨i, h1, h2, h3, h4, h5, h6⟩
  · rw [h2] at hr
    have ht : tl81At d frm (0 + (frm + 1)) = none := by
      rw [Nat.zero_add]; simp only [tl81At]; rw [if_neg (by simp [h3 frm (by omega) (by omega)])]
    rw [ht, show tl81At d frm 0 = none from rfl] at hr
    simp only [tl81, loopRec, rangesOf, List.nil_append, List.append_nil, List.cons_append, List.getElem?_cons_zero, List.getElem?_cons_succ, Try.f81] at hr
    simp only [h1]
    generalize H x' = G1 at *
    generalize H x = G0 at *
    subst hl
    simp only [go_sem, ↓reduceIte, Nat.reduceEqDiff, Nat.reduceAdd, Nat.reduceLeDiff, Nat.reduceBEq, Nat.reduceMul, Nat.reduceLT, Int.reduceLT, Int.reduceLE, Int.reduceToNat, Int.reduceNeg, Int.reduceEq, Int.reduceMul, reduceCtorEq, fn81, res81, gc81, grow81, ty3, ty4, ty71, ty101, hr, a0, a1, a2, a3, a4]
  · rw [h2] at hr
    have ht : tl81At d frm (i + 1) = some ((frm : Int) - i) := by simp only [tl81At, h3, if_true]
    rw [ht, show tl81At d frm 0 = none from rfl] at hr
    simp only [tl81, loopRec, rangesOf, List.nil_append, List.append_nil, List.cons_append, List.getElem?_cons_zero, List.getElem?_cons_succ, Try.f81] at hr
    simp only [h1]
    generalize H x' = G1 at *
    generalize H x = G0 at *
    subst hl
    simp only [go_sem, ↓reduceIte, Nat.reduceEqDiff, Nat.reduceAdd, Nat.reduceLeDiff, Nat.reduceBEq, Nat.reduceMul, Nat.reduceLT, Int.reduceLT, Int.reduceLE, Int.reduceToNat, Int.reduceNeg, Int.reduceEq, Int.reduceMul, reduceCtorEq, fn81, res81, gc81, grow81, ty3, ty4, ty71, ty101, hr, a0, a1, a2, a3, a4]


variable {H : Heap} {L M : Nat} {vb vt : AV} {s : Stl} {es : List (AV × AV)}

noncomputable def tl60 (h : Nat) (is v7 v0 v1 : AV) (r : Option (Int × Int)) : Heap :=
  match r with
  | none => [.box (.agg [is]), .box (.agg [I 0, I 0]), .box (.bool false), .dfr, .loop (loopRec Try.f60 60 0 [(7, v7), (5, .ptr (h + 2) 0), (4, .ptr (h + 1) 0), (3, .ptr h 0), (0, v0), (1, v1)] (h + 3))]
  | some (x, y) => [.box (.agg [is]), .box (.agg [I x, I y]), .box (.bool true), .dfr, .loop { loopRec Try.f60 60 0 [(7, v7), (5, .ptr (h + 2) 0), (4, .ptr (h + 1) 0), (3, .ptr h 0), (0, v0), (1, v1)] (h + 3) with state := .done, pending := some .ret }]

noncomputable def tl60At (d : Nat → Bool) (f g : Nat → Int) (j : Nat) : Option (Int × Int) :=
  match j with
  | 0 => none
  | i + 1 => if d i then some (f i, g i) else none

theorem f60 (hs : s.Wf) (blk : Int) (b : Blk) (h0 : 0 ≤ blk) (hb : s.bs[blk.toNat]? = some b) (A m : Nat) (hm : m ≤ 60) (n : Nat) (hn : b.s0 + n = b.s1 + 1) (hi : ItOk H L M vb vt s es A blk m) (hg : Good s es) (fi : Fn) (caps : List AV) (d : Nat → Bool)
    (hd : ∀ j es E, callVL cfg0 prog0 false fi [spanAt s blk b m j] caps (H.set M (.map 114 es) ++ E) none = some ⟨.ret (.bool (d j)), H.set M (.map 114 es) ++ E, none⟩) :
    ∃ es' x y, Good s es' ∧ callFL cfg0 prog0 false 60 [.func (.func 93) [] [.ptr A 0, .ptr (A + 1) 0, .ptr (A + 2) 0], .agg [.func fi [] caps]] H none =
      some ⟨.ret (.tup [.agg [I x, I y], .bool (findN d 0 n).isSome]), H.set M (.map 114 es'), none⟩ := by
  obtain ⟨es', hg', hr⟩ := f93 hs blk b h0 hb A m hm (.yield (H.length + 4)) [] []
    (fun j => tl60 H.length (.func fi [] caps) (.func (.func 93) [] [.ptr A 0, .ptr (A + 1) 0, .ptr (A + 2) 0]) (.func (.func 93) [] [.ptr A 0, .ptr (A + 1) 0, .ptr (A + 2) 0]) (.agg [.func fi [] caps]) (tl60At d (fun j => exc s.ts blk (b.x 0) (b.s0 + j) 0 m) (fun j => exc s.ts blk (b.x 1) (b.s0 + j) 1 m) j))
    (H.length + 5) (fun j => by simp only [tl60]; split <;> rfl) (fun j => !d j) n hn (by simp [fnLt]) rfl rfl (by
      intro j es1 E hj hre hg1
      refine ⟨es1, hg1, ?_⟩
      have h0 : tl60At d (fun j => exc s.ts blk (b.x 0) (b.s0 + j) 0 m) (fun j => exc s.ts blk (b.x 1) (b.s0 + j) 1 m) j = none := by
        cases j with
        | zero => rfl
        | succ i =>
          have := hre i (by omega)
          simp only [tl60At]
          rw [if_neg (by simpa using this)]
      have hs := first_step (H.set M (.map 114 es1)) E H.length (by simp) fi caps (exc s.ts blk (b.x 0) (b.s0 + j) 0 m) (exc s.ts blk (b.x 1) (b.s0 + j) 1 m) (d j) (.func (.func 93) [] [.ptr A 0, .ptr (A + 1) 0, .ptr (A + 2) 0]) (.func (.func 93) [] [.ptr A 0, .ptr (A + 1) 0, .ptr (A + 2) 0]) (.agg [.func fi [] caps]) (fun E => hd j es1 E)
      simp only [List.nil_append, h0, tl60, spanAt] at hs ⊢
      rw [hs]
      by_cases hdj : d j = true
      · simp [tl60At, hdj]
      · have hdj : d j = false := by simpa using hdj
        simp [tl60At, hdj]) hi hg
  rw [set_self hi.pl.mp] at hr
  rcases stop_find d n 0 with ⟨h1, h2, h3⟩ | ⟨i, h1, h2, h3, h4, h5, h6⟩
  · refine ⟨es', 0, 0, hg', ?_⟩
    rw [h2] at hr
    have ht : tl60At d (fun j => exc s.ts blk (b.x 0) (b.s0 + j) 0 m) (fun j => exc s.ts blk (b.x 1) (b.s0 + j) 1 m) (0 + n) = none := by
      rw [Nat.zero_add]
      cases n with
      | zero => rfl
      | succ n => simp only [tl60At]; rw [if_neg (by simp [h3 n (by omega) (by omega)])]
    rw [ht, show tl60At d (fun j => exc s.ts blk (b.x 0) (b.s0 + j) 0 m) (fun j => exc s.ts blk (b.x 1) (b.s0 + j) 1 m) 0 = none from rfl] at hr
    simp only [tl60, loopRec, rangesOf, List.nil_append, List.append_nil, List.cons_append, List.getElem?_cons_zero, List.getElem?_cons_succ, Try.f60] at hr
    simp only [h1, Option.isSome_none]
    refine (callFL_eq fn60 rfl (by simp [Try.f60])).trans ?_
    simp only [go_sem, ↓reduceIte, Nat.reduceEqDiff, Nat.reduceAdd, Nat.reduceLeDiff, Nat.reduceBEq, Nat.reduceMul, Nat.reduceLT, Int.reduceLT, Int.reduceLE, Int.reduceToNat, Int.reduceNeg, Int.reduceEq, Int.reduceMul, reduceCtorEq, fn60, res60, gc60, grow60, ty3, ty4, ty29, ty88, ty90, hr]
  · refine ⟨es', exc s.ts blk (b.x 0) (b.s0 + i) 0 m, exc s.ts blk (b.x 1) (b.s0 + i) 1 m, hg', ?_⟩
    rw [h2] at hr
    have ht : tl60At d (fun j => exc s.ts blk (b.x 0) (b.s0 + j) 0 m) (fun j => exc s.ts blk (b.x 1) (b.s0 + j) 1 m) (i + 1) = some (exc s.ts blk (b.x 0) (b.s0 + i) 0 m, exc s.ts blk (b.x 1) (b.s0 + i) 1 m) := by simp only [tl60At, h3, if_true]
    rw [ht, show tl60At d (fun j => exc s.ts blk (b.x 0) (b.s0 + j) 0 m) (fun j => exc s.ts blk (b.x 1) (b.s0 + j) 1 m) 0 = none from rfl] at hr
    simp only [tl60, loopRec, rangesOf, List.nil_append, List.append_nil, List.cons_append, List.getElem?_cons_zero, List.getElem?_cons_succ, Try.f60] at hr
    simp only [h1, Option.isSome_some]
    refine (callFL_eq fn60 rfl (by simp [Try.f60])).trans ?_
    simp only [go_sem, ↓reduceIte, Nat.reduceEqDiff, Nat.reduceAdd, Nat.reduceLeDiff, Nat.reduceBEq, Nat.reduceMul, Nat.reduceLT, Int.reduceLT, Int.reduceLE, Int.reduceToNat, Int.reduceNeg, Int.reduceEq, Int.reduceMul, reduceCtorEq, fn60, res60, gc60, grow60, ty3, ty4, ty29, ty88, ty90, hr]

theorem f61 (hp : PlOk H L M vb vt s es) (hn : 0 ≤ s.near ∧ s.near ≤ 20) (P : Nat) (hP : H[P]? = some (.box (.ptr L 0))) (x y : Int) : callFL cfg0 prog0 false 61 [.agg [I x, I y], .ptr P 0] H none = some ⟨.ret (.bool (decide (x ≤ s.near) && decide (-s.near ≤ y))), H, none⟩ := by
  have hPl : P < H.length := (List.getElem?_eq_some_iff.1 hP).1
  have e1 : IntKind.i64.wrap (0 - s.near) = -s.near := by rw [w64 (by omega) (by omega)]; omega
  refine (callFL_eq fn61 rfl (by simp [Try.f61])).trans ?_
  simp only [go_sem, ↓reduceIte, Nat.reduceEqDiff, Nat.reduceAdd, Nat.reduceLeDiff, Nat.reduceBEq, Nat.reduceMul, Nat.reduceLT, Int.reduceLT, Int.reduceLE, Int.reduceToNat, Int.reduceNeg, Int.reduceEq, Int.reduceMul, reduceCtorEq, fn61, res61, gc61, grow61, ty3, ty22, ty23, ty25, ty29, ty56, ty63, ty69, ty80, ty82, ty83, ty114, plan61_1]
  rw [chkK_of]; rotate_left; kernel_rfl
  by_cases h1 : x ≤ s.near <;> simp only [go_sem, ↓reduceIte, Nat.reduceEqDiff, Nat.reduceAdd, Nat.reduceLeDiff, Nat.reduceBEq, Nat.reduceMul, Nat.reduceLT, Int.reduceLT, Int.reduceLE, Int.reduceToNat, Int.reduceNeg, Int.reduceEq, Int.reduceMul, reduceCtorEq, fn61, res61, gc61, grow61, ty3, ty22, ty23, ty25, ty29, ty56, ty63, ty69, ty80, ty82, ty83, ty114, plan61_1, get_lt hPl, hP, get_lt hp.hL, hp.box, h1, e1]

theorem f99 (hs : s.Wf) (blk : Int) (b : Blk) (h0 : 0 ≤ blk) (hb : s.bs[blk.toNat]? = some b) (m : Nat) (hm : m ≤ 60) (hp : PlOk H L M vb vt s es) (hg : Good s es) (A B : Nat) (hA : H[A]? = some (.box (.ptr L 0))) (hB : H[B]? = some (.box (I blk))) :
    ∃ es', Good s es' ∧ callFL cfg0 prog0 false 99 [I m, .ptr A 0, .ptr B 0] H none = some ⟨.ret (.bool (!settl s blk b m)), H.set M (.map 114 es'), none⟩ := by
  obtain ⟨es', hg', hr⟩ := f59 hs blk b h0 hb m hm hp hg
  refine ⟨es', hg', ?_⟩
  refine (callFL_eq fn99 rfl (by simp [Try.f99])).trans ?_
  simp only [go_sem, ↓reduceIte, Nat.reduceEqDiff, Nat.reduceAdd, Nat.reduceLeDiff, Nat.reduceBEq, Nat.reduceMul, Nat.reduceLT, Int.reduceLT, Int.reduceLE, Int.reduceToNat, Int.reduceNeg, Int.reduceEq, Int.reduceMul, reduceCtorEq, fn99, res99, gc99, grow99, ty3, ty69, hA, hB, hr]

/-- From when on a block surely has settled, if so. -/
def whenR (s : Stl) (blk : Int) (b : Blk) : Option Int :=
  match findN (fun j => !settl s blk b (s.last.toNat - j)) 0 (s.last.toNat + 1) with
  | none => some 0
  | some i => if s.last - i < s.last then some (s.last - i + 1) else none

theorem f66 (hs : s.Wf) (blk : Int) (b : Blk) (h0 : 0 ≤ blk) (hb : s.bs[blk.toNat]? = some b) (hp : PlOk H L M vb vt s es) (hg : Good s es) :
    ∃ es', Good s es' ∧ callFL cfg0 prog0 false 66 [.ptr L 0, I blk] H none = some ⟨match whenR s blk b with | some w => .ret (I w) | none => .pan (.iface 109 (.agg [I 4])), H.set M (.map 114 es'), none⟩ := by
  obtain ⟨l, hl⟩ : ∃ l : Nat, s.last = l := ⟨s.last.toNat, by have := hs.last; omega⟩
  have hlb := hs.last
  have hL := hp.hL
  have hM := hp.hM
  obtain ⟨es', hg', hr⟩ := f81 (fun es => H.set M (.map 114 es) ++ [.box (.ptr L 0), .box (I blk), .box (I s.last)]) (Good s) (H.length + 3) (H.length + 2) l (.func 99) [.ptr H.length 0, .ptr (H.length + 1) 0] (fun j => !settl s blk b (l - j))
    (fun es => by simp) (fun es => by simp only [get_atS', hl]; rfl) (by omega) rfl (by simp [ltL, AV.lt]; omega) (by
      intro j es1 E hj hg1
      have hpl := ((hp.set es1).app [.box (.ptr L 0), .box (I blk), .box (I s.last)]).app E
      have hM1 : M < (H.set M (.map 114 es1)).length := by simpa using hM
      obtain ⟨es2, hg2, h2⟩ := f99 hs blk b h0 hb (l - j) (by omega) hpl hg1 H.length (H.length + 1) (by rw [List.append_assoc, get_atS]; rfl) (by rw [List.append_assoc, get_atS']; rfl)
      refine ⟨es2, hg2, ?_⟩
      rw [callVL_func, show (l : Int) - j = ((l - j : Nat) : Int) by omega]
      refine h2.trans ?_
      rw [List.append_assoc, set_lt hM1, List.set_set, List.append_assoc]) es hg
  refine ⟨es', hg', ?_⟩
  rw [set_self hp.mp] at hr
  have h82 := f82 s.last (H ++ [.box (.ptr L 0), .box (I blk)])
  simp only [pl4, List.append_assoc, List.cons_append, List.nil_append, List.append_nil, List.length_append, List.length_cons, List.length_nil, Nat.zero_add, Nat.add_zero, Nat.add_assoc, Nat.reduceAdd, set_at, set_at', List.set_cons_zero, List.set_cons_succ] at h82
  have hL' : L < (H.set M (.map 114 es')).length := by simpa using hL
  have hbx := (hp.set es').box
  have hbo := hp.box
  simp only [hl] at h82 hr hbx hbo
  simp only [whenR, hl, Int.toNat_natCast]
  refine (callFL_eq fn66 rfl (by simp [Try.f66])).trans ?_
  cases hf : findN (fun j => !settl s blk b (l - j)) 0 (l + 1) with
  | none =>
    rw [hf] at hr
    simp only [go_sem, ↓reduceIte, Nat.reduceEqDiff, Nat.reduceAdd, Nat.reduceLeDiff, Nat.reduceBEq, Nat.reduceMul, Nat.reduceLT, Int.reduceLT, Int.reduceLE, Int.reduceToNat, Int.reduceNeg, Int.reduceEq, Int.reduceMul, reduceCtorEq, fn66, res66, gc66, grow66, ty3, ty4, ty22, ty23, ty25, ty29, ty30, ty56, ty63, ty69, ty71, ty80, ty82, ty83, ty97, ty101, ty114, get_lt hL, hbo, h82, hr]
  | some i =>
    rw [hf] at hr
    have hil : i ≤ l := by
      rcases stop_find (fun j => !settl s blk b (l - j)) (l + 1) 0 with ⟨h1, _⟩ | ⟨i', h1, _, _, _, h5, _⟩
      · rw [h1] at hf; cases hf
      · rw [h1] at hf; cases hf; omega
    have e1 : IntKind.i64.wrap ((l : Int) - i + 1) = (l : Int) - i + 1 := w64 (by omega) (by omega)
    by_cases hlt : (l : Int) - i < l
    · simp only [go_sem, ↓reduceIte, Nat.reduceEqDiff, Nat.reduceAdd, Nat.reduceLeDiff, Nat.reduceBEq, Nat.reduceMul, Nat.reduceLT, Int.reduceLT, Int.reduceLE, Int.reduceToNat, Int.reduceNeg, Int.reduceEq, Int.reduceMul, reduceCtorEq, fn66, res66, gc66, grow66, ty3, ty4, ty22, ty23, ty25, ty29, ty30, ty56, ty63, ty69, ty71, ty80, ty82, ty83, ty97, ty101, ty114, get_lt hL, hbo, h82, hr, get_lt hL', hbx, hl, f85t, f85f, hlt, e1]
    · simp only [go_sem, ↓reduceIte, Nat.reduceEqDiff, Nat.reduceAdd, Nat.reduceLeDiff, Nat.reduceBEq, Nat.reduceMul, Nat.reduceLT, Int.reduceLT, Int.reduceLE, Int.reduceToNat, Int.reduceNeg, Int.reduceEq, Int.reduceMul, reduceCtorEq, fn66, res66, gc66, grow66, ty3, ty4, ty22, ty23, ty25, ty29, ty30, ty56, ty63, ty69, ty71, ty80, ty82, ty83, ty97, ty101, ty114, get_lt hL, hbo, h82, hr, get_lt hL', hbx, hl, f85t, f85f, hlt, e1]

end Go.Ab
/-
  The layer settle: the rest of its exported functions, walked.
-/
namespace Go.Ab
open Go.Proofs
set_option linter.unusedSimpArgs false
set_option linter.unusedVariables false

variable {H : Heap} {L M : Nat} {vb vt : AV} {s : Stl} {es : List (AV × AV)}

theorem loS_bd {f : Nat → Int} {B : Int} (hB : 0 ≤ B) (h : ∀ j, -B ≤ f j ∧ f j ≤ B) : ∀ n, -B ≤ loS f n ∧ loS f n ≤ B
  | 0 => by simp only [loS]; omega
  | n + 1 => by
    simp only [loS]
    have := h n; have := h 0; have := loS_bd hB h n
    split
    · omega
    · split <;> omega

theorem hiS_bd {f : Nat → Int} {B : Int} (hB : 0 ≤ B) (h : ∀ j, -B ≤ f j ∧ f j ≤ B) : ∀ n, -B ≤ hiS f n ∧ hiS f n ≤ B
  | 0 => by simp only [hiS]; omega
  | n + 1 => by
    simp only [hiS]
    have := h n; have := h 0; have := hiS_bd hB h n
    split
    · omega
    · split <;> omega

theorem warm_bd (hs : s.Wf) {blk : Int} {b : Blk} (hb : s.bs[blk.toNat]? = some b) {m : Nat} (hm : m ≤ 60) : (-43000 ≤ warmLo s blk b m ∧ warmLo s blk b m ≤ 43000) ∧ (-43000 ≤ warmHi s blk b m ∧ warmHi s blk b m ≤ 43000) := by
  have hbo := hs.bs b (List.mem_of_getElem? hb)
  have key : ∀ e : Int, ∀ j : Nat, -43000 ≤ exc s.ts blk (b.x e) (b.s0 + j) e m ∧ exc s.ts blk (b.x e) (b.s0 + j) e m ≤ 43000 := by
    intro e j
    have hbb : -100 ≤ b.x e ∧ b.x e ≤ 100 := by have := hbo.a1; have := hbo.a2; have := hbo.a3; simp only [Blk.x]; constructor <;> split <;> omega
    have := exc_bd (blk := blk) (e := e) hs.ts hs.len hbb (show 1 ≤ b.s0 + (j : Int) by have := hbo.a4; omega) m
    omega
  exact ⟨loS_bd (by omega) (key 0) _, hiS_bd (by omega) (key 1) _⟩

def mn (a b : Int) : Int := if b < a then b else a
def mx (a b : Int) : Int := if a < b then b else a

/-- What Longer tells. -/
def Stl.longer (s : Stl) (n m : Int) : Int × Int × Int :=
  if s.valid then (if s.inB n && s.inM m then
    (mn (downZ (warmLo s n (s.blk n) m.toNat * (s.blk n).g0)) (downZ (warmLo s n (s.blk n) m.toNat * (s.blk n).g1)),
     mx (downZ (warmHi s n (s.blk n) m.toNat * (s.blk n).g0)) (downZ (warmHi s n (s.blk n) m.toNat * (s.blk n).g1)), 0) else (0, 0, 2)) else (0, 0, 1)

theorem mul_bd {x g : Int} (hx : -43000 ≤ x ∧ x ≤ 43000) (hg : 0 ≤ g ∧ g ≤ 20) : -1000000 ≤ x * g ∧ x * g ≤ 1000000 := by
  have h1 : x * g ≤ 43000 * g := Int.mul_le_mul_of_nonneg_right hx.2 hg.1
  have h2 : -43000 * g ≤ x * g := Int.mul_le_mul_of_nonneg_right hx.1 hg.1
  omega

theorem f16 (s : Stl) (hvb : SlOk H 6 vb (s.bs.map Blk.av)) (hvt : SlOk H 4 vt (s.ts.map Tch.av)) (hl : s.bs.length ≤ 1000) (hl2 : s.ts.length ≤ 1000) (n m : Int) :
    callFL cfg0 prog0 false 16 [.agg [vb, I s.near, I s.last, vt], I n, I m] H none = some ⟨.ret (.tup [.agg [I (s.longer n m).1, I (s.longer n m).2.1], I (s.longer n m).2.2]), H, none⟩ := by
  have sb := hvb.scal
  have st := hvt.scal
  have hp := pl4_ok (H ++ [.box (.agg [vb, I s.near, I s.last, vt]), .box (I n), .box (I m), .box (.agg [I 0, I 0]), .box (I 0)]) vb vt s (hvb.app _) (hvt.app _)
  have h42 := f42 (H ++ [.box (.agg [vb, I s.near, I s.last, vt]), .box (I n), .box (I m), .box (.agg [I 0, I 0]), .box (I 0)]) vb vt s 53 [.ptr (H.length + 1) 0, .ptr (H.length + 2) 0] (s.inB n && s.inM m) (hvb.app _) (hvt.app _) hl hl2
    (fun N => by simp [ltL, AV.lt]; omega) (f53 hp hl _ _ n m (by simp [pl4, List.append_assoc, List.cons_append, List.nil_append, List.append_nil, List.length_append, List.length_cons, List.length_nil, Nat.zero_add, Nat.add_zero, Nat.add_assoc, Nat.reduceAdd, set_at, set_at', List.set_cons_zero, List.set_cons_succ, get_at']) (by simp [pl4, List.append_assoc, List.cons_append, List.nil_append, List.append_nil, List.length_append, List.length_cons, List.length_nil, Nat.zero_add, Nat.add_zero, Nat.add_assoc, Nat.reduceAdd, set_at, set_at', List.set_cons_zero, List.set_cons_succ, get_at']))
  simp only [pl4, List.append_assoc, List.cons_append, List.nil_append, List.append_nil, List.length_append, List.length_cons, List.length_nil, Nat.zero_add, Nat.add_zero, Nat.add_assoc, Nat.reduceAdd, set_at, set_at', List.set_cons_zero, List.set_cons_succ] at h42
  have h52 := fun e => f52s (H.length + 4) e 0 (H ++ [.box (.agg [vb, I s.near, I s.last, vt]), .box (I n), .box (I m), .box (.agg [I 0, I 0]), .box (I 0)]) (by simp [get_at'])
  refine (callFL_eq fn16 rfl (by simp [Try.f16])).trans ?_
  simp only [Stl.longer]
  cases hv : s.valid with
  | false =>
    simp only [hv, Bool.false_eq_true, ↓reduceIte] at h42
    simp only [go_sem, ↓reduceIte, Nat.reduceEqDiff, Nat.reduceAdd, Nat.reduceLeDiff, Nat.reduceBEq, Nat.reduceMul, Nat.reduceLT, Int.reduceLT, Int.reduceLE, Int.reduceToNat, Int.reduceNeg, Int.reduceEq, Int.reduceMul, reduceCtorEq, fn16, res16, gc16, grow16, ty3, ty22, ty23, ty25, ty29, ty30, ty56, ty63, ty69, ty72, ty75, ty80, ty82, ty83, ty114, plan16_3, plan16_4, plan16_5, sb, st, h42, h52]
  | true =>
    cases hc : (s.inB n && s.inM m) with
    | false =>
      simp only [hv, hc, Bool.false_eq_true, ↓reduceIte] at h42
      simp only [go_sem, ↓reduceIte, Nat.reduceEqDiff, Nat.reduceAdd, Nat.reduceLeDiff, Nat.reduceBEq, Nat.reduceMul, Nat.reduceLT, Int.reduceLT, Int.reduceLE, Int.reduceToNat, Int.reduceNeg, Int.reduceEq, Int.reduceMul, reduceCtorEq, fn16, res16, gc16, grow16, ty3, ty22, ty23, ty25, ty29, ty30, ty56, ty63, ty69, ty72, ty75, ty80, ty82, ty83, ty114, plan16_3, plan16_4, plan16_5, sb, st, h42, h52]
    | true =>
      have hw := Stl.valid_wf hv
      simp only [Bool.and_eq_true] at hc
      obtain ⟨h0, hb⟩ := Stl.inB_blk hc.1
      obtain ⟨mm, rfl, hmm⟩ := Stl.inM_nat hw hc.2
      have hbo := hw.bs _ (List.mem_of_getElem? hb)
      obtain ⟨es', hg', hr⟩ := f46 hw n (s.blk n) h0 hb _ mm hmm (s.blk n).n hbo.hn (spans_it (hp.app [.box (.agg [I 0, I 0]), .box (.agg [I 0, I 0])]) n mm) (Good.nil s)
      change callFL cfg0 prog0 false 46 _ _ none = some ⟨.ret (.agg [I (warmLo s n (s.blk n) mm), I (warmHi s n (s.blk n) mm)]), _, _⟩ at hr
      have h47 := f47 n mm (hp.app [.box (.agg [I 0, I 0]), .box (.agg [I 0, I 0])]).hL
      simp only [pl4, List.append_assoc, List.cons_append, List.nil_append, List.append_nil, List.length_append, List.length_cons, List.length_nil, Nat.zero_add, Nat.add_zero, Nat.add_assoc, Nat.reduceAdd, set_at, set_at', List.set_cons_zero, List.set_cons_succ] at hr h47
      simp only [hv, hc, Bool.and_self, ↓reduceIte] at h42
      obtain ⟨hlo, hhi⟩ := warm_bd hw hb hmm
      have g0b : 0 ≤ (s.blk n).g0 ∧ (s.blk n).g0 ≤ 20 := by have := hbo.a7; have := hbo.a8; have := hbo.a9; omega
      have g1b : 0 ≤ (s.blk n).g1 ∧ (s.blk n).g1 ≤ 20 := by have := hbo.a7; have := hbo.a8; have := hbo.a9; omega
      have d1 := fun G => f54 (warmLo s n (s.blk n) mm) (s.blk n).g0 G (mul_bd hlo g0b).1 (mul_bd hlo g0b).2
      have d2 := fun G => f54 (warmLo s n (s.blk n) mm) (s.blk n).g1 G (mul_bd hlo g1b).1 (mul_bd hlo g1b).2
      have d3 := fun G => f54 (warmHi s n (s.blk n) mm) (s.blk n).g0 G (mul_bd hhi g0b).1 (mul_bd hhi g0b).2
      have d4 := fun G => f54 (warmHi s n (s.blk n) mm) (s.blk n).g1 G (mul_bd hhi g1b).1 (mul_bd hhi g1b).2
      obtain ⟨-, -, a3, a4, a5⟩ := hvb.at (k := n) (x := Blk.av (s.blk n)) h0 (by simp [hb])
      simp only [go_sem, ↓reduceIte, Nat.reduceEqDiff, Nat.reduceAdd, Nat.reduceLeDiff, Nat.reduceBEq, Nat.reduceMul, Nat.reduceLT, Int.reduceLT, Int.reduceLE, Int.reduceToNat, Int.reduceNeg, Int.reduceEq, Int.reduceMul, reduceCtorEq, fn16, res16, gc16, grow16, ty3, ty22, ty23, ty25, ty29, ty30, ty56, ty63, ty69, ty72, ty75, ty80, ty82, ty83, ty114, plan16_3, plan16_4, plan16_5, sb, st, h42]
      rw [chkK_of]; rotate_left; kernel_rfl
      have hel : ptrOf (elA vb n 4) = gslOf vb := ptrOf_elA hvb
      rcases hvb.obj with hg | ⟨l, hg, hlt, hget⟩
      · simp only [go_sem, ↓reduceIte, Nat.reduceEqDiff, Nat.reduceAdd, Nat.reduceLeDiff, Nat.reduceBEq, Nat.reduceMul, Nat.reduceLT, Int.reduceLT, Int.reduceLE, Int.reduceToNat, Int.reduceNeg, Int.reduceEq, Int.reduceMul, reduceCtorEq, fn16, res16, gc16, grow16, ty3, ty22, ty23, ty25, ty29, ty30, ty56, ty63, ty69, ty72, ty75, ty80, ty82, ty83, ty114, plan16_3, plan16_4, plan16_5, sb, st, h47, hr, a3, a4, a5, Blk.av, hel, hg]
        rw [chkK_of]; rotate_left; kernel_rfl
        simp only [go_sem, ↓reduceIte, Nat.reduceEqDiff, Nat.reduceAdd, Nat.reduceLeDiff, Nat.reduceBEq, Nat.reduceMul, Nat.reduceLT, Int.reduceLT, Int.reduceLE, Int.reduceToNat, Int.reduceNeg, Int.reduceEq, Int.reduceMul, reduceCtorEq, fn16, res16, gc16, grow16, ty3, ty22, ty23, ty25, ty29, ty30, ty56, ty63, ty69, ty72, ty75, ty80, ty82, ty83, ty114, plan16_3, plan16_4, plan16_5]
        rw [chkK_of]; rotate_left; kernel_rfl
        simp only [go_sem, ↓reduceIte, Nat.reduceEqDiff, Nat.reduceAdd, Nat.reduceLeDiff, Nat.reduceBEq, Nat.reduceMul, Nat.reduceLT, Int.reduceLT, Int.reduceLE, Int.reduceToNat, Int.reduceNeg, Int.reduceEq, Int.reduceMul, reduceCtorEq, fn16, res16, gc16, grow16, ty3, ty22, ty23, ty25, ty29, ty30, ty56, ty63, ty69, ty72, ty75, ty80, ty82, ty83, ty114, plan16_3, plan16_4, plan16_5, d1, d2, d3, d4, f52n, Int.toNat_natCast, mn, mx]
      · simp only [go_sem, ↓reduceIte, Nat.reduceEqDiff, Nat.reduceAdd, Nat.reduceLeDiff, Nat.reduceBEq, Nat.reduceMul, Nat.reduceLT, Int.reduceLT, Int.reduceLE, Int.reduceToNat, Int.reduceNeg, Int.reduceEq, Int.reduceMul, reduceCtorEq, fn16, res16, gc16, grow16, ty3, ty22, ty23, ty25, ty29, ty30, ty56, ty63, ty69, ty72, ty75, ty80, ty82, ty83, ty114, plan16_3, plan16_4, plan16_5, sb, st, h47, hr, a3, a4, a5, Blk.av, hel, hg, get_lt hlt, hget]
        rw [chkK_of]; rotate_left; kernel_rfl
        simp only [go_sem, ↓reduceIte, Nat.reduceEqDiff, Nat.reduceAdd, Nat.reduceLeDiff, Nat.reduceBEq, Nat.reduceMul, Nat.reduceLT, Int.reduceLT, Int.reduceLE, Int.reduceToNat, Int.reduceNeg, Int.reduceEq, Int.reduceMul, reduceCtorEq, fn16, res16, gc16, grow16, ty3, ty22, ty23, ty25, ty29, ty30, ty56, ty63, ty69, ty72, ty75, ty80, ty82, ty83, ty114, plan16_3, plan16_4, plan16_5]
        rw [chkK_of]; rotate_left; kernel_rfl
        simp only [go_sem, ↓reduceIte, Nat.reduceEqDiff, Nat.reduceAdd, Nat.reduceLeDiff, Nat.reduceBEq, Nat.reduceMul, Nat.reduceLT, Int.reduceLT, Int.reduceLE, Int.reduceToNat, Int.reduceNeg, Int.reduceEq, Int.reduceMul, reduceCtorEq, fn16, res16, gc16, grow16, ty3, ty22, ty23, ty25, ty29, ty30, ty56, ty63, ty69, ty72, ty75, ty80, ty82, ty83, ty114, plan16_3, plan16_4, plan16_5, d1, d2, d3, d4, f52n, Int.toNat_natCast, mn, mx]


/-- Whether a block can have settled, by what spans say. -/
def someS (s : Stl) (blk : Int) (b : Blk) (m : Nat) : Bool := (findN (fun j => decide (exc s.ts blk (b.x 0) (b.s0 + j) 0 m ≤ s.near) && decide (-s.near ≤ exc s.ts blk (b.x 1) (b.s0 + j) 1 m)) 0 b.n).isSome

/-- What Settled tells. -/
def Stl.settled (s : Stl) (n m : Int) : Int × Int :=
  if s.valid then (if s.inB n && s.inM m then ((if settl s n (s.blk n) m.toNat then 2 else if someS s n (s.blk n) m.toNat then 1 else 0), 0) else (0, 2)) else (0, 1)

theorem f18 (s : Stl) (hvb : SlOk H 6 vb (s.bs.map Blk.av)) (hvt : SlOk H 4 vt (s.ts.map Tch.av)) (hl : s.bs.length ≤ 1000) (hl2 : s.ts.length ≤ 1000) (n m : Int) :
    callFL cfg0 prog0 false 18 [.agg [vb, I s.near, I s.last, vt], I n, I m] H none = some ⟨.ret (.tup [I (s.settled n m).1, I (s.settled n m).2]), H, none⟩ := by
  have sb := hvb.scal
  have st := hvt.scal
  have hp := pl4_ok (H ++ [.box (.agg [vb, I s.near, I s.last, vt]), .box (I n), .box (I m), .box (I 0)]) vb vt s (hvb.app _) (hvt.app _)
  have h42 := f42 (H ++ [.box (.agg [vb, I s.near, I s.last, vt]), .box (I n), .box (I m), .box (I 0)]) vb vt s 58 [.ptr (H.length + 1) 0, .ptr (H.length + 2) 0] (s.inB n && s.inM m) (hvb.app _) (hvt.app _) hl hl2
    (fun N => by simp [ltL, AV.lt]; omega) (f58 hp hl _ _ n m (by simp [pl4, List.append_assoc, List.cons_append, List.nil_append, List.append_nil, List.length_append, List.length_cons, List.length_nil, Nat.zero_add, Nat.add_zero, Nat.add_assoc, Nat.reduceAdd, set_at, set_at', List.set_cons_zero, List.set_cons_succ, get_at']) (by simp [pl4, List.append_assoc, List.cons_append, List.nil_append, List.append_nil, List.length_append, List.length_cons, List.length_nil, Nat.zero_add, Nat.add_zero, Nat.add_assoc, Nat.reduceAdd, set_at, set_at', List.set_cons_zero, List.set_cons_succ, get_at']))
  simp only [pl4, List.append_assoc, List.cons_append, List.nil_append, List.append_nil, List.length_append, List.length_cons, List.length_nil, Nat.zero_add, Nat.add_zero, Nat.add_assoc, Nat.reduceAdd, set_at, set_at', List.set_cons_zero, List.set_cons_succ] at h42
  have h57 := fun e => f57s (H.length + 3) e 0 (H ++ [.box (.agg [vb, I s.near, I s.last, vt]), .box (I n), .box (I m), .box (I 0)]) (by simp [get_at'])
  refine (callFL_eq fn18 rfl (by simp [Try.f18])).trans ?_
  simp only [Stl.settled]
  cases hv : s.valid with
  | false =>
    simp only [hv, Bool.false_eq_true, ↓reduceIte] at h42
    simp only [go_sem, ↓reduceIte, Nat.reduceEqDiff, Nat.reduceAdd, Nat.reduceLeDiff, Nat.reduceBEq, Nat.reduceMul, Nat.reduceLT, Int.reduceLT, Int.reduceLE, Int.reduceToNat, Int.reduceNeg, Int.reduceEq, Int.reduceMul, reduceCtorEq, fn18, res18, gc18, grow18, ty3, ty22, ty23, ty25, ty29, ty30, ty56, ty63, ty69, ty72, ty75, ty88, ty90, sb, st, h42, h57]
  | true =>
    cases hc : (s.inB n && s.inM m) with
    | false =>
      simp only [hv, hc, Bool.false_eq_true, ↓reduceIte] at h42
      simp only [go_sem, ↓reduceIte, Nat.reduceEqDiff, Nat.reduceAdd, Nat.reduceLeDiff, Nat.reduceBEq, Nat.reduceMul, Nat.reduceLT, Int.reduceLT, Int.reduceLE, Int.reduceToNat, Int.reduceNeg, Int.reduceEq, Int.reduceMul, reduceCtorEq, fn18, res18, gc18, grow18, ty3, ty22, ty23, ty25, ty29, ty30, ty56, ty63, ty69, ty72, ty75, ty88, ty90, sb, st, h42, h57]
    | true =>
      have hw := Stl.valid_wf hv
      simp only [Bool.and_eq_true] at hc
      obtain ⟨h0, hb⟩ := Stl.inB_blk hc.1
      obtain ⟨mm, rfl, hmm⟩ := Stl.inM_nat hw hc.2
      have hbo := hw.bs _ (List.mem_of_getElem? hb)
      have hp9 := hp.app [.box (.ptr (H.length + 7) 0)]
      obtain ⟨es1, hg1, h59⟩ := f59 hw n (s.blk n) h0 hb mm hmm hp9 (Good.nil s)
      have hp1 := hp9.set es1
      have hit := spans_it hp1 n mm
      have h47 := f47 n mm hp1.hL
      obtain ⟨es2, x, y, hg2, h60⟩ := f60 hw n (s.blk n) h0 hb _ mm hmm (s.blk n).n hbo.hn hit hg1 (.func 61) [.ptr (H.length + 8) 0] (fun j => decide (exc s.ts n ((s.blk n).x 0) ((s.blk n).s0 + j) 0 mm ≤ s.near) && decide (-s.near ≤ exc s.ts n ((s.blk n).x 1) ((s.blk n).s0 + j) 1 mm)) (by
        intro j es E
        rw [callVL_func]
        have h8 : ((H ++ [AO.box (.agg [vb, I s.near, I s.last, vt]), AO.box (I n), AO.box (I mm), AO.box (I 0)]) ++ pl4 (H ++ [AO.box (.agg [vb, I s.near, I s.last, vt]), AO.box (I n), AO.box (I mm), AO.box (I 0)]).length vb vt s ++ [AO.box (.ptr (H.length + 7) 0)])[H.length + 8]? = some (.box (.ptr (H.length + 7) 0)) := by
          simp only [pl4, List.append_assoc, List.cons_append, List.nil_append, List.append_nil, List.length_append, List.length_cons, List.length_nil, Nat.zero_add, Nat.add_zero, Nat.add_assoc, Nat.reduceAdd, set_at, set_at', List.set_cons_zero, List.set_cons_succ, get_at']; rfl
        have hpz := (hit.set es).pl.app E
        refine f61 hpz hw.near (H.length + 8) ?_ _ _
        rw [get_lt (by simp [pl4]), List.getElem?_set_ne (by simp), get_lt (by simp [pl4]), List.getElem?_set_ne (by simp)]
        rw [h8]
        simp)
      simp only [pl4, List.append_assoc, List.cons_append, List.nil_append, List.append_nil, List.length_append, List.length_cons, List.length_nil, Nat.zero_add, Nat.add_zero, Nat.add_assoc, Nat.reduceAdd, set_at, set_at', List.set_cons_zero, List.set_cons_succ] at h59 h47 h60
      simp only [hv, hc, Bool.and_self, ↓reduceIte] at h42
      have hso : (findN (fun j => decide (exc s.ts n ((s.blk n).x 0) ((s.blk n).s0 + j) 0 mm ≤ s.near) && decide (-s.near ≤ exc s.ts n ((s.blk n).x 1) ((s.blk n).s0 + j) 1 mm)) 0 (s.blk n).n).isSome = someS s n (s.blk n) mm := rfl
      rw [hso] at h60
      cases hse : settl s n (s.blk n) mm with
      | true => simp only [go_sem, ↓reduceIte, Nat.reduceEqDiff, Nat.reduceAdd, Nat.reduceLeDiff, Nat.reduceBEq, Nat.reduceMul, Nat.reduceLT, Int.reduceLT, Int.reduceLE, Int.reduceToNat, Int.reduceNeg, Int.reduceEq, Int.reduceMul, reduceCtorEq, fn18, res18, gc18, grow18, ty3, ty22, ty23, ty25, ty29, ty30, ty56, ty63, ty69, ty72, ty75, ty88, ty90, sb, st, h42, h59, hse, f57n, Int.toNat_natCast]
      | false =>
        cases hsm : someS s n (s.blk n) mm with
        | true => simp only [go_sem, ↓reduceIte, Nat.reduceEqDiff, Nat.reduceAdd, Nat.reduceLeDiff, Nat.reduceBEq, Nat.reduceMul, Nat.reduceLT, Int.reduceLT, Int.reduceLE, Int.reduceToNat, Int.reduceNeg, Int.reduceEq, Int.reduceMul, reduceCtorEq, fn18, res18, gc18, grow18, ty3, ty22, ty23, ty25, ty29, ty30, ty56, ty63, ty69, ty72, ty75, ty88, ty90, sb, st, h42, h59, h47, h60, hse, hsm, f57n, Int.toNat_natCast]
        | false => simp only [go_sem, ↓reduceIte, Nat.reduceEqDiff, Nat.reduceAdd, Nat.reduceLeDiff, Nat.reduceBEq, Nat.reduceMul, Nat.reduceLT, Int.reduceLT, Int.reduceLE, Int.reduceToNat, Int.reduceNeg, Int.reduceEq, Int.reduceMul, reduceCtorEq, fn18, res18, gc18, grow18, ty3, ty22, ty23, ty25, ty29, ty30, ty56, ty63, ty69, ty72, ty75, ty88, ty90, sb, st, h42, h59, h47, h60, hse, hsm, f57n, Int.toNat_natCast]

/-- What When tells. -/
def Stl.when (s : Stl) (n : Int) : Int × Int :=
  if s.valid then (if s.inB n then (match whenR s n (s.blk n) with | some w => (w, 0) | none => (0, 4)) else (0, 2)) else (0, 1)

theorem f20 (s : Stl) (hvb : SlOk H 6 vb (s.bs.map Blk.av)) (hvt : SlOk H 4 vt (s.ts.map Tch.av)) (hl : s.bs.length ≤ 1000) (hl2 : s.ts.length ≤ 1000) (n : Int) :
    callFL cfg0 prog0 false 20 [.agg [vb, I s.near, I s.last, vt], I n] H none = some ⟨.ret (.tup [I (s.when n).1, I (s.when n).2]), H, none⟩ := by
  have sb := hvb.scal
  have st := hvt.scal
  have hp := pl4_ok (H ++ [.box (.agg [vb, I s.near, I s.last, vt]), .box (I n), .box (I 0)]) vb vt s (hvb.app _) (hvt.app _)
  have h42 := f42 (H ++ [.box (.agg [vb, I s.near, I s.last, vt]), .box (I n), .box (I 0)]) vb vt s 65 [.ptr (H.length + 1) 0] (s.inB n) (hvb.app _) (hvt.app _) hl hl2
    (fun N => by simp [ltL, AV.lt]; omega) (f65 hp hl _ n (by simp [pl4, List.append_assoc, List.cons_append, List.nil_append, List.append_nil, List.length_append, List.length_cons, List.length_nil, Nat.zero_add, Nat.add_zero, Nat.add_assoc, Nat.reduceAdd, set_at, set_at', List.set_cons_zero, List.set_cons_succ, get_at']))
  simp only [pl4, List.append_assoc, List.cons_append, List.nil_append, List.append_nil, List.length_append, List.length_cons, List.length_nil, Nat.zero_add, Nat.add_zero, Nat.add_assoc, Nat.reduceAdd, set_at, set_at', List.set_cons_zero, List.set_cons_succ] at h42
  have h64 := fun e => f64s (H.length + 2) e 0 (H ++ [.box (.agg [vb, I s.near, I s.last, vt]), .box (I n), .box (I 0)]) (by simp [get_at'])
  refine (callFL_eq fn20 rfl (by simp [Try.f20])).trans ?_
  simp only [Stl.when]
  cases hv : s.valid with
  | false =>
    simp only [hv, Bool.false_eq_true, ↓reduceIte] at h42
    simp only [go_sem, ↓reduceIte, Nat.reduceEqDiff, Nat.reduceAdd, Nat.reduceLeDiff, Nat.reduceBEq, Nat.reduceMul, Nat.reduceLT, Int.reduceLT, Int.reduceLE, Int.reduceToNat, Int.reduceNeg, Int.reduceEq, Int.reduceMul, reduceCtorEq, fn20, res20, gc20, grow20, ty3, ty22, ty23, ty25, ty29, ty30, ty56, ty63, ty69, ty72, plan20_2, sb, st]
    rw [chkK_of]; rotate_left; kernel_rfl
    simp only [go_sem, ↓reduceIte, Nat.reduceEqDiff, Nat.reduceAdd, Nat.reduceLeDiff, Nat.reduceBEq, Nat.reduceMul, Nat.reduceLT, Int.reduceLT, Int.reduceLE, Int.reduceToNat, Int.reduceNeg, Int.reduceEq, Int.reduceMul, reduceCtorEq, fn20, res20, gc20, grow20, ty3, ty22, ty23, ty25, ty29, ty30, ty56, ty63, ty69, ty72, plan20_2, sb, st, h42, h64]
  | true =>
    cases hc : s.inB n with
    | false =>
      simp only [hv, hc, Bool.false_eq_true, ↓reduceIte] at h42
      simp only [go_sem, ↓reduceIte, Nat.reduceEqDiff, Nat.reduceAdd, Nat.reduceLeDiff, Nat.reduceBEq, Nat.reduceMul, Nat.reduceLT, Int.reduceLT, Int.reduceLE, Int.reduceToNat, Int.reduceNeg, Int.reduceEq, Int.reduceMul, reduceCtorEq, fn20, res20, gc20, grow20, ty3, ty22, ty23, ty25, ty29, ty30, ty56, ty63, ty69, ty72, plan20_2, sb, st]
      rw [chkK_of]; rotate_left; kernel_rfl
      simp only [go_sem, ↓reduceIte, Nat.reduceEqDiff, Nat.reduceAdd, Nat.reduceLeDiff, Nat.reduceBEq, Nat.reduceMul, Nat.reduceLT, Int.reduceLT, Int.reduceLE, Int.reduceToNat, Int.reduceNeg, Int.reduceEq, Int.reduceMul, reduceCtorEq, fn20, res20, gc20, grow20, ty3, ty22, ty23, ty25, ty29, ty30, ty56, ty63, ty69, ty72, plan20_2, sb, st, h42, h64]
    | true =>
      have hw := Stl.valid_wf hv
      obtain ⟨h0, hb⟩ := Stl.inB_blk hc
      obtain ⟨es', hg', hr⟩ := f66 hw n (s.blk n) h0 hb hp (Good.nil s)
      simp only [pl4, List.append_assoc, List.cons_append, List.nil_append, List.append_nil, List.length_append, List.length_cons, List.length_nil, Nat.zero_add, Nat.add_zero, Nat.add_assoc, Nat.reduceAdd, set_at, set_at', List.set_cons_zero, List.set_cons_succ] at hr
      simp only [hv, hc, ↓reduceIte] at h42
      have h64' := fun e => f64s (H.length + 2) e 0 (H ++ [.box (.agg [vb, I s.near, I s.last, vt]), .box (I n), .box (I 0), .box (.agg [vb, I s.near, I s.last, vt]), .box (.agg [vb, I s.near, I s.last, vt]), .map 114 es', .box (.agg [vb, I s.near, I s.last, vt, .map (H.length + 5)])]) (by simp [get_at'])
      cases hwr : whenR s n (s.blk n) with
      | none =>
        simp only [hwr] at hr
        simp only [go_sem, ↓reduceIte, Nat.reduceEqDiff, Nat.reduceAdd, Nat.reduceLeDiff, Nat.reduceBEq, Nat.reduceMul, Nat.reduceLT, Int.reduceLT, Int.reduceLE, Int.reduceToNat, Int.reduceNeg, Int.reduceEq, Int.reduceMul, reduceCtorEq, fn20, res20, gc20, grow20, ty3, ty22, ty23, ty25, ty29, ty30, ty56, ty63, ty69, ty72, plan20_2, sb, st]
        rw [chkK_of]; rotate_left; kernel_rfl
        simp only [go_sem, ↓reduceIte, Nat.reduceEqDiff, Nat.reduceAdd, Nat.reduceLeDiff, Nat.reduceBEq, Nat.reduceMul, Nat.reduceLT, Int.reduceLT, Int.reduceLE, Int.reduceToNat, Int.reduceNeg, Int.reduceEq, Int.reduceMul, reduceCtorEq, fn20, res20, gc20, grow20, ty3, ty22, ty23, ty25, ty29, ty30, ty56, ty63, ty69, ty72, plan20_2, sb, st, h42, hr, h64']
      | some w =>
        simp only [hwr] at hr
        simp only [go_sem, ↓reduceIte, Nat.reduceEqDiff, Nat.reduceAdd, Nat.reduceLeDiff, Nat.reduceBEq, Nat.reduceMul, Nat.reduceLT, Int.reduceLT, Int.reduceLE, Int.reduceToNat, Int.reduceNeg, Int.reduceEq, Int.reduceMul, reduceCtorEq, fn20, res20, gc20, grow20, ty3, ty22, ty23, ty25, ty29, ty30, ty56, ty63, ty69, ty72, plan20_2, sb, st]
        rw [chkK_of]; rotate_left; kernel_rfl
        simp only [go_sem, ↓reduceIte, Nat.reduceEqDiff, Nat.reduceAdd, Nat.reduceLeDiff, Nat.reduceBEq, Nat.reduceMul, Nat.reduceLT, Int.reduceLT, Int.reduceLE, Int.reduceToNat, Int.reduceNeg, Int.reduceEq, Int.reduceMul, reduceCtorEq, fn20, res20, gc20, grow20, ty3, ty22, ty23, ty25, ty29, ty30, ty56, ty63, ty69, ty72, plan20_2, sb, st, h42, hr, f64n]

/-! ### All -/

/-- The latest minute of so many blocks. -/
def allR (s : Stl) : Nat → Option Int
  | 0 => some 0
  | j + 1 => match allR s j with
    | some a => match whenR s j (s.blk j) with
      | some w => some (mx a w)
      | none => none
    | none => none

def Stl.allE (s : Stl) : Int × Int := match allR s s.bs.length with | some w => (w, 0) | none => (0, 4)

theorem allR_none {s : Stl} {j : Nat} (h : allR s j = none) : ∀ k, allR s (j + k) = none
  | 0 => h
  | k + 1 => by rw [← Nat.add_assoc]; simp only [allR, allR_none h k]

theorem f22_loop (s : Stl) (hs : s.Wf) (hvb : SlOk H 6 vb (s.bs.map Blk.av)) (hvt : SlOk H 4 vt (s.ts.map Tch.av)) :
    ∀ (n j : Nat) (es : List (AV × AV)) (acc : Int), j + n = s.bs.length → Good s es → allR s j = some acc →
    ∀ (E : Env) (G : Heap), E.get 2 = I 0 → E.get 3 = .ptr (H.length + 1) 0 → E.get 4 = .ptr (H.length + 5) 0 → E.get 5 = I acc → E.get 15 = I s.bs.length → E.get 16 = I j→
    Option.map (finishC H.length) (execL cfg0 prog0 ⟨22, none, false, H.length⟩ (todoAt Try.f22 5) ⟨E, [.fn (.func 67) [] [.ptr (H.length + 1) 0]], H ++ (.box (.agg [vb, I s.near, I s.last, vt]) :: .box (I 0) :: .box (.agg [vb, I s.near, I s.last, vt]) :: .box (.agg [vb, I s.near, I s.last, vt]) :: .map 114 es :: .box (.agg [vb, I s.near, I s.last, vt, .map (H.length + 4)]) :: G), none⟩) =
      some ⟨.ret (.tup [I s.allE.1, I s.allE.2]), H, none⟩ := by
  intro n
  have sb := hvb.scal
  have st := hvt.scal
  induction n with
  | zero =>
    intro j es acc hj hg ha E G g2 g3 g4 g5 g15 g16
    have hjl : j = s.bs.length := by omega
    have hk' : ¬ (j : Int) < s.bs.length := by omega
    rw [hjl] at ha
    simp only [Stl.allE, ha]
    simp only [loopIt, todoPast, todoAt, todoOf, firstReg, ↓reduceIte, Option.some.injEq, Nat.reduceEqDiff, reduceCtorEq, Try.f22]
    rw [execL_inLoop]
    simp only [go_sem, ↓reduceIte, Nat.reduceEqDiff, Nat.reduceAdd, Nat.reduceLeDiff, Nat.reduceBEq, Nat.reduceMul, Nat.reduceLT, Int.reduceLT, Int.reduceLE, Int.reduceToNat, Int.reduceNeg, Int.reduceEq, Int.reduceMul, reduceCtorEq, fn22, res22, gc22_0, gc22_1, gc22_2, gc22_3, gc22_4, gc22_5, gc22_6, gc22_7, gc22_8, gc22_9, gcSt, keepEnv, envLt, heapLt, dfrLt, ADefer.lt, grow22, ty3, ty22, ty23, ty25, ty29, ty30, ty56, ty63, ty69, ty72, ty80, ty82, ty83, ty114, g2, g3, g4, g5, g15, g16, hk', hvb.ltn, hvt.ltn, hg.1, f67n]
  | succ n ih =>
    intro j es acc hj hg ha E G g2 g3 g4 g5 g15 g16
    have hk' : (j : Int) < s.bs.length := by omega
    have hj1 : IntKind.i64.wrap ((j : Int) + 1) = ((j + 1 : Nat) : Int) := by have := hs.blen; rw [w64 (by omega) (by omega)]; omega
    have hb : s.bs[(j : Int).toNat]? = some (s.blk j) := by
      have hlt : j < s.bs.length := by omega
      simp only [Stl.blk, Int.toNat_natCast, List.getD_eq_getElem?_getD, List.getElem?_eq_getElem hlt, Option.getD_some]
    have hp : PlOk (H ++ [.box (.agg [vb, I s.near, I s.last, vt]), .box (I 0), .box (.agg [vb, I s.near, I s.last, vt]), .box (.agg [vb, I s.near, I s.last, vt]), .map 114 es, .box (.agg [vb, I s.near, I s.last, vt, .map (H.length + 4)])]) (H.length + 5) (H.length + 4) vb vt s es :=
      ⟨by rw [get_at' 5]; rfl, by rw [get_at' 4]; rfl, hvb.app _, hvt.app _⟩
    obtain ⟨es', hg', hr⟩ := f66 hs j (s.blk j) (by omega) hb hp hg
    simp only [pl4, List.append_assoc, List.cons_append, List.nil_append, List.append_nil, List.length_append, List.length_cons, List.length_nil, Nat.zero_add, Nat.add_zero, Nat.add_assoc, Nat.reduceAdd, set_at, set_at', List.set_cons_zero, List.set_cons_succ] at hr
    simp only [loopIt, todoPast, todoAt, todoOf, firstReg, ↓reduceIte, Option.some.injEq, Nat.reduceEqDiff, reduceCtorEq, Try.f22]
    rw [execL_inLoop]
    cases hw : whenR s j (s.blk j) with
    | none =>
      have hn : allR s s.bs.length = none := by
        have h1 : allR s (j + 1) = none := by simp only [allR, ha, hw]
        have := allR_none h1 n
        rwa [show j + 1 + n = s.bs.length by omega] at this
      simp only [Stl.allE, hn]
      rw [hw] at hr
      simp only at hr
      have h67 := fun e => f67s (H.length + 1) e 0 (H ++ [.box (.agg [vb, I s.near, I s.last, vt]), .box (I 0), .box (.agg [vb, I s.near, I s.last, vt]), .box (.agg [vb, I s.near, I s.last, vt]), .map 114 es', .box (.agg [vb, I s.near, I s.last, vt, .map (H.length + 4)])]) (by simp [get_at'])
      simp only [go_sem, ↓reduceIte, Nat.reduceEqDiff, Nat.reduceAdd, Nat.reduceLeDiff, Nat.reduceBEq, Nat.reduceMul, Nat.reduceLT, Int.reduceLT, Int.reduceLE, Int.reduceToNat, Int.reduceNeg, Int.reduceEq, Int.reduceMul, reduceCtorEq, fn22, res22, gc22_0, gc22_1, gc22_2, gc22_3, gc22_4, gc22_5, gc22_6, gc22_7, gc22_8, gc22_9, gcSt, keepEnv, envLt, heapLt, dfrLt, ADefer.lt, grow22, ty3, ty22, ty23, ty25, ty29, ty30, ty56, ty63, ty69, ty72, ty80, ty82, ty83, ty114, g2, g3, g4, g5, g15, g16, hk', hvb.ltn, hvt.ltn, hg.1, hr, h67]
    | some w =>
      have h1 : allR s (j + 1) = some (mx acc w) := by simp only [allR, ha, hw]
      rw [hw] at hr
      simp only at hr
      simp only [go_sem, ↓reduceIte, Nat.reduceEqDiff, Nat.reduceAdd, Nat.reduceLeDiff, Nat.reduceBEq, Nat.reduceMul, Nat.reduceLT, Int.reduceLT, Int.reduceLE, Int.reduceToNat, Int.reduceNeg, Int.reduceEq, Int.reduceMul, reduceCtorEq, fn22, res22, gc22_0, gc22_1, gc22_2, gc22_3, gc22_4, gc22_5, gc22_6, gc22_7, gc22_8, gc22_9, gcSt, keepEnv, envLt, heapLt, dfrLt, ADefer.lt, grow22, ty3, ty22, ty23, ty25, ty29, ty30, ty56, ty63, ty69, ty72, ty80, ty82, ty83, ty114, g2, g3, g4, g5, g15, g16, hk', hvb.ltn, hvt.ltn, hg.1, hr, hj1]
      exact ih (j + 1) es' (mx acc w) (by omega) hg' h1 _ [] (by rfl) (by rfl) (by rfl) (by rfl) (by rfl) (by rfl)


/-- What All tells. -/
def Stl.allS (s : Stl) : Int × Int := if s.valid then s.allE else (0, 1)

theorem f22 (s : Stl) (hvb : SlOk H 6 vb (s.bs.map Blk.av)) (hvt : SlOk H 4 vt (s.ts.map Tch.av)) (hl : s.bs.length ≤ 1000) (hl2 : s.ts.length ≤ 1000) :
    callFL cfg0 prog0 false 22 [.agg [vb, I s.near, I s.last, vt]] H none = some ⟨.ret (.tup [I s.allS.1, I s.allS.2]), H, none⟩ := by
  have sb := hvb.scal
  have st := hvt.scal
  have h42 := f42 (H ++ [.box (.agg [vb, I s.near, I s.last, vt]), .box (I 0)]) vb vt s 68 [] true (hvb.app _) (hvt.app _) hl hl2
    (fun N => rfl) (f68 _ _)
  simp only [pl4, List.append_assoc, List.cons_append, List.nil_append, List.append_nil, List.length_append, List.length_cons, List.length_nil, Nat.zero_add, Nat.add_zero, Nat.add_assoc, Nat.reduceAdd, set_at, set_at', List.set_cons_zero, List.set_cons_succ] at h42
  have h67 := fun e => f67s (H.length + 1) e 0 (H ++ [.box (.agg [vb, I s.near, I s.last, vt]), .box (I 0)]) (by simp [get_at'])
  refine (callFL_eq fn22 rfl (by simp [Try.f22])).trans ?_
  simp only [Stl.allS]
  cases hv : s.valid with
  | false =>
    simp only [hv, Bool.false_eq_true, ↓reduceIte] at h42
    simp only [go_sem, ↓reduceIte, Nat.reduceEqDiff, Nat.reduceAdd, Nat.reduceLeDiff, Nat.reduceBEq, Nat.reduceMul, Nat.reduceLT, Int.reduceLT, Int.reduceLE, Int.reduceToNat, Int.reduceNeg, Int.reduceEq, Int.reduceMul, reduceCtorEq, fn22, res22, gc22_0, gc22_1, gc22_2, gc22_3, gc22_4, gc22_5, gc22_6, gc22_7, gc22_8, gc22_9, gcSt, keepEnv, envLt, heapLt, dfrLt, ADefer.lt, grow22, ty3, ty22, ty23, ty25, ty29, ty30, ty56, ty63, ty69, ty72, ty80, ty82, ty83, ty114, sb, st, h42, h67]
  | true =>
    have hw := Stl.valid_wf hv
    simp only [hv, ↓reduceIte] at h42
    have hb5 : evLen vb = some (I s.bs.length) := by rw [hvb.len, List.length_map]
    simp only [go_sem, ↓reduceIte, Nat.reduceEqDiff, Nat.reduceAdd, Nat.reduceLeDiff, Nat.reduceBEq, Nat.reduceMul, Nat.reduceLT, Int.reduceLT, Int.reduceLE, Int.reduceToNat, Int.reduceNeg, Int.reduceEq, Int.reduceMul, reduceCtorEq, fn22, res22, gc22_0, gc22_1, gc22_2, gc22_3, gc22_4, gc22_5, gc22_6, gc22_7, gc22_8, gc22_9, gcSt, keepEnv, envLt, heapLt, dfrLt, ADefer.lt, grow22, ty3, ty22, ty23, ty25, ty29, ty30, ty56, ty63, ty69, ty72, ty80, ty82, ty83, ty114, sb, st, h42, hb5]
    exact f22_loop s hw hvb hvt s.bs.length 0 [] 0 (by omega) (Good.nil s) rfl _ [] (by rfl) (by rfl) (by rfl) (by rfl) (by rfl) (by rfl)

end Go.Ab
/-
  The layer settle: Rests, Wait and Latest, walked.
-/
namespace Go.Ab
open Go.Proofs
set_option linter.unusedSimpArgs false
set_option linter.unusedVariables false

variable {H : Heap} {L M : Nat} {vb vt : AV} {s : Stl} {es : List (AV × AV)}

/-! ### Rests -/

def spA (p : Int × Int) : AV := .agg [I p.1, I p.2]

def restStep (acc : List (Int × Int)) (m : Int) : List (Int × Int) :=
  match acc.getLast? with
  | some p => if p.2 + 1 = m then acc.set (acc.length - 1) (p.1, m) else acc ++ [(m, m)]
  | none => acc ++ [(m, m)]

def restsR (f : Nat → Bool) : Nat → List (Int × Int)
  | 0 => []
  | m + 1 => if f m then restStep (restsR f m) m else restsR f m

theorem restsR_bd (f : Nat → Bool) : ∀ m, (restsR f m).length ≤ m ∧ ∀ p ∈ restsR f m, 0 ≤ p.1 ∧ p.1 < m ∧ 0 ≤ p.2 ∧ p.2 < m
  | 0 => by simp [restsR]
  | m + 1 => by
    obtain ⟨h1, h2⟩ := restsR_bd f m
    simp only [restsR]
    split
    · simp only [restStep]
      split
      · rename_i p hp
        have hpm := h2 p (List.mem_of_getLast? hp)
        split
        · refine ⟨by rw [List.length_set]; omega, fun q hq => ?_⟩
          rcases List.mem_or_eq_of_mem_set hq with h | h
          · have := h2 q h; omega
          · subst h; simp only; omega
        · refine ⟨by simp; omega, fun q hq => ?_⟩
          rcases List.mem_append.1 hq with h | h
          · have := h2 q h; omega
          · simp at h; subst h; simp only; omega
      · refine ⟨by simp; omega, fun q hq => ?_⟩
        rcases List.mem_append.1 hq with h | h
        · have := h2 q h; omega
        · simp at h; subst h; simp only; omega
    · exact ⟨by omega, fun q hq => by have := h2 q hq; omega⟩

def Stl.restsL (s : Stl) (n : Int) : List (Int × Int) := restsR (settl s n (s.blk n)) (s.last.toNat + 1)

theorem f24_loop (s : Stl) (hs : s.Wf) (hvb : SlOk H 6 vb (s.bs.map Blk.av)) (hvt : SlOk H 4 vt (s.ts.map Tch.av)) (n : Int) (h0 : 0 ≤ n) (hb : s.bs[n.toNat]? = some (s.blk n)) :
    ∀ (q j : Nat) (es : List (AV × AV)), j + q = s.last.toNat + 1 → Good s es →
    ∀ (E : Env) (G : Heap), E.get 3 = .ptr (H.length + 1) 0 → E.get 4 = .sl true [] → E.get 5 = .ptr (H.length + 2) 0 → E.get 6 = .ptr (H.length + 6) 0 → E.get 7 = .gsl (H.length + 7) (restsR (settl s n (s.blk n)) j).length → E.get 19 = I (s.last + 1) → E.get 20 = I j →
    Option.map (finishC H.length) (execL cfg0 prog0 ⟨24, none, false, H.length⟩ (todoAt Try.f24 5) ⟨E, [.fn (.func 69) [] [.ptr (H.length + 2) 0]], H ++ (.box (.agg [vb, I s.near, I s.last, vt]) :: .box (I n) :: .box (I 0) :: .box (.agg [vb, I s.near, I s.last, vt]) :: .box (.agg [vb, I s.near, I s.last, vt]) :: .map 114 es :: .box (.agg [vb, I s.near, I s.last, vt, .map (H.length + 5)]) :: .grow 2 ((restsR (settl s n (s.blk n)) j).map spA) :: G), none⟩) =
      some ⟨.ret (.tup [.sl false ((s.restsL n).map spA), I 0]), H, none⟩ := by
  intro q
  have sb := hvb.scal
  have st := hvt.scal
  have hlast := hs.last
  have hlt : ∀ l : List (Int × Int), ltL 0 (l.map spA) = true := ltL_map fun _ => rfl
  induction q with
  | zero =>
    intro j es hj hg E G g3 g4 g5 g6 g7 g19 g20
    have hjl : j = s.last.toNat + 1 := by omega
    have hk' : ¬ (j : Int) < s.last + 1 := by omega
    have hj' : restsR (settl s n (s.blk n)) j = s.restsL n := by rw [hjl]; rfl
    rw [hj'] at g7 ⊢
    simp only [loopIt, todoPast, todoAt, todoOf, firstReg, ↓reduceIte, Option.some.injEq, Nat.reduceEqDiff, reduceCtorEq, Try.f24]
    rw [execL_inLoop]
    simp only [go_sem, ↓reduceIte, Nat.reduceEqDiff, Nat.reduceAdd, Nat.reduceLeDiff, Nat.reduceBEq, Nat.reduceMul, Nat.reduceLT, Int.reduceLT, Int.reduceLE, Int.reduceToNat, Int.reduceNeg, Int.reduceEq, Int.reduceMul, reduceCtorEq, fn24, res24, gc24_0, gc24_1, gc24_2, gc24_3, gc24_4, gc24_5, gc24_6, gc24_7, gc24_8, gc24_9, gc24_10, gc24_11, gc24_12, gc24_13, gcSt, keepEnv, envLt, heapLt, dfrLt, ADefer.lt, grow24_4, grow24_5, grow24_6, grow24_7, grow24_8, grow24_9, grow24_47, ty3, ty22, ty23, ty25, ty29, ty30, ty38, ty56, ty63, ty69, ty72, ty80, ty82, ty83, ty114, g3, g4, g5, g6, g7, g19, g20, hk', hvb.ltn, hvt.ltn, hg.1, hlt, f69n, List.length_map]
  | succ q ih =>
    intro j es hj hg E G g3 g4 g5 g6 g7 g19 g20
    have hk' : (j : Int) < s.last + 1 := by omega
    have hj1 : IntKind.i64.wrap ((j : Int) + 1) = ((j + 1 : Nat) : Int) := by rw [w64 (by omega) (by omega)]; omega
    obtain ⟨hrl, hrb⟩ := restsR_bd (settl s n (s.blk n)) j
    have hih := fun es' hg' => ih (j + 1) es' (by omega) hg'
    simp only [restsR] at hih
    generalize restsR (settl s n (s.blk n)) j = l at *
    have hp : PlOk (H ++ [.box (.agg [vb, I s.near, I s.last, vt]), .box (I n), .box (I 0), .box (.agg [vb, I s.near, I s.last, vt]), .box (.agg [vb, I s.near, I s.last, vt]), .map 114 es, .box (.agg [vb, I s.near, I s.last, vt, .map (H.length + 5)]), .grow 2 (l.map spA)]) (H.length + 6) (H.length + 5) vb vt s es :=
      ⟨by rw [get_at' 6]; rfl, by rw [get_at' 5]; rfl, hvb.app _, hvt.app _⟩
    obtain ⟨es', hg', hr⟩ := f59 hs n (s.blk n) h0 hb j (by omega) hp hg
    simp only [pl4, List.append_assoc, List.cons_append, List.nil_append, List.append_nil, List.length_append, List.length_cons, List.length_nil, Nat.zero_add, Nat.add_zero, Nat.add_assoc, Nat.reduceAdd, set_at, set_at', List.set_cons_zero, List.set_cons_succ] at hr
    have hih := hih es' hg'
    simp only [loopIt, todoPast, todoAt, todoOf, firstReg, ↓reduceIte, Option.some.injEq, Nat.reduceEqDiff, reduceCtorEq, Try.f24]
    rw [execL_inLoop]
    cases hse : settl s n (s.blk n) j with
    | false =>
      rw [hse] at hih
      simp only [Bool.false_eq_true, if_false] at hih
      simp only [go_sem, ↓reduceIte, Nat.reduceEqDiff, Nat.reduceAdd, Nat.reduceLeDiff, Nat.reduceBEq, Nat.reduceMul, Nat.reduceLT, Int.reduceLT, Int.reduceLE, Int.reduceToNat, Int.reduceNeg, Int.reduceEq, Int.reduceMul, reduceCtorEq, fn24, res24, gc24_0, gc24_1, gc24_2, gc24_3, gc24_4, gc24_5, gc24_6, gc24_7, gc24_8, gc24_9, gc24_10, gc24_11, gc24_12, gc24_13, gcSt, keepEnv, envLt, heapLt, dfrLt, ADefer.lt, grow24_4, grow24_5, grow24_6, grow24_7, grow24_8, grow24_9, grow24_47, ty3, ty22, ty23, ty25, ty29, ty30, ty38, ty56, ty63, ty69, ty72, ty80, ty82, ty83, ty114, g3, g4, g5, g6, g7, g19, g20, hk', hvb.ltn, hvt.ltn, hg.1, hlt, hr, hse, hj1]
      exact hih _ [] (by rfl) (by rfl) (by rfl) (by rfl) (by rfl) (by rfl) (by rfl)
    | true =>
      rw [hse] at hih
      simp only [if_true, restStep] at hih
      have e1 : IntKind.i64.wrap ((l.length : Int) - 1) = (l.length : Int) - 1 := w64 (by omega) (by omega)
      have hadd : addElem (H ++ [.box (.agg [vb, I s.near, I s.last, vt]), .box (I n), .box (I 0), .box (.agg [vb, I s.near, I s.last, vt]), .box (.agg [vb, I s.near, I s.last, vt]), .map 114 es', .box (.agg [vb, I s.near, I s.last, vt, .map (H.length + 5)]), .grow 2 (l.map spA)]) 2 true (.gsl (H.length + 7) l.length) [.agg [I j, I j]] =
          some (.gsl (H.length + 7) (l.length + 1), H ++ [.box (.agg [vb, I s.near, I s.last, vt]), .box (I n), .box (I 0), .box (.agg [vb, I s.near, I s.last, vt]), .box (.agg [vb, I s.near, I s.last, vt]), .map 114 es', .box (.agg [vb, I s.near, I s.last, vt, .map (H.length + 5)]), .grow 2 (l.map spA ++ [.agg [I j, I j]])]) := by
        rw [add_gsl (xs := l.map spA) (by simp [get_at']) (by simp) rfl rfl (by simp; omega), set_at']
        rfl
      cases hgl : l.getLast? with
      | none =>
        have hl0 : l = [] := by simpa using hgl
        subst hl0
        rw [hgl] at hih
        simp only [List.nil_append, List.map_cons, List.map_nil, List.length_cons, List.length_nil, Nat.zero_add, spA] at hih hadd hr
        have e0 : IntKind.i64.wrap (((0 : Nat) : Int) - 1) = -1 := w64 (by omega) (by omega)
        have e0' : IntKind.i64.wrap ((0 : Int) - 1) = -1 := w64 (by omega) (by omega)
        have e0'' : IntKind.i64.wrap (-1) = -1 := w64 (by omega) (by omega)
        simp only [go_sem, ↓reduceIte, Nat.reduceEqDiff, Nat.reduceAdd, Nat.reduceLeDiff, Nat.reduceBEq, Nat.reduceMul, Nat.reduceLT, Int.reduceLT, Int.reduceLE, Int.reduceToNat, Int.reduceNeg, Int.reduceEq, Int.reduceMul, reduceCtorEq, fn24, res24, gc24_0, gc24_1, gc24_2, gc24_3, gc24_4, gc24_5, gc24_6, gc24_7, gc24_8, gc24_9, gc24_10, gc24_11, gc24_12, gc24_13, gcSt, keepEnv, envLt, heapLt, dfrLt, ADefer.lt, grow24_4, grow24_5, grow24_6, grow24_7, grow24_8, grow24_9, grow24_47, ty3, ty22, ty23, ty25, ty29, ty30, ty38, ty56, ty63, ty69, ty72, ty80, ty82, ty83, ty114, g3, g4, g5, g6, g7, g19, g20, hk', hvb.ltn, hvt.ltn, hg.1, hlt, hr, hse, hj1, e0, e0', e0'', hadd]
        exact hih _ [] (by rfl) (by rfl) (by rfl) (by rfl) (by rfl) (by rfl) (by rfl)
      | some p =>
        have hlne : 0 < l.length := by
          cases l with
          | nil => simp at hgl
          | cons _ _ => simp
        have hpl : l[l.length - 1]? = some p := by rw [← List.getLast?_eq_getElem?]; exact hgl
        have hpb := hrb p (List.mem_of_getLast? hgl)
        rw [hgl] at hih
        have hge : (0 : Int) ≤ (l.length : Int) - 1 := by omega
        have htn : ((l.length : Int) - 1).toNat = l.length - 1 := by omega
        have e2 : IntKind.i64.wrap (p.2 + 1) = p.2 + 1 := w64 (by omega) (by omega)
        have hxs : (l.map spA)[l.length - 1]? = some (.agg [I p.1, I p.2]) := by rw [List.getElem?_map, hpl]; rfl
        have hidx : ∀ te : Ty, te.size = 2 → idxAddr (H ++ [.box (.agg [vb, I s.near, I s.last, vt]), .box (I n), .box (I 0), .box (.agg [vb, I s.near, I s.last, vt]), .box (.agg [vb, I s.near, I s.last, vt]), .map 114 es', .box (.agg [vb, I s.near, I s.last, vt, .map (H.length + 5)]), .grow 2 (l.map spA)]) te (.gsl (H.length + 7) l.length) ((l.length : Int) - 1) = some (.eptr (H.length + 7) l.length (l.length - 1) 0) := by
          intro te hte
          simp only [idxAddr, get_at', List.getElem?_cons_succ, List.getElem?_cons_zero, List.length_map, htn, hte]
          rw [if_pos ⟨trivial, hge, by omega, trivial⟩]
        by_cases heq : p.2 + 1 = (j : Int)
        · simp only [if_pos heq] at hih
          have hbq : (p.2 + 1 == (j : Int)) = true := by simp [heq]
          simp only [List.map_set, List.length_set, spA] at hih
          simp only [go_sem, ↓reduceIte, Nat.reduceEqDiff, Nat.reduceAdd, Nat.reduceLeDiff, Nat.reduceBEq, Nat.reduceMul, Nat.reduceLT, Int.reduceLT, Int.reduceLE, Int.reduceToNat, Int.reduceNeg, Int.reduceEq, Int.reduceMul, reduceCtorEq, fn24, res24, gc24_0, gc24_1, gc24_2, gc24_3, gc24_4, gc24_5, gc24_6, gc24_7, gc24_8, gc24_9, gc24_10, gc24_11, gc24_12, gc24_13, gcSt, keepEnv, envLt, heapLt, dfrLt, ADefer.lt, grow24_4, grow24_5, grow24_6, grow24_7, grow24_8, grow24_9, grow24_47, ty3, ty22, ty23, ty25, ty29, ty30, ty38, ty56, ty63, ty69, ty72, ty80, ty82, ty83, ty114, g3, g4, g5, g6, g7, g19, g20, hk', hvb.ltn, hvt.ltn, hg.1, hlt, hr, hse, hj1, e1, e2, hge, hidx, List.length_map, hxs, hbq]
          exact hih _ [] (by rfl) (by rfl) (by rfl) (by rfl) (by rfl) (by rfl) (by rfl)
        · simp only [if_neg heq] at hih
          have hbq : (p.2 + 1 == (j : Int)) = false := by simp [heq]
          simp only [List.map_append, List.map_cons, List.map_nil, List.length_append, List.length_cons, List.length_nil, Nat.zero_add, spA] at hih
          simp only [go_sem, ↓reduceIte, Nat.reduceEqDiff, Nat.reduceAdd, Nat.reduceLeDiff, Nat.reduceBEq, Nat.reduceMul, Nat.reduceLT, Int.reduceLT, Int.reduceLE, Int.reduceToNat, Int.reduceNeg, Int.reduceEq, Int.reduceMul, reduceCtorEq, fn24, res24, gc24_0, gc24_1, gc24_2, gc24_3, gc24_4, gc24_5, gc24_6, gc24_7, gc24_8, gc24_9, gc24_10, gc24_11, gc24_12, gc24_13, gcSt, keepEnv, envLt, heapLt, dfrLt, ADefer.lt, grow24_4, grow24_5, grow24_6, grow24_7, grow24_8, grow24_9, grow24_47, ty3, ty22, ty23, ty25, ty29, ty30, ty38, ty56, ty63, ty69, ty72, ty80, ty82, ty83, ty114, g3, g4, g5, g6, g7, g19, g20, hk', hvb.ltn, hvt.ltn, hg.1, hlt, hr, hse, hj1, e1, e2, hge, hidx, List.length_map, hxs, hbq, hadd]
          exact hih _ [] (by rfl) (by rfl) (by rfl) (by rfl) (by rfl) (by rfl) (by rfl)


/-- What Rests tells. -/
theorem f24 (s : Stl) (hvb : SlOk H 6 vb (s.bs.map Blk.av)) (hvt : SlOk H 4 vt (s.ts.map Tch.av)) (hl : s.bs.length ≤ 1000) (hl2 : s.ts.length ≤ 1000) (n : Int) :
    callFL cfg0 prog0 false 24 [.agg [vb, I s.near, I s.last, vt], I n] H none = some ⟨.ret (if s.valid then (if s.inB n then .tup [.sl false ((s.restsL n).map spA), I 0] else .tup [.sl true [], I 2]) else .tup [.sl true [], I 1]), H, none⟩ := by
  have sb := hvb.scal
  have st := hvt.scal
  have hp := pl4_ok (H ++ [.box (.agg [vb, I s.near, I s.last, vt]), .box (I n), .box (I 0)]) vb vt s (hvb.app _) (hvt.app _)
  have h42 := f42 (H ++ [.box (.agg [vb, I s.near, I s.last, vt]), .box (I n), .box (I 0)]) vb vt s 70 [.ptr (H.length + 1) 0] (s.inB n) (hvb.app _) (hvt.app _) hl hl2
    (fun N => by simp [ltL, AV.lt]; omega) (f70 hp hl _ n (by simp [pl4, List.append_assoc, List.cons_append, List.nil_append, List.append_nil, List.length_append, List.length_cons, List.length_nil, Nat.zero_add, Nat.add_zero, Nat.add_assoc, Nat.reduceAdd, set_at, set_at', List.set_cons_zero, List.set_cons_succ, get_at']))
  simp only [pl4, List.append_assoc, List.cons_append, List.nil_append, List.append_nil, List.length_append, List.length_cons, List.length_nil, Nat.zero_add, Nat.add_zero, Nat.add_assoc, Nat.reduceAdd, set_at, set_at', List.set_cons_zero, List.set_cons_succ] at h42
  have h69 := fun e => f69s (H.length + 2) e 0 (H ++ [.box (.agg [vb, I s.near, I s.last, vt]), .box (I n), .box (I 0)]) (by simp [get_at'])
  refine (callFL_eq fn24 rfl (by simp [Try.f24])).trans ?_
  cases hv : s.valid with
  | false =>
    simp only [hv, Bool.false_eq_true, ↓reduceIte] at h42
    simp only [go_sem, ↓reduceIte, Nat.reduceEqDiff, Nat.reduceAdd, Nat.reduceLeDiff, Nat.reduceBEq, Nat.reduceMul, Nat.reduceLT, Int.reduceLT, Int.reduceLE, Int.reduceToNat, Int.reduceNeg, Int.reduceEq, Int.reduceMul, reduceCtorEq, fn24, res24, gc24_0, gc24_1, gc24_2, gc24_3, gc24_4, gc24_5, gc24_6, gc24_7, gc24_8, gc24_9, gc24_10, gc24_11, gc24_12, gc24_13, gcSt, keepEnv, envLt, heapLt, dfrLt, ADefer.lt, grow24_4, grow24_5, grow24_6, grow24_7, grow24_8, grow24_9, grow24_47, ty3, ty22, ty23, ty25, ty29, ty30, ty38, ty56, ty63, ty69, ty72, ty80, ty82, ty83, ty114, sb, st, h42, h69]
  | true =>
    cases hc : s.inB n with
    | false =>
      simp only [hv, hc, Bool.false_eq_true, ↓reduceIte] at h42
      simp only [go_sem, ↓reduceIte, Nat.reduceEqDiff, Nat.reduceAdd, Nat.reduceLeDiff, Nat.reduceBEq, Nat.reduceMul, Nat.reduceLT, Int.reduceLT, Int.reduceLE, Int.reduceToNat, Int.reduceNeg, Int.reduceEq, Int.reduceMul, reduceCtorEq, fn24, res24, gc24_0, gc24_1, gc24_2, gc24_3, gc24_4, gc24_5, gc24_6, gc24_7, gc24_8, gc24_9, gc24_10, gc24_11, gc24_12, gc24_13, gcSt, keepEnv, envLt, heapLt, dfrLt, ADefer.lt, grow24_4, grow24_5, grow24_6, grow24_7, grow24_8, grow24_9, grow24_47, ty3, ty22, ty23, ty25, ty29, ty30, ty38, ty56, ty63, ty69, ty72, ty80, ty82, ty83, ty114, sb, st, h42, h69]
    | true =>
      have hw := Stl.valid_wf hv
      obtain ⟨h0, hb⟩ := Stl.inB_blk hc
      have hlast := hw.last
      have e1 : IntKind.i64.wrap (s.last + 1) = s.last + 1 := w64 (by omega) (by omega)
      simp only [hv, hc, ↓reduceIte] at h42
      simp only [go_sem, ↓reduceIte, Nat.reduceEqDiff, Nat.reduceAdd, Nat.reduceLeDiff, Nat.reduceBEq, Nat.reduceMul, Nat.reduceLT, Int.reduceLT, Int.reduceLE, Int.reduceToNat, Int.reduceNeg, Int.reduceEq, Int.reduceMul, reduceCtorEq, fn24, res24, gc24_0, gc24_1, gc24_2, gc24_3, gc24_4, gc24_5, gc24_6, gc24_7, gc24_8, gc24_9, gc24_10, gc24_11, gc24_12, gc24_13, gcSt, keepEnv, envLt, heapLt, dfrLt, ADefer.lt, grow24_4, grow24_5, grow24_6, grow24_7, grow24_8, grow24_9, grow24_47, ty3, ty22, ty23, ty25, ty29, ty30, ty38, ty56, ty63, ty69, ty72, ty80, ty82, ty83, ty114, sb, st, h42, e1]
      exact f24_loop s hw hvb hvt n h0 hb (s.last.toNat + 1) 0 [] (by omega) (Good.nil s) _ [] (by rfl) (by rfl) (by rfl) (by rfl) (by rfl) (by rfl) (by rfl)

/-! ### Wait -/

def waitF (near k : Int) : Nat → Int → Nat
  | 0, _ => 0
  | f + 1, x => if wi x (-near) near then 0 else waitF near k f (fallsZ x k) + 1

theorem falls_less {x k : Int} (hk : 1 ≤ k) (hx : x ≠ 0) : (fallsZ x k).natAbs < x.natAbs := by
  have key : ∀ y : Int, 0 < y → 0 ≤ y - (y + k - 1).tdiv k ∧ y - (y + k - 1).tdiv k < y := by
    intro y hy
    rw [Int.tdiv_eq_ediv_of_nonneg (by omega)]
    have h1 : 1 ≤ (y + k - 1) / k := by
      rw [Int.le_ediv_iff_mul_le (by omega)]; omega
    have h2 : (y + k - 1) / k < y + 1 := by
      apply Int.ediv_lt_of_lt_mul (by omega)
      have : y * k ≥ y * 1 := Int.mul_le_mul_of_nonneg_left hk (by omega)
      rw [Int.add_mul]; omega
    omega
  simp only [fallsZ]
  split
  · have := key (-x) (by omega); omega
  · have := key x (by omega); omega

theorem f26_loop (s : Stl) (hs : s.Wf) (hvb : SlOk H 6 vb (s.bs.map Blk.av)) (hvt : SlOk H 4 vt (s.ts.map Tch.av)) (n w : Int) (h0 : 0 ≤ n) (hb : s.bs[n.toNat]? = some (s.blk n)) :
    ∀ (f : Nat) (x : Int) (c : Nat), x.natAbs ≤ f → c + f ≤ 1000000 →
    ∀ (E : Env) (G : Heap), E.get 4 = .ptr (H.length + 1) 0 → E.get 6 = I 0 → E.get 7 = .ptr (H.length + 3) 0 → E.get 8 = .ptr (H.length + 7) 0 → E.get 9 = I x → E.get 10 = I c →
    Option.map (finishC H.length) (execL cfg0 prog0 ⟨26, none, false, H.length⟩ (todoAt Try.f26 4) ⟨E, [.fn (.func 71) [] [.ptr (H.length + 3) 0]], H ++ (.box (.agg [vb, I s.near, I s.last, vt]) :: .box (I n) :: .box (I w) :: .box (I 0) :: .box (.agg [vb, I s.near, I s.last, vt]) :: .box (.agg [vb, I s.near, I s.last, vt]) :: .map 114 [] :: .box (.agg [vb, I s.near, I s.last, vt, .map (H.length + 6)]) :: G), none⟩) =
      some ⟨.ret (.tup [I ((c + waitF s.near (s.blk n).s1 (f + 1) x : Nat) : Int), I 0]), H, none⟩ := by
  intro f
  have sb := hvb.scal
  have st := hvt.scal
  have hnear := hs.near
  have hbo := hs.bs _ (List.mem_of_getElem? hb)
  have e1 : IntKind.i64.wrap (0 - s.near) = -s.near := by rw [w64 (by omega) (by omega)]; omega
  have hk1 : 1 ≤ (s.blk n).s1 ∧ (s.blk n).s1 ≤ 100 := by have := hbo.a4; have := hbo.a5; have := hbo.a6; omega
  obtain ⟨-, -, a3, a4, a5⟩ := hvb.at (k := n) (x := Blk.av (s.blk n)) h0 (by simp [hb])
  induction f with
  | zero =>
    intro x c hx hf E G g4 g6 g7 g8 g9 g10
    have hx0 : x = 0 := by omega
    have hw : wi x (-s.near) s.near = true := by simp [wi, hx0, hnear.1]
    simp only [waitF, hw, if_true, Nat.add_zero]
    simp only [loopIt, todoPast, todoAt, todoOf, firstReg, ↓reduceIte, Option.some.injEq, Nat.reduceEqDiff, reduceCtorEq, Try.f26]
    rw [execL_inLoop]
    simp only [go_sem, ↓reduceIte, Nat.reduceEqDiff, Nat.reduceAdd, Nat.reduceLeDiff, Nat.reduceBEq, Nat.reduceMul, Nat.reduceLT, Int.reduceLT, Int.reduceLE, Int.reduceToNat, Int.reduceNeg, Int.reduceEq, Int.reduceMul, reduceCtorEq, fn26, res26, gc26_0, gc26_1, gc26_2, gc26_3, gc26_4, gc26_5, gc26_6, gc26_7, gcSt, keepEnv, envLt, heapLt, dfrLt, ADefer.lt, grow26, ty3, ty22, ty23, ty25, ty29, ty30, ty56, ty63, ty72, ty80, ty82, ty83, ty114, plan26_4, plan26_5, g4, g6, g7, g8, g9, g10, hvb.ltn, hvt.ltn]
    rw [chkK_of]; rotate_left; kernel_rfl
    simp only [go_sem, ↓reduceIte, Nat.reduceEqDiff, Nat.reduceAdd, Nat.reduceLeDiff, Nat.reduceBEq, Nat.reduceMul, Nat.reduceLT, Int.reduceLT, Int.reduceLE, Int.reduceToNat, Int.reduceNeg, Int.reduceEq, Int.reduceMul, reduceCtorEq, fn26, res26, gc26_0, gc26_1, gc26_2, gc26_3, gc26_4, gc26_5, gc26_6, gc26_7, gcSt, keepEnv, envLt, heapLt, dfrLt, ADefer.lt, grow26, ty3, ty22, ty23, ty25, ty29, ty30, ty56, ty63, ty72, ty80, ty82, ty83, ty114, plan26_4, plan26_5, e1, f74w, hw, f71n]
  | succ f ih =>
    intro x c hx hf E G g4 g6 g7 g8 g9 g10
    cases hw : wi x (-s.near) s.near with
    | true =>
      rw [show waitF s.near (s.blk n).s1 (f + 1 + 1) x = 0 by simp only [waitF, hw, if_true], Nat.add_zero]
      simp only [loopIt, todoPast, todoAt, todoOf, firstReg, ↓reduceIte, Option.some.injEq, Nat.reduceEqDiff, reduceCtorEq, Try.f26]
      rw [execL_inLoop]
      simp only [go_sem, ↓reduceIte, Nat.reduceEqDiff, Nat.reduceAdd, Nat.reduceLeDiff, Nat.reduceBEq, Nat.reduceMul, Nat.reduceLT, Int.reduceLT, Int.reduceLE, Int.reduceToNat, Int.reduceNeg, Int.reduceEq, Int.reduceMul, reduceCtorEq, fn26, res26, gc26_0, gc26_1, gc26_2, gc26_3, gc26_4, gc26_5, gc26_6, gc26_7, gcSt, keepEnv, envLt, heapLt, dfrLt, ADefer.lt, grow26, ty3, ty22, ty23, ty25, ty29, ty30, ty56, ty63, ty72, ty80, ty82, ty83, ty114, plan26_4, plan26_5, g4, g6, g7, g8, g9, g10, hvb.ltn, hvt.ltn]
      rw [chkK_of]; rotate_left; kernel_rfl
      simp only [go_sem, ↓reduceIte, Nat.reduceEqDiff, Nat.reduceAdd, Nat.reduceLeDiff, Nat.reduceBEq, Nat.reduceMul, Nat.reduceLT, Int.reduceLT, Int.reduceLE, Int.reduceToNat, Int.reduceNeg, Int.reduceEq, Int.reduceMul, reduceCtorEq, fn26, res26, gc26_0, gc26_1, gc26_2, gc26_3, gc26_4, gc26_5, gc26_6, gc26_7, gcSt, keepEnv, envLt, heapLt, dfrLt, ADefer.lt, grow26, ty3, ty22, ty23, ty25, ty29, ty30, ty56, ty63, ty72, ty80, ty82, ty83, ty114, plan26_4, plan26_5, e1, f74w, hw, f71n]
    | false =>
      have hxne : x ≠ 0 := by
        rintro rfl
        simp [wi, hnear.1] at hw
      have hless := falls_less hk1.1 hxne
      have hih := ih (fallsZ x (s.blk n).s1) (c + 1) (by omega) (by omega)
      rw [show waitF s.near (s.blk n).s1 (f + 1 + 1) x = waitF s.near (s.blk n).s1 (f + 1) (fallsZ x (s.blk n).s1) + 1 by rw [waitF, hw]; rfl]
      have hff := fun G => f75 x (s.blk n).s1 G (by omega) (by omega) hk1.1 (by omega)
      have hc1 : IntKind.i64.wrap ((c : Int) + 1) = ((c + 1 : Nat) : Int) := by rw [w64 (by omega) (by omega)]; omega
      simp only [loopIt, todoPast, todoAt, todoOf, firstReg, ↓reduceIte, Option.some.injEq, Nat.reduceEqDiff, reduceCtorEq, Try.f26]
      rw [execL_inLoop]
      simp only [go_sem, ↓reduceIte, Nat.reduceEqDiff, Nat.reduceAdd, Nat.reduceLeDiff, Nat.reduceBEq, Nat.reduceMul, Nat.reduceLT, Int.reduceLT, Int.reduceLE, Int.reduceToNat, Int.reduceNeg, Int.reduceEq, Int.reduceMul, reduceCtorEq, fn26, res26, gc26_0, gc26_1, gc26_2, gc26_3, gc26_4, gc26_5, gc26_6, gc26_7, gcSt, keepEnv, envLt, heapLt, dfrLt, ADefer.lt, grow26, ty3, ty22, ty23, ty25, ty29, ty30, ty56, ty63, ty72, ty80, ty82, ty83, ty114, plan26_4, plan26_5, g4, g6, g7, g8, g9, g10, hvb.ltn, hvt.ltn]
      rw [chkK_of]; rotate_left; kernel_rfl
      simp only [go_sem, ↓reduceIte, Nat.reduceEqDiff, Nat.reduceAdd, Nat.reduceLeDiff, Nat.reduceBEq, Nat.reduceMul, Nat.reduceLT, Int.reduceLT, Int.reduceLE, Int.reduceToNat, Int.reduceNeg, Int.reduceEq, Int.reduceMul, reduceCtorEq, fn26, res26, gc26_0, gc26_1, gc26_2, gc26_3, gc26_4, gc26_5, gc26_6, gc26_7, gcSt, keepEnv, envLt, heapLt, dfrLt, ADefer.lt, grow26, ty3, ty22, ty23, ty25, ty29, ty30, ty56, ty63, ty72, ty80, ty82, ty83, ty114, plan26_4, plan26_5, e1, f74w, hw]
      rw [chkK_of]; rotate_left; kernel_rfl
      simp only [go_sem, ↓reduceIte, Nat.reduceEqDiff, Nat.reduceAdd, Nat.reduceLeDiff, Nat.reduceBEq, Nat.reduceMul, Nat.reduceLT, Int.reduceLT, Int.reduceLE, Int.reduceToNat, Int.reduceNeg, Int.reduceEq, Int.reduceMul, reduceCtorEq, fn26, res26, gc26_0, gc26_1, gc26_2, gc26_3, gc26_4, gc26_5, gc26_6, gc26_7, gcSt, keepEnv, envLt, heapLt, dfrLt, ADefer.lt, grow26, ty3, ty22, ty23, ty25, ty29, ty30, ty56, ty63, ty72, ty80, ty82, ty83, ty114, plan26_4, plan26_5, a3, a4, a5, Blk.av, hff, hc1]
      rw [show c + (waitF s.near (s.blk n).s1 (f + 1) (fallsZ x (s.blk n).s1) + 1) = c + 1 + waitF s.near (s.blk n).s1 (f + 1) (fallsZ x (s.blk n).s1) by omega]
      exact hih _ [] (by rfl) (by rfl) (by rfl) (by rfl) (by rfl) (by rfl)


/-- What Wait tells. -/
def Stl.wait (s : Stl) (n x : Int) : Int × Int :=
  if s.valid then (if s.inB n && inW x then ((waitF s.near (s.blk n).s1 (x.natAbs + 1) x : Nat), 0) else (0, 2)) else (0, 1)

theorem f26 (s : Stl) (hvb : SlOk H 6 vb (s.bs.map Blk.av)) (hvt : SlOk H 4 vt (s.ts.map Tch.av)) (hl : s.bs.length ≤ 1000) (hl2 : s.ts.length ≤ 1000) (n x : Int) :
    callFL cfg0 prog0 false 26 [.agg [vb, I s.near, I s.last, vt], I n, I x] H none = some ⟨.ret (.tup [I (s.wait n x).1, I (s.wait n x).2]), H, none⟩ := by
  have sb := hvb.scal
  have st := hvt.scal
  have hp := pl4_ok (H ++ [.box (.agg [vb, I s.near, I s.last, vt]), .box (I n), .box (I x), .box (I 0)]) vb vt s (hvb.app _) (hvt.app _)
  have h42 := f42 (H ++ [.box (.agg [vb, I s.near, I s.last, vt]), .box (I n), .box (I x), .box (I 0)]) vb vt s 72 [.ptr (H.length + 1) 0, .ptr (H.length + 2) 0] (s.inB n && inW x) (hvb.app _) (hvt.app _) hl hl2
    (fun N => by simp [ltL, AV.lt]; omega) (f72 hp hl _ _ n x (by simp [pl4, List.append_assoc, List.cons_append, List.nil_append, List.append_nil, List.length_append, List.length_cons, List.length_nil, Nat.zero_add, Nat.add_zero, Nat.add_assoc, Nat.reduceAdd, set_at, set_at', List.set_cons_zero, List.set_cons_succ, get_at']) (by simp [pl4, List.append_assoc, List.cons_append, List.nil_append, List.append_nil, List.length_append, List.length_cons, List.length_nil, Nat.zero_add, Nat.add_zero, Nat.add_assoc, Nat.reduceAdd, set_at, set_at', List.set_cons_zero, List.set_cons_succ, get_at']))
  simp only [pl4, List.append_assoc, List.cons_append, List.nil_append, List.append_nil, List.length_append, List.length_cons, List.length_nil, Nat.zero_add, Nat.add_zero, Nat.add_assoc, Nat.reduceAdd, set_at, set_at', List.set_cons_zero, List.set_cons_succ] at h42
  have h71 := fun e => f71s (H.length + 3) e 0 (H ++ [.box (.agg [vb, I s.near, I s.last, vt]), .box (I n), .box (I x), .box (I 0)]) (by simp [get_at'])
  refine (callFL_eq fn26 rfl (by simp [Try.f26])).trans ?_
  simp only [Stl.wait]
  cases hv : s.valid with
  | false =>
    simp only [hv, Bool.false_eq_true, ↓reduceIte] at h42
    simp only [go_sem, ↓reduceIte, Nat.reduceEqDiff, Nat.reduceAdd, Nat.reduceLeDiff, Nat.reduceBEq, Nat.reduceMul, Nat.reduceLT, Int.reduceLT, Int.reduceLE, Int.reduceToNat, Int.reduceNeg, Int.reduceEq, Int.reduceMul, reduceCtorEq, fn26, res26, gc26_0, gc26_1, gc26_2, gc26_3, gc26_4, gc26_5, gc26_6, gc26_7, gcSt, keepEnv, envLt, heapLt, dfrLt, ADefer.lt, grow26, ty3, ty22, ty23, ty25, ty29, ty30, ty56, ty63, ty72, ty80, ty82, ty83, ty114, plan26_4, plan26_5, sb, st, h42, h71]
  | true =>
    cases hc : (s.inB n && inW x) with
    | false =>
      simp only [hv, hc, Bool.false_eq_true, ↓reduceIte] at h42
      simp only [go_sem, ↓reduceIte, Nat.reduceEqDiff, Nat.reduceAdd, Nat.reduceLeDiff, Nat.reduceBEq, Nat.reduceMul, Nat.reduceLT, Int.reduceLT, Int.reduceLE, Int.reduceToNat, Int.reduceNeg, Int.reduceEq, Int.reduceMul, reduceCtorEq, fn26, res26, gc26_0, gc26_1, gc26_2, gc26_3, gc26_4, gc26_5, gc26_6, gc26_7, gcSt, keepEnv, envLt, heapLt, dfrLt, ADefer.lt, grow26, ty3, ty22, ty23, ty25, ty29, ty30, ty56, ty63, ty72, ty80, ty82, ty83, ty114, plan26_4, plan26_5, sb, st, h42, h71]
    | true =>
      have hw := Stl.valid_wf hv
      simp only [hv, hc, ↓reduceIte] at h42
      simp only [Bool.and_eq_true] at hc
      obtain ⟨h0, hb⟩ := Stl.inB_blk hc.1
      have hx := hc.2
      simp only [inW, wi, Bool.and_eq_true, decide_eq_true_eq] at hx
      simp only [go_sem, ↓reduceIte, Nat.reduceEqDiff, Nat.reduceAdd, Nat.reduceLeDiff, Nat.reduceBEq, Nat.reduceMul, Nat.reduceLT, Int.reduceLT, Int.reduceLE, Int.reduceToNat, Int.reduceNeg, Int.reduceEq, Int.reduceMul, reduceCtorEq, fn26, res26, gc26_0, gc26_1, gc26_2, gc26_3, gc26_4, gc26_5, gc26_6, gc26_7, gcSt, keepEnv, envLt, heapLt, dfrLt, ADefer.lt, grow26, ty3, ty22, ty23, ty25, ty29, ty30, ty56, ty63, ty72, ty80, ty82, ty83, ty114, plan26_4, plan26_5, sb, st, h42]
      refine (f26_loop s hw hvb hvt n x h0 hb x.natAbs x 0 (by omega) (by omega) _ [] (by rfl) (by rfl) (by rfl) (by rfl) (by rfl) (by rfl)).trans ?_
      simp only [Nat.zero_add]

/-! ### Latest -/

def Stl.touch (s : Stl) (n m x : Int) : Stl := { s with ts := s.ts ++ [⟨n, m, x, x⟩] }

/-- The objects that 'touched' makes. -/
def pl5 (h : Nat) (vb : AV) (s : Stl) (n m x : Int) : Heap :=
  [.box (.agg [vb, I s.near, I s.last, .gsl (h + 1) (s.ts.length + 1)]), .grow 4 ((s.touch n m x).ts.map Tch.av), .box (.agg [vb, I s.near, I s.last, .gsl (h + 1) (s.ts.length + 1)]), .map 114 [], .box (.agg [vb, I s.near, I s.last, .gsl (h + 1) (s.ts.length + 1), .map (h + 3)])]

theorem copy_gsl {C : Cfg} {H : Heap} {l n sz : Nat} {xs ys : List AV} {v : AV} {tys : List TypeId} {e : TypeId} {te : Ty} (he : sliceElem C tys = some e) (ht : C.ty e = some te) (hl : H[l]? = some (.grow sz xs)) (hn : xs.length = n) (hs : sz = te.size)
    (hv : elems H v = some ys) (hy : xs.length = ys.length) (hlt : ltL 0 ys = true) (hok : elemsOk te.size te.agg ys = true) : evCopy C H tys (.gsl l n) v = some (I ys.length, H.set l (.grow sz ys)) := by
  simp only [evCopy, he, ht, hl, hv, hlt, hok, Bool.true_and]
  rw [if_pos]
  simp only [decide_eq_true_eq]
  exact ⟨hs, hn, hy⟩

theorem f84 (hp : PlOk H L M vb vt s es) (hl : s.ts.length ≤ 1000) (n m x : Int) : callFL cfg0 prog0 false 84 [.ptr L 0, I n, I m, I x] H none = some ⟨.ret (.ptr (H.length + 4) 0), H ++ pl5 H.length vb s n m x, none⟩ := by
  have sb := hp.bs.scal
  have st := hp.ts.scal
  have hL := hp.hL
  have e1 : IntKind.i64.wrap ((s.ts.length : Int) + 1) = (s.ts.length : Int) + 1 := w64 (by omega) (by omega)
  have hlen : evLen vt = some (I s.ts.length) := by rw [hp.ts.len, List.length_map]
  have hd1 : 0 ≤ (s.ts.length : Int) := by omega
  have hd2 : (s.ts.length : Int) ≤ (s.ts.length : Int) + 1 := by omega
  have hd3 : (s.ts.length : Int) + 1 ≤ 1048576 := by omega
  have hcp : evCopy cfg0 (H ++ [.box (.agg [vb, I s.near, I s.last, .gsl (H.length + 1) s.ts.length]), .grow 4 (List.replicate s.ts.length (.agg [I 0, I 0, I 0, I 0]))]) [23, 23] (.gsl (H.length + 1) s.ts.length) vt =
      some (I s.ts.length, H ++ [.box (.agg [vb, I s.near, I s.last, .gsl (H.length + 1) s.ts.length]), .grow 4 (s.ts.map Tch.av)]) := by
    rw [copy_gsl (e := 63) (xs := List.replicate s.ts.length (.agg [I 0, I 0, I 0, I 0])) (sz := 4) rfl ty63 (by simp [get_at']) (by simp) rfl (hp.ts.app _).elems (by simp) (ltL_map (fun _ => rfl) _) (elemsOk_map (fun _ => rfl) _), set_at']
    simp
  have hadd : addElem (H ++ [.box (.agg [vb, I s.near, I s.last, .gsl (H.length + 1) s.ts.length]), .grow 4 (s.ts.map Tch.av)]) 4 true (.gsl (H.length + 1) s.ts.length) [.agg [I n, I m, I x, I x]] =
      some (.gsl (H.length + 1) (s.ts.length + 1), H ++ [.box (.agg [vb, I s.near, I s.last, .gsl (H.length + 1) s.ts.length]), .grow 4 ((s.touch n m x).ts.map Tch.av)]) := by
    rw [add_gsl (xs := s.ts.map Tch.av) (by simp [get_at']) (by simp) rfl rfl (by simp; omega), set_at']
    simp only [Stl.touch, List.map_append]
    rfl
  refine (callFL_eq fn84 rfl (by simp [Try.f84])).trans ?_
  simp only [go_sem, ↓reduceIte, Nat.reduceEqDiff, Nat.reduceAdd, Nat.reduceLeDiff, Nat.reduceBEq, Nat.reduceMul, Nat.reduceLT, Int.reduceLT, Int.reduceLE, Int.reduceToNat, Int.reduceNeg, Int.reduceEq, Int.reduceMul, reduceCtorEq, fn84, res84, gc84, grow84, ty3, ty22, ty23, ty25, ty29, ty56, ty63, ty80, ty82, ty83, ty114, plan84_2, plan84_3, hp.box, sb, st]
  rw [chkK_of]; rotate_left; kernel_rfl
  simp only [go_sem, ↓reduceIte, Nat.reduceEqDiff, Nat.reduceAdd, Nat.reduceLeDiff, Nat.reduceBEq, Nat.reduceMul, Nat.reduceLT, Int.reduceLT, Int.reduceLE, Int.reduceToNat, Int.reduceNeg, Int.reduceEq, Int.reduceMul, reduceCtorEq, fn84, res84, gc84, grow84, ty3, ty22, ty23, ty25, ty29, ty56, ty63, ty80, ty82, ty83, ty114, plan84_2, plan84_3, get_lt hL, hp.box, sb, st, hlen, e1, hd1, hd2, hd3, Int.toNat_natCast]
  rw [chkK_of]; rotate_left; kernel_rfl
  simp only [go_sem, ↓reduceIte, Nat.reduceEqDiff, Nat.reduceAdd, Nat.reduceLeDiff, Nat.reduceBEq, Nat.reduceMul, Nat.reduceLT, Int.reduceLT, Int.reduceLE, Int.reduceToNat, Int.reduceNeg, Int.reduceEq, Int.reduceMul, reduceCtorEq, fn84, res84, gc84, grow84, ty3, ty22, ty23, ty25, ty29, ty56, ty63, ty80, ty82, ty83, ty114, plan84_2, plan84_3, get_lt hL, hp.box, sb, st, hcp, hadd, f92 _ _ _ _ _ sb scalar_gsl, pl5]

theorem f83 (hs : s.Wf) (hl6 : s.ts.length ≤ 6) (n m x y : Int) (hm : 0 ≤ m ∧ m ≤ 60) (hx : -100 ≤ x ∧ x ≤ 100) (hy : 0 ≤ y ∧ y ≤ 60) (h0 : 0 ≤ n) (hb : s.bs[n.toNat]? = some (s.blk n)) (hp : PlOk H L M vb vt s es) (A B D F : Nat) (hA : H[A]? = some (.box (.ptr L 0))) (hB : H[B]? = some (.box (I n))) (hD : H[D]? = some (.box (I x))) (hF : H[F]? = some (.box (I y))) :
    callFL cfg0 prog0 false 83 [I m, .ptr A 0, .ptr B 0, .ptr D 0, .ptr F 0] H none = some ⟨.ret (.bool (settl (s.touch n m x) n (s.blk n) y.toNat)), H, none⟩ := by
  have hw : (s.touch n m x).Wf := ⟨hs.bs, fun t ht => by
    simp only [Stl.touch, List.mem_append, List.mem_singleton] at ht
    rcases ht with ht | rfl
    · exact hs.ts t ht
    · exact ⟨hx.1, Int.le_refl _, hx.2⟩, by simp [Stl.touch]; omega, hs.near, hs.last, hs.blen⟩
  have Al := (List.getElem?_eq_some_iff.1 hA).1
  have Bl := (List.getElem?_eq_some_iff.1 hB).1
  have Dl := (List.getElem?_eq_some_iff.1 hD).1
  have Fl := (List.getElem?_eq_some_iff.1 hF).1
  have hp5 : PlOk (H ++ pl5 H.length vb s n m x) (H.length + 4) (H.length + 3) vb (.gsl (H.length + 1) (s.ts.length + 1)) (s.touch n m x) [] :=
    ⟨by rw [get_at' 4]; rfl, by rw [get_at' 3]; rfl, hp.bs.app _, ⟨by simp only [get_at']; exact ⟨rfl, by simp [Stl.touch]⟩, by simp only [List.mem_map]; rintro _ ⟨t, _, rfl⟩; rfl⟩⟩
  obtain ⟨es', hg', hr⟩ := f59 hw n (s.blk n) h0 hb y.toNat (by omega) hp5 (Good.nil _)
  have h84 := f84 hp (by omega) n m x
  rw [show ((y.toNat : Nat) : Int) = y by omega] at hr
  simp only [pl5, pl4, List.append_assoc, List.cons_append, List.nil_append, List.append_nil, List.length_append, List.length_cons, List.length_nil, Nat.zero_add, Nat.add_zero, Nat.add_assoc, Nat.reduceAdd, set_at, set_at', List.set_cons_zero, List.set_cons_succ] at hr h84
  refine (callFL_eq fn83 rfl (by simp [Try.f83])).trans ?_
  simp only [go_sem, ↓reduceIte, Nat.reduceEqDiff, Nat.reduceAdd, Nat.reduceLeDiff, Nat.reduceBEq, Nat.reduceMul, Nat.reduceLT, Int.reduceLT, Int.reduceLE, Int.reduceToNat, Int.reduceNeg, Int.reduceEq, Int.reduceMul, reduceCtorEq, fn83, res83, gc83, grow83, ty3, ty69, plan83_1]
  rw [chkK_of]; rotate_left; kernel_rfl
  simp only [go_sem, ↓reduceIte, Nat.reduceEqDiff, Nat.reduceAdd, Nat.reduceLeDiff, Nat.reduceBEq, Nat.reduceMul, Nat.reduceLT, Int.reduceLT, Int.reduceLE, Int.reduceToNat, Int.reduceNeg, Int.reduceEq, Int.reduceMul, reduceCtorEq, fn83, res83, gc83, grow83, ty3, ty69, plan83_1, hA, hB, hD, hF, get_lt Al, get_lt Bl, get_lt Dl, get_lt Fl, h84, hr]

/-- What Latest tells. -/
def Stl.latest (s : Stl) (n x y : Int) : Int × Int :=
  if s.valid then (if s.inB n && inW x && s.inM y then
    (match findN (fun j => settl (s.touch n (y - j) x) n (s.blk n) y.toNat) 0 (y.toNat + 1) with
    | some i => (y - i, 0)
    | none => (0, 4)) else (0, 2)) else (0, 1)

theorem f28 (s : Stl) (hvb : SlOk H 6 vb (s.bs.map Blk.av)) (hvt : SlOk H 4 vt (s.ts.map Tch.av)) (hl : s.bs.length ≤ 1000) (hl2 : s.ts.length ≤ 1000) (n x y : Int) :
    callFL cfg0 prog0 false 28 [.agg [vb, I s.near, I s.last, vt], I n, I x, I y] H none = some ⟨.ret (.tup [I (s.latest n x y).1, I (s.latest n x y).2]), H, none⟩ := by
  have sb := hvb.scal
  have st := hvt.scal
  have hp := pl4_ok (H ++ [.box (.agg [vb, I s.near, I s.last, vt]), .box (I n), .box (I x), .box (I y), .box (I 0)]) vb vt s (hvb.app _) (hvt.app _)
  have h42 := f42 (H ++ [.box (.agg [vb, I s.near, I s.last, vt]), .box (I n), .box (I x), .box (I y), .box (I 0)]) vb vt s 80 [.ptr (H.length + 1) 0, .ptr (H.length + 2) 0, .ptr (H.length + 3) 0] (s.inB n && inW x && s.inM y) (hvb.app _) (hvt.app _) hl hl2
    (fun N => by simp [ltL, AV.lt]; omega) (f80 hp hl _ _ _ n x y (by simp [pl4, List.append_assoc, List.cons_append, List.nil_append, List.append_nil, List.length_append, List.length_cons, List.length_nil, Nat.zero_add, Nat.add_zero, Nat.add_assoc, Nat.reduceAdd, set_at, set_at', List.set_cons_zero, List.set_cons_succ, get_at']) (by simp [pl4, List.append_assoc, List.cons_append, List.nil_append, List.append_nil, List.length_append, List.length_cons, List.length_nil, Nat.zero_add, Nat.add_zero, Nat.add_assoc, Nat.reduceAdd, set_at, set_at', List.set_cons_zero, List.set_cons_succ, get_at']) (by simp [pl4, List.append_assoc, List.cons_append, List.nil_append, List.append_nil, List.length_append, List.length_cons, List.length_nil, Nat.zero_add, Nat.add_zero, Nat.add_assoc, Nat.reduceAdd, set_at, set_at', List.set_cons_zero, List.set_cons_succ, get_at']))
  simp only [pl4, List.append_assoc, List.cons_append, List.nil_append, List.append_nil, List.length_append, List.length_cons, List.length_nil, Nat.zero_add, Nat.add_zero, Nat.add_assoc, Nat.reduceAdd, set_at, set_at', List.set_cons_zero, List.set_cons_succ] at h42
  have h79 := fun e => f79s (H.length + 4) e 0 (H ++ [.box (.agg [vb, I s.near, I s.last, vt]), .box (I n), .box (I x), .box (I y), .box (I 0)]) (by simp [get_at'])
  refine (callFL_eq fn28 rfl (by simp [Try.f28])).trans ?_
  simp only [Stl.latest]
  cases hv : s.valid with
  | false =>
    simp only [hv, Bool.false_eq_true, ↓reduceIte] at h42
    simp only [go_sem, ↓reduceIte, Nat.reduceEqDiff, Nat.reduceAdd, Nat.reduceLeDiff, Nat.reduceBEq, Nat.reduceMul, Nat.reduceLT, Int.reduceLT, Int.reduceLE, Int.reduceToNat, Int.reduceNeg, Int.reduceEq, Int.reduceMul, reduceCtorEq, fn28, res28, gc28, grow28, ty3, ty4, ty22, ty23, ty25, ty29, ty30, ty56, ty63, ty69, ty71, ty72, ty97, ty101, sb, st, h42, h79]
  | true =>
    cases hc : (s.inB n && inW x && s.inM y) with
    | false =>
      simp only [hv, hc, Bool.false_eq_true, ↓reduceIte] at h42
      simp only [go_sem, ↓reduceIte, Nat.reduceEqDiff, Nat.reduceAdd, Nat.reduceLeDiff, Nat.reduceBEq, Nat.reduceMul, Nat.reduceLT, Int.reduceLT, Int.reduceLE, Int.reduceToNat, Int.reduceNeg, Int.reduceEq, Int.reduceMul, reduceCtorEq, fn28, res28, gc28, grow28, ty3, ty4, ty22, ty23, ty25, ty29, ty30, ty56, ty63, ty69, ty71, ty72, ty97, ty101, sb, st, h42, h79]
    | true =>
      have hw := Stl.valid_wf hv
      simp only [hv, hc, ↓reduceIte] at h42
      simp only [Bool.and_eq_true] at hc
      obtain ⟨h0, hb⟩ := Stl.inB_blk hc.1.1
      have hx := hc.1.2
      simp only [inW, wi, Bool.and_eq_true, decide_eq_true_eq] at hx
      obtain ⟨yy, rfl, hyy⟩ := Stl.inM_nat hw hc.2
      have hl6 : s.ts.length ≤ 6 := by
        simp only [Stl.valid, Stl.nums, Bool.and_eq_true, decide_eq_true_eq] at hv
        omega
      have h82 := f82 (yy : Int) (H ++ [AO.box (.agg [vb, I s.near, I s.last, vt]), AO.box (I n), AO.box (I x), AO.box (I yy), AO.box (I 0)] ++ pl4 (H ++ [AO.box (.agg [vb, I s.near, I s.last, vt]), AO.box (I n), AO.box (I x), AO.box (I yy), AO.box (I 0)]).length vb vt s ++ [AO.box (.ptr (H.length + 8) 0)])
      obtain ⟨_, _, hr⟩ := f81 (σ := Unit) (fun _ => H ++ [AO.box (.agg [vb, I s.near, I s.last, vt]), AO.box (I n), AO.box (I x), AO.box (I yy), AO.box (I 0)] ++ pl4 (H ++ [AO.box (.agg [vb, I s.near, I s.last, vt]), AO.box (I n), AO.box (I x), AO.box (I yy), AO.box (I 0)]).length vb vt s ++ [AO.box (.ptr (H.length + 8) 0), AO.box (I yy)]) (fun _ => True) (H.length + 11) (H.length + 10) yy (.func 83) [.ptr (H.length + 9) 0, .ptr (H.length + 1) 0, .ptr (H.length + 2) 0, .ptr (H.length + 3) 0]
        (fun j => settl (s.touch n ((yy : Int) - j) x) n (s.blk n) yy) (fun _ => by simp [pl4]) (fun _ => by simp only [pl4, List.append_assoc, List.cons_append, List.nil_append, List.append_nil, List.length_append, List.length_cons, List.length_nil, Nat.zero_add, Nat.add_zero, Nat.add_assoc, Nat.reduceAdd, set_at, set_at', List.set_cons_zero, List.set_cons_succ, get_at']; simp) (by omega) rfl (by simp [ltL, AV.lt]) (by
          intro j _ E hj _
          refine ⟨(), trivial, ?_⟩
          have := f83 hw hl6 n ((yy : Int) - j) x yy (by omega) hx (by omega) h0 hb ((hp.app [.box (.ptr (H.length + 8) 0), .box (I yy)]).app E) (H.length + 9) (H.length + 1) (H.length + 2) (H.length + 3) (by simp [pl4, List.append_assoc, List.cons_append, List.nil_append, List.append_nil, List.length_append, List.length_cons, List.length_nil, Nat.zero_add, Nat.add_zero, Nat.add_assoc, Nat.reduceAdd, set_at, set_at', List.set_cons_zero, List.set_cons_succ, get_at']) (by simp [pl4, List.append_assoc, List.cons_append, List.nil_append, List.append_nil, List.length_append, List.length_cons, List.length_nil, Nat.zero_add, Nat.add_zero, Nat.add_assoc, Nat.reduceAdd, set_at, set_at', List.set_cons_zero, List.set_cons_succ, get_at']) (by simp [pl4, List.append_assoc, List.cons_append, List.nil_append, List.append_nil, List.length_append, List.length_cons, List.length_nil, Nat.zero_add, Nat.add_zero, Nat.add_assoc, Nat.reduceAdd, set_at, set_at', List.set_cons_zero, List.set_cons_succ, get_at']) (by simp [pl4, List.append_assoc, List.cons_append, List.nil_append, List.append_nil, List.length_append, List.length_cons, List.length_nil, Nat.zero_add, Nat.add_zero, Nat.add_assoc, Nat.reduceAdd, set_at, set_at', List.set_cons_zero, List.set_cons_succ, get_at'])
          rw [Int.toNat_natCast] at this
          rw [callVL_func]
          exact this) () trivial
      simp only [pl4, List.append_assoc, List.cons_append, List.nil_append, List.append_nil, List.length_append, List.length_cons, List.length_nil, Nat.zero_add, Nat.add_zero, Nat.add_assoc, Nat.reduceAdd, set_at, set_at', List.set_cons_zero, List.set_cons_succ] at h82 hr
      simp only [Int.toNat_natCast]
      cases hf : findN (fun j => settl (s.touch n ((yy : Int) - j) x) n (s.blk n) yy) 0 (yy + 1) with
      | none =>
        rw [hf] at hr
        simp only at hr
        have h79' := fun e => f79s (H.length + 4) e 0 (H ++ [.box (.agg [vb, I s.near, I s.last, vt]), .box (I n), .box (I x), .box (I yy), .box (I 0), .box (.agg [vb, I s.near, I s.last, vt]), .box (.agg [vb, I s.near, I s.last, vt]), .map 114 [], .box (.agg [vb, I s.near, I s.last, vt, .map (H.length + 7)]), .box (.ptr (H.length + 8) 0), .box (I yy)]) (by simp [get_at'])
        simp only [go_sem, ↓reduceIte, Nat.reduceEqDiff, Nat.reduceAdd, Nat.reduceLeDiff, Nat.reduceBEq, Nat.reduceMul, Nat.reduceLT, Int.reduceLT, Int.reduceLE, Int.reduceToNat, Int.reduceNeg, Int.reduceEq, Int.reduceMul, reduceCtorEq, fn28, res28, gc28, grow28, ty3, ty4, ty22, ty23, ty25, ty29, ty30, ty56, ty63, ty69, ty71, ty72, ty97, ty101, sb, st, h42, h82, hr, f85f, h79']
      | some i =>
        rw [hf] at hr
        simp only at hr
        simp only [go_sem, ↓reduceIte, Nat.reduceEqDiff, Nat.reduceAdd, Nat.reduceLeDiff, Nat.reduceBEq, Nat.reduceMul, Nat.reduceLT, Int.reduceLT, Int.reduceLE, Int.reduceToNat, Int.reduceNeg, Int.reduceEq, Int.reduceMul, reduceCtorEq, fn28, res28, gc28, grow28, ty3, ty4, ty22, ty23, ty25, ty29, ty30, ty56, ty63, ty69, ty71, ty72, ty97, ty101, sb, st, h42, h82, hr, f85t, f79n]

end Go.Ab
