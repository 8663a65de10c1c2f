/-
  The layer settle, function by function: what each small one computes.
-/
import Derived.Test.YtppmifiahebgfaaT0
namespace Go.Ab
open Go.Proofs
set_option linter.unusedSimpArgs false
set_option linter.unusedVariables false

abbrev I (n : Int) : AV := .int .i64 n

theorem w64 {n : Int} (h1 : -9223372036854775808 ≤ n) (h2 : n < 9223372036854775808) : IntKind.i64.wrap n = n := by
  simp only [IntKind.wrap, IntKind.bits, IntKind.signed]
  have e : (2 : Int) ^ 64 = 18446744073709551616 := by decide
  have e' : (2 : Int) ^ (64 - 1) = 9223372036854775808 := by decide
  simp only [Bool.true_and, decide_eq_true_eq, e, e']
  split <;> omega

theorem f74 (n lo hi : Int) (H : Heap) : callFL cfg0 prog0 false 74 [I n, I lo, I hi] H none = some ⟨.ret (.bool (decide (lo ≤ n) && decide (n ≤ hi))), H, none⟩ := by
  refine (callFL_eq fn74 rfl (by simp [Try.f74])).trans ?_
  by_cases h1 : lo ≤ n <;> simp only [go_sem, ↓reduceIte, Nat.reduceEqDiff, Nat.reduceAdd, Nat.reduceLeDiff, Nat.reduceBEq, Nat.reduceMul, Nat.reduceLT, Int.reduceLT, Int.reduceLE, Int.reduceToNat, Int.reduceNeg, Int.reduceEq, Int.reduceMul, reduceCtorEq, fn74, res74, gc74, grow74, ty3, h1]

theorem f77 (n lo hi : Int) (H : Heap) : callFL cfg0 prog0 false 77 [I n, I lo, I hi] H none = some ⟨.ret (.bool (decide (lo ≤ n) && decide (n ≤ hi))), H, none⟩ := by
  refine (callFL_eq fn77 rfl (by simp [Try.f77])).trans ?_
  by_cases h1 : lo ≤ n <;> simp only [go_sem, ↓reduceIte, Nat.reduceEqDiff, Nat.reduceAdd, Nat.reduceLeDiff, Nat.reduceBEq, Nat.reduceMul, Nat.reduceLT, Int.reduceLT, Int.reduceLE, Int.reduceToNat, Int.reduceNeg, Int.reduceEq, Int.reduceMul, reduceCtorEq, fn77, res77, gc77, grow77, ty3, h1]

theorem f91 (a b lo hi : Int) (H : Heap) : callFL cfg0 prog0 false 91 [.agg [I a, I b], I lo, I hi] H none = some ⟨.ret (.bool (decide (lo ≤ a) && decide (a ≤ b) && decide (b ≤ hi))), H, none⟩ := by
  refine (callFL_eq fn91 rfl (by simp [Try.f91])).trans ?_
  by_cases h1 : lo ≤ a <;> by_cases h2 : a ≤ b <;> simp only [go_sem, ↓reduceIte, Nat.reduceEqDiff, Nat.reduceAdd, Nat.reduceLeDiff, Nat.reduceBEq, Nat.reduceMul, Nat.reduceLT, Int.reduceLT, Int.reduceLE, Int.reduceToNat, Int.reduceNeg, Int.reduceEq, Int.reduceMul, reduceCtorEq, fn91, res91, gc91, grow91, ty3, ty29, h1, h2]

theorem f87 (a b lo hi : Int) (H : Heap) : callFL cfg0 prog0 false 87 [.agg [I a, I b], I lo, I hi] H none = some ⟨.ret (.bool (decide (lo ≤ a) && decide (a ≤ b) && decide (b ≤ hi))), H, none⟩ := by
  refine (callFL_eq fn87 rfl (by simp [Try.f87])).trans ?_
  by_cases h1 : lo ≤ a <;> by_cases h2 : a ≤ b <;> simp only [go_sem, ↓reduceIte, Nat.reduceEqDiff, Nat.reduceAdd, Nat.reduceLeDiff, Nat.reduceBEq, Nat.reduceMul, Nat.reduceLT, Int.reduceLT, Int.reduceLE, Int.reduceToNat, Int.reduceNeg, Int.reduceEq, Int.reduceMul, reduceCtorEq, fn87, res87, gc87, grow87, ty3, ty29, h1, h2]

theorem f85 (b : Bool) (e : Int) (H : Heap) : callFL cfg0 prog0 false 85 [.bool b, I e] H none = some ⟨if b then .ret (.tup []) else .pan (.iface 109 (.agg [I e])), H, none⟩ := by
  refine (callFL_eq fn85 rfl (by simp [Try.f85])).trans ?_
  cases b <;> simp only [go_sem, ↓reduceIte, Nat.reduceEqDiff, Nat.reduceAdd, Nat.reduceLeDiff, Nat.reduceBEq, Nat.reduceMul, Nat.reduceLT, Int.reduceLT, Int.reduceLE, Int.reduceToNat, Int.reduceNeg, Int.reduceEq, Int.reduceMul, reduceCtorEq, fn85, res85, gc85, grow85, ty30, ty109]

theorem f41n (l : Nat) (H : Heap) : callFL cfg0 prog0 false 41 [.nilIface, .ptr l 0] H none = some ⟨.ret (.tup []), H, none⟩ := by
  refine (callFL_eq fn41 rfl (by simp [Try.f41])).trans ?_
  simp only [go_sem, ↓reduceIte, Nat.reduceEqDiff, Nat.reduceAdd, Nat.reduceLeDiff, Nat.reduceBEq, Nat.reduceMul, Nat.reduceLT, Int.reduceLT, Int.reduceLE, Int.reduceToNat, Int.reduceNeg, Int.reduceEq, Int.reduceMul, reduceCtorEq, fn41, res41, gc41, grow41, ty20, ty30, ty109, ifc20]

theorem f41s (l : Nat) (x e : Int) (H : Heap) (h : H[l]? = some (.box (I x))) : callFL cfg0 prog0 false 41 [.iface 109 (.agg [I e]), .ptr l 0] H none = some ⟨.ret (.tup []), H.set l (.box (I e)), none⟩ := by
  refine (callFL_eq fn41 rfl (by simp [Try.f41])).trans ?_
  have hl : l < H.length := (List.getElem?_eq_some_iff.1 h).1
  simp only [go_sem, ↓reduceIte, Nat.reduceEqDiff, Nat.reduceAdd, Nat.reduceLeDiff, Nat.reduceBEq, Nat.reduceMul, Nat.reduceLT, Int.reduceLT, Int.reduceLE, Int.reduceToNat, Int.reduceNeg, Int.reduceEq, Int.reduceMul, reduceCtorEq, fn41, res41, gc41, grow41, ty20, ty30, ty109, ifc20, get_lt hl, set_lt hl, h]

theorem f73 (n : Int) (H : Heap) : callFL cfg0 prog0 false 73 [I n] H none = some ⟨.ret (.bool (decide (-100 ≤ n) && decide (n ≤ 100))), H, none⟩ := by
  refine (callFL_eq fn73 rfl (by simp [Try.f73])).trans ?_
  simp only [go_sem, ↓reduceIte, Nat.reduceEqDiff, Nat.reduceAdd, Nat.reduceLeDiff, Nat.reduceBEq, Nat.reduceMul, Nat.reduceLT, Int.reduceLT, Int.reduceLE, Int.reduceToNat, Int.reduceNeg, Int.reduceEq, Int.reduceMul, reduceCtorEq, fn73, res73, gc73, grow73, ty3, f74]

theorem f76 (n : Int) (H : Heap) : callFL cfg0 prog0 false 76 [I n] H none = some ⟨.ret (.bool (decide (-100 ≤ n) && decide (n ≤ 100))), H, none⟩ := by
  refine (callFL_eq fn76 rfl (by simp [Try.f76])).trans ?_
  simp only [go_sem, ↓reduceIte, Nat.reduceEqDiff, Nat.reduceAdd, Nat.reduceLeDiff, Nat.reduceBEq, Nat.reduceMul, Nat.reduceLT, Int.reduceLT, Int.reduceLE, Int.reduceToNat, Int.reduceNeg, Int.reduceEq, Int.reduceMul, reduceCtorEq, fn76, res76, gc76, grow76, ty3, f77]

def fallsZ (x k : Int) : Int := if x < 0 then -(-x - (-x + k - 1).tdiv k) else x - (x + k - 1).tdiv k

theorem tdiv_bd {a k : Int} (ha : 0 ≤ a) (hk : 1 ≤ k) : 0 ≤ a.tdiv k ∧ a.tdiv k ≤ a := by
  rw [Int.tdiv_eq_ediv_of_nonneg ha]
  exact ⟨Int.ediv_nonneg ha (by omega), Int.ediv_le_self _ ha⟩

theorem f75p (x k : Int) (H : Heap) (h0 : 0 ≤ x) (h1 : x ≤ 1000000) (k1 : 1 ≤ k) (k2 : k ≤ 1000000) : callFL cfg0 prog0 false 75 [I x, I k] H none = some ⟨.ret (I (fallsZ x k)), H, none⟩ := by
  refine (callFL_eq fn75 rfl (by simp [Try.f75])).trans ?_
  have hn : ¬ x < 0 := by omega
  have hk : ¬ k = 0 := by omega
  obtain ⟨q1, q2⟩ := tdiv_bd (a := x + k - 1) (k := k) (by omega) k1
  have e1 : IntKind.i64.wrap (x + k) = x + k := w64 (by omega) (by omega)
  have e2 : IntKind.i64.wrap (x + k - 1) = x + k - 1 := w64 (by omega) (by omega)
  have e3 : IntKind.i64.wrap ((x + k - 1).tdiv k) = (x + k - 1).tdiv k := w64 (by omega) (by omega)
  have e4 : IntKind.i64.wrap (x - (x + k - 1).tdiv k) = x - (x + k - 1).tdiv k := w64 (by omega) (by omega)
  simp only [go_sem, ↓reduceIte, Nat.reduceEqDiff, Nat.reduceAdd, Nat.reduceLeDiff, Nat.reduceBEq, Nat.reduceMul, Nat.reduceLT, Int.reduceLT, Int.reduceLE, Int.reduceToNat, Int.reduceNeg, Int.reduceEq, Int.reduceMul, reduceCtorEq, fn75, res75, gc75, grow75, ty3, ty83, hn, hk, e1, e2, e3, e4, fallsZ]

theorem f75 (x k : Int) (H : Heap) (h0 : -1000000 ≤ x) (h1 : x ≤ 1000000) (k1 : 1 ≤ k) (k2 : k ≤ 1000000) : callFL cfg0 prog0 false 75 [I x, I k] H none = some ⟨.ret (I (fallsZ x k)), H, none⟩ := by
  by_cases hx : 0 ≤ x
  · exact f75p x k H hx h1 k1 k2
  · refine (callFL_eq fn75 rfl (by simp [Try.f75])).trans ?_
    have hn : x < 0 := by omega
    have hn2 : ¬ -x < 0 := by omega
    obtain ⟨q1, q2⟩ := tdiv_bd (a := -x + k - 1) (k := k) (by omega) k1
    have e1 : IntKind.i64.wrap (0 - x) = -x := by rw [w64 (by omega) (by omega)]; omega
    have e2 : IntKind.i64.wrap (0 - fallsZ (-x) k) = fallsZ x k := by
      simp only [fallsZ, if_pos hn, if_neg hn2]
      rw [w64 (by omega) (by omega)]; omega
    simp only [go_sem, ↓reduceIte, Nat.reduceEqDiff, Nat.reduceAdd, Nat.reduceLeDiff, Nat.reduceBEq, Nat.reduceMul, Nat.reduceLT, Int.reduceLT, Int.reduceLE, Int.reduceToNat, Int.reduceNeg, Int.reduceEq, Int.reduceMul, reduceCtorEq, fn75, res75, gc75, grow75, ty3, ty83, hn, e1, f75p (-x) k H (by omega) (by omega) k1 k2, e2]

theorem f78p (x k : Int) (H : Heap) (h0 : 0 ≤ x) (h1 : x ≤ 1000000) (k1 : 1 ≤ k) (k2 : k ≤ 1000000) : callFL cfg0 prog0 false 78 [I x, I k] H none = some ⟨.ret (I (fallsZ x k)), H, none⟩ := by
  refine (callFL_eq fn78 rfl (by simp [Try.f78])).trans ?_
  have hn : ¬ x < 0 := by omega
  have hk : ¬ k = 0 := by omega
  obtain ⟨q1, q2⟩ := tdiv_bd (a := x + k - 1) (k := k) (by omega) k1
  have e1 : IntKind.i64.wrap (x + k) = x + k := w64 (by omega) (by omega)
  have e2 : IntKind.i64.wrap (x + k - 1) = x + k - 1 := w64 (by omega) (by omega)
  have e3 : IntKind.i64.wrap ((x + k - 1).tdiv k) = (x + k - 1).tdiv k := w64 (by omega) (by omega)
  have e4 : IntKind.i64.wrap (x - (x + k - 1).tdiv k) = x - (x + k - 1).tdiv k := w64 (by omega) (by omega)
  simp only [go_sem, ↓reduceIte, Nat.reduceEqDiff, Nat.reduceAdd, Nat.reduceLeDiff, Nat.reduceBEq, Nat.reduceMul, Nat.reduceLT, Int.reduceLT, Int.reduceLE, Int.reduceToNat, Int.reduceNeg, Int.reduceEq, Int.reduceMul, reduceCtorEq, fn78, res78, gc78, grow78, ty3, hn, hk, e1, e2, e3, e4, fallsZ]

theorem f78 (x k : Int) (H : Heap) (h0 : -1000000 ≤ x) (h1 : x ≤ 1000000) (k1 : 1 ≤ k) (k2 : k ≤ 1000000) : callFL cfg0 prog0 false 78 [I x, I k] H none = some ⟨.ret (I (fallsZ x k)), H, none⟩ := by
  by_cases hx : 0 ≤ x
  · exact f78p x k H hx h1 k1 k2
  · refine (callFL_eq fn78 rfl (by simp [Try.f78])).trans ?_
    have hn : x < 0 := by omega
    have hn2 : ¬ -x < 0 := by omega
    obtain ⟨q1, q2⟩ := tdiv_bd (a := -x + k - 1) (k := k) (by omega) k1
    have e1 : IntKind.i64.wrap (0 - x) = -x := by rw [w64 (by omega) (by omega)]; omega
    have e2 : IntKind.i64.wrap (0 - fallsZ (-x) k) = fallsZ x k := by
      simp only [fallsZ, if_pos hn, if_neg hn2]
      rw [w64 (by omega) (by omega)]; omega
    simp only [go_sem, ↓reduceIte, Nat.reduceEqDiff, Nat.reduceAdd, Nat.reduceLeDiff, Nat.reduceBEq, Nat.reduceMul, Nat.reduceLT, Int.reduceLT, Int.reduceLE, Int.reduceToNat, Int.reduceNeg, Int.reduceEq, Int.reduceMul, reduceCtorEq, fn78, res78, gc78, grow78, ty3, hn, e1, f78p (-x) k H (by omega) (by omega) k1 k2, e2]

/-- A number by ten, rounded down. -/
def downZ (n : Int) : Int := if n.tmod 10 < 0 then n.tdiv 10 - 1 else n.tdiv 10

theorem f54 (x g : Int) (H : Heap) (h0 : -1000000 ≤ x * g) (h1 : x * g ≤ 1000000) : callFL cfg0 prog0 false 54 [I x, I g] H none = some ⟨.ret (I (downZ (x * g))), H, none⟩ := by
  refine (callFL_eq fn54 rfl (by simp [Try.f54])).trans ?_
  have hd : -1000000 ≤ (x * g).tdiv 10 ∧ (x * g).tdiv 10 ≤ 1000000 := by
    generalize x * g = n at *
    rcases Int.le_total 0 n with hn | hn
    · have := tdiv_bd hn (k := 10) (by omega); omega
    · have := tdiv_bd (a := -n) (k := 10) (by omega) (by omega)
      rw [Int.neg_tdiv] at this; omega
  have e1 : IntKind.i64.wrap (x * g) = x * g := w64 (by omega) (by omega)
  have e2 : IntKind.i64.wrap ((x * g).tdiv 10) = (x * g).tdiv 10 := w64 (by omega) (by omega)
  have e3 : IntKind.i64.wrap ((x * g).tdiv 10 - 1) = (x * g).tdiv 10 - 1 := w64 (by omega) (by omega)
  have h10 : ¬ (10 : Int) = 0 := by omega
  by_cases hm : (x * g).tmod 10 < 0 <;> simp only [go_sem, ↓reduceIte, Nat.reduceEqDiff, Nat.reduceAdd, Nat.reduceLeDiff, Nat.reduceBEq, Nat.reduceMul, Nat.reduceLT, Int.reduceLT, Int.reduceLE, Int.reduceToNat, Int.reduceNeg, Int.reduceEq, Int.reduceMul, reduceCtorEq, fn54, res54, gc54, grow54, ty3, e1, e2, e3, h10, hm, downZ]

theorem f119 (a b : Int) (H : Heap) : callFL cfg0 prog0 false 119 [.agg [], .agg [I a, I b]] H none = some ⟨.ret (I a), H, none⟩ := by
  refine (callFL_eq fn119 rfl (by simp [Try.f119])).trans ?_
  simp only [go_sem, ↓reduceIte, Nat.reduceEqDiff, Nat.reduceAdd, Nat.reduceLeDiff, Nat.reduceBEq, Nat.reduceMul, Nat.reduceLT, Int.reduceLT, Int.reduceLE, Int.reduceToNat, Int.reduceNeg, Int.reduceEq, Int.reduceMul, reduceCtorEq, fn119, res119, gc119, grow119, ty3, ty29, ty129]

theorem f101 (H : Heap) : callFL cfg0 prog0 false 101 [] H none = some ⟨.ret (.agg [.iface 129 (.agg []), .iface 131 (.agg [])]), H, none⟩ := by
  refine (callFL_eq fn101 rfl (by simp [Try.f101])).trans ?_
  simp only [go_sem, ↓reduceIte, Nat.reduceEqDiff, Nat.reduceAdd, Nat.reduceLeDiff, Nat.reduceBEq, Nat.reduceMul, Nat.reduceLT, Int.reduceLT, Int.reduceLE, Int.reduceToNat, Int.reduceNeg, Int.reduceEq, Int.reduceMul, reduceCtorEq, fn101, res101, gc101, grow101, ty122, ty123, ty129, ty131, evZero_of zf131_0]


theorem f102_loop (v : AV) (xs : List Int) (H : Heap) (hv : SlOk H 1 v (xs.map I)) (hb : ∀ x ∈ xs, -1000000 ≤ x ∧ x ≤ 1000000) (hl : xs.length ≤ 1000000) : ∀ (n k : Nat) (acc : Int) (e : Env), k + n = xs.length → -1000000 * k ≤ acc → acc ≤ 1000000 * k →
    e.get 2 = I acc → e.get 5 = v → e.get 6 = I xs.length → e.get 7 = I k →
    execL cfg0 prog0 ⟨102, none, false, H.length⟩ (todoAt Try.f102 2) ⟨e, [], H, none⟩ = some ⟨.ret (I (acc + (xs.drop k).sum)), H, none⟩ := by
  intro n
  induction n with
  | zero =>
    intro k acc e hk h1 h2 g2 g5 g6 g7
    have hk' : ¬ (k : Int) < xs.length := by omega
    have hd : xs.drop k = [] := List.drop_eq_nil_of_le (by omega)
    simp only [todoAt, todoOf, firstReg, Try.f102, ↓reduceIte]
    rw [execL_inLoop]
    simp only [go_sem, ↓reduceIte, Nat.reduceEqDiff, Nat.reduceAdd, Nat.reduceLeDiff, Nat.reduceBEq, Nat.reduceMul, Nat.reduceLT, Int.reduceLT, Int.reduceLE, Int.reduceToNat, Int.reduceNeg, Int.reduceEq, Int.reduceMul, reduceCtorEq, fn102, res102, gc102_0, gc102_1, gc102_2, gc102_3, gc102_4, gc102_5, gc102_6, gcSt, keepEnv, envLt, heapLt, dfrLt, ADefer.lt, grow102, ty3, ty83, ty125, g2, g5, g6, g7, hk', hv.lt0, hd, List.sum_nil, Int.add_zero]
  | succ n ih =>
    intro k acc e hk h1 h2 g2 g5 g6 g7
    have hk' : (k : Int) < xs.length := by omega
    have hk2 : k < xs.length := by omega
    obtain ⟨a1, a2, a3, -, -⟩ := hv.at (k := (k : Int)) (x := I xs[k]) (by omega) (by simp [hk2])
    have hx := hb xs[k] (List.getElem_mem _)
    have e1 : IntKind.i64.wrap ((k : Int) + 1) = ((k + 1 : Nat) : Int) := by rw [w64 (by omega) (by omega)]; omega
    have e2 : IntKind.i64.wrap (acc + xs[k]) = acc + xs[k] := w64 (by omega) (by omega)
    simp only [todoAt, todoOf, firstReg, Try.f102, ↓reduceIte]
    rw [execL_inLoop]
    simp only [go_sem, ↓reduceIte, Nat.reduceEqDiff, Nat.reduceAdd, Nat.reduceLeDiff, Nat.reduceBEq, Nat.reduceMul, Nat.reduceLT, Int.reduceLT, Int.reduceLE, Int.reduceToNat, Int.reduceNeg, Int.reduceEq, Int.reduceMul, reduceCtorEq, fn102, res102, gc102_0, gc102_1, gc102_2, gc102_3, gc102_4, gc102_5, gc102_6, gcSt, keepEnv, envLt, heapLt, dfrLt, ADefer.lt, grow102, ty3, ty83, ty125, g2, g5, g6, g7, hk', hv.lt0, a1, a2, a3, e1, e2]
    refine Eq.trans (ih (k + 1) (acc + xs[k]) _ (by omega) (by omega) (by omega) (by rfl) (by rfl) (by rfl) (by rfl)) ?_
    rw [List.drop_eq_getElem_cons hk2, List.sum_cons, Int.add_assoc]

theorem f102 (v : AV) (xs : List Int) (H : Heap) (hv : SlOk H 1 v (xs.map I)) (hb : ∀ x ∈ xs, -1000000 ≤ x ∧ x ≤ 1000000) (hl : xs.length ≤ 1000000) : callFL cfg0 prog0 false 102 [v] H none = some ⟨.ret (I xs.sum), H, none⟩ := by
  refine (callFL_eq fn102 rfl (by simp [Try.f102])).trans ?_
  simp only [go_sem, ↓reduceIte, Nat.reduceEqDiff, Nat.reduceAdd, Nat.reduceLeDiff, Nat.reduceBEq, Nat.reduceMul, Nat.reduceLT, Int.reduceLT, Int.reduceLE, Int.reduceToNat, Int.reduceNeg, Int.reduceEq, Int.reduceMul, reduceCtorEq, fn102, res102, gc102_0, gc102_1, gc102_2, gc102_3, gc102_4, gc102_5, gc102_6, gcSt, keepEnv, envLt, heapLt, dfrLt, ADefer.lt, grow102, ty3, ty83, ty125, hv.len, List.length_map]
  have h := fun e => f102_loop v xs H hv hb hl xs.length 0 0 e (by omega) (by omega) (by omega)
  erw [h _ (by rfl) (by rfl) (by rfl) (by rfl)]
  simp only [go_sem, ↓reduceIte, Nat.reduceEqDiff, Nat.reduceAdd, Nat.reduceLeDiff, Nat.reduceBEq, Nat.reduceMul, Nat.reduceLT, Int.reduceLT, Int.reduceLE, Int.reduceToNat, Int.reduceNeg, Int.reduceEq, Int.reduceMul, reduceCtorEq, List.drop_zero, Int.zero_add]

theorem sl_full {H : Heap} {sz : Nat} {xs : List AV} (h : ∀ x ∈ xs, x.cells.length = sz) : SlOk H sz (.sl true xs) xs := ⟨rfl, h⟩

theorem f120 (a b : Int) (H : Heap) (ha : -1000000 ≤ a ∧ a ≤ 1000000) (hb : -1000000 ≤ b ∧ b ≤ 1000000) (hd : -1000000 ≤ b - a ∧ b - a ≤ 1000000) : callFL cfg0 prog0 false 120 [.agg [], .agg [I a, I b]] H none = some ⟨.ret (I b), H, none⟩ := by
  refine (callFL_eq fn120 rfl (by simp [Try.f120])).trans ?_
  have e1 : IntKind.i64.wrap (b - a) = b - a := w64 (by omega) (by omega)
  have hs := f102 (.sl true [I a, I (b - a)]) [a, b - a] (H ++ [.box (.agg []), .box (.agg [I a, I b])]) (sl_full (by simp [AV.cells])) (by simp; omega) (by simp)
  have e2 : [a, b - a].sum = b := by simp; omega
  rw [e2] at hs
  simp only [go_sem, ↓reduceIte, Nat.reduceEqDiff, Nat.reduceAdd, Nat.reduceLeDiff, Nat.reduceBEq, Nat.reduceMul, Nat.reduceLT, Int.reduceLT, Int.reduceLE, Int.reduceToNat, Int.reduceNeg, Int.reduceEq, Int.reduceMul, reduceCtorEq, fn120, res120, gc120, grow120, ty3, ty29, ty83, ty125, ty129, ty131, plan120_1, evZero_of zf131_0]
  rw [chkK_of]; rotate_left; kernel_rfl
  simp only [go_sem, ↓reduceIte, Nat.reduceEqDiff, Nat.reduceAdd, Nat.reduceLeDiff, Nat.reduceBEq, Nat.reduceMul, Nat.reduceLT, Int.reduceLT, Int.reduceLE, Int.reduceToNat, Int.reduceNeg, Int.reduceEq, Int.reduceMul, reduceCtorEq, fn120, res120, gc120, grow120, ty3, ty29, ty83, ty125, ty129, ty131, plan120_1, evZero_of zf131_0, f119, e1, hs]

end Go.Ab
