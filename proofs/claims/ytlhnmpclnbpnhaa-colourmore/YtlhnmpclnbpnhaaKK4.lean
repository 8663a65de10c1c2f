/-
  Sets, and what they cost.
-/
import Derived.Test.YtlhnmpclnbpnhaaKK3
namespace Go.Ab
open Go.Proofs
set_option linter.unusedSimpArgs false
set_option linter.unusedVariables false
set_option maxRecDepth 100000
set_option maxHeartbeats 1000000

variable {H : Heap}

theorem u64nat {n : Nat} (h : n < 18446744073709551615) : IntKind.u64.wrap ((n : Int) + 1) = ((n + 1 : Nat) : Int) := wrapU (n := n + 1) (by omega)

theorem co_sets_loop (N : Nat) (hN : N ≤ 1000) :
    ∀ (q j : Nat), j + q = N → ∀ (len : Nat), ∀ (xs : List AV), xs = (List.range j).map U → len = xs.length → ∀ E : Env, E.get 2 = .gsl H.length len → E.get 9 = U N → E.get 10 = U j →
    Option.map (finishC H.length) (execL cfg0 prog0 ⟨103, none, false, H.length⟩ (todoAt Try.f103 2) ⟨E, [], H ++ [.grow 1 xs], none⟩) = some ⟨.ret (.sl false ((List.range N).map U)), H, none⟩ := by
  intro q
  induction q with
  | zero =>
    intro j hj len xs hx hlen E g2 g9 g10
    have hk' : ¬ (j : Int) < ((N : Nat) : Int) := by omega
    have hx2 : xs = (List.range N).map U := by rw [hx, show j = N by omega]
    subst hlen
    simp only [loopIt, todoPast, todoAt, todoOf, firstReg, ↓reduceIte, Option.some.injEq, Nat.reduceEqDiff, reduceCtorEq, Try.f103]
    rw [execL_inLoop]
    simp (maxSteps := 1000000) (implicitDefEqProofs := false) (disch := first | rfl | omega | assumption) only [go_sem, ↓reduceIte, Nat.reduceEqDiff, Nat.reduceAdd, Nat.reduceLeDiff, Nat.reduceBEq, Nat.reduceMul, Nat.reduceLT, Int.reduceLT, Int.reduceLE, Int.reduceToNat, Int.reduceNeg, Int.reduceEq, Int.reduceMul, reduceCtorEq, Int.reduceBEq, Int.reduceBNe, Int.reduceAdd, Int.reduceSub, g2, g9, g10, ltT, ltF, leT, leF, hk']
    rw [← hx2]
  | succ q ih =>
    intro j hj len xs hx hlen E g2 g9 g10
    have hk' : (j : Int) < ((N : Nat) : Int) := by omega
    have hk2 : j < N := by omega
    have hxl : xs.length = j := by rw [hx]; simp
    have hof : addElem (H ++ [.grow 1 xs]) 1 false (.gsl H.length len) [U j] = some (.gsl H.length (len + 1), H ++ [.grow 1 (xs ++ [U j])]) := by
      rw [add_gsl (by simp [get_at]) hlen.symm rfl rfl (by simp; omega), set_at]
      rfl
    have hw := u64nat (n := j) (by omega)
    simp only [loopIt, todoPast, todoAt, todoOf, firstReg, ↓reduceIte, Option.some.injEq, Nat.reduceEqDiff, reduceCtorEq, Try.f103]
    rw [execL_inLoop]
    simp (maxSteps := 1000000) (implicitDefEqProofs := false) (disch := first | rfl | omega | assumption) only [go_sem, ↓reduceIte, Nat.reduceEqDiff, Nat.reduceAdd, Nat.reduceLeDiff, Nat.reduceBEq, Nat.reduceMul, Nat.reduceLT, Int.reduceLT, Int.reduceLE, Int.reduceToNat, Int.reduceNeg, Int.reduceEq, Int.reduceMul, reduceCtorEq, Int.reduceBEq, Int.reduceBNe, Int.reduceAdd, Int.reduceSub, g2, g9, g10, ltT, ltF, leT, leF, hk', hof, hw]
    exact ih (j + 1) (by omega) (len + 1) _ (by rw [List.range_succ, hx, List.map_append]; rfl) (by rw [hlen]; simp) _ (by rfl) (by exact g9) (by rfl)

theorem co_sets {l lm : Nat} {c : Col} {vw vp vo : AV} (h : ShopAt H l c vw vp vo lm) (hw : c.ws.length ≤ 6) :
    callFL cfg0 prog0 false 103 [.ptr l 0] H none = some ⟨.ret (.sl false ((List.range (2 ^ c.ws.length)).map U)), H, none⟩ := by
  have hl : l < H.length := (List.getElem?_eq_some_iff.1 h.box).1
  have hb := h.box
  have hp : (2 : Nat) ^ c.ws.length ≤ 2 ^ 6 := Nat.pow_le_pow_right (by omega) hw
  have h1 : IntKind.u64.wrap (1 * 2 ^ min c.ws.length 64) = ((2 ^ c.ws.length : Nat) : Int) := shlU hw
  have h2 := co_sets_loop (H := H) (2 ^ c.ws.length) (by omega) (2 ^ c.ws.length) 0 (by omega) 0 [] rfl rfl
  have z : ¬ (c.ws.length : Int) < 0 := by omega
  refine (callFL_eq fn103 rfl (by simp [Try.f103])).trans ?_
  simp (maxSteps := 1000000) (implicitDefEqProofs := false) (disch := first | rfl | omega | assumption) only [go_sem, ↓reduceIte, Nat.reduceEqDiff, Nat.reduceAdd, Nat.reduceLeDiff, Nat.reduceBEq, Nat.reduceMul, Nat.reduceLT, Int.reduceLT, Int.reduceLE, Int.reduceToNat, Int.reduceNeg, Int.reduceEq, Int.reduceMul, reduceCtorEq, Int.reduceBEq, Int.reduceBNe, Int.reduceAdd, Int.reduceSub, ltT, ltF, leT, leF, get_lt hl, hb, h.own.len, h1, z]
  exact h2 _ (by rfl) (by rfl) (by rfl)

def M0 : Nat := 6148914691236517205
def M1 : Nat := 3689348814741910323
def M2 : Nat := 1085102592571150095
def y1 (x : Nat) : Nat := (x / 2 &&& M0) + (x &&& M0)
def y2 (x : Nat) : Nat := (y1 x / 4 &&& M1) + (y1 x &&& M1)
def y3 (x : Nat) : Nat := (y2 x / 16 + y2 x) &&& M2
def y4 (x : Nat) : Nat := y3 x + y3 x / 256
def y5 (x : Nat) : Nat := y4 x + y4 x / 65536
def y6 (x : Nat) : Nat := y5 x + y5 x / 4294967296

theorem y_bd : ∀ x < 64, y1 x < 64 ∧ y2 x < 64 ∧ y3 x < 64 ∧ y4 x < 64 ∧ y5 x < 64 ∧ y6 x < 64 ∧ (y6 x &&& 127) = pop x := by decide +kernel

theorem bitsAndI {a b : Nat} (ha : a < 2 ^ 63) (hb : b < 2 ^ 63) : bitsOp .and .i64 (a : Int) (b : Int) = some ((a &&& b : Nat) : Int) := by
  have h : a &&& b ≤ a := Nat.and_le_left
  have e : ∀ n : Nat, n < 2 ^ 63 → (BitVec.ofInt 64 (n : Int)).toNat = n := by
    intro n hn
    rw [BitVec.ofInt_natCast, BitVec.toNat_ofNat, Nat.mod_eq_of_lt (by omega)]
  show some (IntKind.i64.wrap (((BitVec.ofInt 64 (a : Int) &&& BitVec.ofInt 64 (b : Int)) : BitVec 64).toNat : Int)) = _
  rw [BitVec.toNat_and, e a ha, e b hb, w64 (by omega) (by omega)]

theorem fdivN (x k : Nat) : (x : Int).fdiv (k : Int) = ((x / k : Nat) : Int) := by rw [Int.fdiv_eq_ediv_of_nonneg _ (Int.natCast_nonneg _)]; rfl

theorem ones64 {x : Nat} (hx : x < 64) : callFL cfg0 prog0 false 132 [U x] H none = some ⟨.ret (I (pop x)), H, none⟩ := by
  obtain ⟨b1, b2, b3, b4, b5, b6, b7⟩ := y_bd x hx
  have f1 : (x : Int).fdiv (2 ^ min 1 64) = ((x / 2 : Nat) : Int) := fdivN x 2
  have f2 : (y1 x : Int).fdiv (2 ^ min 2 64) = ((y1 x / 4 : Nat) : Int) := fdivN (y1 x) 4
  have f3 : (y2 x : Int).fdiv (2 ^ min 4 64) = ((y2 x / 16 : Nat) : Int) := fdivN (y2 x) 16
  have f4 : (y3 x : Int).fdiv (2 ^ min 8 64) = ((y3 x / 256 : Nat) : Int) := fdivN (y3 x) 256
  have f5 : (y4 x : Int).fdiv (2 ^ min 16 64) = ((y4 x / 65536 : Nat) : Int) := fdivN (y4 x) 65536
  have f6 : (y5 x : Int).fdiv (2 ^ min 32 64) = ((y5 x / 4294967296 : Nat) : Int) := fdivN (y5 x) 4294967296
  have g1 : bitsOp .and .u64 ((x / 2 : Nat) : Int) 6148914691236517205 = some ((x / 2 &&& M0 : Nat) : Int) := bitsAnd (b := M0) (by omega) (by decide)
  have g2 : bitsOp .and .u64 (x : Int) 6148914691236517205 = some ((x &&& M0 : Nat) : Int) := bitsAnd (b := M0) (by omega) (by decide)
  have g3 : bitsOp .and .u64 ((y1 x / 4 : Nat) : Int) 3689348814741910323 = some ((y1 x / 4 &&& M1 : Nat) : Int) := bitsAnd (b := M1) (by omega) (by decide)
  have g4 : bitsOp .and .u64 (y1 x : Int) 3689348814741910323 = some ((y1 x &&& M1 : Nat) : Int) := bitsAnd (b := M1) (by omega) (by decide)
  have g5 : bitsOp .and .u64 ((y2 x / 16 + y2 x : Nat) : Int) 1085102592571150095 = some (y3 x : Int) := bitsAnd (b := M2) (by omega) (by decide)
  have g6 : bitsOp .and .i64 (y6 x : Int) 127 = some (pop x : Int) := by rw [← b7]; exact bitsAndI (b := 127) (by omega) (by decide)
  have k1 : IntKind.u64.wrap (((x / 2 &&& M0 : Nat) : Int) + ((x &&& M0 : Nat) : Int)) = (y1 x : Int) := wrapU (n := y1 x) (by omega)
  have k2 : IntKind.u64.wrap (((y1 x / 4 &&& M1 : Nat) : Int) + ((y1 x &&& M1 : Nat) : Int)) = (y2 x : Int) := wrapU (n := y2 x) (by omega)
  have k3 : IntKind.u64.wrap (((y2 x / 16 : Nat) : Int) + (y2 x : Int)) = ((y2 x / 16 + y2 x : Nat) : Int) := wrapU (n := y2 x / 16 + y2 x) (by omega)
  have k4 : IntKind.u64.wrap ((y3 x : Int) + ((y3 x / 256 : Nat) : Int)) = (y4 x : Int) := wrapU (n := y4 x) (by omega)
  have k5 : IntKind.u64.wrap ((y4 x : Int) + ((y4 x / 65536 : Nat) : Int)) = (y5 x : Int) := wrapU (n := y5 x) (by omega)
  have k6 : IntKind.u64.wrap ((y5 x : Int) + ((y5 x / 4294967296 : Nat) : Int)) = (y6 x : Int) := wrapU (n := y6 x) (by omega)
  have k7 : IntKind.i64.wrap (y6 x : Int) = (y6 x : Int) := w64 (by omega) (by omega)
  refine (callFL_eq fn132 rfl (by simp [Try.f132])).trans ?_
  simp (maxSteps := 1000000) (implicitDefEqProofs := false) (disch := first | rfl | omega | assumption) only [go_sem, ↓reduceIte, Nat.reduceEqDiff, Nat.reduceAdd, Nat.reduceLeDiff, Nat.reduceBEq, Nat.reduceMul, Nat.reduceLT, Int.reduceLT, Int.reduceLE, Int.reduceToNat, Int.reduceNeg, Int.reduceEq, Int.reduceMul, reduceCtorEq, Int.reduceBEq, Int.reduceBNe, Int.reduceAdd, Int.reduceSub, f1, f2, f3, f4, f5, f6, g1, g2, g3, g4, g5, g6, k1, k2, k3, k4, k5, k6, k7]

theorem ones {x : Nat} (hx : x < 64) : callFL cfg0 prog0 false 130 [U x] H none = some ⟨.ret (I (pop x)), H, none⟩ := by
  have h1 := fun G : Heap => ones64 (H := G) hx
  have h2 : IntKind.u64.wrap (x : Int) = x := wrapU (by omega)
  refine (callFL_eq fn130 rfl (by simp [Try.f130])).trans ?_
  simp (maxSteps := 1000000) (implicitDefEqProofs := false) (disch := first | rfl | omega | assumption) only [go_sem, ↓reduceIte, Nat.reduceEqDiff, Nat.reduceAdd, Nat.reduceLeDiff, Nat.reduceBEq, Nat.reduceMul, Nat.reduceLT, Int.reduceLT, Int.reduceLE, Int.reduceToNat, Int.reduceNeg, Int.reduceEq, Int.reduceMul, reduceCtorEq, Int.reduceBEq, Int.reduceBNe, Int.reduceAdd, Int.reduceSub, h1, h2]

theorem each_of {x : Nat} (hx : x < 64) : callFL cfg0 prog0 false 129 [.agg [], U x] H none = some ⟨.ret (I (pop x)), H, none⟩ := by
  have h1 := fun G : Heap => ones (H := G) hx
  refine (callFL_eq fn129 rfl (by simp [Try.f129])).trans ?_
  simp (maxSteps := 1000000) (implicitDefEqProofs := false) (disch := first | rfl | omega | assumption) only [go_sem, ↓reduceIte, Nat.reduceEqDiff, Nat.reduceAdd, Nat.reduceLeDiff, Nat.reduceBEq, Nat.reduceMul, Nat.reduceLT, Int.reduceLT, Int.reduceLE, Int.reduceToNat, Int.reduceNeg, Int.reduceEq, Int.reduceMul, reduceCtorEq, Int.reduceBEq, Int.reduceBNe, Int.reduceAdd, Int.reduceSub, h1]

theorem co_sum_loop {vl : AV} (l : List Int) (h : SlOk H 1 vl (l.map I)) (hb : ∀ x ∈ l, 0 ≤ x ∧ x ≤ 50) (hl : l.length ≤ 1000) (r : Int) :
    ∀ (q j : Nat), j + q = l.length → ∀ (n : Int), n + (l.drop j).sum = r → 0 ≤ n ∧ n ≤ 50 * j → ∀ E : Env, E.get 2 = I n → E.get 5 = vl → E.get 6 = I l.length → E.get 7 = I j →
    Option.map (finishC H.length) (execL cfg0 prog0 ⟨134, none, false, H.length⟩ (todoAt Try.f134 2) ⟨E, [], H, none⟩) = some ⟨.ret (I r), H, none⟩ := by
  intro q
  obtain ⟨a1, a2, a3, a4⟩ := h.fI
  induction q with
  | zero =>
    intro j hj n hr hn E g2 g5 g6 g7
    have hk' : ¬ (j : Int) < ((l.length : Nat) : Int) := by omega
    have hjn : j = l.length := by omega
    rw [hjn, List.drop_length, List.sum_nil, Int.add_zero] at hr
    subst hr
    simp only [loopIt, todoPast, todoAt, todoOf, firstReg, ↓reduceIte, Option.some.injEq, Nat.reduceEqDiff, reduceCtorEq, Try.f134]
    rw [execL_inLoop]
    simp (maxSteps := 1000000) (implicitDefEqProofs := false) (disch := first | rfl | omega | assumption) only [go_sem, ↓reduceIte, Nat.reduceEqDiff, Nat.reduceAdd, Nat.reduceLeDiff, Nat.reduceBEq, Nat.reduceMul, Nat.reduceLT, Int.reduceLT, Int.reduceLE, Int.reduceToNat, Int.reduceNeg, Int.reduceEq, Int.reduceMul, reduceCtorEq, Int.reduceBEq, Int.reduceBNe, Int.reduceAdd, Int.reduceSub, g2, g5, g6, g7, ltT, ltF, leT, leF, hk']
  | succ q ih =>
    intro j hj n hr hn E g2 g5 g6 g7
    have hk' : (j : Int) < ((l.length : Nat) : Int) := by omega
    have hk2 : j < l.length := by omega
    have e : l.getD j 0 = l[j] := by simp [hk2]
    have hx := hb _ (List.getElem_mem hk2)
    rw [← e] at hx
    rw [List.drop_eq_getElem_cons hk2, List.sum_cons, ← e] at hr
    simp only [loopIt, todoPast, todoAt, todoOf, firstReg, ↓reduceIte, Option.some.injEq, Nat.reduceEqDiff, reduceCtorEq, Try.f134]
    rw [execL_inLoop]
    simp (maxSteps := 1000000) (implicitDefEqProofs := false) (disch := first | rfl | omega | assumption) only [go_sem, ↓reduceIte, Nat.reduceEqDiff, Nat.reduceAdd, Nat.reduceLeDiff, Nat.reduceBEq, Nat.reduceMul, Nat.reduceLT, Int.reduceLT, Int.reduceLE, Int.reduceToNat, Int.reduceNeg, Int.reduceEq, Int.reduceMul, reduceCtorEq, Int.reduceBEq, Int.reduceBNe, Int.reduceAdd, Int.reduceSub, g2, g5, g6, g7, ltT, ltF, leT, leF, hk', a2, a4]
    exact ih (j + 1) (by omega) (n + l.getD j 0) (by omega) (by omega) _ (by rfl) (by exact g5) (by exact g6) (by rfl)

theorem co_sum {vl : AV} (l : List Int) (h : SlOk H 1 vl (l.map I)) (hb : ∀ x ∈ l, 0 ≤ x ∧ x ≤ 50) (hl : l.length ≤ 1000) : callFL cfg0 prog0 false 134 [vl] H none = some ⟨.ret (I l.sum), H, none⟩ := by
  have h1 := co_sum_loop l h hb hl l.sum l.length 0 (by omega) 0 (by simp) (by omega)
  refine (callFL_eq fn134 rfl (by simp [Try.f134])).trans ?_
  simp (maxSteps := 1000000) (implicitDefEqProofs := false) (disch := first | rfl | omega | assumption) only [go_sem, ↓reduceIte, Nat.reduceEqDiff, Nat.reduceAdd, Nat.reduceLeDiff, Nat.reduceBEq, Nat.reduceMul, Nat.reduceLT, Int.reduceLT, Int.reduceLE, Int.reduceToNat, Int.reduceNeg, Int.reduceEq, Int.reduceMul, reduceCtorEq, Int.reduceBEq, Int.reduceBNe, Int.reduceAdd, Int.reduceSub, ltT, ltF, leT, leF, h.len]
  exact h1 _ (by rfl) (by rfl) (by rfl) (by rfl)

/-- The prices of a set, in order. -/
def Col.tags (c : Col) (s : Nat) : Nat → List Int
  | 0 => []
  | j + 1 => c.tags s j ++ (if s.testBit j then [c.ps.getD j 0] else [])

theorem Col.tags_sum (c : Col) (s : Nat) : ∀ j, (c.tags s j).sum = foldF (c.costA s) 0 0 j
  | 0 => rfl
  | j + 1 => by
    rw [foldF_snoc, Col.tags, List.sum_append, c.tags_sum s j, Nat.zero_add, Col.costA]
    split <;> simp

theorem Col.tags_len (c : Col) (s : Nat) : ∀ j, (c.tags s j).length ≤ j
  | 0 => by simp [Col.tags]
  | j + 1 => by
    have := c.tags_len s j
    rw [Col.tags, List.length_append]
    split <;> simp <;> omega

theorem Col.tags_bd {c : Col} (ho : c.Ok) (s : Nat) : ∀ j, j ≤ c.ps.length → ∀ x ∈ c.tags s j, 0 ≤ x ∧ x ≤ 50
  | 0, _, x, hx => by simp [Col.tags] at hx
  | j + 1, hj, x, hx => by
    rw [Col.tags, List.mem_append] at hx
    rcases hx with hx | hx
    · exact c.tags_bd ho s j (by omega) x hx
    · split at hx
      · rw [List.mem_singleton] at hx
        subst hx
        exact ho.ps j (by have := ho.plen; omega)
      · cases hx

theorem and_one {s j : Nat} : (((s / 2 ^ j &&& 1 : Nat) : Int) == 1) = s.testBit j := by
  rw [Nat.and_one_is_mod, Nat.testBit_eq_decide_div_mod_eq]
  have : s / 2 ^ j % 2 = 0 ∨ s / 2 ^ j % 2 = 1 := by omega
  rcases this with h | h <;> rw [h] <;> rfl

theorem shrU {s j : Nat} (hj : j ≤ 6) : (s : Int).fdiv (2 ^ min j 64) = ((s / 2 ^ j : Nat) : Int) := by
  rw [← fdivN, Nat.min_eq_left (by omega), Int.natCast_pow]
  rfl

theorem tagged_loop {c : Col} {vp : AV} (h : SlOk H 1 vp (c.ps.map I)) (ho : c.Ok) {s : Nat} (hs : s < 64) :
    ∀ (q j : Nat), j + q = c.ps.length → ∀ (len : Nat), ∀ (xs : List AV), xs = (c.tags s j).map I → len = xs.length → ∀ E : Env, E.get 1 = U s → E.get 5 = .gsl (H.length + 1) len → E.get 9 = vp → E.get 10 = I c.ps.length → E.get 11 = I j →
    Option.map (finishC H.length) (execL cfg0 prog0 ⟨133, none, false, H.length⟩ (todoAt Try.f133 3) ⟨E, [], H ++ [.box (.agg [vp]), .grow 1 xs], none⟩) = some ⟨.ret (I (c.cost s)), H, none⟩ := by
  intro q
  have lw := ho.len
  have lp := ho.plen
  obtain ⟨a1, a2, a3, a4⟩ := h.fI
  induction q with
  | zero =>
    intro j hj len xs hx hlen E g1 g5 g9 g10 g11
    have hk' : ¬ (j : Int) < ((c.ps.length : Nat) : Int) := by omega
    have hx2 : xs = (c.tags s c.ps.length).map I := by rw [hx, show j = c.ps.length by omega]
    have hsm := co_sum (H := H ++ [.box (.agg [vp]), .grow 1 xs]) (vl := .gsl (H.length + 1) len) (c.tags s c.ps.length) ⟨by rw [← hx2]; exact ⟨by rw [get_at']; rfl, hlen⟩, by simp [I, AV.cells]⟩ (c.tags_bd ho s _ (Nat.le_refl _)) (by have := c.tags_len s c.ps.length; omega)
    rw [c.tags_sum] at hsm
    simp only [loopIt, todoPast, todoAt, todoOf, firstReg, ↓reduceIte, Option.some.injEq, Nat.reduceEqDiff, reduceCtorEq, Try.f133]
    rw [execL_inLoop]
    simp (maxSteps := 1000000) (implicitDefEqProofs := false) (disch := first | rfl | omega | assumption) only [go_sem, ↓reduceIte, Nat.reduceEqDiff, Nat.reduceAdd, Nat.reduceLeDiff, Nat.reduceBEq, Nat.reduceMul, Nat.reduceLT, Int.reduceLT, Int.reduceLE, Int.reduceToNat, Int.reduceNeg, Int.reduceEq, Int.reduceMul, reduceCtorEq, Int.reduceBEq, Int.reduceBNe, Int.reduceAdd, Int.reduceSub, g1, g5, g9, g10, g11, ltT, ltF, leT, leF, hk', hsm, Col.cost]
  | succ q ih =>
    intro j hj len xs hx hlen E g1 g5 g9 g10 g11
    have hk' : (j : Int) < ((c.ps.length : Nat) : Int) := by omega
    have hk2 : j < c.ps.length := by omega
    have hxl : xs.length ≤ j := by rw [hx, List.length_map]; exact c.tags_len s j
    have hof : addElem (H ++ [.box (.agg [vp]), .grow 1 xs]) 1 false (.gsl (H.length + 1) len) [I (c.ps.getD j 0)] = some (.gsl (H.length + 1) (len + 1), H ++ [.box (.agg [vp]), .grow 1 (xs ++ [I (c.ps.getD j 0)])]) := by
      rw [add_gsl (by simp [get_at']) hlen.symm rfl rfl (by simp; omega), set_at']
      rfl
    have e1 := shrU (s := s) (j := j) (by omega)
    have e2 : s / 2 ^ j ≤ s := Nat.div_le_self _ _
    have e3 : bitsOp .and .u64 ((s / 2 ^ j : Nat) : Int) 1 = some ((s / 2 ^ j &&& 1 : Nat) : Int) := bitsAnd (b := 1) (by omega) (by decide)
    have e4 := and_one (s := s) (j := j)
    have z : ¬ (j : Int) < 0 := by omega
    simp only [loopIt, todoPast, todoAt, todoOf, firstReg, ↓reduceIte, Option.some.injEq, Nat.reduceEqDiff, reduceCtorEq, Try.f133]
    rw [execL_inLoop]
    rcases Bool.eq_false_or_eq_true (s.testBit j) with ht | ht
    · simp (maxSteps := 1000000) (implicitDefEqProofs := false) (disch := first | rfl | omega | assumption) only [go_sem, ↓reduceIte, Nat.reduceEqDiff, Nat.reduceAdd, Nat.reduceLeDiff, Nat.reduceBEq, Nat.reduceMul, Nat.reduceLT, Int.reduceLT, Int.reduceLE, Int.reduceToNat, Int.reduceNeg, Int.reduceEq, Int.reduceMul, reduceCtorEq, Int.reduceBEq, Int.reduceBNe, Int.reduceAdd, Int.reduceSub, g1, g5, g9, g10, g11, ltT, ltF, leT, leF, hk', a1, a2, a3, a4, e1, e3, e4, ht, hof, z]
      exact ih (j + 1) (by omega) (len + 1) _ (by rw [Col.tags, ht, if_pos rfl, List.map_append, hx]; rfl) (by rw [hlen]; simp) _ (by exact g1) (by rfl) (by exact g9) (by exact g10) (by rfl)
    · simp (maxSteps := 1000000) (implicitDefEqProofs := false) (disch := first | rfl | omega | assumption) only [go_sem, ↓reduceIte, Nat.reduceEqDiff, Nat.reduceAdd, Nat.reduceLeDiff, Nat.reduceBEq, Nat.reduceMul, Nat.reduceLT, Int.reduceLT, Int.reduceLE, Int.reduceToNat, Int.reduceNeg, Int.reduceEq, Int.reduceMul, reduceCtorEq, Int.reduceBEq, Int.reduceBNe, Int.reduceAdd, Int.reduceSub, g1, g5, g9, g10, g11, ltT, ltF, leT, leF, hk', a1, a2, a3, a4, e1, e3, e4, ht, z]
      exact ih (j + 1) (by omega) len xs (by rw [Col.tags, ht, if_neg (by simp), List.append_nil, hx]) hlen _ (by exact g1) (by exact g5) (by exact g9) (by exact g10) (by rfl)

theorem tagged_of {c : Col} {vp : AV} (h : SlOk H 1 vp (c.ps.map I)) (ho : c.Ok) {s : Nat} (hs : s < 64) : callFL cfg0 prog0 false 133 [.agg [vp], U s] H none = some ⟨.ret (I (c.cost s)), H, none⟩ := by
  have s1 := h.scal
  have h1 := tagged_loop h ho hs c.ps.length 0 (by omega) 0 [] rfl rfl
  refine (callFL_eq fn133 rfl (by simp [Try.f133])).trans ?_
  simp (maxSteps := 1000000) (implicitDefEqProofs := false) (disch := first | rfl | omega | assumption) only [go_sem, ↓reduceIte, Nat.reduceEqDiff, Nat.reduceAdd, Nat.reduceLeDiff, Nat.reduceBEq, Nat.reduceMul, Nat.reduceLT, Int.reduceLT, Int.reduceLE, Int.reduceToNat, Int.reduceNeg, Int.reduceEq, Int.reduceMul, reduceCtorEq, Int.reduceBEq, Int.reduceBNe, Int.reduceAdd, Int.reduceSub, ltT, ltF, leT, leF, s1, h.len]
  exact h1 _ (by rfl) (by rfl) (by rfl) (by rfl) (by rfl)

/-- The best of what can be chosen: the first that costs least. -/
def bst (can : Nat → Bool) (cost : Nat → Int) (st : Nat × Int × Bool) (x : Nat) : Nat × Int × Bool :=
  if (!st.2.2 || decide (cost x < st.2.1)) && can x then (x, cost x, true) else st

theorem cheapU_loop {vl : AV} (l : List Nat) (h : SlOk H 1 vl (l.map U)) (hl : l.length ≤ 1000) (can : Nat → Bool) (cost : Nat → Int) (f1 f2 : Fn) (x1 x2 c1 c2 : List AV) (hcan : ∀ G : Heap, ∀ x ∈ l, callVL cfg0 prog0 false f1 (x1 ++ [U x]) c1 (H ++ G) none = some ⟨.ret (.bool (can x)), H ++ G, none⟩) (hcost : ∀ G : Heap, ∀ x ∈ l, callVL cfg0 prog0 false f2 (x2 ++ [U x]) c2 (H ++ G) none = some ⟨.ret (I (cost x)), H ++ G, none⟩) (r : Nat × Int × Bool) :
    ∀ (q j : Nat), j + q = l.length → ∀ (st : Nat × Int × Bool), (l.drop j).foldl (bst can cost) st = r → ∀ E : Env, E.get 3 = .ptr H.length 0 → E.get 4 = U st.1 → E.get 5 = I st.2.1 → E.get 6 = .bool st.2.2 → E.get 10 = vl → E.get 11 = I l.length → E.get 12 = I j →
    Option.map (finishC H.length) (execL cfg0 prog0 ⟨102, none, false, H.length⟩ (todoAt Try.f102 2) ⟨E, [], H ++ [.box (.agg [.func f1 x1 c1, .func f2 x2 c2])], none⟩) = some ⟨.ret (.tup [U r.1, I r.2.1, .bool r.2.2]), H, none⟩ := by
  intro q
  induction q with
  | zero =>
    intro j hj st hr E g3 g4 g5 g6 g10 g11 g12
    have hk' : ¬ (j : Int) < ((l.length : Nat) : Int) := by omega
    have hjn : j = l.length := by omega
    rw [hjn, List.drop_length, List.foldl_nil] at hr
    subst hr
    simp only [loopIt, todoPast, todoAt, todoOf, firstReg, ↓reduceIte, Option.some.injEq, Nat.reduceEqDiff, reduceCtorEq, Try.f102]
    rw [execL_inLoop]
    simp (maxSteps := 1000000) (implicitDefEqProofs := false) (disch := first | rfl | omega | assumption) only [go_sem, ↓reduceIte, Nat.reduceEqDiff, Nat.reduceAdd, Nat.reduceLeDiff, Nat.reduceBEq, Nat.reduceMul, Nat.reduceLT, Int.reduceLT, Int.reduceLE, Int.reduceToNat, Int.reduceNeg, Int.reduceEq, Int.reduceMul, reduceCtorEq, Int.reduceBEq, Int.reduceBNe, Int.reduceAdd, Int.reduceSub, g3, g4, g5, g6, g10, g11, g12, ltT, ltF, leT, leF, hk']
  | succ q ih =>
    intro j hj st hr E g3 g4 g5 g6 g10 g11 g12
    have hk' : (j : Int) < ((l.length : Nat) : Int) := by omega
    have hk2 : j < l.length := by omega
    obtain ⟨a1, a2, a3, a4, a5⟩ := h.at (k := (j : Int)) (x := U l[j]) (by omega) (by simp [hk2])
    have k1 := fun G => hcan G l[j] (List.getElem_mem hk2)
    have k2 := fun G => hcost G l[j] (List.getElem_mem hk2)
    rw [List.drop_eq_getElem_cons hk2, List.foldl_cons] at hr
    obtain ⟨s1, s2, s3⟩ := st
    simp only [bst] at hr
    simp only [loopIt, todoPast, todoAt, todoOf, firstReg, ↓reduceIte, Option.some.injEq, Nat.reduceEqDiff, reduceCtorEq, Try.f102]
    rw [execL_inLoop]
    rcases Bool.eq_false_or_eq_true (can l[j]) with hc | hc
    · cases s3 with
      | false =>
        simp only [hc, Bool.not_false, Bool.true_or, Bool.and_self, if_true] at hr
        simp (maxSteps := 1000000) (implicitDefEqProofs := false) (disch := first | rfl | omega | assumption) only [go_sem, ↓reduceIte, Nat.reduceEqDiff, Nat.reduceAdd, Nat.reduceLeDiff, Nat.reduceBEq, Nat.reduceMul, Nat.reduceLT, Int.reduceLT, Int.reduceLE, Int.reduceToNat, Int.reduceNeg, Int.reduceEq, Int.reduceMul, reduceCtorEq, Int.reduceBEq, Int.reduceBNe, Int.reduceAdd, Int.reduceSub, g3, g4, g5, g6, g10, g11, g12, ltT, ltF, leT, leF, hk', a1, a2, a3, a4, a5, k1, k2, hc]
        exact ih (j + 1) (by omega) _ hr _ (by exact g3) (by rfl) (by rfl) (by rfl) (by exact g10) (by exact g11) (by rfl)
      | true =>
        by_cases hd : cost l[j] < s2
        · simp only [hc, hd, Bool.not_true, Bool.false_or, decide_true, Bool.and_self, if_true] at hr
          simp (maxSteps := 1000000) (implicitDefEqProofs := false) (disch := first | rfl | omega | assumption) only [go_sem, ↓reduceIte, Nat.reduceEqDiff, Nat.reduceAdd, Nat.reduceLeDiff, Nat.reduceBEq, Nat.reduceMul, Nat.reduceLT, Int.reduceLT, Int.reduceLE, Int.reduceToNat, Int.reduceNeg, Int.reduceEq, Int.reduceMul, reduceCtorEq, Int.reduceBEq, Int.reduceBNe, Int.reduceAdd, Int.reduceSub, g3, g4, g5, g6, g10, g11, g12, ltT, ltF, leT, leF, hk', a1, a2, a3, a4, a5, k1, k2, hc, hd]
          exact ih (j + 1) (by omega) _ hr _ (by exact g3) (by rfl) (by rfl) (by rfl) (by exact g10) (by exact g11) (by rfl)
        · simp only [hc, hd, Bool.not_true, Bool.false_or, decide_false, Bool.false_and, Bool.false_eq_true, if_false] at hr
          simp (maxSteps := 1000000) (implicitDefEqProofs := false) (disch := first | rfl | omega | assumption) only [go_sem, ↓reduceIte, Nat.reduceEqDiff, Nat.reduceAdd, Nat.reduceLeDiff, Nat.reduceBEq, Nat.reduceMul, Nat.reduceLT, Int.reduceLT, Int.reduceLE, Int.reduceToNat, Int.reduceNeg, Int.reduceEq, Int.reduceMul, reduceCtorEq, Int.reduceBEq, Int.reduceBNe, Int.reduceAdd, Int.reduceSub, g3, g4, g5, g6, g10, g11, g12, ltT, ltF, leT, leF, hk', a1, a2, a3, a4, a5, k1, k2, hc, hd]
          exact ih (j + 1) (by omega) _ hr _ (by exact g3) (by exact g4) (by exact g5) (by exact g6) (by exact g10) (by exact g11) (by rfl)
    · simp only [hc, Bool.and_false, Bool.false_eq_true, if_false] at hr
      cases s3 with
      | false =>
        simp (maxSteps := 1000000) (implicitDefEqProofs := false) (disch := first | rfl | omega | assumption) only [go_sem, ↓reduceIte, Nat.reduceEqDiff, Nat.reduceAdd, Nat.reduceLeDiff, Nat.reduceBEq, Nat.reduceMul, Nat.reduceLT, Int.reduceLT, Int.reduceLE, Int.reduceToNat, Int.reduceNeg, Int.reduceEq, Int.reduceMul, reduceCtorEq, Int.reduceBEq, Int.reduceBNe, Int.reduceAdd, Int.reduceSub, g3, g4, g5, g6, g10, g11, g12, ltT, ltF, leT, leF, hk', a1, a2, a3, a4, a5, k1, k2, hc]
        exact ih (j + 1) (by omega) _ hr _ (by exact g3) (by exact g4) (by exact g5) (by exact g6) (by exact g10) (by exact g11) (by rfl)
      | true =>
        by_cases hd : cost l[j] < s2
        · simp (maxSteps := 1000000) (implicitDefEqProofs := false) (disch := first | rfl | omega | assumption) only [go_sem, ↓reduceIte, Nat.reduceEqDiff, Nat.reduceAdd, Nat.reduceLeDiff, Nat.reduceBEq, Nat.reduceMul, Nat.reduceLT, Int.reduceLT, Int.reduceLE, Int.reduceToNat, Int.reduceNeg, Int.reduceEq, Int.reduceMul, reduceCtorEq, Int.reduceBEq, Int.reduceBNe, Int.reduceAdd, Int.reduceSub, g3, g4, g5, g6, g10, g11, g12, ltT, ltF, leT, leF, hk', a1, a2, a3, a4, a5, k1, k2, hc, hd]
          exact ih (j + 1) (by omega) _ hr _ (by exact g3) (by exact g4) (by exact g5) (by exact g6) (by exact g10) (by exact g11) (by rfl)
        · simp (maxSteps := 1000000) (implicitDefEqProofs := false) (disch := first | rfl | omega | assumption) only [go_sem, ↓reduceIte, Nat.reduceEqDiff, Nat.reduceAdd, Nat.reduceLeDiff, Nat.reduceBEq, Nat.reduceMul, Nat.reduceLT, Int.reduceLT, Int.reduceLE, Int.reduceToNat, Int.reduceNeg, Int.reduceEq, Int.reduceMul, reduceCtorEq, Int.reduceBEq, Int.reduceBNe, Int.reduceAdd, Int.reduceSub, g3, g4, g5, g6, g10, g11, g12, ltT, ltF, leT, leF, hk', a1, a2, a3, a4, a5, k1, k2, hc, hd]
          exact ih (j + 1) (by omega) _ hr _ (by exact g3) (by exact g4) (by exact g5) (by exact g6) (by exact g10) (by exact g11) (by rfl)

theorem cheapU {vl : AV} (l : List Nat) (h : SlOk H 1 vl (l.map U)) (hl : l.length ≤ 1000) (can : Nat → Bool) (cost : Nat → Int) (f1 f2 : Fn) (x1 x2 c1 c2 : List AV)
    (hcan : ∀ G : Heap, ∀ x ∈ l, callVL cfg0 prog0 false f1 (x1 ++ [U x]) c1 (H ++ G) none = some ⟨.ret (.bool (can x)), H ++ G, none⟩)
    (hcost : ∀ G : Heap, ∀ x ∈ l, callVL cfg0 prog0 false f2 (x2 ++ [U x]) c2 (H ++ G) none = some ⟨.ret (I (cost x)), H ++ G, none⟩) :
    callFL cfg0 prog0 false 102 [vl, .agg [.func f1 x1 c1, .func f2 x2 c2]] H none = some ⟨.ret (.tup [U (l.foldl (bst can cost) (0, 0, false)).1, I (l.foldl (bst can cost) (0, 0, false)).2.1, .bool (l.foldl (bst can cost) (0, 0, false)).2.2]), H, none⟩ := by
  have h1 := cheapU_loop l h hl can cost f1 f2 x1 x2 c1 c2 hcan hcost _ l.length 0 (by omega) (0, 0, false) rfl
  rw [List.drop_zero] at h1
  refine (callFL_eq fn102 rfl (by simp [Try.f102])).trans ?_
  simp (maxSteps := 1000000) (implicitDefEqProofs := false) (disch := first | rfl | omega | assumption) only [go_sem, ↓reduceIte, Nat.reduceEqDiff, Nat.reduceAdd, Nat.reduceLeDiff, Nat.reduceBEq, Nat.reduceMul, Nat.reduceLT, Int.reduceLT, Int.reduceLE, Int.reduceToNat, Int.reduceNeg, Int.reduceEq, Int.reduceMul, reduceCtorEq, Int.reduceBEq, Int.reduceBNe, Int.reduceAdd, Int.reduceSub, ltT, ltF, leT, leF, h.len]
  exact h1 _ (by rfl) (by rfl) (by rfl) (by rfl) (by rfl) (by rfl) (by rfl)

theorem cheapI_loop {vl : AV} (l : List Nat) (h : SlOk H 1 vl (l.map fun n : Nat => I n)) (hl : l.length ≤ 1000) (can : Nat → Bool) (cost : Nat → Int) (f1 f2 : Fn) (x1 x2 c1 c2 : List AV) (hcan : ∀ G : Heap, ∀ x ∈ l, callVL cfg0 prog0 false f1 (x1 ++ [I x]) c1 (H ++ G) none = some ⟨.ret (.bool (can x)), H ++ G, none⟩) (hcost : ∀ G : Heap, ∀ x ∈ l, callVL cfg0 prog0 false f2 (x2 ++ [I x]) c2 (H ++ G) none = some ⟨.ret (I (cost x)), H ++ G, none⟩) (r : Nat × Int × Bool) :
    ∀ (q j : Nat), j + q = l.length → ∀ (st : Nat × Int × Bool), (l.drop j).foldl (bst can cost) st = r → ∀ E : Env, E.get 3 = .ptr H.length 0 → E.get 4 = I st.1 → E.get 5 = I st.2.1 → E.get 6 = .bool st.2.2 → E.get 10 = vl → E.get 11 = I l.length → E.get 12 = I j →
    Option.map (finishC H.length) (execL cfg0 prog0 ⟨80, none, false, H.length⟩ (todoAt Try.f80 2) ⟨E, [], H ++ [.box (.agg [.func f1 x1 c1, .func f2 x2 c2])], none⟩) = some ⟨.ret (.tup [I r.1, I r.2.1, .bool r.2.2]), H, none⟩ := by
  intro q
  induction q with
  | zero =>
    intro j hj st hr E g3 g4 g5 g6 g10 g11 g12
    have hk' : ¬ (j : Int) < ((l.length : Nat) : Int) := by omega
    have hjn : j = l.length := by omega
    rw [hjn, List.drop_length, List.foldl_nil] at hr
    subst hr
    simp only [loopIt, todoPast, todoAt, todoOf, firstReg, ↓reduceIte, Option.some.injEq, Nat.reduceEqDiff, reduceCtorEq, Try.f80]
    rw [execL_inLoop]
    simp (maxSteps := 1000000) (implicitDefEqProofs := false) (disch := first | rfl | omega | assumption) only [go_sem, ↓reduceIte, Nat.reduceEqDiff, Nat.reduceAdd, Nat.reduceLeDiff, Nat.reduceBEq, Nat.reduceMul, Nat.reduceLT, Int.reduceLT, Int.reduceLE, Int.reduceToNat, Int.reduceNeg, Int.reduceEq, Int.reduceMul, reduceCtorEq, Int.reduceBEq, Int.reduceBNe, Int.reduceAdd, Int.reduceSub, g3, g4, g5, g6, g10, g11, g12, ltT, ltF, leT, leF, hk']
  | succ q ih =>
    intro j hj st hr E g3 g4 g5 g6 g10 g11 g12
    have hk' : (j : Int) < ((l.length : Nat) : Int) := by omega
    have hk2 : j < l.length := by omega
    obtain ⟨a1, a2, a3, a4, a5⟩ := h.at (k := (j : Int)) (x := I l[j]) (by omega) (by simp [hk2])
    have k1 := fun G => hcan G l[j] (List.getElem_mem hk2)
    have k2 := fun G => hcost G l[j] (List.getElem_mem hk2)
    rw [List.drop_eq_getElem_cons hk2, List.foldl_cons] at hr
    obtain ⟨s1, s2, s3⟩ := st
    simp only [bst] at hr
    simp only [loopIt, todoPast, todoAt, todoOf, firstReg, ↓reduceIte, Option.some.injEq, Nat.reduceEqDiff, reduceCtorEq, Try.f80]
    rw [execL_inLoop]
    rcases Bool.eq_false_or_eq_true (can l[j]) with hc | hc
    · cases s3 with
      | false =>
        simp only [hc, Bool.not_false, Bool.true_or, Bool.and_self, if_true] at hr
        simp (maxSteps := 1000000) (implicitDefEqProofs := false) (disch := first | rfl | omega | assumption) only [go_sem, ↓reduceIte, Nat.reduceEqDiff, Nat.reduceAdd, Nat.reduceLeDiff, Nat.reduceBEq, Nat.reduceMul, Nat.reduceLT, Int.reduceLT, Int.reduceLE, Int.reduceToNat, Int.reduceNeg, Int.reduceEq, Int.reduceMul, reduceCtorEq, Int.reduceBEq, Int.reduceBNe, Int.reduceAdd, Int.reduceSub, g3, g4, g5, g6, g10, g11, g12, ltT, ltF, leT, leF, hk', a1, a2, a3, a4, a5, k1, k2, hc]
        exact ih (j + 1) (by omega) _ hr _ (by exact g3) (by rfl) (by rfl) (by rfl) (by exact g10) (by exact g11) (by rfl)
      | true =>
        by_cases hd : cost l[j] < s2
        · simp only [hc, hd, Bool.not_true, Bool.false_or, decide_true, Bool.and_self, if_true] at hr
          simp (maxSteps := 1000000) (implicitDefEqProofs := false) (disch := first | rfl | omega | assumption) only [go_sem, ↓reduceIte, Nat.reduceEqDiff, Nat.reduceAdd, Nat.reduceLeDiff, Nat.reduceBEq, Nat.reduceMul, Nat.reduceLT, Int.reduceLT, Int.reduceLE, Int.reduceToNat, Int.reduceNeg, Int.reduceEq, Int.reduceMul, reduceCtorEq, Int.reduceBEq, Int.reduceBNe, Int.reduceAdd, Int.reduceSub, g3, g4, g5, g6, g10, g11, g12, ltT, ltF, leT, leF, hk', a1, a2, a3, a4, a5, k1, k2, hc, hd]
          exact ih (j + 1) (by omega) _ hr _ (by exact g3) (by rfl) (by rfl) (by rfl) (by exact g10) (by exact g11) (by rfl)
        · simp only [hc, hd, Bool.not_true, Bool.false_or, decide_false, Bool.false_and, Bool.false_eq_true, if_false] at hr
          simp (maxSteps := 1000000) (implicitDefEqProofs := false) (disch := first | rfl | omega | assumption) only [go_sem, ↓reduceIte, Nat.reduceEqDiff, Nat.reduceAdd, Nat.reduceLeDiff, Nat.reduceBEq, Nat.reduceMul, Nat.reduceLT, Int.reduceLT, Int.reduceLE, Int.reduceToNat, Int.reduceNeg, Int.reduceEq, Int.reduceMul, reduceCtorEq, Int.reduceBEq, Int.reduceBNe, Int.reduceAdd, Int.reduceSub, g3, g4, g5, g6, g10, g11, g12, ltT, ltF, leT, leF, hk', a1, a2, a3, a4, a5, k1, k2, hc, hd]
          exact ih (j + 1) (by omega) _ hr _ (by exact g3) (by exact g4) (by exact g5) (by exact g6) (by exact g10) (by exact g11) (by rfl)
    · simp only [hc, Bool.and_false, Bool.false_eq_true, if_false] at hr
      cases s3 with
      | false =>
        simp (maxSteps := 1000000) (implicitDefEqProofs := false) (disch := first | rfl | omega | assumption) only [go_sem, ↓reduceIte, Nat.reduceEqDiff, Nat.reduceAdd, Nat.reduceLeDiff, Nat.reduceBEq, Nat.reduceMul, Nat.reduceLT, Int.reduceLT, Int.reduceLE, Int.reduceToNat, Int.reduceNeg, Int.reduceEq, Int.reduceMul, reduceCtorEq, Int.reduceBEq, Int.reduceBNe, Int.reduceAdd, Int.reduceSub, g3, g4, g5, g6, g10, g11, g12, ltT, ltF, leT, leF, hk', a1, a2, a3, a4, a5, k1, k2, hc]
        exact ih (j + 1) (by omega) _ hr _ (by exact g3) (by exact g4) (by exact g5) (by exact g6) (by exact g10) (by exact g11) (by rfl)
      | true =>
        by_cases hd : cost l[j] < s2
        · simp (maxSteps := 1000000) (implicitDefEqProofs := false) (disch := first | rfl | omega | assumption) only [go_sem, ↓reduceIte, Nat.reduceEqDiff, Nat.reduceAdd, Nat.reduceLeDiff, Nat.reduceBEq, Nat.reduceMul, Nat.reduceLT, Int.reduceLT, Int.reduceLE, Int.reduceToNat, Int.reduceNeg, Int.reduceEq, Int.reduceMul, reduceCtorEq, Int.reduceBEq, Int.reduceBNe, Int.reduceAdd, Int.reduceSub, g3, g4, g5, g6, g10, g11, g12, ltT, ltF, leT, leF, hk', a1, a2, a3, a4, a5, k1, k2, hc, hd]
          exact ih (j + 1) (by omega) _ hr _ (by exact g3) (by exact g4) (by exact g5) (by exact g6) (by exact g10) (by exact g11) (by rfl)
        · simp (maxSteps := 1000000) (implicitDefEqProofs := false) (disch := first | rfl | omega | assumption) only [go_sem, ↓reduceIte, Nat.reduceEqDiff, Nat.reduceAdd, Nat.reduceLeDiff, Nat.reduceBEq, Nat.reduceMul, Nat.reduceLT, Int.reduceLT, Int.reduceLE, Int.reduceToNat, Int.reduceNeg, Int.reduceEq, Int.reduceMul, reduceCtorEq, Int.reduceBEq, Int.reduceBNe, Int.reduceAdd, Int.reduceSub, g3, g4, g5, g6, g10, g11, g12, ltT, ltF, leT, leF, hk', a1, a2, a3, a4, a5, k1, k2, hc, hd]
          exact ih (j + 1) (by omega) _ hr _ (by exact g3) (by exact g4) (by exact g5) (by exact g6) (by exact g10) (by exact g11) (by rfl)

theorem cheapI {vl : AV} (l : List Nat) (h : SlOk H 1 vl (l.map fun n : Nat => I n)) (hl : l.length ≤ 1000) (can : Nat → Bool) (cost : Nat → Int) (f1 f2 : Fn) (x1 x2 c1 c2 : List AV)
    (hcan : ∀ G : Heap, ∀ x ∈ l, callVL cfg0 prog0 false f1 (x1 ++ [I x]) c1 (H ++ G) none = some ⟨.ret (.bool (can x)), H ++ G, none⟩)
    (hcost : ∀ G : Heap, ∀ x ∈ l, callVL cfg0 prog0 false f2 (x2 ++ [I x]) c2 (H ++ G) none = some ⟨.ret (I (cost x)), H ++ G, none⟩) :
    callFL cfg0 prog0 false 80 [vl, .agg [.func f1 x1 c1, .func f2 x2 c2]] H none = some ⟨.ret (.tup [I (l.foldl (bst can cost) (0, 0, false)).1, I (l.foldl (bst can cost) (0, 0, false)).2.1, .bool (l.foldl (bst can cost) (0, 0, false)).2.2]), H, none⟩ := by
  have h1 := cheapI_loop l h hl can cost f1 f2 x1 x2 c1 c2 hcan hcost _ l.length 0 (by omega) (0, 0, false) rfl
  rw [List.drop_zero] at h1
  refine (callFL_eq fn80 rfl (by simp [Try.f80])).trans ?_
  simp (maxSteps := 1000000) (implicitDefEqProofs := false) (disch := first | rfl | omega | assumption) only [go_sem, ↓reduceIte, Nat.reduceEqDiff, Nat.reduceAdd, Nat.reduceLeDiff, Nat.reduceBEq, Nat.reduceMul, Nat.reduceLT, Int.reduceLT, Int.reduceLE, Int.reduceToNat, Int.reduceNeg, Int.reduceEq, Int.reduceMul, reduceCtorEq, Int.reduceBEq, Int.reduceBNe, Int.reduceAdd, Int.reduceSub, ltT, ltF, leT, leF, h.len]
  exact h1 _ (by rfl) (by rfl) (by rfl) (by rfl) (by rfl) (by rfl) (by rfl)

end Go.Ab
/-
  The best sets.
-/
namespace Go.Ab
open Go.Proofs
set_option linter.unusedSimpArgs false
set_option linter.unusedVariables false
set_option maxRecDepth 100000
set_option maxHeartbeats 1000000

variable {H : Heap}

/-- A set parts all. -/
def Col.allP (c : Col) (s : Nat) : Bool := (itA c s (fun (_ : Unit) _ _ => ((), false)) () 0 c.manyN).2

/-- The best set by a price. -/
def Col.bestP (c : Col) (cost : Nat → Int) : Nat × Int × Bool := (List.range (2 ^ c.ws.length)).foldl (bst c.allP cost) (0, 0, false)

theorem range_lt {c : Col} (ho : c.Ok) {x : Nat} (hx : x ∈ List.range (2 ^ c.ws.length)) : x < 64 := by
  have h2 : (2 : Nat) ^ c.ws.length ≤ 2 ^ 6 := Nat.pow_le_pow_right (by omega) ho.len.2
  have := List.mem_range.1 hx
  omega

theorem best_lt {c : Col} (ho : c.Ok) (cost : Nat → Int) : (c.bestP cost).1 < 64 := by
  have key : ∀ (l : List Nat) (st : Nat × Int × Bool), st.1 < 64 → (∀ x ∈ l, x < 64) → (l.foldl (bst c.allP cost) st).1 < 64 := by
    intro l
    induction l with
    | nil => intro st h _; exact h
    | cons x r ih =>
      intro st h hl
      rw [List.foldl_cons]
      refine ih _ ?_ (fun y hy => hl y (List.mem_cons_of_mem _ hy))
      simp only [bst]
      split
      · exact hl x (List.mem_cons_self ..)
      · exact h
  exact key _ _ (by decide) (fun x hx => range_lt ho hx)

theorem best_cl {p t : Nat} {v : AV} {k x : Nat} (hp : H[p]? = some (.box (.iface t v))) (n : Int) (hof : callVL cfg0 prog0 false (.method "blockworks/colour.of") [.iface t v, U x] [] H none = some ⟨.ret (I n), H, none⟩) :
    callVL cfg0 prog0 false (.func 104) [U x] [.ptr p 0] H none = some ⟨.ret (I n), H, none⟩ := by
  rw [callVL_func]
  rw [callVL_method] at hof
  simp only [List.cons_append, List.nil_append]
  refine (callFL_eq fn104 rfl (by simp [Try.f104])).trans ?_
  simp (maxSteps := 1000000) (implicitDefEqProofs := false) (disch := first | rfl | omega | assumption) only [go_sem, ↓reduceIte, Nat.reduceEqDiff, Nat.reduceAdd, Nat.reduceLeDiff, Nat.reduceBEq, Nat.reduceMul, Nat.reduceLT, Int.reduceLT, Int.reduceLE, Int.reduceToNat, Int.reduceNeg, Int.reduceEq, Int.reduceMul, reduceCtorEq, Int.reduceBEq, Int.reduceBNe, Int.reduceAdd, Int.reduceSub, hp, hof]

theorem co_best {l lm : Nat} {c : Col} {vw vp vo : AV} (h : Full H l lm c vw vp vo) (ho : c.Ok) (t : TypeId) (v : AV) (cost : Nat → Int)
    (hof : ∀ (G : Heap) (x : Nat), x < 64 → callVL cfg0 prog0 false (.method "blockworks/colour.of") [.iface t v, U x] [] (H ++ G) none = some ⟨.ret (I (cost x)), H ++ G, none⟩) :
    callFL cfg0 prog0 false 70 [.ptr l 0, .iface t v] H none = some ⟨if (c.bestP cost).2.2 then .ret (.tup [I (c.bestP cost).2.1, I (c.bestP cost).1]) else .pan (errA 4), H, none⟩ := by
  have hS := fun G : Heap => co_sets (h.app G).shop ho.len.2
  have hl2 : (2 : Nat) ^ c.ws.length ≤ 2 ^ 6 := Nat.pow_le_pow_right (by omega) ho.len.2
  have hsl : SlOk (H ++ [.box (.iface t v)]) 1 (.sl false ((List.range (2 ^ c.ws.length)).map U)) ((List.range (2 ^ c.ws.length)).map U) := ⟨rfl, by simp [U, AV.cells]⟩
  have hC := cheapU (H := H ++ [.box (.iface t v)]) (List.range (2 ^ c.ws.length)) hsl (by simp; omega) c.allP cost (.func 76) (.func 104) [.ptr l 0] [] [] [.ptr H.length 0]
    (fun G x hx => by
      rw [callVL_func]
      exact co_partsAll ((h.app _).app G) ho (range_lt ho hx))
    (fun G x hx => by
      refine best_cl (k := 0) (by rw [List.append_assoc, get_at]; rfl) (cost x) ?_
      rw [List.append_assoc]
      exact hof _ x (range_lt ho hx))
  change callFL _ _ _ _ _ _ _ = some ⟨.ret (.tup [U (c.bestP cost).1, I (c.bestP cost).2.1, .bool (c.bestP cost).2.2]), _, _⟩ at hC
  have hlt := best_lt ho cost
  have hcv : IntKind.i64.wrap ((c.bestP cost).1 : Int) = (c.bestP cost).1 := w64 (by omega) (by omega)
  generalize c.bestP cost = r at hC hlt hcv ⊢
  obtain ⟨r1, r2, r3⟩ := r
  refine (callFL_eq fn70 rfl (by simp [Try.f70])).trans ?_
  cases r3 with
  | true => simp (maxSteps := 1000000) (implicitDefEqProofs := false) (disch := first | rfl | omega | assumption) only [go_sem, ↓reduceIte, Nat.reduceEqDiff, Nat.reduceAdd, Nat.reduceLeDiff, Nat.reduceBEq, Nat.reduceMul, Nat.reduceLT, Int.reduceLT, Int.reduceLE, Int.reduceToNat, Int.reduceNeg, Int.reduceEq, Int.reduceMul, reduceCtorEq, Int.reduceBEq, Int.reduceBNe, Int.reduceAdd, Int.reduceSub, hS, hC, co_must, hcv]
  | false => simp (maxSteps := 1000000) (implicitDefEqProofs := false) (disch := first | rfl | omega | assumption) only [go_sem, ↓reduceIte, Nat.reduceEqDiff, Nat.reduceAdd, Nat.reduceLeDiff, Nat.reduceBEq, Nat.reduceMul, Nat.reduceLT, Int.reduceLT, Int.reduceLE, Int.reduceToNat, Int.reduceNeg, Int.reduceEq, Int.reduceMul, reduceCtorEq, Int.reduceBEq, Int.reduceBNe, Int.reduceAdd, Int.reduceSub, hS, hC, co_must, hcv, errA]

theorem isSet0 {c : Col} (ho : c.Ok) : c.isSet 0 = true := by
  have := Nat.pow_pos (n := c.ws.length) (show 0 < 2 by omega)
  exact wi_iff.2 ⟨by omega, by omega⟩

def Col.few (c : Col) (cost : Nat → Int) : Int × Int × Int := if c.valid then (if (c.bestP cost).2.2 then ((c.bestP cost).2.1, (c.bestP cost).1, 0) else (0, 0, 4)) else (0, 0, 1)

theorem co_Fewest {c : Col} {vw vp : AV} (h : ColAt H c vw vp) (hl : c.ws.length ≤ 1000 ∧ c.ps.length ≤ 1000) :
    callFL cfg0 prog0 false 24 [c.av vw vp] H none = some ⟨.ret (.tup [I (c.few fun s => pop s).1, I (c.few fun s => pop s).2.1, I (c.few fun s => pop s).2.2]), H, none⟩ := by
  have s1 := h.ws.scal
  have s2 := h.ps.scal
  have hL := co_look (H := H ++ [.box (c.av vw vp), .box (I 0)]) (h.app _) hl 0
  have hN := fun (G : Heap) => dn_Fewest (H.length + 1) G
  have hS := fun (e : Int) (x : AO) (G : Heap) => ds_Fewest (H.length + 1) e 0 (H ++ (x :: .box (I 0) :: G)) (by rw [get_at' 1]; rfl)
  simp only [errA] at hS
  rcases Bool.eq_false_or_eq_true c.valid with hv | hv
  · have ho := c.valid_iff.1 hv
    have hF := fun G : Heap => Col.seen_full (H := H ++ [.box (c.av vw vp), .box (I 0)]) (vw := vw) (vp := vp) (c := c) 0 G
    have hB := fun G : Heap => co_best (hF G) ho 90 (.agg []) (fun s => pop s) (fun G' x hx => by
      rw [callVL_method, meth129]
      exact each_of hx)
    simp only [hv, isSet0 ho, if_true, Col.seen, Col.av, List.length_append, List.length_cons, List.length_nil, List.append_assoc, List.cons_append, List.nil_append, Nat.add_assoc, Nat.reduceAdd, Nat.zero_add, errA] at hL hB
    simp only [Col.few, hv, if_true, Col.av]
    generalize c.bestP (fun s => pop s) = r at hB ⊢
    obtain ⟨r1, r2, r3⟩ := r
    refine (callFL_eq fn24 rfl (by simp [Try.f24])).trans ?_
    cases r3 with
    | true =>
      simp only [if_true] at hB
      simp (maxSteps := 1000000) (implicitDefEqProofs := false) (disch := first | rfl | omega | assumption) only [go_sem, ↓reduceIte, Nat.reduceEqDiff, Nat.reduceAdd, Nat.reduceLeDiff, Nat.reduceBEq, Nat.reduceMul, Nat.reduceLT, Int.reduceLT, Int.reduceLE, Int.reduceToNat, Int.reduceNeg, Int.reduceEq, Int.reduceMul, reduceCtorEq, Int.reduceBEq, Int.reduceBNe, Int.reduceAdd, Int.reduceSub, s1, s2, hL, hB, hN]
    | false =>
      simp only [Bool.false_eq_true, if_false] at hB
      simp (maxSteps := 1000000) (implicitDefEqProofs := false) (disch := first | rfl | omega | assumption) only [go_sem, ↓reduceIte, Nat.reduceEqDiff, Nat.reduceAdd, Nat.reduceLeDiff, Nat.reduceBEq, Nat.reduceMul, Nat.reduceLT, Int.reduceLT, Int.reduceLE, Int.reduceToNat, Int.reduceNeg, Int.reduceEq, Int.reduceMul, reduceCtorEq, Int.reduceBEq, Int.reduceBNe, Int.reduceAdd, Int.reduceSub, s1, s2, hL, hB, hS]
  · simp only [hv, if_false, Bool.false_eq_true, Col.av, List.length_append, List.length_cons, List.length_nil, List.append_assoc, List.cons_append, List.nil_append, Nat.add_assoc, Nat.reduceAdd, Nat.zero_add, errA] at hL
    simp only [Col.few, hv, if_false, Bool.false_eq_true, Col.av]
    refine (callFL_eq fn24 rfl (by simp [Try.f24])).trans ?_
    simp (maxSteps := 1000000) (implicitDefEqProofs := false) (disch := first | rfl | omega | assumption) only [go_sem, ↓reduceIte, Nat.reduceEqDiff, Nat.reduceAdd, Nat.reduceLeDiff, Nat.reduceBEq, Nat.reduceMul, Nat.reduceLT, Int.reduceLT, Int.reduceLE, Int.reduceToNat, Int.reduceNeg, Int.reduceEq, Int.reduceMul, reduceCtorEq, Int.reduceBEq, Int.reduceBNe, Int.reduceAdd, Int.reduceSub, s1, s2, hL, hS]

theorem co_Cheapest {c : Col} {vw vp : AV} (h : ColAt H c vw vp) (hl : c.ws.length ≤ 1000 ∧ c.ps.length ≤ 1000) :
    callFL cfg0 prog0 false 26 [c.av vw vp] H none = some ⟨.ret (.tup [I (c.few c.cost).1, I (c.few c.cost).2.1, I (c.few c.cost).2.2]), H, none⟩ := by
  have s1 := h.ws.scal
  have s2 := h.ps.scal
  have hL := co_look (H := H ++ [.box (c.av vw vp), .box (I 0)]) (h.app _) hl 0
  have hN := fun (G : Heap) => dn_Cheapest (H.length + 1) G
  have hS := fun (e : Int) (x : AO) (G : Heap) => ds_Cheapest (H.length + 1) e 0 (H ++ (x :: .box (I 0) :: G)) (by rw [get_at' 1]; rfl)
  simp only [errA] at hS
  rcases Bool.eq_false_or_eq_true c.valid with hv | hv
  · have ho := c.valid_iff.1 hv
    have hF := fun G : Heap => Col.seen_full (H := H ++ [.box (c.av vw vp), .box (I 0)]) (vw := vw) (vp := vp) (c := c) 0 G
    have hB := fun G : Heap => co_best (hF G) ho 92 (.agg [vp]) c.cost (fun G' x hx => by
      rw [callVL_method, meth133]
      simp only [List.append_assoc]
      exact tagged_of (h.ps.app _) ho hx)
    simp only [hv, isSet0 ho, if_true, Col.seen, Col.av, List.length_append, List.length_cons, List.length_nil, List.append_assoc, List.cons_append, List.nil_append, Nat.add_assoc, Nat.reduceAdd, Nat.zero_add, errA] at hL hB
    simp only [Col.few, hv, if_true, Col.av]
    generalize c.bestP c.cost = r at hB ⊢
    obtain ⟨r1, r2, r3⟩ := r
    refine (callFL_eq fn26 rfl (by simp [Try.f26])).trans ?_
    cases r3 with
    | true =>
      simp only [if_true] at hB
      simp (maxSteps := 1000000) (implicitDefEqProofs := false) (disch := first | rfl | omega | assumption) only [go_sem, ↓reduceIte, Nat.reduceEqDiff, Nat.reduceAdd, Nat.reduceLeDiff, Nat.reduceBEq, Nat.reduceMul, Nat.reduceLT, Int.reduceLT, Int.reduceLE, Int.reduceToNat, Int.reduceNeg, Int.reduceEq, Int.reduceMul, reduceCtorEq, Int.reduceBEq, Int.reduceBNe, Int.reduceAdd, Int.reduceSub, s1, s2, h.ps.cel, hL, hB]
      rw [chkK_of]; rotate_left; kernel_rfl
      simp (maxSteps := 1000000) (implicitDefEqProofs := false) (disch := first | rfl | omega | assumption) only [go_sem, ↓reduceIte, Nat.reduceEqDiff, Nat.reduceAdd, Nat.reduceLeDiff, Nat.reduceBEq, Nat.reduceMul, Nat.reduceLT, Int.reduceLT, Int.reduceLE, Int.reduceToNat, Int.reduceNeg, Int.reduceEq, Int.reduceMul, reduceCtorEq, Int.reduceBEq, Int.reduceBNe, Int.reduceAdd, Int.reduceSub, s1, s2, h.ps.cel, hL, hB, hN]
    | false =>
      simp only [Bool.false_eq_true, if_false] at hB
      simp (maxSteps := 1000000) (implicitDefEqProofs := false) (disch := first | rfl | omega | assumption) only [go_sem, ↓reduceIte, Nat.reduceEqDiff, Nat.reduceAdd, Nat.reduceLeDiff, Nat.reduceBEq, Nat.reduceMul, Nat.reduceLT, Int.reduceLT, Int.reduceLE, Int.reduceToNat, Int.reduceNeg, Int.reduceEq, Int.reduceMul, reduceCtorEq, Int.reduceBEq, Int.reduceBNe, Int.reduceAdd, Int.reduceSub, s1, s2, h.ps.cel, hL, hB]
      rw [chkK_of]; rotate_left; kernel_rfl
      simp (maxSteps := 1000000) (implicitDefEqProofs := false) (disch := first | rfl | omega | assumption) only [go_sem, ↓reduceIte, Nat.reduceEqDiff, Nat.reduceAdd, Nat.reduceLeDiff, Nat.reduceBEq, Nat.reduceMul, Nat.reduceLT, Int.reduceLT, Int.reduceLE, Int.reduceToNat, Int.reduceNeg, Int.reduceEq, Int.reduceMul, reduceCtorEq, Int.reduceBEq, Int.reduceBNe, Int.reduceAdd, Int.reduceSub, s1, s2, h.ps.cel, hL, hB, hS]
  · simp only [hv, if_false, Bool.false_eq_true, Col.av, List.length_append, List.length_cons, List.length_nil, List.append_assoc, List.cons_append, List.nil_append, Nat.add_assoc, Nat.reduceAdd, Nat.zero_add, errA] at hL
    simp only [Col.few, hv, if_false, Bool.false_eq_true, Col.av]
    refine (callFL_eq fn26 rfl (by simp [Try.f26])).trans ?_
    simp (maxSteps := 1000000) (implicitDefEqProofs := false) (disch := first | rfl | omega | assumption) only [go_sem, ↓reduceIte, Nat.reduceEqDiff, Nat.reduceAdd, Nat.reduceLeDiff, Nat.reduceBEq, Nat.reduceMul, Nat.reduceLT, Int.reduceLT, Int.reduceLE, Int.reduceToNat, Int.reduceNeg, Int.reduceEq, Int.reduceMul, reduceCtorEq, Int.reduceBEq, Int.reduceBNe, Int.reduceAdd, Int.reduceSub, s1, s2, h.ps.cel, hL]
    rw [chkK_of]; rotate_left; kernel_rfl
    simp (maxSteps := 1000000) (implicitDefEqProofs := false) (disch := first | rfl | omega | assumption) only [go_sem, ↓reduceIte, Nat.reduceEqDiff, Nat.reduceAdd, Nat.reduceLeDiff, Nat.reduceBEq, Nat.reduceMul, Nat.reduceLT, Int.reduceLT, Int.reduceLE, Int.reduceToNat, Int.reduceNeg, Int.reduceEq, Int.reduceMul, reduceCtorEq, Int.reduceBEq, Int.reduceBNe, Int.reduceAdd, Int.reduceSub, s1, s2, h.ps.cel, hL, hS]

end Go.Ab
/-
  What can be spared, and what is next.
-/
namespace Go.Ab
open Go.Proofs
set_option linter.unusedSimpArgs false
set_option linter.unusedVariables false
set_option maxRecDepth 100000
set_option maxHeartbeats 1000000

variable {H : Heap}

theorem bit_and : ∀ s : Nat, s < 64 → ∀ i : Nat, i < 6 → bitsOp .and .u64 (s : Int) ((2 ^ i : Nat) : Int) = some (((if s.testBit i then 2 ^ i else 0 : Nat)) : Int) := by decide +kernel
theorem bit_not : ∀ s : Nat, s < 64 → ∀ i : Nat, i < 6 → s.testBit i = true → bitsOp .andNot .u64 (s : Int) ((2 ^ i : Nat) : Int) = some ((s - 2 ^ i : Nat) : Int) := by decide +kernel
theorem bit_add : ∀ o : Nat, o < 64 → ∀ i : Nat, i < 6 → o < 2 ^ i → bitsOp .or .u64 (o : Int) ((2 ^ i : Nat) : Int) = some ((o + 2 ^ i : Nat) : Int) := by decide +kernel

def Col.sprB (c : Col) (s : Nat) (o i : Nat) : Nat := if s.testBit i && c.allP (s - 2 ^ i) then o + 2 ^ i else o
def Col.sprP (c : Col) (s : Nat) : Nat := foldF (c.sprB s) 0 0 c.ws.length

theorem co_Spare_loop {c : Col} {vw vp : AV} (h : ColAt H c vw vp) (ho : c.Ok) {s : Nat} (hs : s < 64) (r : Nat) :
    ∀ (q j : Nat), j + q = c.ws.length → ∀ (o : Nat), foldF (c.sprB s) o j q = r → o < 2 ^ j → ∀ E : Env, E.get 1 = I s → E.get 4 = I 0 → E.get 5 = .ptr (H.length + 1) 0 → E.get 6 = .ptr (H.length + 7) 0 → E.get 7 = U o → E.get 23 = I c.ws.length → E.get 24 = I j →
    Option.map (finishC H.length) (execL cfg0 prog0 ⟨28, none, false, H.length⟩ (todoAt Try.f28 6) ⟨E, [.fn (.func 74) [] [.ptr (H.length + 1) 0]], H ++ (.box (c.av vw vp) :: .box (I 0) :: c.seen vw vp s (H.length + 2)), none⟩) = some ⟨.ret (.tup [I r, I 0]), H, none⟩ := by
  intro q
  have lw := ho.len
  have hF := fun G : Heap => Col.seen_full (H := H ++ [.box (c.av vw vp), .box (I 0)]) (vw := vw) (vp := vp) (c := c) s G
  have hA := fun (G : Heap) (x : Nat) (hx : x < 64) => co_partsAll (hF G) ho hx
  have hN := fun (G : Heap) => dn_Spare (H.length + 1) G
  have hcs : IntKind.u64.wrap (s : Int) = s := wrapU (by omega)
  simp only [Col.seen, Col.av, List.length_append, List.length_cons, List.length_nil, List.append_assoc, List.cons_append, List.nil_append, Nat.add_assoc, Nat.reduceAdd, Nat.zero_add] at hA ⊢
  induction q with
  | zero =>
    intro j hj o hr hb E g1 g4 g5 g6 g7 g23 g24
    have hk' : ¬ (j : Int) < ((c.ws.length : Nat) : Int) := by omega
    simp only [foldF] at hr
    subst hr
    have hp : (2 : Nat) ^ j ≤ 2 ^ 6 := Nat.pow_le_pow_right (by omega) (by omega)
    have hci : IntKind.i64.wrap (o : Int) = o := w64 (by omega) (by omega)
    simp only [loopIt, todoPast, todoAt, todoOf, firstReg, ↓reduceIte, Option.some.injEq, Nat.reduceEqDiff, reduceCtorEq, Try.f28]
    rw [execL_inLoop]
    simp (maxSteps := 1000000) (implicitDefEqProofs := false) (disch := first | rfl | omega | assumption) only [go_sem, ↓reduceIte, Nat.reduceEqDiff, Nat.reduceAdd, Nat.reduceLeDiff, Nat.reduceBEq, Nat.reduceMul, Nat.reduceLT, Int.reduceLT, Int.reduceLE, Int.reduceToNat, Int.reduceNeg, Int.reduceEq, Int.reduceMul, reduceCtorEq, Int.reduceBEq, Int.reduceBNe, Int.reduceAdd, Int.reduceSub, g1, g4, g5, g6, g7, g23, g24, ltT, ltF, leT, leF, hk', hN, hci]
  | succ q ih =>
    intro j hj o hr hb E g1 g4 g5 g6 g7 g23 g24
    have hk' : (j : Int) < ((c.ws.length : Nat) : Int) := by omega
    have hk2 : j < c.ws.length := by omega
    have p1 : (2 : Nat) ^ j < 2 ^ 6 := Nat.pow_lt_pow_right (by omega) (by omega)
    have p2 : (2 : Nat) ^ (j + 1) = 2 ^ j + 2 ^ j := by rw [Nat.pow_succ]; omega
    have p3 := Nat.pow_pos (n := j) (show 0 < 2 by omega)
    have p4 : (((2 ^ j : Nat) : Int) != 0) = true := by simp only [bne_iff_ne, ne_eq]; omega
    have e1 := bit_and s hs j (by omega)
    have e2 := bit_not s hs j (by omega)
    have e3 := bit_add o (by omega) j (by omega) hb
    have e4 : IntKind.u64.wrap (1 * 2 ^ min j 64) = ((2 ^ j : Nat) : Int) := shlU (k := j) (by omega)
    have z : ¬ (j : Int) < 0 := by omega
    simp only [foldF, Col.sprB] at hr
    simp only [loopIt, todoPast, todoAt, todoOf, firstReg, ↓reduceIte, Option.some.injEq, Nat.reduceEqDiff, reduceCtorEq, Try.f28]
    rw [execL_inLoop]
    rcases Bool.eq_false_or_eq_true (s.testBit j) with ht | ht
    · have e2' := e2 ht
      have hA' := fun G : Heap => hA G (s - 2 ^ j) (by omega)
      change ∀ G : Heap, callFL _ _ _ _ _ _ _ = some ⟨.ret (.bool (c.allP (s - 2 ^ j))), _, _⟩ at hA'
      rw [ht, if_pos rfl] at e1
      rw [ht, Bool.true_and] at hr
      rcases Bool.eq_false_or_eq_true (c.allP (s - 2 ^ j)) with hc | hc
      · rw [hc, if_pos rfl] at hr
        simp (maxSteps := 1000000) (implicitDefEqProofs := false) (disch := first | rfl | omega | assumption) only [go_sem, ↓reduceIte, Nat.reduceEqDiff, Nat.reduceAdd, Nat.reduceLeDiff, Nat.reduceBEq, Nat.reduceMul, Nat.reduceLT, Int.reduceLT, Int.reduceLE, Int.reduceToNat, Int.reduceNeg, Int.reduceEq, Int.reduceMul, reduceCtorEq, Int.reduceBEq, Int.reduceBNe, Int.reduceAdd, Int.reduceSub, g1, g4, g5, g6, g7, g23, g24, ltT, ltF, leT, leF, hk', hcs, e1, e2', e3, e4, z, p4, hA', hc]
        exact ih (j + 1) (by omega) (o + 2 ^ j) hr (by omega) _ (by exact g1) (by exact g4) (by exact g5) (by exact g6) (by rfl) (by exact g23) (by rfl)
      · rw [hc, if_neg (by simp)] at hr
        simp (maxSteps := 1000000) (implicitDefEqProofs := false) (disch := first | rfl | omega | assumption) only [go_sem, ↓reduceIte, Nat.reduceEqDiff, Nat.reduceAdd, Nat.reduceLeDiff, Nat.reduceBEq, Nat.reduceMul, Nat.reduceLT, Int.reduceLT, Int.reduceLE, Int.reduceToNat, Int.reduceNeg, Int.reduceEq, Int.reduceMul, reduceCtorEq, Int.reduceBEq, Int.reduceBNe, Int.reduceAdd, Int.reduceSub, g1, g4, g5, g6, g7, g23, g24, ltT, ltF, leT, leF, hk', hcs, e1, e2', e3, e4, z, p4, hA', hc]
        exact ih (j + 1) (by omega) o hr (by omega) _ (by exact g1) (by exact g4) (by exact g5) (by exact g6) (by exact g7) (by exact g23) (by rfl)
    · rw [ht, if_neg (by simp)] at e1
      rw [ht, Bool.false_and, if_neg (by simp)] at hr
      simp (maxSteps := 1000000) (implicitDefEqProofs := false) (disch := first | rfl | omega | assumption) only [go_sem, ↓reduceIte, Nat.reduceEqDiff, Nat.reduceAdd, Nat.reduceLeDiff, Nat.reduceBEq, Nat.reduceMul, Nat.reduceLT, Int.reduceLT, Int.reduceLE, Int.reduceToNat, Int.reduceNeg, Int.reduceEq, Int.reduceMul, reduceCtorEq, Int.reduceBEq, Int.reduceBNe, Int.reduceAdd, Int.reduceSub, g1, g4, g5, g6, g7, g23, g24, ltT, ltF, leT, leF, hk', hcs, e1, e4, z]
      exact ih (j + 1) (by omega) o hr (by omega) _ (by exact g1) (by exact g4) (by exact g5) (by exact g6) (by exact g7) (by exact g23) (by rfl)

def Col.spare (c : Col) (n : Int) : Int × Int := if c.valid then (if c.isSet n then (if c.allP n.toNat then (c.sprP n.toNat, 0) else (0, 11)) else (0, 2)) else (0, 1)

theorem co_Spare {c : Col} {vw vp : AV} (h : ColAt H c vw vp) (hl : c.ws.length ≤ 1000 ∧ c.ps.length ≤ 1000) (n : Int) :
    callFL cfg0 prog0 false 28 [c.av vw vp, I n] H none = some ⟨.ret (.tup [I (c.spare n).1, I (c.spare n).2]), H, none⟩ := by
  have s1 := h.ws.scal
  have s2 := h.ps.scal
  have hL := co_look (H := H ++ [.box (c.av vw vp), .box (I 0)]) (h.app _) hl n
  have hS := fun (e : Int) (x : AO) (G : Heap) => ds_Spare (H.length + 1) e 0 (H ++ (x :: .box (I 0) :: G)) (by rw [get_at' 1]; rfl)
  simp only [errA] at hS
  rcases Bool.eq_false_or_eq_true c.valid with hv | hv
  · have ho := c.valid_iff.1 hv
    rcases Bool.eq_false_or_eq_true (c.isSet n) with hn | hn
    · obtain ⟨b1, b2, b3⟩ := ho.set_bd hn
      obtain ⟨k, hk⟩ : ∃ k : Nat, k = n.toNat := ⟨_, rfl⟩
      rw [← hk] at b1 b2 b3
      subst b1
      clear hk
      have hcs : IntKind.u64.wrap (k : Int) = k := wrapU (by omega)
      have hF := fun G : Heap => Col.seen_full (H := H ++ [.box (c.av vw vp), .box (I 0)]) (vw := vw) (vp := vp) (c := c) k G
      have hA := fun (G : Heap) => co_partsAll (hF G) ho b3
      change ∀ G : Heap, callFL _ _ _ _ _ _ _ = some ⟨.ret (.bool (c.allP k)), _, _⟩ at hA
      have hO := fun G : Heap => (hF G).shop.own.len
      have hB := fun G : Heap => (hF G).shop.box
      have hlp := co_Spare_loop h ho b3 (c.sprP k) c.ws.length 0 (by omega) 0 rfl (by simp)
      simp only [hv, hn, if_true, Col.seen, Col.av, List.length_append, List.length_cons, List.length_nil, List.append_assoc, List.cons_append, List.nil_append, Nat.add_assoc, Nat.reduceAdd, Nat.zero_add, errA, List.length_map] at hL hA hO hB hlp
      simp only [Col.spare, hv, hn, if_true, Col.av, Int.toNat_natCast]
      refine (callFL_eq fn28 rfl (by simp [Try.f28])).trans ?_
      rcases Bool.eq_false_or_eq_true (c.allP k) with hc | hc
      · simp (maxSteps := 1000000) (implicitDefEqProofs := false) (disch := first | rfl | omega | assumption) only [go_sem, ↓reduceIte, Nat.reduceEqDiff, Nat.reduceAdd, Nat.reduceLeDiff, Nat.reduceBEq, Nat.reduceMul, Nat.reduceLT, Int.reduceLT, Int.reduceLE, Int.reduceToNat, Int.reduceNeg, Int.reduceEq, Int.reduceMul, reduceCtorEq, Int.reduceBEq, Int.reduceBNe, Int.reduceAdd, Int.reduceSub, s1, s2, hL, hA, hcs, hc, co_must, hO, hB]
        exact hlp _ (by rfl) (by rfl) (by rfl) (by rfl) (by rfl) (by rfl) (by rfl)
      · simp (maxSteps := 1000000) (implicitDefEqProofs := false) (disch := first | rfl | omega | assumption) only [go_sem, ↓reduceIte, Nat.reduceEqDiff, Nat.reduceAdd, Nat.reduceLeDiff, Nat.reduceBEq, Nat.reduceMul, Nat.reduceLT, Int.reduceLT, Int.reduceLE, Int.reduceToNat, Int.reduceNeg, Int.reduceEq, Int.reduceMul, reduceCtorEq, Int.reduceBEq, Int.reduceBNe, Int.reduceAdd, Int.reduceSub, s1, s2, hL, hA, hcs, hc, co_must, hS]
    · simp only [hv, hn, if_true, if_false, Bool.false_eq_true, Col.av, List.length_append, List.length_cons, List.length_nil, List.append_assoc, List.cons_append, List.nil_append, Nat.add_assoc, Nat.reduceAdd, Nat.zero_add, errA] at hL
      simp only [Col.spare, hv, hn, if_true, if_false, Bool.false_eq_true, Col.av]
      refine (callFL_eq fn28 rfl (by simp [Try.f28])).trans ?_
      simp (maxSteps := 1000000) (implicitDefEqProofs := false) (disch := first | rfl | omega | assumption) only [go_sem, ↓reduceIte, Nat.reduceEqDiff, Nat.reduceAdd, Nat.reduceLeDiff, Nat.reduceBEq, Nat.reduceMul, Nat.reduceLT, Int.reduceLT, Int.reduceLE, Int.reduceToNat, Int.reduceNeg, Int.reduceEq, Int.reduceMul, reduceCtorEq, Int.reduceBEq, Int.reduceBNe, Int.reduceAdd, Int.reduceSub, s1, s2, hL, hS]
  · simp only [hv, if_false, Bool.false_eq_true, Col.av, List.length_append, List.length_cons, List.length_nil, List.append_assoc, List.cons_append, List.nil_append, Nat.add_assoc, Nat.reduceAdd, Nat.zero_add, errA] at hL
    simp only [Col.spare, hv, if_false, Bool.false_eq_true, Col.av]
    refine (callFL_eq fn28 rfl (by simp [Try.f28])).trans ?_
    simp (maxSteps := 1000000) (implicitDefEqProofs := false) (disch := first | rfl | omega | assumption) only [go_sem, ↓reduceIte, Nat.reduceEqDiff, Nat.reduceAdd, Nat.reduceLeDiff, Nat.reduceBEq, Nat.reduceMul, Nat.reduceLT, Int.reduceLT, Int.reduceLE, Int.reduceToNat, Int.reduceNeg, Int.reduceEq, Int.reduceMul, reduceCtorEq, Int.reduceBEq, Int.reduceBNe, Int.reduceAdd, Int.reduceSub, s1, s2, hL, hS]

/-! What is next -/

theorem shrI {s j : Nat} (hj : j ≤ 6) : (s : Int).fdiv (2 ^ min j 64) = ((s / 2 ^ j : Nat) : Int) := shrU hj

theorem and_zero {s j : Nat} : (((s / 2 ^ j &&& 1 : Nat) : Int) == 0) = !s.testBit j := by
  rw [Nat.and_one_is_mod, Nat.testBit_eq_decide_div_mod_eq]
  have : s / 2 ^ j % 2 = 0 ∨ s / 2 ^ j % 2 = 1 := by omega
  rcases this with h | h <;> rw [h] <;> rfl

theorem next_can {p : Nat} {s j : Nat} (hs : s < 64) (hj : j < 6) (hp : H[p]? = some (.box (I s))) : callVL cfg0 prog0 false (.func 81) [I j] [.ptr p 0] H none = some ⟨.ret (.bool (!s.testBit j)), H, none⟩ := by
  have e1 := shrI (s := s) (j := j) (by omega)
  have e2 : s / 2 ^ j ≤ s := Nat.div_le_self _ _
  have e3 : bitsOp .and .i64 ((s / 2 ^ j : Nat) : Int) 1 = some ((s / 2 ^ j &&& 1 : Nat) : Int) := bitsAndI (b := 1) (by omega) (by decide)
  have e4 := and_zero (s := s) (j := j)
  have z : ¬ (j : Int) < 0 := by omega
  rw [callVL_func]
  simp only [List.cons_append, List.nil_append]
  refine (callFL_eq fn81 rfl (by simp [Try.f81])).trans ?_
  simp (maxSteps := 1000000) (implicitDefEqProofs := false) (disch := first | rfl | omega | assumption) only [go_sem, ↓reduceIte, Nat.reduceEqDiff, Nat.reduceAdd, Nat.reduceLeDiff, Nat.reduceBEq, Nat.reduceMul, Nat.reduceLT, Int.reduceLT, Int.reduceLE, Int.reduceToNat, Int.reduceNeg, Int.reduceEq, Int.reduceMul, reduceCtorEq, Int.reduceBEq, Int.reduceBNe, Int.reduceAdd, Int.reduceSub, hp, e1, e3, e4, z]

/-- How many pairs a set leaves, as they are counted. -/
def Col.leftP (c : Col) (s : Nat) : Int := foldP c s (fun n _ _ => w1 n) 0

theorem next_cost {l lm p q : Nat} {c : Col} {vw vp vo : AV} (h : Full H l lm c vw vp vo) (ho : c.Ok) {s j : Nat} (hs : s < 64) (hj : j < 6) (hp : H[p]? = some (.box (.ptr l 0))) (hq : H[q]? = some (.box (I s))) :
    callVL cfg0 prog0 false (.func 82) [I j] [.ptr p 0, .ptr q 0] H none = some ⟨.ret (I (c.leftP (s ||| 2 ^ j))), H, none⟩ := by
  have p1 : (2 : Nat) ^ j < 2 ^ 6 := Nat.pow_lt_pow_right (by omega) (by omega)
  have e1 : IntKind.u64.wrap (s : Int) = s := wrapU (by omega)
  have e2 : IntKind.u64.wrap (1 * 2 ^ min j 64) = ((2 ^ j : Nat) : Int) := shlU (k := j) (by omega)
  have e3 := bitsOr (a := s) (b := 2 ^ j) (by omega) (by omega)
  have hL := co_left h ho (s := s ||| 2 ^ j) (Nat.or_lt_two_pow (n := 6) hs p1)
  change callFL _ _ _ _ _ _ _ = some ⟨.ret (I (c.leftP (s ||| 2 ^ j))), _, _⟩ at hL
  have z : ¬ (j : Int) < 0 := by omega
  rw [callVL_func]
  simp only [List.cons_append, List.nil_append]
  refine (callFL_eq fn82 rfl (by simp [Try.f82])).trans ?_
  simp (maxSteps := 1000000) (implicitDefEqProofs := false) (disch := first | rfl | omega | assumption) only [go_sem, ↓reduceIte, Nat.reduceEqDiff, Nat.reduceAdd, Nat.reduceLeDiff, Nat.reduceBEq, Nat.reduceMul, Nat.reduceLT, Int.reduceLT, Int.reduceLE, Int.reduceToNat, Int.reduceNeg, Int.reduceEq, Int.reduceMul, reduceCtorEq, Int.reduceBEq, Int.reduceBNe, Int.reduceAdd, Int.reduceSub, hp, hq, e1]
  rw [chkK_of]; rotate_left; kernel_rfl
  simp (maxSteps := 1000000) (implicitDefEqProofs := false) (disch := first | rfl | omega | assumption) only [go_sem, ↓reduceIte, Nat.reduceEqDiff, Nat.reduceAdd, Nat.reduceLeDiff, Nat.reduceBEq, Nat.reduceMul, Nat.reduceLT, Int.reduceLT, Int.reduceLE, Int.reduceToNat, Int.reduceNeg, Int.reduceEq, Int.reduceMul, reduceCtorEq, Int.reduceBEq, Int.reduceBNe, Int.reduceAdd, Int.reduceSub, hp, hq, e1, e2, e3, hL, z]

theorem co_Next_loop (n : Nat) (hn : n ≤ 6) (W : Heap) (hW : W.length = H.length + 12) (df : List ADefer) (K : List Item) (R : Option Done) (hK : ∀ E : Env, E.get 3 = .ptr (H.length + 1) 0 → E.get 4 = I 0 → E.get 5 = I 0 → E.get 6 = .ptr (H.length + 2) 0 → E.get 7 = .ptr (H.length + 10) 0 → E.get 8 = .gsl (H.length + 11) n → Option.map (finishC H.length) (execL cfg0 prog0 ⟨30, none, false, H.length⟩ K ⟨E, df, W.set (H.length + 11) (.grow 1 ((List.range n).map fun n : Nat => I n)), none⟩) = R)  :
    ∀ (q j : Nat), j + q = n → ∀ (len : Nat), ∀ (xs : List AV), xs = ((List.range j).map fun n : Nat => I n) → len = xs.length → ∀ E : Env, E.get 3 = .ptr (H.length + 1) 0 → E.get 4 = I 0 → E.get 5 = I 0 → E.get 6 = .ptr (H.length + 2) 0 → E.get 7 = .ptr (H.length + 10) 0 → E.get 8 = .gsl (H.length + 11) len → E.get 21 = I n → E.get 22 = I j →
    Option.map (finishC H.length) (execL cfg0 prog0 ⟨30, none, false, H.length⟩ (loopIt Try.f30 5 :: .inBlock 0 :: K) ⟨E, df, W.set (H.length + 11) (.grow 1 xs), none⟩) = R := by
  intro q
  induction q with
  | zero =>
    intro j hj len xs hx hlen E g3 g4 g5 g6 g7 g8 g21 g22
    have hk' : ¬ (j : Int) < ((n : Nat) : Int) := by omega
    have hjn : j = n := by omega
    subst hjn
    have hll : len = j := by rw [hlen, hx]; simp
    subst hll
    simp only [loopIt, todoPast, todoAt, todoOf, firstReg, ↓reduceIte, Option.some.injEq, Nat.reduceEqDiff, reduceCtorEq, Try.f30]
    rw [execL_inLoop]
    simp (maxSteps := 1000000) (implicitDefEqProofs := false) (disch := first | rfl | omega | assumption) only [go_sem, ↓reduceIte, Nat.reduceEqDiff, Nat.reduceAdd, Nat.reduceLeDiff, Nat.reduceBEq, Nat.reduceMul, Nat.reduceLT, Int.reduceLT, Int.reduceLE, Int.reduceToNat, Int.reduceNeg, Int.reduceEq, Int.reduceMul, reduceCtorEq, Int.reduceBEq, Int.reduceBNe, Int.reduceAdd, Int.reduceSub, g3, g4, g5, g6, g7, g8, g21, g22, ltT, ltF, leT, leF, hk']
    rw [hx]
    exact hK _ (by exact g3) (by exact g4) (by exact g5) (by exact g6) (by exact g7) (by exact g8)
  | succ q ih =>
    intro j hj len xs hx hlen E g3 g4 g5 g6 g7 g8 g21 g22
    have hk' : (j : Int) < ((n : Nat) : Int) := by omega
    have hk2 : j < n := by omega
    have hxl : xs.length = j := by rw [hx]; simp
    have hof : addElem (W.set (H.length + 11) (.grow 1 xs)) 1 false (.gsl (H.length + 11) len) [I j] = some (.gsl (H.length + 11) (len + 1), W.set (H.length + 11) (.grow 1 (xs ++ [I j]))) := by
      rw [add_gsl (by rw [List.getElem?_set_self (by omega)]) hlen.symm rfl rfl (by simp; omega), List.set_set]
      rfl
    simp only [loopIt, todoPast, todoAt, todoOf, firstReg, ↓reduceIte, Option.some.injEq, Nat.reduceEqDiff, reduceCtorEq, Try.f30]
    rw [execL_inLoop]
    simp (maxSteps := 1000000) (implicitDefEqProofs := false) (disch := first | rfl | omega | assumption) only [go_sem, ↓reduceIte, Nat.reduceEqDiff, Nat.reduceAdd, Nat.reduceLeDiff, Nat.reduceBEq, Nat.reduceMul, Nat.reduceLT, Int.reduceLT, Int.reduceLE, Int.reduceToNat, Int.reduceNeg, Int.reduceEq, Int.reduceMul, reduceCtorEq, Int.reduceBEq, Int.reduceBNe, Int.reduceAdd, Int.reduceSub, g3, g4, g5, g6, g7, g8, g21, g22, ltT, ltF, leT, leF, hk', hof]
    exact ih (j + 1) (by omega) (len + 1) _ (by rw [List.range_succ, hx, List.map_append]; rfl) (by rw [hlen]; simp) _ (by exact g3) (by exact g4) (by exact g5) (by exact g6) (by exact g7) (by rfl) (by exact g21) (by rfl)

noncomputable def nextH (c : Col) (vw vp : AV) (k n : Nat) (xs : List AV) : Heap :=
  [.box (.agg [vw, vp, I c.lo, I c.hi, I c.ev, I c.er]), .box (I k), .box (I 0), .box (.agg [vw, vp, I c.lo, I c.hi, I c.ev, I c.er]), .box (I k), .box (.agg [vw, vp, I c.lo, I c.hi, I c.ev, I c.er]), .map 84 c.pes, .grow 1 (c.ws.map I),
   .box (.agg [vw, vp, I c.lo, I c.hi, I c.ev, I c.er, .gsl (n + 7) c.ws.length, .map (n + 6)]), .box (.agg [I c.lo, I c.hi]), .box (.ptr (n + 8) 0), .grow 1 xs]

/-- The best colour to buy next. -/
def Col.nxtP (c : Col) (s : Nat) : Nat × Int × Bool := (List.range c.ws.length).foldl (bst (fun i => !s.testBit i) (fun i => c.leftP (s ||| 2 ^ i))) (0, 0, false)
def Col.next (c : Col) (n : Int) : Int × Int × Int := if c.valid then (if c.isSet n then (if (c.nxtP n.toNat).2.2 then ((c.nxtP n.toNat).1, (c.nxtP n.toNat).2.1, 0) else (0, 0, 4)) else (0, 0, 2)) else (0, 0, 1)

theorem co_Next {c : Col} {vw vp : AV} (h : ColAt H c vw vp) (hl : c.ws.length ≤ 1000 ∧ c.ps.length ≤ 1000) (n : Int) :
    callFL cfg0 prog0 false 30 [c.av vw vp, I n] H none = some ⟨.ret (.tup [I (c.next n).1, I (c.next n).2.1, I (c.next n).2.2]), H, none⟩ := by
  have s1 := h.ws.scal
  have s2 := h.ps.scal
  have hL := co_look (H := H ++ [.box (c.av vw vp), .box (I n), .box (I 0)]) (h.app _) hl n
  have hN := fun (G : Heap) => dn_Next (H.length + 2) G
  have hS := fun (e : Int) (x y : AO) (G : Heap) => ds_Next (H.length + 2) e 0 (H ++ (x :: y :: .box (I 0) :: G)) (by rw [get_at' 2]; rfl)
  simp only [errA] at hS
  rcases Bool.eq_false_or_eq_true c.valid with hv | hv
  · have ho := c.valid_iff.1 hv
    have hlen := ho.len
    rcases Bool.eq_false_or_eq_true (c.isSet n) with hn | hn
    · obtain ⟨b1, b2, b3⟩ := ho.set_bd hn
      obtain ⟨k, hk⟩ : ∃ k : Nat, k = n.toNat := ⟨_, rfl⟩
      rw [← hk] at b1 b2 b3
      subst b1
      clear hk
      have hF := fun G : Heap => Col.seen_full (H := H ++ [.box (c.av vw vp), .box (I k), .box (I 0)]) (vw := vw) (vp := vp) (c := c) k G
      have hO := fun G : Heap => (hF G).shop.own.len
      have hB := fun G : Heap => (hF G).shop.box
      have hF2 := fun G : Heap => hF (.box (.ptr (H.length + 8) 0) :: .grow 1 ((List.range c.ws.length).map fun n : Nat => I n) :: G)
      simp only [Col.seen, Col.av, List.length_append, List.length_cons, List.length_nil, List.append_assoc, List.cons_append, List.nil_append, Nat.add_assoc, Nat.reduceAdd, Nat.zero_add] at hF2
      have hC := cheapI (H := H ++ nextH c vw vp k H.length ((List.range c.ws.length).map fun n : Nat => I n)) (vl := .gsl (H.length + 11) c.ws.length) (List.range c.ws.length) ⟨⟨by simp only [nextH, get_at', List.getElem?_cons_succ, List.getElem?_cons_zero], by simp⟩, by simp [I, AV.cells]⟩ (by simp; omega) (fun i => !k.testBit i) (fun i => c.leftP (k ||| 2 ^ i)) (.func 81) (.func 82) [] [] [.ptr (H.length + 1) 0] [.ptr (H.length + 10) 0, .ptr (H.length + 1) 0]
        (fun G x hx => next_can b3 (by have := List.mem_range.1 hx; omega) (by simp only [nextH, List.append_assoc, List.cons_append, get_at', List.getElem?_cons_succ, List.getElem?_cons_zero]))
        (fun G x hx => by
          have hf := hF2 G
          exact next_cost (l := H.length + 8) (lm := H.length + 6) (p := H.length + 10) (q := H.length + 1) (vw := vw) (vp := vp) (vo := .gsl (H.length + 7) c.ws.length) (by simp only [nextH, List.append_assoc, List.cons_append, List.nil_append]; exact hf) ho b3 (by have := List.mem_range.1 hx; omega)
            (by simp only [nextH, List.append_assoc, List.cons_append, get_at', List.getElem?_cons_succ, List.getElem?_cons_zero]) (by simp only [nextH, List.append_assoc, List.cons_append, get_at', List.getElem?_cons_succ, List.getElem?_cons_zero]))
      change callFL _ _ _ _ _ _ _ = some ⟨.ret (.tup [I (c.nxtP k).1, I (c.nxtP k).2.1, .bool (c.nxtP k).2.2]), _, _⟩ at hC
      have hlp := fun R hR => co_Next_loop (H := H) c.ws.length hlen.2 (H ++ nextH c vw vp k H.length []) (by simp [nextH]) [.fn (.func 79) [] [.ptr (H.length + 2) 0]] (todoPast Try.f30 5) R hR c.ws.length 0 (by omega) 0 [] rfl rfl
      simp only [hv, hn, if_true, Col.seen, Col.av, List.length_append, List.length_cons, List.length_nil, List.append_assoc, List.cons_append, List.nil_append, Nat.add_assoc, Nat.reduceAdd, Nat.zero_add, errA, List.length_map] at hL hO hB
      simp only [Col.next, hv, hn, if_true, Col.av, Int.toNat_natCast]
      generalize c.nxtP k = r at hC ⊢
      obtain ⟨r1, r2, r3⟩ := r
      have es : (H ++ nextH c vw vp k H.length []).set (H.length + 11) (.grow 1 []) = H ++ nextH c vw vp k H.length [] := by
        simp only [nextH, set_at', List.set_cons_succ, List.set_cons_zero]
      have es2 : (H ++ nextH c vw vp k H.length []).set (H.length + 11) (.grow 1 ((List.range c.ws.length).map fun n : Nat => I n)) = H ++ nextH c vw vp k H.length ((List.range c.ws.length).map fun n : Nat => I n) := by
        simp only [nextH, set_at', List.set_cons_succ, List.set_cons_zero]
      rw [es, es2] at hlp
      simp only [nextH] at hlp hC
      refine (callFL_eq fn30 rfl (by simp [Try.f30])).trans ?_
      simp (maxSteps := 1000000) (implicitDefEqProofs := false) (disch := first | rfl | omega | assumption) only [go_sem, ↓reduceIte, Nat.reduceEqDiff, Nat.reduceAdd, Nat.reduceLeDiff, Nat.reduceBEq, Nat.reduceMul, Nat.reduceLT, Int.reduceLT, Int.reduceLE, Int.reduceToNat, Int.reduceNeg, Int.reduceEq, Int.reduceMul, reduceCtorEq, Int.reduceBEq, Int.reduceBNe, Int.reduceAdd, Int.reduceSub, s1, s2, hL, hO, hB]
      refine hlp _ (fun E g3 g4 g5 g6 g7 g8 => ?_) _ (by rfl) (by rfl) (by rfl) (by rfl) (by rfl) (by rfl) (by rfl) (by rfl)
      simp only [loopIt, todoPast, todoAt, todoOf, firstReg, ↓reduceIte, Option.some.injEq, Nat.reduceEqDiff, reduceCtorEq, Try.f30]
      cases r3 with
      | true => simp (maxSteps := 1000000) (implicitDefEqProofs := false) (disch := first | rfl | omega | assumption) only [go_sem, ↓reduceIte, Nat.reduceEqDiff, Nat.reduceAdd, Nat.reduceLeDiff, Nat.reduceBEq, Nat.reduceMul, Nat.reduceLT, Int.reduceLT, Int.reduceLE, Int.reduceToNat, Int.reduceNeg, Int.reduceEq, Int.reduceMul, reduceCtorEq, Int.reduceBEq, Int.reduceBNe, Int.reduceAdd, Int.reduceSub, g3, g6, g7, g8, hC, co_must, hN]
      | false => simp (maxSteps := 1000000) (implicitDefEqProofs := false) (disch := first | rfl | omega | assumption) only [go_sem, ↓reduceIte, Nat.reduceEqDiff, Nat.reduceAdd, Nat.reduceLeDiff, Nat.reduceBEq, Nat.reduceMul, Nat.reduceLT, Int.reduceLT, Int.reduceLE, Int.reduceToNat, Int.reduceNeg, Int.reduceEq, Int.reduceMul, reduceCtorEq, Int.reduceBEq, Int.reduceBNe, Int.reduceAdd, Int.reduceSub, g3, g4, g5, g6, g7, g8, hC, co_must, hS]
    · simp only [hv, hn, if_true, if_false, Bool.false_eq_true, Col.av, List.length_append, List.length_cons, List.length_nil, List.append_assoc, List.cons_append, List.nil_append, Nat.add_assoc, Nat.reduceAdd, Nat.zero_add, errA] at hL
      simp only [Col.next, hv, hn, if_true, if_false, Bool.false_eq_true, Col.av]
      refine (callFL_eq fn30 rfl (by simp [Try.f30])).trans ?_
      simp (maxSteps := 1000000) (implicitDefEqProofs := false) (disch := first | rfl | omega | assumption) only [go_sem, ↓reduceIte, Nat.reduceEqDiff, Nat.reduceAdd, Nat.reduceLeDiff, Nat.reduceBEq, Nat.reduceMul, Nat.reduceLT, Int.reduceLT, Int.reduceLE, Int.reduceToNat, Int.reduceNeg, Int.reduceEq, Int.reduceMul, reduceCtorEq, Int.reduceBEq, Int.reduceBNe, Int.reduceAdd, Int.reduceSub, s1, s2, hL, hS]
  · simp only [hv, if_false, Bool.false_eq_true, Col.av, List.length_append, List.length_cons, List.length_nil, List.append_assoc, List.cons_append, List.nil_append, Nat.add_assoc, Nat.reduceAdd, Nat.zero_add, errA] at hL
    simp only [Col.next, hv, if_false, Bool.false_eq_true, Col.av]
    refine (callFL_eq fn30 rfl (by simp [Try.f30])).trans ?_
    simp (maxSteps := 1000000) (implicitDefEqProofs := false) (disch := first | rfl | omega | assumption) only [go_sem, ↓reduceIte, Nat.reduceEqDiff, Nat.reduceAdd, Nat.reduceLeDiff, Nat.reduceBEq, Nat.reduceMul, Nat.reduceLT, Int.reduceLT, Int.reduceLE, Int.reduceToNat, Int.reduceNeg, Int.reduceEq, Int.reduceMul, reduceCtorEq, Int.reduceBEq, Int.reduceBNe, Int.reduceAdd, Int.reduceSub, s1, s2, hL, hS]

end Go.Ab
/-
  Pairs that a set does not part, as a list; how many there are.
-/
namespace Go.Ab
open Go.Proofs
set_option linter.unusedSimpArgs false
set_option linter.unusedVariables false

/-- How many of the q numbers from j on f holds of. -/
def num (f : Nat → Bool) : Nat → Nat → Nat
  | _, 0 => 0
  | j, q + 1 => (if f j then 1 else 0) + num f (j + 1) q

theorem num_le (f : Nat → Bool) : ∀ (q j : Nat), num f j q ≤ q
  | 0, _ => Nat.le_refl _
  | q + 1, j => by
    have := num_le f q (j + 1)
    simp only [num]
    split <;> omega

theorem num_add (f : Nat → Bool) : ∀ (q j r : Nat), num f j (q + r) = num f j q + num f (j + q) r
  | 0, j, r => by simp [num]
  | q + 1, j, r => by
    rw [show q + 1 + r = (q + r) + 1 by omega, num, num, num_add f q (j + 1) r, show j + 1 + q = j + (q + 1) by omega]
    omega

theorem num_congr {f g : Nat → Bool} : ∀ (q j : Nat), (∀ i, j ≤ i → i < j + q → f i = g i) → num f j q = num g j q
  | 0, _, _ => rfl
  | q + 1, j, h => by
    rw [num, num, h j (by omega) (by omega), num_congr q (j + 1) (fun i h1 h2 => h i (by omega) (by omega))]

theorem num_zero {f : Nat → Bool} (q j : Nat) : num f j q = 0 ↔ ∀ i, j ≤ i → i < j + q → f i = false := by
  induction q generalizing j with
  | zero => simp only [num, true_iff]; intro i h1 h2; omega
  | succ q ih =>
    simp only [num]
    constructor
    · intro h i h1 h2
      by_cases e : i = j
      · subst e
        cases hf : f i
        · rfl
        · rw [hf] at h; simp at h
      · exact (ih (j + 1)).1 (by omega) i (by omega) (by omega)
    · intro h
      rw [(ih (j + 1)).2 (fun i h1 h2 => h i (by omega) (by omega)), h j (by omega) (by omega)]
      rfl

theorem num_mono {f g : Nat → Bool} : ∀ (q j : Nat), (∀ i, j ≤ i → i < j + q → f i = true → g i = true) → num f j q ≤ num g j q
  | 0, _, _ => Nat.le_refl _
  | q + 1, j, h => by
    have := num_mono q (j + 1) (fun i h1 h2 => h i (by omega) (by omega))
    have h2 := h j (by omega) (by omega)
    simp only [num]
    cases hf : f j <;> cases hg : g j <;> simp_all <;> omega

def inL (c : Col) (s a : Nat) : Nat → Nat → List (Nat × Nat)
  | _, 0 => []
  | j, q + 1 => if c.meet s a j then inL c s a (j + 1) q else (a, j) :: inL c s a (j + 1) q

def outL (c : Col) (s : Nat) : Nat → Nat → List (Nat × Nat)
  | _, 0 => []
  | j, q + 1 => inL c s j (j + 1) (c.manyN - (j + 1)) ++ outL c s (j + 1) q

/-- The pairs that a set does not part. -/
def Col.prL (c : Col) (s : Nat) : List (Nat × Nat) := outL c s 0 c.manyN

theorem inL_fold {β : Type} (c : Col) (s : Nat) (f : β → Nat → Nat → β) (a : Nat) : ∀ (q j : Nat) (st : β), foldF (fun st b => if c.meet s a b then st else f st a b) st j q = (inL c s a j q).foldl (fun st p => f st p.1 p.2) st
  | 0, _, _ => rfl
  | q + 1, j, st => by
    rw [foldF, inL]
    split <;> rw [inL_fold c s f a q]
    rfl

theorem outL_fold {β : Type} (c : Col) (s : Nat) (f : β → Nat → Nat → β) : ∀ (q j : Nat) (st : β), foldF (fun st a => foldF (fun st b => if c.meet s a b then st else f st a b) st (a + 1) (c.manyN - (a + 1))) st j q = (outL c s j q).foldl (fun st p => f st p.1 p.2) st
  | 0, _, _ => rfl
  | q + 1, j, st => by
    rw [foldF, outL, List.foldl_append, inL_fold, outL_fold c s f q]

theorem foldP_eq {β : Type} (c : Col) (s : Nat) (f : β → Nat → Nat → β) (st : β) : foldP c s f st = (c.prL s).foldl (fun st p => f st p.1 p.2) st := outL_fold c s f _ _ _

theorem inL_mem (c : Col) (s a : Nat) (p : Nat × Nat) : ∀ (q j : Nat), p ∈ inL c s a j q ↔ p.1 = a ∧ j ≤ p.2 ∧ p.2 < j + q ∧ c.meet s a p.2 = false
  | 0, j => by simp only [inL, List.not_mem_nil, false_iff]; omega
  | q + 1, j => by
    rw [inL]
    by_cases h : c.meet s a j = true
    · rw [if_pos h, inL_mem c s a p q]
      constructor
      · rintro ⟨h1, h2, h3, h4⟩; exact ⟨h1, by omega, by omega, h4⟩
      · rintro ⟨h1, h2, h3, h4⟩
        have : p.2 ≠ j := by rintro e; rw [e, h] at h4; cases h4
        exact ⟨h1, by omega, by omega, h4⟩
    · rw [if_neg h, List.mem_cons, inL_mem c s a p q]
      constructor
      · rintro (rfl | ⟨h1, h2, h3, h4⟩)
        · exact ⟨rfl, Nat.le_refl _, by simp, by simpa using h⟩
        · exact ⟨h1, by omega, by omega, h4⟩
      · rintro ⟨h1, h2, h3, h4⟩
        by_cases e : p.2 = j
        · left
          exact Prod.ext h1 e
        · exact .inr ⟨h1, by omega, by omega, h4⟩

theorem outL_mem (c : Col) (s : Nat) (p : Nat × Nat) : ∀ (q j : Nat), p ∈ outL c s j q ↔ j ≤ p.1 ∧ p.1 < j + q ∧ p.1 < p.2 ∧ p.2 < c.manyN ∧ c.meet s p.1 p.2 = false
  | 0, j => by simp only [outL, List.not_mem_nil, false_iff]; omega
  | q + 1, j => by
    rw [outL, List.mem_append, inL_mem, outL_mem c s p q]
    constructor
    · rintro (⟨h1, h2, h3, h4⟩ | ⟨h1, h2, h3⟩)
      · exact ⟨by omega, by omega, by omega, by omega, by rw [h1]; exact h4⟩
      · exact ⟨by omega, by omega, h3⟩
    · rintro ⟨h1, h2, h3, h4, h5⟩
      by_cases e : p.1 = j
      · exact .inl ⟨e, by omega, by omega, by rw [← e]; exact h5⟩
      · exact .inr ⟨by omega, by omega, h3, h4, h5⟩

theorem Col.prL_mem (c : Col) (s : Nat) (p : Nat × Nat) : p ∈ c.prL s ↔ p.1 < p.2 ∧ p.2 < c.manyN ∧ c.meet s p.1 p.2 = false := by
  rw [Col.prL, outL_mem]
  constructor
  · rintro ⟨_, _, h⟩; exact h
  · rintro ⟨h1, h2, h3⟩; exact ⟨by omega, by omega, h1, h2, h3⟩

/-! ### The first -/

theorem inL_stop {β : Type} (c : Col) (s a : Nat) (g : Nat → Nat → β) : ∀ (q j : Nat) (st : β), itB c s (fun _ a b => (g a b, false)) a st j q = match inL c s a j q with
    | [] => (st, true)
    | p :: _ => (g p.1 p.2, false)
  | 0, _, _ => rfl
  | q + 1, j, st => by
    rw [itB, inL]
    by_cases h : c.meet s a j = true
    · rw [if_pos h, if_pos h, inL_stop c s a g q]
    · rw [if_neg h, if_neg h]
      rfl

theorem outL_stop {β : Type} (c : Col) (s : Nat) (g : Nat → Nat → β) : ∀ (q j : Nat) (st : β), itA c s (fun _ a b => (g a b, false)) st j q = match outL c s j q with
    | [] => (st, true)
    | p :: _ => (g p.1 p.2, false)
  | 0, _, _ => rfl
  | q + 1, j, st => by
    rw [itA, outL, inL_stop]
    cases h : inL c s j (j + 1) (c.manyN - (j + 1)) with
    | nil =>
      simp only [if_true, List.nil_append]
      exact outL_stop c s g q (j + 1) st
    | cons p r => rfl

theorem Col.allP_eq (c : Col) (s : Nat) : c.allP s = (c.prL s).isEmpty := by
  rw [Col.allP, outL_stop c s (fun _ _ => ()), ← Col.prL]
  cases c.prL s <;> rfl

theorem Col.fst_eq (c : Col) (s : Nat) : c.fst s = match c.prL s with
    | [] => ((0, 0), true)
    | p :: _ => (p, false) := by
  rw [Col.fst, outL_stop c s (fun a b => (a, b)), ← Col.prL]

theorem find_in (c : Col) (s a : Nat) : ∀ (q j : Nat), findF (c.alk1 s a) j q = (inL c s a j q).head?.map fun p => (c.lenAt p.1, c.lenAt p.2)
  | 0, _ => rfl
  | q + 1, j => by
    rw [findF, inL, Col.alk1, c.meet_eq]
    by_cases h : c.partB s (c.lenAt a) (c.lenAt j) = true
    · rw [if_pos h, if_pos h]
      exact find_in c s a q (j + 1)
    · rw [if_neg h, if_neg h]
      rfl

theorem find_out (c : Col) (s : Nat) : ∀ (q j : Nat), findF (fun i => findF (c.alk1 s i) (i + 1) (c.manyN - (i + 1))) j q = (outL c s j q).head?.map fun p => (c.lenAt p.1, c.lenAt p.2)
  | 0, _ => rfl
  | q + 1, j => by
    rw [findF, outL, find_in]
    cases h : inL c s j (j + 1) (c.manyN - (j + 1)) with
    | nil =>
      simp only [List.head?_nil, Option.map_none, List.nil_append]
      exact find_out c s q (j + 1)
    | cons p r => rfl

theorem Col.alkR_eq (c : Col) (s : Nat) : c.alkR s = (c.prL s).head?.map fun p => (c.lenAt p.1, c.lenAt p.2) := find_out c s _ _

/-! ### How many -/

theorem apartZ_comm (p o : Int) : apartZ p o = apartZ o p := by
  simp only [apartZ]
  split <;> split <;> omega

theorem Col.sep_comm (c : Col) (a b : Int) (i : Nat) : c.sep a b i = c.sep b a i := by simp only [Col.sep, apartZ_comm]

theorem Col.partB_comm (c : Col) (s : Nat) (a b : Int) : c.partB s a b = c.partB s b a := by
  simp only [Col.partB]
  congr 1
  funext i
  rw [c.sep_comm]

theorem Col.meet_comm (c : Col) (s a b : Nat) : c.meet s a b = c.meet s b a := by rw [c.meet_eq, c.meet_eq, c.partB_comm]

theorem Col.meet_self {c : Col} (ho : c.Ok) (s a : Nat) : c.meet s a a = false := by
  rw [c.meet_eq, Col.partB, anyF_false]
  intro i h1 h2
  have := ho.er
  have hw := ho.ws i (by omega)
  have hp := ptZ_bd (w := c.ws.getD i 0) (n := c.lenAt a) (by omega)
  have : c.sep (c.lenAt a) (c.lenAt a) i = false := by
    have h0 : ∀ p : Int, apartZ p p = 0 := by
      intro p
      simp only [apartZ, lessZ, Int.lt_irrefl, if_false]
      omega
    simp only [Col.sep, h0]
    simp
    omega
  rw [this, Bool.and_false]

theorem cnt_num (c : Col) (s i : Nat) : ∀ (q j n : Nat), foldF (c.cnt s i) n j q = n + num (fun k => !c.meet s i k) j q
  | 0, _, _ => rfl
  | q + 1, j, n => by
    rw [foldF, num, cnt_num c s i q, Col.cnt, ← c.meet_eq]
    cases c.meet s i j <;> simp <;> omega

theorem inL_len (c : Col) (s a : Nat) : ∀ (q j : Nat), (inL c s a j q).length = num (fun b => !c.meet s a b) j q
  | 0, _ => rfl
  | q + 1, j => by
    rw [inL, num]
    cases h : c.meet s a j
    · simp [inL_len c s a q]; omega
    · simp [inL_len c s a q]

/-- A sum over the q numbers from j on. -/
def sumN (f : Nat → Nat) : Nat → Nat → Nat
  | _, 0 => 0
  | j, q + 1 => f j + sumN f (j + 1) q

theorem sumN_congr {f g : Nat → Nat} : ∀ (q j : Nat), (∀ i, j ≤ i → i < j + q → f i = g i) → sumN f j q = sumN g j q
  | 0, _, _ => rfl
  | q + 1, j, h => by
    rw [sumN, sumN, h j (by omega) (by omega), sumN_congr q (j + 1) (fun i h1 h2 => h i (by omega) (by omega))]

theorem sumN_add (f g : Nat → Nat) : ∀ (q j : Nat), sumN (fun i => f i + g i) j q = sumN f j q + sumN g j q
  | 0, _ => rfl
  | q + 1, j => by
    rw [sumN, sumN, sumN, sumN_add f g q]
    omega

theorem sumN_one (k : Nat) : ∀ (q j : Nat), sumN (fun i => if k = i then 1 else 0) j q = if j ≤ k ∧ k < j + q then 1 else 0
  | 0, j => by rw [if_neg (by omega)]; rfl
  | q + 1, j => by
    rw [sumN, sumN_one k q]
    by_cases h : k = j
    · rw [if_pos h, if_neg (by omega), if_pos (by omega)]
    · rw [if_neg h]
      by_cases h2 : j + 1 ≤ k ∧ k < j + 1 + q
      · rw [if_pos h2, if_pos (by omega)]
      · rw [if_neg h2, if_neg (by omega)]

theorem sumN_zero : ∀ (q j : Nat), sumN (fun _ => 0) j q = 0
  | 0, _ => rfl
  | q + 1, j => by rw [sumN, sumN_zero q]

theorem len_by {α : Type} (f : α → Nat) (N : Nat) : ∀ l : List α, (∀ x ∈ l, f x < N) → l.length = sumN (fun i => l.countP fun x => f x == i) 0 N
  | [], _ => by simp only [List.length_nil, List.countP_nil]; rw [sumN_zero]
  | x :: r, h => by
    have h1 := len_by f N r (fun y hy => h y (List.mem_cons_of_mem _ hy))
    have h2 : sumN (fun i => (x :: r).countP fun x => f x == i) 0 N = sumN (fun i => (r.countP fun x => f x == i) + (if f x = i then 1 else 0)) 0 N := by
      refine sumN_congr _ _ (fun i _ _ => ?_)
      rw [List.countP_cons]
      simp
    rw [h2, sumN_add, ← h1, sumN_one, if_pos ⟨by omega, by have := h x (List.mem_cons_self ..); omega⟩]
    rfl

theorem inL_snd (c : Col) (s a i : Nat) : ∀ (q j : Nat), (inL c s a j q).countP (fun p => p.2 == i) = if j ≤ i ∧ i < j + q ∧ c.meet s a i = false then 1 else 0
  | 0, j => by rw [if_neg (by omega)]; rfl
  | q + 1, j => by
    rw [inL]
    by_cases h : c.meet s a j = true
    · rw [if_pos h, inL_snd c s a i q]
      by_cases e : i = j
      · subst e
        rw [if_neg (by omega), if_neg (by simp [h])]
      · by_cases h2 : j + 1 ≤ i ∧ i < j + 1 + q ∧ c.meet s a i = false
        · rw [if_pos h2, if_pos ⟨by omega, by omega, h2.2.2⟩]
        · rw [if_neg h2, if_neg (fun h3 => h2 ⟨by omega, by omega, h3.2.2⟩)]
    · rw [if_neg h, List.countP_cons, inL_snd c s a i q]
      by_cases e : j = i
      · subst e
        have h' : c.meet s a j = false := by simpa using h
        simp [h']
        omega
      · have e' : (j == i) = false := by simpa using e
        simp only [e', Bool.false_eq_true, if_false, Nat.add_zero]
        by_cases h2 : j + 1 ≤ i ∧ i < j + 1 + q ∧ c.meet s a i = false
        · rw [if_pos h2, if_pos ⟨by omega, by omega, h2.2.2⟩]
        · rw [if_neg h2, if_neg (fun h3 => h2 ⟨by omega, by omega, h3.2.2⟩)]

theorem outL_snd (c : Col) (s i : Nat) (hi : i < c.manyN) : ∀ (q j : Nat), j + q = c.manyN → (outL c s j q).countP (fun p => p.2 == i) = num (fun a => decide (a < i) && !c.meet s a i) j q
  | 0, _, _ => rfl
  | q + 1, j, hj => by
    rw [outL, List.countP_append, outL_snd c s i hi q (j + 1) (by omega), inL_snd, num]
    congr 1
    by_cases h : j < i
    · cases hm : c.meet s j i
      · rw [if_pos ⟨by omega, by omega, rfl⟩]; simp [h]
      · rw [if_neg (by simp)]; simp
    · rw [if_neg (by omega)]; simp [h]

theorem Col.snd_eq (c : Col) (s : Nat) {i : Nat} (hi : i < c.manyN) : (c.prL s).countP (fun p => p.2 == i) = num (fun k => !c.meet s i k) 0 i := by
  rw [Col.prL, outL_snd c s i hi _ _ (by omega), show c.manyN = i + (c.manyN - i) by omega, num_add]
  rw [show num (fun a => decide (a < i) && !c.meet s a i) (0 + i) (c.manyN - i) = 0 from (num_zero _ _).2 (fun k h1 h2 => by simp; omega), Nat.add_zero]
  refine num_congr _ _ (fun k h1 h2 => ?_)
  rw [c.meet_comm s k i]
  simp; omega

theorem left_sum (c : Col) (s : Nat) : ∀ (q j n : Nat), foldF (fun n i => foldF (c.cnt s i) n 0 i) n j q = n + sumN (fun i => num (fun k => !c.meet s i k) 0 i) j q
  | 0, _, _ => rfl
  | q + 1, j, n => by
    rw [foldF, left_sum c s q, cnt_num, sumN]
    omega

theorem Col.left_len (c : Col) (s : Nat) : c.leftN s = (c.prL s).length := by
  rw [Col.leftN, left_sum, Nat.zero_add, len_by (fun p => p.2) c.manyN (c.prL s) (fun p hp => ((c.prL_mem s p).1 hp).2.1)]
  exact sumN_congr _ _ (fun i _ hi => (c.snd_eq s (by omega)).symm)

end Go.Ab
/-
  What the package answers is what the reference answers: the pairs, the worst, the reach.
-/
namespace Go.Ab
open Go.Proofs
set_option linter.unusedSimpArgs false
set_option linter.unusedVariables false

theorem wr {n : Int} (h : 0 ≤ n ∧ n ≤ 1000000) : w1 n = n + 1 := w64 (by omega) (by omega)

theorem Col.leftP_eq {c : Col} (ho : c.Ok) (s : Nat) : c.leftP s = (c.leftN s : Int) := by
  have hb := c.leftN_bd ho s
  rw [c.left_len] at hb ⊢
  rw [Col.leftP, foldP_eq]
  have key : ∀ (l : List (Nat × Nat)) (n : Int), 0 ≤ n → n + l.length ≤ 300000 → l.foldl (fun n _ => w1 n) n = n + l.length := by
    intro l
    induction l with
    | nil => intro n _ _; simp
    | cons p r ih =>
      intro n h1 h2
      simp only [List.length_cons] at h2 ⊢
      rw [List.foldl_cons, wr (by omega), ih (n + 1) (by omega) (by omega)]
      omega
  rw [key _ 0 (by omega) (by omega)]
  omega

theorem Col.allP_left (c : Col) (s : Nat) : c.allP s = (c.leftN s == 0) := by
  rw [c.allP_eq, c.left_len]
  cases c.prL s <;> simp

/-! ### The worst -/

/-- In how many pairs a number is. -/
def degL (l : List (Nat × Nat)) (x : Nat) : Nat := l.countP fun p => p.1 == x || p.2 == x

theorem max3_spec (a b c : Int) : a ≤ max3 a b c ∧ b ≤ max3 a b c ∧ c ≤ max3 a b c ∧ (max3 a b c = a ∨ max3 a b c = b ∨ max3 a b c = c) := by
  simp only [max3]
  split <;> split <;> omega

/-- What the pairs have told by then. -/
structure Told (N : Nat) (l : List (Nat × Nat)) (st : Int × List (Int × Int) × Int) : Prop where
  n : st.1 = l.length
  d : ∀ x : Nat, (lookO x st.2.1).getD 0 = degL l x
  m1 : ∀ x : Nat, (degL l x : Int) + 1 ≤ st.2.2
  m2 : st.2.2 = 1 ∨ ∃ x, x < N ∧ st.2.2 = degL l x + 1

theorem degL_snoc (l : List (Nat × Nat)) (p : Nat × Nat) (x : Nat) : degL (l ++ [p]) x = degL l x + (if p.1 = x ∨ p.2 = x then 1 else 0) := by
  simp only [degL, List.countP_append, List.countP_cons, List.countP_nil, Nat.zero_add]
  by_cases h1 : p.1 = x <;> by_cases h2 : p.2 = x <;> simp [h1, h2]

theorem degL_le (l : List (Nat × Nat)) (x : Nat) : degL l x ≤ l.length := List.countP_le_length

theorem Told.step {N : Nat} {l : List (Nat × Nat)} {st : Int × List (Int × Int) × Int} (h : Told N l st) (a b : Nat) (hab : a < b) (hbN : b < N) (hl : l.length ≤ 300000) : Told N (l ++ [(a, b)]) (pairG st a b) := by
  have da := degL_le l a
  have db := degL_le l b
  have ha := h.d a
  have hb := h.d b
  have hm := max3_spec st.2.2 (w1 (w1 (degL l a))) (w1 (w1 (degL l b)))
  have wa : w1 (degL l a : Int) = degL l a + 1 := wr (by omega)
  have wb : w1 (degL l b : Int) = degL l b + 1 := wr (by omega)
  have wa2 : w1 ((degL l a : Int) + 1) = degL l a + 2 := by rw [wr (by omega)]; omega
  have wb2 : w1 ((degL l b : Int) + 1) = degL l b + 2 := by rw [wr (by omega)]; omega
  rw [wa, wb, wa2, wb2] at hm
  have sa : degL (l ++ [(a, b)]) a = degL l a + 1 := by rw [degL_snoc, if_pos (.inl rfl)]
  have sb : degL (l ++ [(a, b)]) b = degL l b + 1 := by rw [degL_snoc, if_pos (.inr rfl)]
  have so : ∀ x, x ≠ a → x ≠ b → degL (l ++ [(a, b)]) x = degL l x := by
    intro x h1 h2
    rw [degL_snoc, if_neg (by simp only; omega)]; rfl
  have mono : ∀ x, degL l x ≤ degL (l ++ [(a, b)]) x := by intro x; rw [degL_snoc]; omega
  simp only [pairG, ha, hb, wa, wb, wa2, wb2]
  refine ⟨?_, ?_, ?_, ?_⟩
  · simp only [h.n, List.length_append, List.length_cons, List.length_nil]
    rw [wr (by omega)]
    omega
  · intro x
    simp only [lookO_put]
    by_cases h1 : x = b
    · subst h1
      simp [sb]
    · have h1' : ¬ (x : Int) = b := by omega
      rw [if_neg h1']
      by_cases h2 : x = a
      · subst h2
        simp [sa]
      · have h2' : ¬ (x : Int) = a := by omega
        rw [if_neg h2', so x h2 h1]
        exact h.d x
  · intro x
    simp only
    by_cases h1 : x = b
    · subst h1; rw [sb]; omega
    · by_cases h2 : x = a
      · subst h2; rw [sa]; omega
      · rw [so x h2 h1]
        have := h.m1 x
        omega
  · simp only
    rcases hm.2.2.2 with e | e | e
    · rw [e]
      rcases h.m2 with h3 | ⟨x, hx, h3⟩
      · exact .inl h3
      · have q1 := hm.2.1
        have q2 := hm.2.2.1
        rw [e] at q1 q2
        by_cases h1 : x = b
        · subst h1; omega
        · by_cases h2 : x = a
          · subst h2; omega
          · exact .inr ⟨x, hx, by rw [so x h2 h1]; exact h3⟩
    · rw [e]; exact .inr ⟨a, by omega, by rw [sa]; omega⟩
    · rw [e]; exact .inr ⟨b, hbN, by rw [sb]; omega⟩

theorem told_all {N : Nat} : ∀ (r l : List (Nat × Nat)) (st : Int × List (Int × Int) × Int), Told N l st → (∀ p ∈ r, p.1 < p.2 ∧ p.2 < N) → l.length + r.length ≤ 300000 → Told N (l ++ r) (r.foldl (fun st p => pairG st p.1 p.2) st)
  | [], l, st, h, _, _ => by simpa using h
  | p :: r, l, st, h, hp, hl => by
    have h1 := hp p (List.mem_cons_self ..)
    simp only [List.length_cons] at hl
    have := told_all r (l ++ [p]) (pairG st p.1 p.2) (h.step p.1 p.2 h1.1 h1.2 (by omega)) (fun q hq => hp q (List.mem_cons_of_mem _ hq)) (by simp; omega)
    simpa using this

theorem Col.prs_told {c : Col} (ho : c.Ok) (s : Nat) : Told c.manyN (c.prL s) (c.prs s) := by
  have hb := c.leftN_bd ho s
  rw [c.left_len] at hb
  rw [Col.prs, foldP_eq]
  have := told_all (N := c.manyN) (c.prL s) [] (0, [], 1) ⟨rfl, fun x => rfl, fun x => by simp [degL], .inl rfl⟩ (fun p hp => by have := (c.prL_mem s p).1 hp; omega) (by simp; omega)
  simpa using this

theorem inL_fst (c : Col) (s a x : Nat) : ∀ (q j : Nat), (inL c s a j q).countP (fun p => p.1 == x) = if a = x then (inL c s a j q).length else 0
  | 0, j => by simp [inL]
  | q + 1, j => by
    have := inL_fst c s a x q (j + 1)
    rw [inL]
    split
    · exact this
    · rw [List.countP_cons, this]
      by_cases h : a = x <;> simp [h]

theorem outL_fst (c : Col) (s x : Nat) : ∀ (q j : Nat), (outL c s j q).countP (fun p => p.1 == x) = if j ≤ x ∧ x < j + q then num (fun b => !c.meet s x b) (x + 1) (c.manyN - (x + 1)) else 0
  | 0, j => by rw [if_neg (by omega)]; rfl
  | q + 1, j => by
    rw [outL, List.countP_append, outL_fst c s x q, inL_fst, inL_len]
    by_cases h : j = x
    · subst h
      rw [if_pos rfl, if_neg (by omega), if_pos ⟨by omega, by omega⟩, Nat.add_zero]
    · rw [if_neg h]
      by_cases h2 : j + 1 ≤ x ∧ x < j + 1 + q
      · rw [if_pos h2, if_pos ⟨by omega, by omega⟩, Nat.zero_add]
      · rw [if_neg h2, if_neg (by omega)]

theorem Col.deg_eq {c : Col} (ho : c.Ok) (s : Nat) {x : Nat} (hx : x < c.manyN) : degL (c.prL s) x + 1 = num (fun k => !c.meet s x k) 0 c.manyN := by
  have h1 : degL (c.prL s) x = (c.prL s).countP (fun p => p.1 == x) + (c.prL s).countP (fun p => p.2 == x) := by
    have key : ∀ l : List (Nat × Nat), (∀ p ∈ l, p.1 < p.2) → degL l x = l.countP (fun p => p.1 == x) + l.countP (fun p => p.2 == x) := by
      intro l
      induction l with
      | nil => intro _; rfl
      | cons p r ih =>
        intro h
        have h2 := h p (List.mem_cons_self ..)
        have ih' := ih (fun q hq => h q (List.mem_cons_of_mem _ hq))
        simp only [degL, List.countP_cons] at ih' ⊢
        rw [ih']
        by_cases e1 : p.1 = x <;> by_cases e2 : p.2 = x <;> simp [e1, e2] <;> omega
    exact key _ (fun p hp => ((c.prL_mem s p).1 hp).1)
  rw [h1, c.snd_eq s hx, Col.prL, outL_fst, if_pos ⟨by omega, by omega⟩]
  have h2 : num (fun k => !c.meet s x k) 0 c.manyN = num (fun k => !c.meet s x k) 0 x + (1 + num (fun k => !c.meet s x k) (x + 1) (c.manyN - (x + 1))) := by
    have e : c.manyN = x + ((c.manyN - (x + 1)) + 1) := by omega
    rw [show num (fun k => !c.meet s x k) 0 c.manyN = num (fun k => !c.meet s x k) 0 (x + ((c.manyN - (x + 1)) + 1)) by rw [← e], num_add, Nat.zero_add, num, c.meet_self ho]
    rfl
  omega

/-- The greatest of the values from j on, at least w. -/
theorem fmax_spec (f : Nat → Int) : ∀ (q j : Nat) (w : Int), w ≤ foldF (fun (w : Int) i => if w < f i then f i else w) w j q ∧ (∀ i, j ≤ i → i < j + q → f i ≤ foldF (fun (w : Int) i => if w < f i then f i else w) w j q) ∧
    (foldF (fun (w : Int) i => if w < f i then f i else w) w j q = w ∨ ∃ i, j ≤ i ∧ i < j + q ∧ foldF (fun (w : Int) i => if w < f i then f i else w) w j q = f i)
  | 0, j, w => ⟨Int.le_refl _, fun i h1 h2 => by omega, .inl rfl⟩
  | q + 1, j, w => by
    obtain ⟨h1, h2, h3⟩ := fmax_spec f q (j + 1) (if w < f j then f j else w)
    rw [foldF]
    have hw : w ≤ (if w < f j then f j else w) ∧ f j ≤ (if w < f j then f j else w) := by split <;> omega
    refine ⟨by omega, fun i g1 g2 => ?_, ?_⟩
    · by_cases e : i = j
      · subst e; omega
      · exact h2 i (by omega) (by omega)
    · rcases h3 with h3 | ⟨i, g1, g2, g3⟩
      · rw [h3]
        by_cases e : w < f j
        · rw [if_pos e]; exact .inr ⟨j, by omega, by omega, rfl⟩
        · rw [if_neg e]; exact .inl rfl
      · exact .inr ⟨i, by omega, by omega, g3⟩

theorem Col.worst_eq {c : Col} (ho : c.Ok) (s : Nat) : (c.prs s).2.2 = c.worstR s := by
  have ht := c.prs_told ho s
  have mb := ho.many_bd
  obtain ⟨h1, h2, h3⟩ := fmax_spec (fun i => ((foldF (c.cnt s i) 0 0 c.manyN : Nat) : Int)) c.manyN 0 0
  have hc : ∀ x, x < c.manyN → ((foldF (c.cnt s x) 0 0 c.manyN : Nat) : Int) = degL (c.prL s) x + 1 := by
    intro x hx
    rw [cnt_num, Nat.zero_add, ← c.deg_eq ho s hx]
    omega
  have e : c.worstR s = foldF (fun (w : Int) i => if w < ((foldF (c.cnt s i) 0 0 c.manyN : Nat) : Int) then ((foldF (c.cnt s i) 0 0 c.manyN : Nat) : Int) else w) 0 0 c.manyN := rfl
  rw [← e] at h1 h2 h3
  have le1 : c.worstR s ≤ (c.prs s).2.2 := by
    rcases h3 with h3 | ⟨i, g1, g2, g3⟩
    · have := ht.m1 0
      omega
    · rw [g3]
      rw [hc i (by omega)]
      exact ht.m1 i
  have le2 : (c.prs s).2.2 ≤ c.worstR s := by
    rcases ht.m2 with g | ⟨x, hx, g⟩
    · have := h2 0 (Nat.le_refl _) (by omega)
      rw [hc 0 (by omega)] at this
      omega
    · have := h2 x (by omega) (by omega)
      rw [hc x hx] at this
      omega
  omega

/-! ### The reach -/

theorem last_spec : ∀ (l : List (Nat × Nat)) (x : Int), l.foldl (fun x p => lastF x p.1 p.2) x ≤ x ∧ (∀ p ∈ l, l.foldl (fun x p => lastF x p.1 p.2) x ≤ (p.2 : Int) - 1) ∧ (l.foldl (fun x p => lastF x p.1 p.2) x = x ∨ ∃ p ∈ l, l.foldl (fun x p => lastF x p.1 p.2) x = (p.2 : Int) - 1)
  | [], x => ⟨Int.le_refl x, (by intro p hp; cases hp), Or.inl rfl⟩
  | p :: r, x => by
    obtain ⟨h1, h2, h3⟩ := last_spec r (lastF x p.1 p.2)
    have hl : lastF x p.1 p.2 ≤ x ∧ lastF x p.1 p.2 ≤ (p.2 : Int) - 1 ∧ (lastF x p.1 p.2 = x ∨ lastF x p.1 p.2 = (p.2 : Int) - 1) := by
      simp only [lastF]; split <;> omega
    rw [List.foldl_cons]
    refine ⟨by omega, fun q hq => ?_, ?_⟩
    · rcases List.mem_cons.1 hq with rfl | hq
      · omega
      · exact h2 q hq
    · rcases h3 with h3 | ⟨q, hq, h3⟩
      · rcases hl.2.2 with e | e
        · exact .inl (by omega)
        · exact .inr ⟨p, List.mem_cons_self .., by omega⟩
      · exact .inr ⟨q, List.mem_cons_of_mem _ hq, h3⟩

theorem Col.last_eq {c : Col} (ho : c.Ok) (s : Nat) : c.lenAt (c.last s).toNat = c.rchR s := by
  have mb := ho.many_bd
  obtain ⟨h1, h2, h3⟩ := last_spec (c.prL s) ((c.manyN : Int) - 1)
  have e : c.last s = (c.prL s).foldl (fun x p => lastF x p.1 p.2) ((c.manyN : Int) - 1) := by rw [Col.last, foldP_eq]
  rw [← e] at h1 h2 h3
  have inner : ∀ i, i < c.manyN → findF (c.rch1 s i) 0 i = if (∃ k, k < i ∧ c.meet s k i = false) then some (c.lenAt (i - 1)) else none := by
    intro i hi
    by_cases h : ∃ k, k < i ∧ c.meet s k i = false
    · rw [if_pos h]
      cases hf : findF (c.rch1 s i) 0 i with
      | none =>
        obtain ⟨k, hk, hm⟩ := h
        have := (findF_none _ _ _).1 hf k (by omega) (by omega)
        simp only [Col.rch1, ← c.meet_eq] at this
        rw [c.meet_comm, hm] at this
        simp at this
      | some y =>
        obtain ⟨k, _, _, hk, _⟩ := (findF_some _ y _ _).1 hf
        simp only [Col.rch1] at hk
        split at hk
        · cases hk
        · rw [← hk]
    · rw [if_neg h]
      rw [findF_none]
      intro k _ hk
      simp only [Col.rch1, ← c.meet_eq]
      rw [if_pos]
      rw [c.meet_comm]
      cases hm : c.meet s k i
      · exact absurd ⟨k, by omega, hm⟩ h
      · rfl
  rw [Col.rchR]
  rcases h3 with h3 | ⟨p, hp, h3⟩
  · -- none, or the last one alone
    cases hf : findF (fun i => findF (c.rch1 s i) 0 i) 0 c.manyN with
    | none =>
      rw [Option.getD_none, h3]
      congr 1
      omega
    | some y =>
      obtain ⟨i, _, hi, hy, _⟩ := (findF_some _ y _ _).1 hf
      rw [inner i (by omega)] at hy
      split at hy
      · rename_i hk
        obtain ⟨k, hk, hm⟩ := hk
        have := h2 (k, i) ((c.prL_mem s _).2 ⟨hk, by omega, hm⟩)
        simp only at this
        omega
      · cases hy
  · have hq := (c.prL_mem s p).1 hp
    have hfind : findF (fun i => findF (c.rch1 s i) 0 i) 0 c.manyN = some (c.lenAt (p.2 - 1)) := by
      rw [findF_some]
      refine ⟨p.2, by omega, by omega, ?_, ?_⟩
      · rw [inner p.2 hq.2.1, if_pos ⟨p.1, hq.1, hq.2.2⟩]
      · intro k _ hk
        rw [inner k (by omega), if_neg]
        rintro ⟨j, hj, hm⟩
        have := h2 (j, k) ((c.prL_mem s _).2 ⟨hj, by omega, hm⟩)
        simp only at this
        omega
    rw [hfind, Option.getD_some, h3]
    congr 1
    omega

end Go.Ab
/-
  What the package answers is what the reference answers: all of it.
-/
namespace Go.Ab
open Go.Proofs
set_option linter.unusedSimpArgs false
set_option linter.unusedVariables false

variable {H : Heap}

/-! ### The best -/

theorem bst_found (can : Nat → Bool) (cost : Nat → Int) : ∀ (l : List Nat) (b : Nat), l.foldl (bst can cost) (b, cost b, true) = (bestL cost b (l.filter can), cost (bestL cost b (l.filter can)), true)
  | [], _ => rfl
  | x :: r, b => by
    rw [List.foldl_cons, List.filter_cons]
    cases hc : can x
    · simp only [bst, hc, Bool.and_false, Bool.false_eq_true, if_false]
      exact bst_found can cost r b
    · simp only [bst, hc, Bool.and_true, Bool.not_true, Bool.false_or, decide_eq_true_eq, if_true, bestL]
      split
      · exact bst_found can cost r x
      · exact bst_found can cost r b

theorem bst_all (can : Nat → Bool) (cost : Nat → Int) : ∀ (l : List Nat), l.foldl (bst can cost) (0, 0, false) = match l.filter can with
    | [] => (0, 0, false)
    | x :: r => (bestL cost x r, cost (bestL cost x r), true)
  | [] => rfl
  | x :: r => by
    rw [List.foldl_cons, List.filter_cons]
    cases hc : can x
    · simp only [bst, hc, Bool.and_false, Bool.false_eq_true, if_false]
      exact bst_all can cost r
    · simp only [bst, hc, Bool.and_true, Bool.not_false, Bool.true_or, if_true]
      exact bst_found can cost r x

theorem bestL_self (cost : Nat → Int) (x : Nat) (r : List Nat) : bestL cost x (x :: r) = bestL cost x r := by
  rw [bestL, if_neg (by omega)]

theorem Col.few_eq (c : Col) (cost : Nat → Int) : c.few cost = c.bestR cost := by
  have hg : (List.range (2 ^ c.ws.length)).filter c.allP = c.good := by
    simp only [Col.good]
    congr 1
    funext s
    exact c.allP_left s
  simp only [Col.few, Col.bestR, Col.bestP, bst_all, hg, Col.best]
  cases c.valid
  · rfl
  · cases h : c.good with
    | nil => rfl
    | cons x r => simp [bestL_self]

/-! ### What can be spared -/

theorem Col.spr_eq (c : Col) (s : Nat) : c.sprP s = c.spr s := by
  have : c.sprB s = c.sprA s := by
    funext o i
    simp only [Col.sprB, Col.sprA, c.allP_left]
  rw [Col.sprP, Col.spr, this]

theorem Col.spare_eq (c : Col) (n : Int) : c.spare n = c.spareR n := by
  simp only [Col.spare, Col.spareR, c.allP_left, c.spr_eq]
  cases c.valid
  · rfl
  · cases c.isSet n
    · rfl
    · by_cases h : c.leftN n.toNat = 0
      · simp [h]
      · have h' : 0 < c.leftN n.toNat := by omega
        simp [h, h']

/-! ### What is next -/

theorem or_add : ∀ s : Nat, s < 64 → ∀ i : Nat, i < 6 → s.testBit i = false → s ||| 2 ^ i = s + 2 ^ i := by decide +kernel

def nrel (st : Nat × Int × Bool) (p : Int × Int) : Prop := (st.2.2 = true ∧ p = ((st.1 : Int), st.2.1)) ∨ (st.2.2 = false ∧ p.1 < 0)

theorem nxt_rel {c : Col} (ho : c.Ok) {s : Nat} (hs : s < 64) : ∀ (q j : Nat) (st : Nat × Int × Bool) (p : Int × Int), j + q ≤ 6 → nrel st p →
    nrel ((List.range' j q).foldl (bst (fun i => !s.testBit i) (fun i => c.leftP (s ||| 2 ^ i))) st) (foldF (c.nxtA s) p j q)
  | 0, _, _, _, _, h => h
  | q + 1, j, st, p, hj, h => by
    rw [List.range'_succ, List.foldl_cons, foldF]
    refine nxt_rel ho hs q (j + 1) _ _ (by omega) ?_
    obtain ⟨s1, s2, s3⟩ := st
    obtain ⟨p1, p2⟩ := p
    simp only [bst, Col.nxtA]
    rcases Bool.eq_false_or_eq_true (s.testBit j) with ht | ht
    · simp only [ht, Bool.not_true, Bool.and_false, Bool.false_eq_true, if_false, if_true]
      exact h
    · simp only [or_add s hs j (by omega) ht, c.leftP_eq ho]
      simp only [ht, Bool.not_false, Bool.and_true, Bool.false_eq_true, if_false]
      rcases h with ⟨h1, h2⟩ | ⟨h1, h2⟩
      · simp only at h1 h2
        subst h1
        injection h2 with e1 e2
        subst e1 e2
        by_cases hl : (c.leftN (s + 2 ^ j) : Int) < p2
        · rw [if_pos (by simp [hl]), if_pos (.inr hl)]
          exact .inl ⟨rfl, rfl⟩
        · rw [if_neg (by simp; omega), if_neg (by omega)]
          exact .inl ⟨rfl, rfl⟩
      · simp only at h1 h2
        subst h1
        rw [if_pos (by simp), if_pos (.inl h2)]
        exact .inl ⟨rfl, rfl⟩

theorem Col.next_eq (c : Col) (n : Int) : c.next n = c.nextR n := by
  simp only [Col.next, Col.nextR]
  rcases Bool.eq_false_or_eq_true c.valid with hv | hv
  · have ho := c.valid_iff.1 hv
    rcases Bool.eq_false_or_eq_true (c.isSet n) with hn | hn
    · have hs := ho.set_bd hn
      have hl := ho.len
      have h := nxt_rel ho hs.2.2 c.ws.length 0 (0, 0, false) (-1, 0) (by omega) (.inr ⟨rfl, by decide⟩)
      rw [← List.range_eq_range'] at h
      change nrel (c.nxtP n.toNat) (c.nxt n.toNat) at h
      rw [hv, hn]
      simp only [if_true]
      rcases h with ⟨h1, h2⟩ | ⟨h1, h2⟩
      · rw [h1, h2]
        simp only [if_true]
        rw [if_neg (by omega)]
      · rw [h1, if_neg (by simp), if_pos h2]
    · rw [hv, hn]; rfl
  · rw [hv]; rfl

/-! ### All -/

theorem Col.isSet_nat {c : Col} (ho : c.Ok) {n : Int} (hn : c.isSet n = true) : ∃ k : Nat, n = k ∧ n.toNat = k := ⟨n.toNat, (ho.set_bd hn).1, rfl⟩

theorem co_Alike {c : Col} {vw vp : AV} (h : ColAt H c vw vp) (hl : c.ws.length ≤ 1000 ∧ c.ps.length ≤ 1000) (n : Int) :
    callFL cfg0 prog0 false 18 [c.av vw vp, I n] H none = some ⟨.ret (.tup [I (c.alikeR n).1, I (c.alikeR n).2.1, I (c.alikeR n).2.2]), H, none⟩ := by
  rcases Bool.eq_false_or_eq_true c.valid with hv | hv
  · have ho := c.valid_iff.1 hv
    rcases Bool.eq_false_or_eq_true (c.isSet n) with hn | hn
    · obtain ⟨k, rfl, -⟩ := c.isSet_nat ho hn
      rw [co_Alike_t h ho hv k hn]
      simp only [Col.alikeR, hv, hn, if_true, Int.toNat_natCast, c.alkR_eq, c.fst_eq]
      cases c.prL k <;> rfl
    · rw [co_Alike_s h hl n hv hn]
      simp only [Col.alikeR, hv, hn, if_true, Bool.false_eq_true, if_false]
  · rw [co_Alike_v h hl n hv]
    simp only [Col.alikeR, hv, Bool.false_eq_true, if_false]

theorem co_Pairs {c : Col} {vw vp : AV} (h : ColAt H c vw vp) (hl : c.ws.length ≤ 1000 ∧ c.ps.length ≤ 1000) (n : Int) :
    callFL cfg0 prog0 false 20 [c.av vw vp, I n] H none = some ⟨.ret (.tup [I (c.pairsR n).1, I (c.pairsR n).2.1, I (c.pairsR n).2.2]), H, none⟩ := by
  rcases Bool.eq_false_or_eq_true c.valid with hv | hv
  · have ho := c.valid_iff.1 hv
    rcases Bool.eq_false_or_eq_true (c.isSet n) with hn | hn
    · obtain ⟨k, rfl, -⟩ := c.isSet_nat ho hn
      rw [co_Pairs_t h ho hv k hn]
      simp only [Col.pairsR, hv, hn, if_true, Int.toNat_natCast, c.worst_eq ho, (c.prs_told ho k).n, c.left_len]
    · rw [co_Pairs_s h hl n hv hn]
      simp only [Col.pairsR, hv, hn, if_true, Bool.false_eq_true, if_false]
  · rw [co_Pairs_v h hl n hv]
    simp only [Col.pairsR, hv, Bool.false_eq_true, if_false]

theorem co_Reach {c : Col} {vw vp : AV} (h : ColAt H c vw vp) (hl : c.ws.length ≤ 1000 ∧ c.ps.length ≤ 1000) (n : Int) :
    callFL cfg0 prog0 false 22 [c.av vw vp, I n] H none = some ⟨.ret (.tup [I (c.reachR n).1, I (c.reachR n).2]), H, none⟩ := by
  rcases Bool.eq_false_or_eq_true c.valid with hv | hv
  · have ho := c.valid_iff.1 hv
    rcases Bool.eq_false_or_eq_true (c.isSet n) with hn | hn
    · obtain ⟨k, rfl, -⟩ := c.isSet_nat ho hn
      rw [co_Reach_t h ho hv k hn]
      simp only [Col.reachR, hv, hn, if_true, Int.toNat_natCast, c.last_eq ho]
    · rw [co_Reach_s h hl n hv hn]
      simp only [Col.reachR, hv, hn, if_true, Bool.false_eq_true, if_false]
  · rw [co_Reach_v h hl n hv]
    simp only [Col.reachR, hv, Bool.false_eq_true, if_false]

end Go.Ab
/-
  The laws of colour: what is too long, the sample, what is alive.
-/
namespace Go.Ab
open Go.Proofs
set_option linter.unusedSimpArgs false
set_option linter.unusedVariables false
set_option maxRecDepth 100000
set_option maxHeartbeats 1000000

variable {H : Heap}

def Col.long (c : Col) : Bool := decide ((40 : Int) < if (c.ws.length : Int) < c.ps.length then (c.ps.length : Int) else c.ws.length)

theorem Col.long_false {c : Col} (h : c.long = false) : c.ws.length ≤ 40 ∧ c.ps.length ≤ 40 := by
  simp only [Col.long, decide_eq_false_iff_not] at h
  split at h <;> omega

theorem law_long {c : Col} {vw vp : AV} (h : ColAt H c vw vp) : callFL cfg0 prog0 false 33 [c.av vw vp] H none = some ⟨.ret (.bool c.long), H, none⟩ := by
  have s1 := h.ws.scal
  have s2 := h.ps.scal
  simp only [Col.av]
  refine (callFL_eq fn33 rfl (by simp [Try.f33])).trans ?_
  simp (maxSteps := 1000000) (implicitDefEqProofs := false) (disch := first | rfl | omega | assumption) only [go_sem, ↓reduceIte, Nat.reduceEqDiff, Nat.reduceAdd, Nat.reduceLeDiff, Nat.reduceBEq, Nat.reduceMul, Nat.reduceLT, Int.reduceLT, Int.reduceLE, Int.reduceToNat, Int.reduceNeg, Int.reduceEq, Int.reduceMul, reduceCtorEq, Int.reduceBEq, Int.reduceBNe, Int.reduceAdd, Int.reduceSub, s1, s2, h.ws.len, h.ps.len, Col.long]

def Col.heavy (c : Col) (n : Int) : Bool := c.long || (c.valid && decide (n < c.manyN))

theorem law_heavy {c : Col} {vw vp : AV} (h : ColAt H c vw vp) (n : Int) : callFL cfg0 prog0 false 12 [c.av vw vp, I n] H none = some ⟨.ret (.bool (c.heavy n)), H, none⟩ := by
  have s1 := h.ws.scal
  have s2 := h.ps.scal
  have hL := fun G : Heap => law_long (h.app G)
  have hV := fun G : Heap => ref_Colour (h.app G)
  simp only [Col.av, Col.heavy] at hL hV ⊢
  refine (callFL_eq fn12 rfl (by simp [Try.f12])).trans ?_
  rcases Bool.eq_false_or_eq_true c.long with hl | hl
  · simp (maxSteps := 1000000) (implicitDefEqProofs := false) (disch := first | rfl | omega | assumption) only [go_sem, ↓reduceIte, Nat.reduceEqDiff, Nat.reduceAdd, Nat.reduceLeDiff, Nat.reduceBEq, Nat.reduceMul, Nat.reduceLT, Int.reduceLT, Int.reduceLE, Int.reduceToNat, Int.reduceNeg, Int.reduceEq, Int.reduceMul, reduceCtorEq, Int.reduceBEq, Int.reduceBNe, Int.reduceAdd, Int.reduceSub, s1, s2, hL, hl]
  · rcases Bool.eq_false_or_eq_true c.valid with hv | hv
    · have ho := c.valid_iff.1 hv
      have mb := ho.many_bd
      have me := ho.many_eq
      have b1 := ho.lo
      have b2 := ho.ev
      have z : ¬ c.ev = 0 := by omega
      have t1 : (c.hi - c.lo).tdiv c.ev = (c.manyN : Int) - 1 := by
        rw [Int.tdiv_eq_ediv_of_nonneg (by omega), ← me, Col.many]; omega
      have e1 : IntKind.i64.wrap (c.hi - c.lo) = c.hi - c.lo := w64 (by omega) (by omega)
      have e2 : IntKind.i64.wrap ((c.manyN : Int) - 1) = (c.manyN : Int) - 1 := w64 (by omega) (by omega)
      have e3 : IntKind.i64.wrap ((c.manyN : Int) - 1 + 1) = (c.manyN : Int) := by rw [w64 (by omega) (by omega)]; omega
      simp (maxSteps := 1000000) (implicitDefEqProofs := false) (disch := first | rfl | omega | assumption) only [go_sem, ↓reduceIte, Nat.reduceEqDiff, Nat.reduceAdd, Nat.reduceLeDiff, Nat.reduceBEq, Nat.reduceMul, Nat.reduceLT, Int.reduceLT, Int.reduceLE, Int.reduceToNat, Int.reduceNeg, Int.reduceEq, Int.reduceMul, reduceCtorEq, Int.reduceBEq, Int.reduceBNe, Int.reduceAdd, Int.reduceSub, s1, s2, hL, hV, hl, hv, z, t1, e1, e2, e3]
    · simp (maxSteps := 1000000) (implicitDefEqProofs := false) (disch := first | rfl | omega | assumption) only [go_sem, ↓reduceIte, Nat.reduceEqDiff, Nat.reduceAdd, Nat.reduceLeDiff, Nat.reduceBEq, Nat.reduceMul, Nat.reduceLT, Int.reduceLT, Int.reduceLE, Int.reduceToNat, Int.reduceNeg, Int.reduceEq, Int.reduceMul, reduceCtorEq, Int.reduceBEq, Int.reduceBNe, Int.reduceAdd, Int.reduceSub, s1, s2, hL, hV, hl, hv]

theorem law_span (a b : Int) (H : Heap) : callFL cfg0 prog0 false 40 [I a, I b] H none = some ⟨.ret (.agg [I a, I b]), H, none⟩ := by
  refine (callFL_eq fn40 rfl (by simp [Try.f40])).trans ?_
  simp (maxSteps := 1000000) (implicitDefEqProofs := false) (disch := first | rfl | omega | assumption) only [go_sem, ↓reduceIte, Nat.reduceEqDiff, Nat.reduceAdd, Nat.reduceLeDiff, Nat.reduceBEq, Nat.reduceMul, Nat.reduceLT, Int.reduceLT, Int.reduceLE, Int.reduceToNat, Int.reduceNeg, Int.reduceEq, Int.reduceMul, reduceCtorEq, Int.reduceBEq, Int.reduceBNe, Int.reduceAdd, Int.reduceSub]

def smp : Col := ⟨[12, 20, 17], [5, 9, 4], 100, 130, 5, 1⟩
def smpW : AV := .sl true (smp.ws.map I)
def smpP : AV := .sl true (smp.ps.map I)

theorem smp_at (H : Heap) : ColAt H smp smpW smpP := ⟨⟨rfl, by simp [I, AV.cells]⟩, ⟨rfl, by simp [I, AV.cells]⟩⟩

theorem law_sample (H : Heap) : callFL cfg0 prog0 false 32 [] H none = some ⟨.ret (smp.av smpW smpP), H, none⟩ := by
  refine (callFL_eq fn32 rfl (by simp [Try.f32])).trans ?_
  simp (maxSteps := 1000000) (implicitDefEqProofs := false) (disch := first | rfl | omega | assumption) only [go_sem, ↓reduceIte, Nat.reduceEqDiff, Nat.reduceAdd, Nat.reduceLeDiff, Nat.reduceBEq, Nat.reduceMul, Nat.reduceLT, Int.reduceLT, Int.reduceLE, Int.reduceToNat, Int.reduceNeg, Int.reduceEq, Int.reduceMul, reduceCtorEq, Int.reduceBEq, Int.reduceBNe, Int.reduceAdd, Int.reduceSub, law_span, Col.av, smpW, smpP, smp]

theorem smp_ap : smp.apart 2 100 120 = (4, 0) := by decide +kernel
theorem smp_pt : smp.parts 1 100 125 = (false, 0) := by decide +kernel
theorem smp_al : smp.alikeR 2 = (100, 120, 0) := by decide +kernel
theorem smp_pr : smp.pairsR 1 = (2, 2, 0) := by decide +kernel
theorem smp_re : smp.reachR 2 = (115, 0) := by decide +kernel
theorem smp_fw : smp.bestR (fun s => pop s) = (2, 3, 0) := by decide +kernel
theorem smp_ch : smp.bestR smp.cost = (9, 5, 0) := by decide +kernel
theorem smp_sp : smp.spareR 7 = (7, 0) := by decide +kernel
theorem smp_nx : smp.nextR 1 = (1, 0, 0) := by decide +kernel

theorem smp_len : smp.ws.length ≤ 1000 ∧ smp.ps.length ≤ 1000 := by decide

theorem law_alive (H : Heap) : callFL cfg0 prog0 false 13 [] H none = some ⟨.ret (.bool true), H, none⟩ := by
  have h1 := fun G : Heap => co_Apart (smp_at G) smp_len 2 100 120
  have h2 := fun G : Heap => co_Parts (smp_at G) smp_len 1 100 125
  have h3 := fun G : Heap => co_Alike (smp_at G) smp_len 2
  have h4 := fun G : Heap => co_Pairs (smp_at G) smp_len 1
  have h5 := fun G : Heap => co_Reach (smp_at G) smp_len 2
  have h6 := fun G : Heap => co_Fewest (smp_at G) smp_len
  have h7 := fun G : Heap => co_Cheapest (smp_at G) smp_len
  have h8 := fun G : Heap => co_Spare (smp_at G) smp_len 7
  have h9 := fun G : Heap => co_Next (smp_at G) smp_len 1
  simp only [smp_ap] at h1
  simp only [smp_pt] at h2
  simp only [smp_al] at h3
  simp only [smp_pr] at h4
  simp only [smp_re] at h5
  simp only [Col.few_eq, smp_fw] at h6
  simp only [Col.few_eq, smp_ch] at h7
  simp only [Col.spare_eq, smp_sp] at h8
  simp only [Col.next_eq, smp_nx] at h9
  have hS := law_sample
  generalize smp.av smpW smpP = sv at *
  refine (callFL_eq fn13 rfl (by simp [Try.f13])).trans ?_
  simp (maxSteps := 1000000) (implicitDefEqProofs := false) (disch := first | rfl | omega | assumption) only [go_sem, ↓reduceIte, Nat.reduceEqDiff, Nat.reduceAdd, Nat.reduceLeDiff, Nat.reduceBEq, Nat.reduceMul, Nat.reduceLT, Int.reduceLT, Int.reduceLE, Int.reduceToNat, Int.reduceNeg, Int.reduceEq, Int.reduceMul, reduceCtorEq, Int.reduceBEq, Int.reduceBNe, Int.reduceAdd, Int.reduceSub, hS, h1, h2, h3, h4, h5, h6, h7, h8, h9]

end Go.Ab
