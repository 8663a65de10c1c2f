/-
  What can be spared, and what is next.
-/
import Derived.Test.YtlhnmpclnbpnhaaKK4
namespace Go.Ab
open Go.Proofs
set_option linter.unusedSimpArgs false
set_option linter.unusedVariables false
set_option maxRecDepth 100000
set_option maxHeartbeats 1000000

variable {H : Heap}

theorem bit_and : ∀ s : Nat, s < 64 → ∀ i : Nat, i < 6 → bitsOp .and .u64 (s : Int) ((2 ^ i : Nat) : Int) = some (((if s.testBit i then 2 ^ i else 0 : Nat)) : Int) := by decide +kernel
theorem bit_not : ∀ s : Nat, s < 64 → ∀ i : Nat, i < 6 → s.testBit i = true → bitsOp .andNot .u64 (s : Int) ((2 ^ i : Nat) : Int) = some ((s - 2 ^ i : Nat) : Int) := by decide +kernel
theorem bit_add : ∀ o : Nat, o < 64 → ∀ i : Nat, i < 6 → o < 2 ^ i → bitsOp .or .u64 (o : Int) ((2 ^ i : Nat) : Int) = some ((o + 2 ^ i : Nat) : Int) := by decide +kernel

def Col.sprB (c : Col) (s : Nat) (o i : Nat) : Nat := if s.testBit i && c.allP (s - 2 ^ i) then o + 2 ^ i else o
def Col.sprP (c : Col) (s : Nat) : Nat := foldF (c.sprB s) 0 0 c.ws.length

theorem co_Spare_loop {c : Col} {vw vp : AV} (h : ColAt H c vw vp) (ho : c.Ok) {s : Nat} (hs : s < 64) (r : Nat) :
    ∀ (q j : Nat), j + q = c.ws.length → ∀ (o : Nat), foldF (c.sprB s) o j q = r → o < 2 ^ j → ∀ E : Env, E.get 1 = I s → E.get 4 = I 0 → E.get 5 = .ptr (H.length + 1) 0 → E.get 6 = .ptr (H.length + 7) 0 → E.get 7 = U o → E.get 23 = I c.ws.length → E.get 24 = I j →
    Option.map (finishC H.length) (execL cfg0 prog0 ⟨28, none, false, H.length⟩ (todoAt Try.f28 6) ⟨E, [.fn (.func 74) [] [.ptr (H.length + 1) 0]], H ++ (.box (c.av vw vp) :: .box (I 0) :: c.seen vw vp s (H.length + 2)), none⟩) = some ⟨.ret (.tup [I r, I 0]), H, none⟩ := by
  intro q
  have lw := ho.len
  have hF := fun G : Heap => Col.seen_full (H := H ++ [.box (c.av vw vp), .box (I 0)]) (vw := vw) (vp := vp) (c := c) s G
  have hA := fun (G : Heap) (x : Nat) (hx : x < 64) => co_partsAll (hF G) ho hx
  have hN := fun (G : Heap) => dn_Spare (H.length + 1) G
  have hcs : IntKind.u64.wrap (s : Int) = s := wrapU (by omega)
  simp only [Col.seen, Col.av, List.length_append, List.length_cons, List.length_nil, List.append_assoc, List.cons_append, List.nil_append, Nat.add_assoc, Nat.reduceAdd, Nat.zero_add] at hA ⊢
  induction q with
  | zero =>
    intro j hj o hr hb E g1 g4 g5 g6 g7 g23 g24
    have hk' : ¬ (j : Int) < ((c.ws.length : Nat) : Int) := by omega
    simp only [foldF] at hr
    subst hr
    have hp : (2 : Nat) ^ j ≤ 2 ^ 6 := Nat.pow_le_pow_right (by omega) (by omega)
    have hci : IntKind.i64.wrap (o : Int) = o := w64 (by omega) (by omega)
    simp only [loopIt, todoPast, todoAt, todoOf, firstReg, ↓reduceIte, Option.some.injEq, Nat.reduceEqDiff, reduceCtorEq, Try.f28]
    rw [execL_inLoop]
    simp (maxSteps := 1000000) (implicitDefEqProofs := false) (disch := first | rfl | omega | assumption) only [go_sem, ↓reduceIte, Nat.reduceEqDiff, Nat.reduceAdd, Nat.reduceLeDiff, Nat.reduceBEq, Nat.reduceMul, Nat.reduceLT, Int.reduceLT, Int.reduceLE, Int.reduceToNat, Int.reduceNeg, Int.reduceEq, Int.reduceMul, reduceCtorEq, Int.reduceBEq, Int.reduceBNe, Int.reduceAdd, Int.reduceSub, g1, g4, g5, g6, g7, g23, g24, ltT, ltF, leT, leF, hk', hN, hci]
  | succ q ih =>
    intro j hj o hr hb E g1 g4 g5 g6 g7 g23 g24
    have hk' : (j : Int) < ((c.ws.length : Nat) : Int) := by omega
    have hk2 : j < c.ws.length := by omega
    have p1 : (2 : Nat) ^ j < 2 ^ 6 := Nat.pow_lt_pow_right (by omega) (by omega)
    have p2 : (2 : Nat) ^ (j + 1) = 2 ^ j + 2 ^ j := by rw [Nat.pow_succ]; omega
    have p3 := Nat.pow_pos (n := j) (show 0 < 2 by omega)
    have p4 : (((2 ^ j : Nat) : Int) != 0) = true := by simp only [bne_iff_ne, ne_eq]; omega
    have e1 := bit_and s hs j (by omega)
    have e2 := bit_not s hs j (by omega)
    have e3 := bit_add o (by omega) j (by omega) hb
    have e4 : IntKind.u64.wrap (1 * 2 ^ min j 64) = ((2 ^ j : Nat) : Int) := shlU (k := j) (by omega)
    have z : ¬ (j : Int) < 0 := by omega
    simp only [foldF, Col.sprB] at hr
    simp only [loopIt, todoPast, todoAt, todoOf, firstReg, ↓reduceIte, Option.some.injEq, Nat.reduceEqDiff, reduceCtorEq, Try.f28]
    rw [execL_inLoop]
    rcases Bool.eq_false_or_eq_true (s.testBit j) with ht | ht
    · have e2' := e2 ht
      have hA' := fun G : Heap => hA G (s - 2 ^ j) (by omega)
      change ∀ G : Heap, callFL _ _ _ _ _ _ _ = some ⟨.ret (.bool (c.allP (s - 2 ^ j))), _, _⟩ at hA'
      rw [ht, if_pos rfl] at e1
      rw [ht, Bool.true_and] at hr
      rcases Bool.eq_false_or_eq_true (c.allP (s - 2 ^ j)) with hc | hc
      · rw [hc, if_pos rfl] at hr
        simp (maxSteps := 1000000) (implicitDefEqProofs := false) (disch := first | rfl | omega | assumption) only [go_sem, ↓reduceIte, Nat.reduceEqDiff, Nat.reduceAdd, Nat.reduceLeDiff, Nat.reduceBEq, Nat.reduceMul, Nat.reduceLT, Int.reduceLT, Int.reduceLE, Int.reduceToNat, Int.reduceNeg, Int.reduceEq, Int.reduceMul, reduceCtorEq, Int.reduceBEq, Int.reduceBNe, Int.reduceAdd, Int.reduceSub, g1, g4, g5, g6, g7, g23, g24, ltT, ltF, leT, leF, hk', hcs, e1, e2', e3, e4, z, p4, hA', hc]
        exact ih (j + 1) (by omega) (o + 2 ^ j) hr (by omega) _ (by exact g1) (by exact g4) (by exact g5) (by exact g6) (by rfl) (by exact g23) (by rfl)
      · rw [hc, if_neg (by simp)] at hr
        simp (maxSteps := 1000000) (implicitDefEqProofs := false) (disch := first | rfl | omega | assumption) only [go_sem, ↓reduceIte, Nat.reduceEqDiff, Nat.reduceAdd, Nat.reduceLeDiff, Nat.reduceBEq, Nat.reduceMul, Nat.reduceLT, Int.reduceLT, Int.reduceLE, Int.reduceToNat, Int.reduceNeg, Int.reduceEq, Int.reduceMul, reduceCtorEq, Int.reduceBEq, Int.reduceBNe, Int.reduceAdd, Int.reduceSub, g1, g4, g5, g6, g7, g23, g24, ltT, ltF, leT, leF, hk', hcs, e1, e2', e3, e4, z, p4, hA', hc]
        exact ih (j + 1) (by omega) o hr (by omega) _ (by exact g1) (by exact g4) (by exact g5) (by exact g6) (by exact g7) (by exact g23) (by rfl)
    · rw [ht, if_neg (by simp)] at e1
      rw [ht, Bool.false_and, if_neg (by simp)] at hr
      simp (maxSteps := 1000000) (implicitDefEqProofs := false) (disch := first | rfl | omega | assumption) only [go_sem, ↓reduceIte, Nat.reduceEqDiff, Nat.reduceAdd, Nat.reduceLeDiff, Nat.reduceBEq, Nat.reduceMul, Nat.reduceLT, Int.reduceLT, Int.reduceLE, Int.reduceToNat, Int.reduceNeg, Int.reduceEq, Int.reduceMul, reduceCtorEq, Int.reduceBEq, Int.reduceBNe, Int.reduceAdd, Int.reduceSub, g1, g4, g5, g6, g7, g23, g24, ltT, ltF, leT, leF, hk', hcs, e1, e4, z]
      exact ih (j + 1) (by omega) o hr (by omega) _ (by exact g1) (by exact g4) (by exact g5) (by exact g6) (by exact g7) (by exact g23) (by rfl)

def Col.spare (c : Col) (n : Int) : Int × Int := if c.valid then (if c.isSet n then (if c.allP n.toNat then (c.sprP n.toNat, 0) else (0, 11)) else (0, 2)) else (0, 1)

theorem co_Spare {c : Col} {vw vp : AV} (h : ColAt H c vw vp) (hl : c.ws.length ≤ 1000 ∧ c.ps.length ≤ 1000) (n : Int) :
    callFL cfg0 prog0 false 28 [c.av vw vp, I n] H none = some ⟨.ret (.tup [I (c.spare n).1, I (c.spare n).2]), H, none⟩ := by
  have s1 := h.ws.scal
  have s2 := h.ps.scal
  have hL := co_look (H := H ++ [.box (c.av vw vp), .box (I 0)]) (h.app _) hl n
  have hS := fun (e : Int) (x : AO) (G : Heap) => ds_Spare (H.length + 1) e 0 (H ++ (x :: .box (I 0) :: G)) (by rw [get_at' 1]; rfl)
  simp only [errA] at hS
  rcases Bool.eq_false_or_eq_true c.valid with hv | hv
  · have ho := c.valid_iff.1 hv
    rcases Bool.eq_false_or_eq_true (c.isSet n) with hn | hn
    · obtain ⟨b1, b2, b3⟩ := ho.set_bd hn
      obtain ⟨k, hk⟩ : ∃ k : Nat, k = n.toNat := ⟨_, rfl⟩
      rw [← hk] at b1 b2 b3
      subst b1
      clear hk
      have hcs : IntKind.u64.wrap (k : Int) = k := wrapU (by omega)
      have hF := fun G : Heap => Col.seen_full (H := H ++ [.box (c.av vw vp), .box (I 0)]) (vw := vw) (vp := vp) (c := c) k G
      have hA := fun (G : Heap) => co_partsAll (hF G) ho b3
      change ∀ G : Heap, callFL _ _ _ _ _ _ _ = some ⟨.ret (.bool (c.allP k)), _, _⟩ at hA
      have hO := fun G : Heap => (hF G).shop.own.len
      have hB := fun G : Heap => (hF G).shop.box
      have hlp := co_Spare_loop h ho b3 (c.sprP k) c.ws.length 0 (by omega) 0 rfl (by simp)
      simp only [hv, hn, if_true, Col.seen, Col.av, List.length_append, List.length_cons, List.length_nil, List.append_assoc, List.cons_append, List.nil_append, Nat.add_assoc, Nat.reduceAdd, Nat.zero_add, errA, List.length_map] at hL hA hO hB hlp
      simp only [Col.spare, hv, hn, if_true, Col.av, Int.toNat_natCast]
      refine (callFL_eq fn28 rfl (by simp [Try.f28])).trans ?_
      rcases Bool.eq_false_or_eq_true (c.allP k) with hc | hc
      · simp (maxSteps := 1000000) (implicitDefEqProofs := false) (disch := first | rfl | omega | assumption) only [go_sem, ↓reduceIte, Nat.reduceEqDiff, Nat.reduceAdd, Nat.reduceLeDiff, Nat.reduceBEq, Nat.reduceMul, Nat.reduceLT, Int.reduceLT, Int.reduceLE, Int.reduceToNat, Int.reduceNeg, Int.reduceEq, Int.reduceMul, reduceCtorEq, Int.reduceBEq, Int.reduceBNe, Int.reduceAdd, Int.reduceSub, s1, s2, hL, hA, hcs, hc, co_must, hO, hB]
        exact hlp _ (by rfl) (by rfl) (by rfl) (by rfl) (by rfl) (by rfl) (by rfl)
      · simp (maxSteps := 1000000) (implicitDefEqProofs := false) (disch := first | rfl | omega | assumption) only [go_sem, ↓reduceIte, Nat.reduceEqDiff, Nat.reduceAdd, Nat.reduceLeDiff, Nat.reduceBEq, Nat.reduceMul, Nat.reduceLT, Int.reduceLT, Int.reduceLE, Int.reduceToNat, Int.reduceNeg, Int.reduceEq, Int.reduceMul, reduceCtorEq, Int.reduceBEq, Int.reduceBNe, Int.reduceAdd, Int.reduceSub, s1, s2, hL, hA, hcs, hc, co_must, hS]
    · simp only [hv, hn, if_true, if_false, Bool.false_eq_true, Col.av, List.length_append, List.length_cons, List.length_nil, List.append_assoc, List.cons_append, List.nil_append, Nat.add_assoc, Nat.reduceAdd, Nat.zero_add, errA] at hL
      simp only [Col.spare, hv, hn, if_true, if_false, Bool.false_eq_true, Col.av]
      refine (callFL_eq fn28 rfl (by simp [Try.f28])).trans ?_
      simp (maxSteps := 1000000) (implicitDefEqProofs := false) (disch := first | rfl | omega | assumption) only [go_sem, ↓reduceIte, Nat.reduceEqDiff, Nat.reduceAdd, Nat.reduceLeDiff, Nat.reduceBEq, Nat.reduceMul, Nat.reduceLT, Int.reduceLT, Int.reduceLE, Int.reduceToNat, Int.reduceNeg, Int.reduceEq, Int.reduceMul, reduceCtorEq, Int.reduceBEq, Int.reduceBNe, Int.reduceAdd, Int.reduceSub, s1, s2, hL, hS]
  · simp only [hv, if_false, Bool.false_eq_true, Col.av, List.length_append, List.length_cons, List.length_nil, List.append_assoc, List.cons_append, List.nil_append, Nat.add_assoc, Nat.reduceAdd, Nat.zero_add, errA] at hL
    simp only [Col.spare, hv, if_false, Bool.false_eq_true, Col.av]
    refine (callFL_eq fn28 rfl (by simp [Try.f28])).trans ?_
    simp (maxSteps := 1000000) (implicitDefEqProofs := false) (disch := first | rfl | omega | assumption) only [go_sem, ↓reduceIte, Nat.reduceEqDiff, Nat.reduceAdd, Nat.reduceLeDiff, Nat.reduceBEq, Nat.reduceMul, Nat.reduceLT, Int.reduceLT, Int.reduceLE, Int.reduceToNat, Int.reduceNeg, Int.reduceEq, Int.reduceMul, reduceCtorEq, Int.reduceBEq, Int.reduceBNe, Int.reduceAdd, Int.reduceSub, s1, s2, hL, hS]

/-! What is next -/

theorem shrI {s j : Nat} (hj : j ≤ 6) : (s : Int).fdiv (2 ^ min j 64) = ((s / 2 ^ j : Nat) : Int) := shrU hj

theorem and_zero {s j : Nat} : (((s / 2 ^ j &&& 1 : Nat) : Int) == 0) = !s.testBit j := by
  rw [Nat.and_one_is_mod, Nat.testBit_eq_decide_div_mod_eq]
  have : s / 2 ^ j % 2 = 0 ∨ s / 2 ^ j % 2 = 1 := by omega
  rcases this with h | h <;> rw [h] <;> rfl

theorem next_can {p : Nat} {s j : Nat} (hs : s < 64) (hj : j < 6) (hp : H[p]? = some (.box (I s))) : callVL cfg0 prog0 false (.func 81) [I j] [.ptr p 0] H none = some ⟨.ret (.bool (!s.testBit j)), H, none⟩ := by
  have e1 := shrI (s := s) (j := j) (by omega)
  have e2 : s / 2 ^ j ≤ s := Nat.div_le_self _ _
  have e3 : bitsOp .and .i64 ((s / 2 ^ j : Nat) : Int) 1 = some ((s / 2 ^ j &&& 1 : Nat) : Int) := bitsAndI (b := 1) (by omega) (by decide)
  have e4 := and_zero (s := s) (j := j)
  have z : ¬ (j : Int) < 0 := by omega
  rw [callVL_func]
  simp only [List.cons_append, List.nil_append]
  refine (callFL_eq fn81 rfl (by simp [Try.f81])).trans ?_
  simp (maxSteps := 1000000) (implicitDefEqProofs := false) (disch := first | rfl | omega | assumption) only [go_sem, ↓reduceIte, Nat.reduceEqDiff, Nat.reduceAdd, Nat.reduceLeDiff, Nat.reduceBEq, Nat.reduceMul, Nat.reduceLT, Int.reduceLT, Int.reduceLE, Int.reduceToNat, Int.reduceNeg, Int.reduceEq, Int.reduceMul, reduceCtorEq, Int.reduceBEq, Int.reduceBNe, Int.reduceAdd, Int.reduceSub, hp, e1, e3, e4, z]

/-- How many pairs a set leaves, as they are counted. -/
def Col.leftP (c : Col) (s : Nat) : Int := foldP c s (fun n _ _ => w1 n) 0

theorem next_cost {l lm p q : Nat} {c : Col} {vw vp vo : AV} (h : Full H l lm c vw vp vo) (ho : c.Ok) {s j : Nat} (hs : s < 64) (hj : j < 6) (hp : H[p]? = some (.box (.ptr l 0))) (hq : H[q]? = some (.box (I s))) :
    callVL cfg0 prog0 false (.func 82) [I j] [.ptr p 0, .ptr q 0] H none = some ⟨.ret (I (c.leftP (s ||| 2 ^ j))), H, none⟩ := by
  have p1 : (2 : Nat) ^ j < 2 ^ 6 := Nat.pow_lt_pow_right (by omega) (by omega)
  have e1 : IntKind.u64.wrap (s : Int) = s := wrapU (by omega)
  have e2 : IntKind.u64.wrap (1 * 2 ^ min j 64) = ((2 ^ j : Nat) : Int) := shlU (k := j) (by omega)
  have e3 := bitsOr (a := s) (b := 2 ^ j) (by omega) (by omega)
  have hL := co_left h ho (s := s ||| 2 ^ j) (Nat.or_lt_two_pow (n := 6) hs p1)
  change callFL _ _ _ _ _ _ _ = some ⟨.ret (I (c.leftP (s ||| 2 ^ j))), _, _⟩ at hL
  have z : ¬ (j : Int) < 0 := by omega
  rw [callVL_func]
  simp only [List.cons_append, List.nil_append]
  refine (callFL_eq fn82 rfl (by simp [Try.f82])).trans ?_
  simp (maxSteps := 1000000) (implicitDefEqProofs := false) (disch := first | rfl | omega | assumption) only [go_sem, ↓reduceIte, Nat.reduceEqDiff, Nat.reduceAdd, Nat.reduceLeDiff, Nat.reduceBEq, Nat.reduceMul, Nat.reduceLT, Int.reduceLT, Int.reduceLE, Int.reduceToNat, Int.reduceNeg, Int.reduceEq, Int.reduceMul, reduceCtorEq, Int.reduceBEq, Int.reduceBNe, Int.reduceAdd, Int.reduceSub, hp, hq, e1]
  rw [chkK_of]; rotate_left; kernel_rfl
  simp (maxSteps := 1000000) (implicitDefEqProofs := false) (disch := first | rfl | omega | assumption) only [go_sem, ↓reduceIte, Nat.reduceEqDiff, Nat.reduceAdd, Nat.reduceLeDiff, Nat.reduceBEq, Nat.reduceMul, Nat.reduceLT, Int.reduceLT, Int.reduceLE, Int.reduceToNat, Int.reduceNeg, Int.reduceEq, Int.reduceMul, reduceCtorEq, Int.reduceBEq, Int.reduceBNe, Int.reduceAdd, Int.reduceSub, hp, hq, e1, e2, e3, hL, z]

theorem co_Next_loop (n : Nat) (hn : n ≤ 6) (W : Heap) (hW : W.length = H.length + 12) (df : List ADefer) (K : List Item) (R : Option Done) (hK : ∀ E : Env, E.get 3 = .ptr (H.length + 1) 0 → E.get 4 = I 0 → E.get 5 = I 0 → E.get 6 = .ptr (H.length + 2) 0 → E.get 7 = .ptr (H.length + 10) 0 → E.get 8 = .gsl (H.length + 11) n → Option.map (finishC H.length) (execL cfg0 prog0 ⟨30, none, false, H.length⟩ K ⟨E, df, W.set (H.length + 11) (.grow 1 ((List.range n).map fun n : Nat => I n)), none⟩) = R)  :
    ∀ (q j : Nat), j + q = n → ∀ (len : Nat), ∀ (xs : List AV), xs = ((List.range j).map fun n : Nat => I n) → len = xs.length → ∀ E : Env, E.get 3 = .ptr (H.length + 1) 0 → E.get 4 = I 0 → E.get 5 = I 0 → E.get 6 = .ptr (H.length + 2) 0 → E.get 7 = .ptr (H.length + 10) 0 → E.get 8 = .gsl (H.length + 11) len → E.get 21 = I n → E.get 22 = I j →
    Option.map (finishC H.length) (execL cfg0 prog0 ⟨30, none, false, H.length⟩ (loopIt Try.f30 5 :: .inBlock 0 :: K) ⟨E, df, W.set (H.length + 11) (.grow 1 xs), none⟩) = R := by
  intro q
  induction q with
  | zero =>
    intro j hj len xs hx hlen E g3 g4 g5 g6 g7 g8 g21 g22
    have hk' : ¬ (j : Int) < ((n : Nat) : Int) := by omega
    have hjn : j = n := by omega
    subst hjn
    have hll : len = j := by rw [hlen, hx]; simp
    subst hll
    simp only [loopIt, todoPast, todoAt, todoOf, firstReg, ↓reduceIte, Option.some.injEq, Nat.reduceEqDiff, reduceCtorEq, Try.f30]
    rw [execL_inLoop]
    simp (maxSteps := 1000000) (implicitDefEqProofs := false) (disch := first | rfl | omega | assumption) only [go_sem, ↓reduceIte, Nat.reduceEqDiff, Nat.reduceAdd, Nat.reduceLeDiff, Nat.reduceBEq, Nat.reduceMul, Nat.reduceLT, Int.reduceLT, Int.reduceLE, Int.reduceToNat, Int.reduceNeg, Int.reduceEq, Int.reduceMul, reduceCtorEq, Int.reduceBEq, Int.reduceBNe, Int.reduceAdd, Int.reduceSub, g3, g4, g5, g6, g7, g8, g21, g22, ltT, ltF, leT, leF, hk']
    rw [hx]
    exact hK _ (by exact g3) (by exact g4) (by exact g5) (by exact g6) (by exact g7) (by exact g8)
  | succ q ih =>
    intro j hj len xs hx hlen E g3 g4 g5 g6 g7 g8 g21 g22
    have hk' : (j : Int) < ((n : Nat) : Int) := by omega
    have hk2 : j < n := by omega
    have hxl : xs.length = j := by rw [hx]; simp
    have hof : addElem (W.set (H.length + 11) (.grow 1 xs)) 1 false (.gsl (H.length + 11) len) [I j] = some (.gsl (H.length + 11) (len + 1), W.set (H.length + 11) (.grow 1 (xs ++ [I j]))) := by
      rw [add_gsl (by rw [List.getElem?_set_self (by omega)]) hlen.symm rfl rfl (by simp; omega), List.set_set]
      rfl
    simp only [loopIt, todoPast, todoAt, todoOf, firstReg, ↓reduceIte, Option.some.injEq, Nat.reduceEqDiff, reduceCtorEq, Try.f30]
    rw [execL_inLoop]
    simp (maxSteps := 1000000) (implicitDefEqProofs := false) (disch := first | rfl | omega | assumption) only [go_sem, ↓reduceIte, Nat.reduceEqDiff, Nat.reduceAdd, Nat.reduceLeDiff, Nat.reduceBEq, Nat.reduceMul, Nat.reduceLT, Int.reduceLT, Int.reduceLE, Int.reduceToNat, Int.reduceNeg, Int.reduceEq, Int.reduceMul, reduceCtorEq, Int.reduceBEq, Int.reduceBNe, Int.reduceAdd, Int.reduceSub, g3, g4, g5, g6, g7, g8, g21, g22, ltT, ltF, leT, leF, hk', hof]
    exact ih (j + 1) (by omega) (len + 1) _ (by rw [List.range_succ, hx, List.map_append]; rfl) (by rw [hlen]; simp) _ (by exact g3) (by exact g4) (by exact g5) (by exact g6) (by exact g7) (by rfl) (by exact g21) (by rfl)

noncomputable def nextH (c : Col) (vw vp : AV) (k n : Nat) (xs : List AV) : Heap :=
  [.box (.agg [vw, vp, I c.lo, I c.hi, I c.ev, I c.er]), .box (I k), .box (I 0), .box (.agg [vw, vp, I c.lo, I c.hi, I c.ev, I c.er]), .box (I k), .box (.agg [vw, vp, I c.lo, I c.hi, I c.ev, I c.er]), .map 84 c.pes, .grow 1 (c.ws.map I),
   .box (.agg [vw, vp, I c.lo, I c.hi, I c.ev, I c.er, .gsl (n + 7) c.ws.length, .map (n + 6)]), .box (.agg [I c.lo, I c.hi]), .box (.ptr (n + 8) 0), .grow 1 xs]

/-- The best colour to buy next. -/
def Col.nxtP (c : Col) (s : Nat) : Nat × Int × Bool := (List.range c.ws.length).foldl (bst (fun i => !s.testBit i) (fun i => c.leftP (s ||| 2 ^ i))) (0, 0, false)
def Col.next (c : Col) (n : Int) : Int × Int × Int := if c.valid then (if c.isSet n then (if (c.nxtP n.toNat).2.2 then ((c.nxtP n.toNat).1, (c.nxtP n.toNat).2.1, 0) else (0, 0, 4)) else (0, 0, 2)) else (0, 0, 1)

theorem co_Next {c : Col} {vw vp : AV} (h : ColAt H c vw vp) (hl : c.ws.length ≤ 1000 ∧ c.ps.length ≤ 1000) (n : Int) :
    callFL cfg0 prog0 false 30 [c.av vw vp, I n] H none = some ⟨.ret (.tup [I (c.next n).1, I (c.next n).2.1, I (c.next n).2.2]), H, none⟩ := by
  have s1 := h.ws.scal
  have s2 := h.ps.scal
  have hL := co_look (H := H ++ [.box (c.av vw vp), .box (I n), .box (I 0)]) (h.app _) hl n
  have hN := fun (G : Heap) => dn_Next (H.length + 2) G
  have hS := fun (e : Int) (x y : AO) (G : Heap) => ds_Next (H.length + 2) e 0 (H ++ (x :: y :: .box (I 0) :: G)) (by rw [get_at' 2]; rfl)
  simp only [errA] at hS
  rcases Bool.eq_false_or_eq_true c.valid with hv | hv
  · have ho := c.valid_iff.1 hv
    have hlen := ho.len
    rcases Bool.eq_false_or_eq_true (c.isSet n) with hn | hn
    · obtain ⟨b1, b2, b3⟩ := ho.set_bd hn
      obtain ⟨k, hk⟩ : ∃ k : Nat, k = n.toNat := ⟨_, rfl⟩
      rw [← hk] at b1 b2 b3
      subst b1
      clear hk
      have hF := fun G : Heap => Col.seen_full (H := H ++ [.box (c.av vw vp), .box (I k), .box (I 0)]) (vw := vw) (vp := vp) (c := c) k G
      have hO := fun G : Heap => (hF G).shop.own.len
      have hB := fun G : Heap => (hF G).shop.box
      have hF2 := fun G : Heap => hF (.box (.ptr (H.length + 8) 0) :: .grow 1 ((List.range c.ws.length).map fun n : Nat => I n) :: G)
      simp only [Col.seen, Col.av, List.length_append, List.length_cons, List.length_nil, List.append_assoc, List.cons_append, List.nil_append, Nat.add_assoc, Nat.reduceAdd, Nat.zero_add] at hF2
      have hC := cheapI (H := H ++ nextH c vw vp k H.length ((List.range c.ws.length).map fun n : Nat => I n)) (vl := .gsl (H.length + 11) c.ws.length) (List.range c.ws.length) ⟨⟨by simp only [nextH, get_at', List.getElem?_cons_succ, List.getElem?_cons_zero], by simp⟩, by simp [I, AV.cells]⟩ (by simp; omega) (fun i => !k.testBit i) (fun i => c.leftP (k ||| 2 ^ i)) (.func 81) (.func 82) [] [] [.ptr (H.length + 1) 0] [.ptr (H.length + 10) 0, .ptr (H.length + 1) 0]
        (fun G x hx => next_can b3 (by have := List.mem_range.1 hx; omega) (by simp only [nextH, List.append_assoc, List.cons_append, get_at', List.getElem?_cons_succ, List.getElem?_cons_zero]))
        (fun G x hx => by
          have hf := hF2 G
          exact next_cost (l := H.length + 8) (lm := H.length + 6) (p := H.length + 10) (q := H.length + 1) (vw := vw) (vp := vp) (vo := .gsl (H.length + 7) c.ws.length) (by simp only [nextH, List.append_assoc, List.cons_append, List.nil_append]; exact hf) ho b3 (by have := List.mem_range.1 hx; omega)
            (by simp only [nextH, List.append_assoc, List.cons_append, get_at', List.getElem?_cons_succ, List.getElem?_cons_zero]) (by simp only [nextH, List.append_assoc, List.cons_append, get_at', List.getElem?_cons_succ, List.getElem?_cons_zero]))
      change callFL _ _ _ _ _ _ _ = some ⟨.ret (.tup [I (c.nxtP k).1, I (c.nxtP k).2.1, .bool (c.nxtP k).2.2]), _, _⟩ at hC
      have hlp := fun R hR => co_Next_loop (H := H) c.ws.length hlen.2 (H ++ nextH c vw vp k H.length []) (by simp [nextH]) [.fn (.func 79) [] [.ptr (H.length + 2) 0]] (todoPast Try.f30 5) R hR c.ws.length 0 (by omega) 0 [] rfl rfl
      simp only [hv, hn, if_true, Col.seen, Col.av, List.length_append, List.length_cons, List.length_nil, List.append_assoc, List.cons_append, List.nil_append, Nat.add_assoc, Nat.reduceAdd, Nat.zero_add, errA, List.length_map] at hL hO hB
      simp only [Col.next, hv, hn, if_true, Col.av, Int.toNat_natCast]
      generalize c.nxtP k = r at hC ⊢
      obtain ⟨r1, r2, r3⟩ := r
      have es : (H ++ nextH c vw vp k H.length []).set (H.length + 11) (.grow 1 []) = H ++ nextH c vw vp k H.length [] := by
        simp only [nextH, set_at', List.set_cons_succ, List.set_cons_zero]
      have es2 : (H ++ nextH c vw vp k H.length []).set (H.length + 11) (.grow 1 ((List.range c.ws.length).map fun n : Nat => I n)) = H ++ nextH c vw vp k H.length ((List.range c.ws.length).map fun n : Nat => I n) := by
        simp only [nextH, set_at', List.set_cons_succ, List.set_cons_zero]
      rw [es, es2] at hlp
      simp only [nextH] at hlp hC
      refine (callFL_eq fn30 rfl (by simp [Try.f30])).trans ?_
      simp (maxSteps := 1000000) (implicitDefEqProofs := false) (disch := first | rfl | omega | assumption) only [go_sem, ↓reduceIte, Nat.reduceEqDiff, Nat.reduceAdd, Nat.reduceLeDiff, Nat.reduceBEq, Nat.reduceMul, Nat.reduceLT, Int.reduceLT, Int.reduceLE, Int.reduceToNat, Int.reduceNeg, Int.reduceEq, Int.reduceMul, reduceCtorEq, Int.reduceBEq, Int.reduceBNe, Int.reduceAdd, Int.reduceSub, s1, s2, hL, hO, hB]
      refine hlp _ (fun E g3 g4 g5 g6 g7 g8 => ?_) _ (by rfl) (by rfl) (by rfl) (by rfl) (by rfl) (by rfl) (by rfl) (by rfl)
      simp only [loopIt, todoPast, todoAt, todoOf, firstReg, ↓reduceIte, Option.some.injEq, Nat.reduceEqDiff, reduceCtorEq, Try.f30]
      cases r3 with
      | true => simp (maxSteps := 1000000) (implicitDefEqProofs := false) (disch := first | rfl | omega | assumption) only [go_sem, ↓reduceIte, Nat.reduceEqDiff, Nat.reduceAdd, Nat.reduceLeDiff, Nat.reduceBEq, Nat.reduceMul, Nat.reduceLT, Int.reduceLT, Int.reduceLE, Int.reduceToNat, Int.reduceNeg, Int.reduceEq, Int.reduceMul, reduceCtorEq, Int.reduceBEq, Int.reduceBNe, Int.reduceAdd, Int.reduceSub, g3, g6, g7, g8, hC, co_must, hN]
      | false => simp (maxSteps := 1000000) (implicitDefEqProofs := false) (disch := first | rfl | omega | assumption) only [go_sem, ↓reduceIte, Nat.reduceEqDiff, Nat.reduceAdd, Nat.reduceLeDiff, Nat.reduceBEq, Nat.reduceMul, Nat.reduceLT, Int.reduceLT, Int.reduceLE, Int.reduceToNat, Int.reduceNeg, Int.reduceEq, Int.reduceMul, reduceCtorEq, Int.reduceBEq, Int.reduceBNe, Int.reduceAdd, Int.reduceSub, g3, g4, g5, g6, g7, g8, hC, co_must, hS]
    · simp only [hv, hn, if_true, if_false, Bool.false_eq_true, Col.av, List.length_append, List.length_cons, List.length_nil, List.append_assoc, List.cons_append, List.nil_append, Nat.add_assoc, Nat.reduceAdd, Nat.zero_add, errA] at hL
      simp only [Col.next, hv, hn, if_true, if_false, Bool.false_eq_true, Col.av]
      refine (callFL_eq fn30 rfl (by simp [Try.f30])).trans ?_
      simp (maxSteps := 1000000) (implicitDefEqProofs := false) (disch := first | rfl | omega | assumption) only [go_sem, ↓reduceIte, Nat.reduceEqDiff, Nat.reduceAdd, Nat.reduceLeDiff, Nat.reduceBEq, Nat.reduceMul, Nat.reduceLT, Int.reduceLT, Int.reduceLE, Int.reduceToNat, Int.reduceNeg, Int.reduceEq, Int.reduceMul, reduceCtorEq, Int.reduceBEq, Int.reduceBNe, Int.reduceAdd, Int.reduceSub, s1, s2, hL, hS]
  · simp only [hv, if_false, Bool.false_eq_true, Col.av, List.length_append, List.length_cons, List.length_nil, List.append_assoc, List.cons_append, List.nil_append, Nat.add_assoc, Nat.reduceAdd, Nat.zero_add, errA] at hL
    simp only [Col.next, hv, if_false, Bool.false_eq_true, Col.av]
    refine (callFL_eq fn30 rfl (by simp [Try.f30])).trans ?_
    simp (maxSteps := 1000000) (implicitDefEqProofs := false) (disch := first | rfl | omega | assumption) only [go_sem, ↓reduceIte, Nat.reduceEqDiff, Nat.reduceAdd, Nat.reduceLeDiff, Nat.reduceBEq, Nat.reduceMul, Nat.reduceLT, Int.reduceLT, Int.reduceLE, Int.reduceToNat, Int.reduceNeg, Int.reduceEq, Int.reduceMul, reduceCtorEq, Int.reduceBEq, Int.reduceBNe, Int.reduceAdd, Int.reduceSub, s1, s2, hL, hS]

end Go.Ab
/-
  Pairs that a set does not part, as a list; how many there are.
-/
namespace Go.Ab
open Go.Proofs
set_option linter.unusedSimpArgs false
set_option linter.unusedVariables false

/-- How many of the q numbers from j on f holds of. -/
def num (f : Nat → Bool) : Nat → Nat → Nat
  | _, 0 => 0
  | j, q + 1 => (if f j then 1 else 0) + num f (j + 1) q

theorem num_le (f : Nat → Bool) : ∀ (q j : Nat), num f j q ≤ q
  | 0, _ => Nat.le_refl _
  | q + 1, j => by
    have := num_le f q (j + 1)
    simp only [num]
    split <;> omega

theorem num_add (f : Nat → Bool) : ∀ (q j r : Nat), num f j (q + r) = num f j q + num f (j + q) r
  | 0, j, r => by simp [num]
  | q + 1, j, r => by
    rw [show q + 1 + r = (q + r) + 1 by omega, num, num, num_add f q (j + 1) r, show j + 1 + q = j + (q + 1) by omega]
    omega

theorem num_congr {f g : Nat → Bool} : ∀ (q j : Nat), (∀ i, j ≤ i → i < j + q → f i = g i) → num f j q = num g j q
  | 0, _, _ => rfl
  | q + 1, j, h => by
    rw [num, num, h j (by omega) (by omega), num_congr q (j + 1) (fun i h1 h2 => h i (by omega) (by omega))]

theorem num_zero {f : Nat → Bool} (q j : Nat) : num f j q = 0 ↔ ∀ i, j ≤ i → i < j + q → f i = false := by
  induction q generalizing j with
  | zero => simp only [num, true_iff]; intro i h1 h2; omega
  | succ q ih =>
    simp only [num]
    constructor
    · intro h i h1 h2
      by_cases e : i = j
      · subst e
        cases hf : f i
        · rfl
        · rw [hf] at h; simp at h
      · exact (ih (j + 1)).1 (by omega) i (by omega) (by omega)
    · intro h
      rw [(ih (j + 1)).2 (fun i h1 h2 => h i (by omega) (by omega)), h j (by omega) (by omega)]
      rfl

theorem num_mono {f g : Nat → Bool} : ∀ (q j : Nat), (∀ i, j ≤ i → i < j + q → f i = true → g i = true) → num f j q ≤ num g j q
  | 0, _, _ => Nat.le_refl _
  | q + 1, j, h => by
    have := num_mono q (j + 1) (fun i h1 h2 => h i (by omega) (by omega))
    have h2 := h j (by omega) (by omega)
    simp only [num]
    cases hf : f j <;> cases hg : g j <;> simp_all <;> omega

def inL (c : Col) (s a : Nat) : Nat → Nat → List (Nat × Nat)
  | _, 0 => []
  | j, q + 1 => if c.meet s a j then inL c s a (j + 1) q else (a, j) :: inL c s a (j + 1) q

def outL (c : Col) (s : Nat) : Nat → Nat → List (Nat × Nat)
  | _, 0 => []
  | j, q + 1 => inL c s j (j + 1) (c.manyN - (j + 1)) ++ outL c s (j + 1) q

/-- The pairs that a set does not part. -/
def Col.prL (c : Col) (s : Nat) : List (Nat × Nat) := outL c s 0 c.manyN

theorem inL_fold {β : Type} (c : Col) (s : Nat) (f : β → Nat → Nat → β) (a : Nat) : ∀ (q j : Nat) (st : β), foldF (fun st b => if c.meet s a b then st else f st a b) st j q = (inL c s a j q).foldl (fun st p => f st p.1 p.2) st
  | 0, _, _ => rfl
  | q + 1, j, st => by
    rw [foldF, inL]
    split <;> rw [inL_fold c s f a q]
    rfl

theorem outL_fold {β : Type} (c : Col) (s : Nat) (f : β → Nat → Nat → β) : ∀ (q j : Nat) (st : β), foldF (fun st a => foldF (fun st b => if c.meet s a b then st else f st a b) st (a + 1) (c.manyN - (a + 1))) st j q = (outL c s j q).foldl (fun st p => f st p.1 p.2) st
  | 0, _, _ => rfl
  | q + 1, j, st => by
    rw [foldF, outL, List.foldl_append, inL_fold, outL_fold c s f q]

theorem foldP_eq {β : Type} (c : Col) (s : Nat) (f : β → Nat → Nat → β) (st : β) : foldP c s f st = (c.prL s).foldl (fun st p => f st p.1 p.2) st := outL_fold c s f _ _ _

theorem inL_mem (c : Col) (s a : Nat) (p : Nat × Nat) : ∀ (q j : Nat), p ∈ inL c s a j q ↔ p.1 = a ∧ j ≤ p.2 ∧ p.2 < j + q ∧ c.meet s a p.2 = false
  | 0, j => by simp only [inL, List.not_mem_nil, false_iff]; omega
  | q + 1, j => by
    rw [inL]
    by_cases h : c.meet s a j = true
    · rw [if_pos h, inL_mem c s a p q]
      constructor
      · rintro ⟨h1, h2, h3, h4⟩; exact ⟨h1, by omega, by omega, h4⟩
      · rintro ⟨h1, h2, h3, h4⟩
        have : p.2 ≠ j := by rintro e; rw [e, h] at h4; cases h4
        exact ⟨h1, by omega, by omega, h4⟩
    · rw [if_neg h, List.mem_cons, inL_mem c s a p q]
      constructor
      · rintro (rfl | ⟨h1, h2, h3, h4⟩)
        · exact ⟨rfl, Nat.le_refl _, by simp, by simpa using h⟩
        · exact ⟨h1, by omega, by omega, h4⟩
      · rintro ⟨h1, h2, h3, h4⟩
        by_cases e : p.2 = j
        · left
          exact Prod.ext h1 e
        · exact .inr ⟨h1, by omega, by omega, h4⟩

theorem outL_mem (c : Col) (s : Nat) (p : Nat × Nat) : ∀ (q j : Nat), p ∈ outL c s j q ↔ j ≤ p.1 ∧ p.1 < j + q ∧ p.1 < p.2 ∧ p.2 < c.manyN ∧ c.meet s p.1 p.2 = false
  | 0, j => by simp only [outL, List.not_mem_nil, false_iff]; omega
  | q + 1, j => by
    rw [outL, List.mem_append, inL_mem, outL_mem c s p q]
    constructor
    · rintro (⟨h1, h2, h3, h4⟩ | ⟨h1, h2, h3⟩)
      · exact ⟨by omega, by omega, by omega, by omega, by rw [h1]; exact h4⟩
      · exact ⟨by omega, by omega, h3⟩
    · rintro ⟨h1, h2, h3, h4, h5⟩
      by_cases e : p.1 = j
      · exact .inl ⟨e, by omega, by omega, by rw [← e]; exact h5⟩
      · exact .inr ⟨by omega, by omega, h3, h4, h5⟩

theorem Col.prL_mem (c : Col) (s : Nat) (p : Nat × Nat) : p ∈ c.prL s ↔ p.1 < p.2 ∧ p.2 < c.manyN ∧ c.meet s p.1 p.2 = false := by
  rw [Col.prL, outL_mem]
  constructor
  · rintro ⟨_, _, h⟩; exact h
  · rintro ⟨h1, h2, h3⟩; exact ⟨by omega, by omega, h1, h2, h3⟩

/-! ### The first -/

theorem inL_stop {β : Type} (c : Col) (s a : Nat) (g : Nat → Nat → β) : ∀ (q j : Nat) (st : β), itB c s (fun _ a b => (g a b, false)) a st j q = match inL c s a j q with
    | [] => (st, true)
    | p :: _ => (g p.1 p.2, false)
  | 0, _, _ => rfl
  | q + 1, j, st => by
    rw [itB, inL]
    by_cases h : c.meet s a j = true
    · rw [if_pos h, if_pos h, inL_stop c s a g q]
    · rw [if_neg h, if_neg h]
      rfl

theorem outL_stop {β : Type} (c : Col) (s : Nat) (g : Nat → Nat → β) : ∀ (q j : Nat) (st : β), itA c s (fun _ a b => (g a b, false)) st j q = match outL c s j q with
    | [] => (st, true)
    | p :: _ => (g p.1 p.2, false)
  | 0, _, _ => rfl
  | q + 1, j, st => by
    rw [itA, outL, inL_stop]
    cases h : inL c s j (j + 1) (c.manyN - (j + 1)) with
    | nil =>
      simp only [if_true, List.nil_append]
      exact outL_stop c s g q (j + 1) st
    | cons p r => rfl

theorem Col.allP_eq (c : Col) (s : Nat) : c.allP s = (c.prL s).isEmpty := by
  rw [Col.allP, outL_stop c s (fun _ _ => ()), ← Col.prL]
  cases c.prL s <;> rfl

theorem Col.fst_eq (c : Col) (s : Nat) : c.fst s = match c.prL s with
    | [] => ((0, 0), true)
    | p :: _ => (p, false) := by
  rw [Col.fst, outL_stop c s (fun a b => (a, b)), ← Col.prL]

theorem find_in (c : Col) (s a : Nat) : ∀ (q j : Nat), findF (c.alk1 s a) j q = (inL c s a j q).head?.map fun p => (c.lenAt p.1, c.lenAt p.2)
  | 0, _ => rfl
  | q + 1, j => by
    rw [findF, inL, Col.alk1, c.meet_eq]
    by_cases h : c.partB s (c.lenAt a) (c.lenAt j) = true
    · rw [if_pos h, if_pos h]
      exact find_in c s a q (j + 1)
    · rw [if_neg h, if_neg h]
      rfl

theorem find_out (c : Col) (s : Nat) : ∀ (q j : Nat), findF (fun i => findF (c.alk1 s i) (i + 1) (c.manyN - (i + 1))) j q = (outL c s j q).head?.map fun p => (c.lenAt p.1, c.lenAt p.2)
  | 0, _ => rfl
  | q + 1, j => by
    rw [findF, outL, find_in]
    cases h : inL c s j (j + 1) (c.manyN - (j + 1)) with
    | nil =>
      simp only [List.head?_nil, Option.map_none, List.nil_append]
      exact find_out c s q (j + 1)
    | cons p r => rfl

theorem Col.alkR_eq (c : Col) (s : Nat) : c.alkR s = (c.prL s).head?.map fun p => (c.lenAt p.1, c.lenAt p.2) := find_out c s _ _

/-! ### How many -/

theorem apartZ_comm (p o : Int) : apartZ p o = apartZ o p := by
  simp only [apartZ]
  split <;> split <;> omega

theorem Col.sep_comm (c : Col) (a b : Int) (i : Nat) : c.sep a b i = c.sep b a i := by simp only [Col.sep, apartZ_comm]

theorem Col.partB_comm (c : Col) (s : Nat) (a b : Int) : c.partB s a b = c.partB s b a := by
  simp only [Col.partB]
  congr 1
  funext i
  rw [c.sep_comm]

theorem Col.meet_comm (c : Col) (s a b : Nat) : c.meet s a b = c.meet s b a := by rw [c.meet_eq, c.meet_eq, c.partB_comm]

theorem Col.meet_self {c : Col} (ho : c.Ok) (s a : Nat) : c.meet s a a = false := by
  rw [c.meet_eq, Col.partB, anyF_false]
  intro i h1 h2
  have := ho.er
  have hw := ho.ws i (by omega)
  have hp := ptZ_bd (w := c.ws.getD i 0) (n := c.lenAt a) (by omega)
  have : c.sep (c.lenAt a) (c.lenAt a) i = false := by
    have h0 : ∀ p : Int, apartZ p p = 0 := by
      intro p
      simp only [apartZ, lessZ, Int.lt_irrefl, if_false]
      omega
    simp only [Col.sep, h0]
    simp
    omega
  rw [this, Bool.and_false]

theorem cnt_num (c : Col) (s i : Nat) : ∀ (q j n : Nat), foldF (c.cnt s i) n j q = n + num (fun k => !c.meet s i k) j q
  | 0, _, _ => rfl
  | q + 1, j, n => by
    rw [foldF, num, cnt_num c s i q, Col.cnt, ← c.meet_eq]
    cases c.meet s i j <;> simp <;> omega

theorem inL_len (c : Col) (s a : Nat) : ∀ (q j : Nat), (inL c s a j q).length = num (fun b => !c.meet s a b) j q
  | 0, _ => rfl
  | q + 1, j => by
    rw [inL, num]
    cases h : c.meet s a j
    · simp [inL_len c s a q]; omega
    · simp [inL_len c s a q]

/-- A sum over the q numbers from j on. -/
def sumN (f : Nat → Nat) : Nat → Nat → Nat
  | _, 0 => 0
  | j, q + 1 => f j + sumN f (j + 1) q

theorem sumN_congr {f g : Nat → Nat} : ∀ (q j : Nat), (∀ i, j ≤ i → i < j + q → f i = g i) → sumN f j q = sumN g j q
  | 0, _, _ => rfl
  | q + 1, j, h => by
    rw [sumN, sumN, h j (by omega) (by omega), sumN_congr q (j + 1) (fun i h1 h2 => h i (by omega) (by omega))]

theorem sumN_add (f g : Nat → Nat) : ∀ (q j : Nat), sumN (fun i => f i + g i) j q = sumN f j q + sumN g j q
  | 0, _ => rfl
  | q + 1, j => by
    rw [sumN, sumN, sumN, sumN_add f g q]
    omega

theorem sumN_one (k : Nat) : ∀ (q j : Nat), sumN (fun i => if k = i then 1 else 0) j q = if j ≤ k ∧ k < j + q then 1 else 0
  | 0, j => by rw [if_neg (by omega)]; rfl
  | q + 1, j => by
    rw [sumN, sumN_one k q]
    by_cases h : k = j
    · rw [if_pos h, if_neg (by omega), if_pos (by omega)]
    · rw [if_neg h]
      by_cases h2 : j + 1 ≤ k ∧ k < j + 1 + q
      · rw [if_pos h2, if_pos (by omega)]
      · rw [if_neg h2, if_neg (by omega)]

theorem sumN_zero : ∀ (q j : Nat), sumN (fun _ => 0) j q = 0
  | 0, _ => rfl
  | q + 1, j => by rw [sumN, sumN_zero q]

theorem len_by {α : Type} (f : α → Nat) (N : Nat) : ∀ l : List α, (∀ x ∈ l, f x < N) → l.length = sumN (fun i => l.countP fun x => f x == i) 0 N
  | [], _ => by simp only [List.length_nil, List.countP_nil]; rw [sumN_zero]
  | x :: r, h => by
    have h1 := len_by f N r (fun y hy => h y (List.mem_cons_of_mem _ hy))
    have h2 : sumN (fun i => (x :: r).countP fun x => f x == i) 0 N = sumN (fun i => (r.countP fun x => f x == i) + (if f x = i then 1 else 0)) 0 N := by
      refine sumN_congr _ _ (fun i _ _ => ?_)
      rw [List.countP_cons]
      simp
    rw [h2, sumN_add, ← h1, sumN_one, if_pos ⟨by omega, by have := h x (List.mem_cons_self ..); omega⟩]
    rfl

theorem inL_snd (c : Col) (s a i : Nat) : ∀ (q j : Nat), (inL c s a j q).countP (fun p => p.2 == i) = if j ≤ i ∧ i < j + q ∧ c.meet s a i = false then 1 else 0
  | 0, j => by rw [if_neg (by omega)]; rfl
  | q + 1, j => by
    rw [inL]
    by_cases h : c.meet s a j = true
    · rw [if_pos h, inL_snd c s a i q]
      by_cases e : i = j
      · subst e
        rw [if_neg (by omega), if_neg (by simp [h])]
      · by_cases h2 : j + 1 ≤ i ∧ i < j + 1 + q ∧ c.meet s a i = false
        · rw [if_pos h2, if_pos ⟨by omega, by omega, h2.2.2⟩]
        · rw [if_neg h2, if_neg (fun h3 => h2 ⟨by omega, by omega, h3.2.2⟩)]
    · rw [if_neg h, List.countP_cons, inL_snd c s a i q]
      by_cases e : j = i
      · subst e
        have h' : c.meet s a j = false := by simpa using h
        simp [h']
        omega
      · have e' : (j == i) = false := by simpa using e
        simp only [e', Bool.false_eq_true, if_false, Nat.add_zero]
        by_cases h2 : j + 1 ≤ i ∧ i < j + 1 + q ∧ c.meet s a i = false
        · rw [if_pos h2, if_pos ⟨by omega, by omega, h2.2.2⟩]
        · rw [if_neg h2, if_neg (fun h3 => h2 ⟨by omega, by omega, h3.2.2⟩)]

theorem outL_snd (c : Col) (s i : Nat) (hi : i < c.manyN) : ∀ (q j : Nat), j + q = c.manyN → (outL c s j q).countP (fun p => p.2 == i) = num (fun a => decide (a < i) && !c.meet s a i) j q
  | 0, _, _ => rfl
  | q + 1, j, hj => by
    rw [outL, List.countP_append, outL_snd c s i hi q (j + 1) (by omega), inL_snd, num]
    congr 1
    by_cases h : j < i
    · cases hm : c.meet s j i
      · rw [if_pos ⟨by omega, by omega, rfl⟩]; simp [h]
      · rw [if_neg (by simp)]; simp
    · rw [if_neg (by omega)]; simp [h]

theorem Col.snd_eq (c : Col) (s : Nat) {i : Nat} (hi : i < c.manyN) : (c.prL s).countP (fun p => p.2 == i) = num (fun k => !c.meet s i k) 0 i := by
  rw [Col.prL, outL_snd c s i hi _ _ (by omega), show c.manyN = i + (c.manyN - i) by omega, num_add]
  rw [show num (fun a => decide (a < i) && !c.meet s a i) (0 + i) (c.manyN - i) = 0 from (num_zero _ _).2 (fun k h1 h2 => by simp; omega), Nat.add_zero]
  refine num_congr _ _ (fun k h1 h2 => ?_)
  rw [c.meet_comm s k i]
  simp; omega

theorem left_sum (c : Col) (s : Nat) : ∀ (q j n : Nat), foldF (fun n i => foldF (c.cnt s i) n 0 i) n j q = n + sumN (fun i => num (fun k => !c.meet s i k) 0 i) j q
  | 0, _, _ => rfl
  | q + 1, j, n => by
    rw [foldF, left_sum c s q, cnt_num, sumN]
    omega

theorem Col.left_len (c : Col) (s : Nat) : c.leftN s = (c.prL s).length := by
  rw [Col.leftN, left_sum, Nat.zero_add, len_by (fun p => p.2) c.manyN (c.prL s) (fun p hp => ((c.prL_mem s p).1 hp).2.1)]
  exact sumN_congr _ _ (fun i _ hi => (c.snd_eq s (by omega)).symm)

end Go.Ab
/-
  What the package answers is what the reference answers: the pairs, the worst, the reach.
-/
namespace Go.Ab
open Go.Proofs
set_option linter.unusedSimpArgs false
set_option linter.unusedVariables false

theorem wr {n : Int} (h : 0 ≤ n ∧ n ≤ 1000000) : w1 n = n + 1 := w64 (by omega) (by omega)

theorem Col.leftP_eq {c : Col} (ho : c.Ok) (s : Nat) : c.leftP s = (c.leftN s : Int) := by
  have hb := c.leftN_bd ho s
  rw [c.left_len] at hb ⊢
  rw [Col.leftP, foldP_eq]
  have key : ∀ (l : List (Nat × Nat)) (n : Int), 0 ≤ n → n + l.length ≤ 300000 → l.foldl (fun n _ => w1 n) n = n + l.length := by
    intro l
    induction l with
    | nil => intro n _ _; simp
    | cons p r ih =>
      intro n h1 h2
      simp only [List.length_cons] at h2 ⊢
      rw [List.foldl_cons, wr (by omega), ih (n + 1) (by omega) (by omega)]
      omega
  rw [key _ 0 (by omega) (by omega)]
  omega

theorem Col.allP_left (c : Col) (s : Nat) : c.allP s = (c.leftN s == 0) := by
  rw [c.allP_eq, c.left_len]
  cases c.prL s <;> simp

/-! ### The worst -/

/-- In how many pairs a number is. -/
def degL (l : List (Nat × Nat)) (x : Nat) : Nat := l.countP fun p => p.1 == x || p.2 == x

theorem max3_spec (a b c : Int) : a ≤ max3 a b c ∧ b ≤ max3 a b c ∧ c ≤ max3 a b c ∧ (max3 a b c = a ∨ max3 a b c = b ∨ max3 a b c = c) := by
  simp only [max3]
  split <;> split <;> omega

/-- What the pairs have told by then. -/
structure Told (N : Nat) (l : List (Nat × Nat)) (st : Int × List (Int × Int) × Int) : Prop where
  n : st.1 = l.length
  d : ∀ x : Nat, (lookO x st.2.1).getD 0 = degL l x
  m1 : ∀ x : Nat, (degL l x : Int) + 1 ≤ st.2.2
  m2 : st.2.2 = 1 ∨ ∃ x, x < N ∧ st.2.2 = degL l x + 1

theorem degL_snoc (l : List (Nat × Nat)) (p : Nat × Nat) (x : Nat) : degL (l ++ [p]) x = degL l x + (if p.1 = x ∨ p.2 = x then 1 else 0) := by
  simp only [degL, List.countP_append, List.countP_cons, List.countP_nil, Nat.zero_add]
  by_cases h1 : p.1 = x <;> by_cases h2 : p.2 = x <;> simp [h1, h2]

theorem degL_le (l : List (Nat × Nat)) (x : Nat) : degL l x ≤ l.length := List.countP_le_length

theorem Told.step {N : Nat} {l : List (Nat × Nat)} {st : Int × List (Int × Int) × Int} (h : Told N l st) (a b : Nat) (hab : a < b) (hbN : b < N) (hl : l.length ≤ 300000) : Told N (l ++ [(a, b)]) (pairG st a b) := by
  have da := degL_le l a
  have db := degL_le l b
  have ha := h.d a
  have hb := h.d b
  have hm := max3_spec st.2.2 (w1 (w1 (degL l a))) (w1 (w1 (degL l b)))
  have wa : w1 (degL l a : Int) = degL l a + 1 := wr (by omega)
  have wb : w1 (degL l b : Int) = degL l b + 1 := wr (by omega)
  have wa2 : w1 ((degL l a : Int) + 1) = degL l a + 2 := by rw [wr (by omega)]; omega
  have wb2 : w1 ((degL l b : Int) + 1) = degL l b + 2 := by rw [wr (by omega)]; omega
  rw [wa, wb, wa2, wb2] at hm
  have sa : degL (l ++ [(a, b)]) a = degL l a + 1 := by rw [degL_snoc, if_pos (.inl rfl)]
  have sb : degL (l ++ [(a, b)]) b = degL l b + 1 := by rw [degL_snoc, if_pos (.inr rfl)]
  have so : ∀ x, x ≠ a → x ≠ b → degL (l ++ [(a, b)]) x = degL l x := by
    intro x h1 h2
    rw [degL_snoc, if_neg (by simp only; omega)]; rfl
  have mono : ∀ x, degL l x ≤ degL (l ++ [(a, b)]) x := by intro x; rw [degL_snoc]; omega
  simp only [pairG, ha, hb, wa, wb, wa2, wb2]
  refine ⟨?_, ?_, ?_, ?_⟩
  · simp only [h.n, List.length_append, List.length_cons, List.length_nil]
    rw [wr (by omega)]
    omega
  · intro x
    simp only [lookO_put]
    by_cases h1 : x = b
    · subst h1
      simp [sb]
    · have h1' : ¬ (x : Int) = b := by omega
      rw [if_neg h1']
      by_cases h2 : x = a
      · subst h2
        simp [sa]
      · have h2' : ¬ (x : Int) = a := by omega
        rw [if_neg h2', so x h2 h1]
        exact h.d x
  · intro x
    simp only
    by_cases h1 : x = b
    · subst h1; rw [sb]; omega
    · by_cases h2 : x = a
      · subst h2; rw [sa]; omega
      · rw [so x h2 h1]
        have := h.m1 x
        omega
  · simp only
    rcases hm.2.2.2 with e | e | e
    · rw [e]
      rcases h.m2 with h3 | ⟨x, hx, h3⟩
      · exact .inl h3
      · have q1 := hm.2.1
        have q2 := hm.2.2.1
        rw [e] at q1 q2
        by_cases h1 : x = b
        · subst h1; omega
        · by_cases h2 : x = a
          · subst h2; omega
          · exact .inr ⟨x, hx, by rw [so x h2 h1]; exact h3⟩
    · rw [e]; exact .inr ⟨a, by omega, by rw [sa]; omega⟩
    · rw [e]; exact .inr ⟨b, hbN, by rw [sb]; omega⟩

theorem told_all {N : Nat} : ∀ (r l : List (Nat × Nat)) (st : Int × List (Int × Int) × Int), Told N l st → (∀ p ∈ r, p.1 < p.2 ∧ p.2 < N) → l.length + r.length ≤ 300000 → Told N (l ++ r) (r.foldl (fun st p => pairG st p.1 p.2) st)
  | [], l, st, h, _, _ => by simpa using h
  | p :: r, l, st, h, hp, hl => by
    have h1 := hp p (List.mem_cons_self ..)
    simp only [List.length_cons] at hl
    have := told_all r (l ++ [p]) (pairG st p.1 p.2) (h.step p.1 p.2 h1.1 h1.2 (by omega)) (fun q hq => hp q (List.mem_cons_of_mem _ hq)) (by simp; omega)
    simpa using this

theorem Col.prs_told {c : Col} (ho : c.Ok) (s : Nat) : Told c.manyN (c.prL s) (c.prs s) := by
  have hb := c.leftN_bd ho s
  rw [c.left_len] at hb
  rw [Col.prs, foldP_eq]
  have := told_all (N := c.manyN) (c.prL s) [] (0, [], 1) ⟨rfl, fun x => rfl, fun x => by simp [degL], .inl rfl⟩ (fun p hp => by have := (c.prL_mem s p).1 hp; omega) (by simp; omega)
  simpa using this

theorem inL_fst (c : Col) (s a x : Nat) : ∀ (q j : Nat), (inL c s a j q).countP (fun p => p.1 == x) = if a = x then (inL c s a j q).length else 0
  | 0, j => by simp [inL]
  | q + 1, j => by
    have := inL_fst c s a x q (j + 1)
    rw [inL]
    split
    · exact this
    · rw [List.countP_cons, this]
      by_cases h : a = x <;> simp [h]

theorem outL_fst (c : Col) (s x : Nat) : ∀ (q j : Nat), (outL c s j q).countP (fun p => p.1 == x) = if j ≤ x ∧ x < j + q then num (fun b => !c.meet s x b) (x + 1) (c.manyN - (x + 1)) else 0
  | 0, j => by rw [if_neg (by omega)]; rfl
  | q + 1, j => by
    rw [outL, List.countP_append, outL_fst c s x q, inL_fst, inL_len]
    by_cases h : j = x
    · subst h
      rw [if_pos rfl, if_neg (by omega), if_pos ⟨by omega, by omega⟩, Nat.add_zero]
    · rw [if_neg h]
      by_cases h2 : j + 1 ≤ x ∧ x < j + 1 + q
      · rw [if_pos h2, if_pos ⟨by omega, by omega⟩, Nat.zero_add]
      · rw [if_neg h2, if_neg (by omega)]

theorem Col.deg_eq {c : Col} (ho : c.Ok) (s : Nat) {x : Nat} (hx : x < c.manyN) : degL (c.prL s) x + 1 = num (fun k => !c.meet s x k) 0 c.manyN := by
  have h1 : degL (c.prL s) x = (c.prL s).countP (fun p => p.1 == x) + (c.prL s).countP (fun p => p.2 == x) := by
    have key : ∀ l : List (Nat × Nat), (∀ p ∈ l, p.1 < p.2) → degL l x = l.countP (fun p => p.1 == x) + l.countP (fun p => p.2 == x) := by
      intro l
      induction l with
      | nil => intro _; rfl
      | cons p r ih =>
        intro h
        have h2 := h p (List.mem_cons_self ..)
        have ih' := ih (fun q hq => h q (List.mem_cons_of_mem _ hq))
        simp only [degL, List.countP_cons] at ih' ⊢
        rw [ih']
        by_cases e1 : p.1 = x <;> by_cases e2 : p.2 = x <;> simp [e1, e2] <;> omega
    exact key _ (fun p hp => ((c.prL_mem s p).1 hp).1)
  rw [h1, c.snd_eq s hx, Col.prL, outL_fst, if_pos ⟨by omega, by omega⟩]
  have h2 : num (fun k => !c.meet s x k) 0 c.manyN = num (fun k => !c.meet s x k) 0 x + (1 + num (fun k => !c.meet s x k) (x + 1) (c.manyN - (x + 1))) := by
    have e : c.manyN = x + ((c.manyN - (x + 1)) + 1) := by omega
    rw [show num (fun k => !c.meet s x k) 0 c.manyN = num (fun k => !c.meet s x k) 0 (x + ((c.manyN - (x + 1)) + 1)) by rw [← e], num_add, Nat.zero_add, num, c.meet_self ho]
    rfl
  omega

/-- The greatest of the values from j on, at least w. -/
theorem fmax_spec (f : Nat → Int) : ∀ (q j : Nat) (w : Int), w ≤ foldF (fun (w : Int) i => if w < f i then f i else w) w j q ∧ (∀ i, j ≤ i → i < j + q → f i ≤ foldF (fun (w : Int) i => if w < f i then f i else w) w j q) ∧
    (foldF (fun (w : Int) i => if w < f i then f i else w) w j q = w ∨ ∃ i, j ≤ i ∧ i < j + q ∧ foldF (fun (w : Int) i => if w < f i then f i else w) w j q = f i)
  | 0, j, w => ⟨Int.le_refl _, fun i h1 h2 => by omega, .inl rfl⟩
  | q + 1, j, w => by
    obtain ⟨h1, h2, h3⟩ := fmax_spec f q (j + 1) (if w < f j then f j else w)
    rw [foldF]
    have hw : w ≤ (if w < f j then f j else w) ∧ f j ≤ (if w < f j then f j else w) := by split <;> omega
    refine ⟨by omega, fun i g1 g2 => ?_, ?_⟩
    · by_cases e : i = j
      · subst e; omega
      · exact h2 i (by omega) (by omega)
    · rcases h3 with h3 | ⟨i, g1, g2, g3⟩
      · rw [h3]
        by_cases e : w < f j
        · rw [if_pos e]; exact .inr ⟨j, by omega, by omega, rfl⟩
        · rw [if_neg e]; exact .inl rfl
      · exact .inr ⟨i, by omega, by omega, g3⟩

theorem Col.worst_eq {c : Col} (ho : c.Ok) (s : Nat) : (c.prs s).2.2 = c.worstR s := by
  have ht := c.prs_told ho s
  have mb := ho.many_bd
  obtain ⟨h1, h2, h3⟩ := fmax_spec (fun i => ((foldF (c.cnt s i) 0 0 c.manyN : Nat) : Int)) c.manyN 0 0
  have hc : ∀ x, x < c.manyN → ((foldF (c.cnt s x) 0 0 c.manyN : Nat) : Int) = degL (c.prL s) x + 1 := by
    intro x hx
    rw [cnt_num, Nat.zero_add, ← c.deg_eq ho s hx]
    omega
  have e : c.worstR s = foldF (fun (w : Int) i => if w < ((foldF (c.cnt s i) 0 0 c.manyN : Nat) : Int) then ((foldF (c.cnt s i) 0 0 c.manyN : Nat) : Int) else w) 0 0 c.manyN := rfl
  rw [← e] at h1 h2 h3
  have le1 : c.worstR s ≤ (c.prs s).2.2 := by
    rcases h3 with h3 | ⟨i, g1, g2, g3⟩
    · have := ht.m1 0
      omega
    · rw [g3]
      rw [hc i (by omega)]
      exact ht.m1 i
  have le2 : (c.prs s).2.2 ≤ c.worstR s := by
    rcases ht.m2 with g | ⟨x, hx, g⟩
    · have := h2 0 (Nat.le_refl _) (by omega)
      rw [hc 0 (by omega)] at this
      omega
    · have := h2 x (by omega) (by omega)
      rw [hc x hx] at this
      omega
  omega

/-! ### The reach -/

theorem last_spec : ∀ (l : List (Nat × Nat)) (x : Int), l.foldl (fun x p => lastF x p.1 p.2) x ≤ x ∧ (∀ p ∈ l, l.foldl (fun x p => lastF x p.1 p.2) x ≤ (p.2 : Int) - 1) ∧ (l.foldl (fun x p => lastF x p.1 p.2) x = x ∨ ∃ p ∈ l, l.foldl (fun x p => lastF x p.1 p.2) x = (p.2 : Int) - 1)
  | [], x => ⟨Int.le_refl x, (by intro p hp; cases hp), Or.inl rfl⟩
  | p :: r, x => by
    obtain ⟨h1, h2, h3⟩ := last_spec r (lastF x p.1 p.2)
    have hl : lastF x p.1 p.2 ≤ x ∧ lastF x p.1 p.2 ≤ (p.2 : Int) - 1 ∧ (lastF x p.1 p.2 = x ∨ lastF x p.1 p.2 = (p.2 : Int) - 1) := by
      simp only [lastF]; split <;> omega
    rw [List.foldl_cons]
    refine ⟨by omega, fun q hq => ?_, ?_⟩
    · rcases List.mem_cons.1 hq with rfl | hq
      · omega
      · exact h2 q hq
    · rcases h3 with h3 | ⟨q, hq, h3⟩
      · rcases hl.2.2 with e | e
        · exact .inl (by omega)
        · exact .inr ⟨p, List.mem_cons_self .., by omega⟩
      · exact .inr ⟨q, List.mem_cons_of_mem _ hq, h3⟩

theorem Col.last_eq {c : Col} (ho : c.Ok) (s : Nat) : c.lenAt (c.last s).toNat = c.rchR s := by
  have mb := ho.many_bd
  obtain ⟨h1, h2, h3⟩ := last_spec (c.prL s) ((c.manyN : Int) - 1)
  have e : c.last s = (c.prL s).foldl (fun x p => lastF x p.1 p.2) ((c.manyN : Int) - 1) := by rw [Col.last, foldP_eq]
  rw [← e] at h1 h2 h3
  have inner : ∀ i, i < c.manyN → findF (c.rch1 s i) 0 i = if (∃ k, k < i ∧ c.meet s k i = false) then some (c.lenAt (i - 1)) else none := by
    intro i hi
    by_cases h : ∃ k, k < i ∧ c.meet s k i = false
    · rw [if_pos h]
      cases hf : findF (c.rch1 s i) 0 i with
      | none =>
        obtain ⟨k, hk, hm⟩ := h
        have := (findF_none _ _ _).1 hf k (by omega) (by omega)
        simp only [Col.rch1, ← c.meet_eq] at this
        rw [c.meet_comm, hm] at this
        simp at this
      | some y =>
        obtain ⟨k, _, _, hk, _⟩ := (findF_some _ y _ _).1 hf
        simp only [Col.rch1] at hk
        split at hk
        · cases hk
        · rw [← hk]
    · rw [if_neg h]
      rw [findF_none]
      intro k _ hk
      simp only [Col.rch1, ← c.meet_eq]
      rw [if_pos]
      rw [c.meet_comm]
      cases hm : c.meet s k i
      · exact absurd ⟨k, by omega, hm⟩ h
      · rfl
  rw [Col.rchR]
  rcases h3 with h3 | ⟨p, hp, h3⟩
  · -- none, or the last one alone
    cases hf : findF (fun i => findF (c.rch1 s i) 0 i) 0 c.manyN with
    | none =>
      rw [Option.getD_none, h3]
      congr 1
      omega
    | some y =>
      obtain ⟨i, _, hi, hy, _⟩ := (findF_some _ y _ _).1 hf
      rw [inner i (by omega)] at hy
      split at hy
      · rename_i hk
        obtain ⟨k, hk, hm⟩ := hk
        have := h2 (k, i) ((c.prL_mem s _).2 ⟨hk, by omega, hm⟩)
        simp only at this
        omega
      · cases hy
  · have hq := (c.prL_mem s p).1 hp
    have hfind : findF (fun i => findF (c.rch1 s i) 0 i) 0 c.manyN = some (c.lenAt (p.2 - 1)) := by
      rw [findF_some]
      refine ⟨p.2, by omega, by omega, ?_, ?_⟩
      · rw [inner p.2 hq.2.1, if_pos ⟨p.1, hq.1, hq.2.2⟩]
      · intro k _ hk
        rw [inner k (by omega), if_neg]
        rintro ⟨j, hj, hm⟩
        have := h2 (j, k) ((c.prL_mem s _).2 ⟨hj, by omega, hm⟩)
        simp only at this
        omega
    rw [hfind, Option.getD_some, h3]
    congr 1
    omega

end Go.Ab
/-
  What the package answers is what the reference answers: all of it.
-/
namespace Go.Ab
open Go.Proofs
set_option linter.unusedSimpArgs false
set_option linter.unusedVariables false

variable {H : Heap}

/-! ### The best -/

theorem bst_found (can : Nat → Bool) (cost : Nat → Int) : ∀ (l : List Nat) (b : Nat), l.foldl (bst can cost) (b, cost b, true) = (bestL cost b (l.filter can), cost (bestL cost b (l.filter can)), true)
  | [], _ => rfl
  | x :: r, b => by
    rw [List.foldl_cons, List.filter_cons]
    cases hc : can x
    · simp only [bst, hc, Bool.and_false, Bool.false_eq_true, if_false]
      exact bst_found can cost r b
    · simp only [bst, hc, Bool.and_true, Bool.not_true, Bool.false_or, decide_eq_true_eq, if_true, bestL]
      split
      · exact bst_found can cost r x
      · exact bst_found can cost r b

theorem bst_all (can : Nat → Bool) (cost : Nat → Int) : ∀ (l : List Nat), l.foldl (bst can cost) (0, 0, false) = match l.filter can with
    | [] => (0, 0, false)
    | x :: r => (bestL cost x r, cost (bestL cost x r), true)
  | [] => rfl
  | x :: r => by
    rw [List.foldl_cons, List.filter_cons]
    cases hc : can x
    · simp only [bst, hc, Bool.and_false, Bool.false_eq_true, if_false]
      exact bst_all can cost r
    · simp only [bst, hc, Bool.and_true, Bool.not_false, Bool.true_or, if_true]
      exact bst_found can cost r x

theorem bestL_self (cost : Nat → Int) (x : Nat) (r : List Nat) : bestL cost x (x :: r) = bestL cost x r := by
  rw [bestL, if_neg (by omega)]

theorem Col.few_eq (c : Col) (cost : Nat → Int) : c.few cost = c.bestR cost := by
  have hg : (List.range (2 ^ c.ws.length)).filter c.allP = c.good := by
    simp only [Col.good]
    congr 1
    funext s
    exact c.allP_left s
  simp only [Col.few, Col.bestR, Col.bestP, bst_all, hg, Col.best]
  cases c.valid
  · rfl
  · cases h : c.good with
    | nil => rfl
    | cons x r => simp [bestL_self]

/-! ### What can be spared -/

theorem Col.spr_eq (c : Col) (s : Nat) : c.sprP s = c.spr s := by
  have : c.sprB s = c.sprA s := by
    funext o i
    simp only [Col.sprB, Col.sprA, c.allP_left]
  rw [Col.sprP, Col.spr, this]

theorem Col.spare_eq (c : Col) (n : Int) : c.spare n = c.spareR n := by
  simp only [Col.spare, Col.spareR, c.allP_left, c.spr_eq]
  cases c.valid
  · rfl
  · cases c.isSet n
    · rfl
    · by_cases h : c.leftN n.toNat = 0
      · simp [h]
      · have h' : 0 < c.leftN n.toNat := by omega
        simp [h, h']

/-! ### What is next -/

theorem or_add : ∀ s : Nat, s < 64 → ∀ i : Nat, i < 6 → s.testBit i = false → s ||| 2 ^ i = s + 2 ^ i := by decide +kernel

def nrel (st : Nat × Int × Bool) (p : Int × Int) : Prop := (st.2.2 = true ∧ p = ((st.1 : Int), st.2.1)) ∨ (st.2.2 = false ∧ p.1 < 0)

theorem nxt_rel {c : Col} (ho : c.Ok) {s : Nat} (hs : s < 64) : ∀ (q j : Nat) (st : Nat × Int × Bool) (p : Int × Int), j + q ≤ 6 → nrel st p →
    nrel ((List.range' j q).foldl (bst (fun i => !s.testBit i) (fun i => c.leftP (s ||| 2 ^ i))) st) (foldF (c.nxtA s) p j q)
  | 0, _, _, _, _, h => h
  | q + 1, j, st, p, hj, h => by
    rw [List.range'_succ, List.foldl_cons, foldF]
    refine nxt_rel ho hs q (j + 1) _ _ (by omega) ?_
    obtain ⟨s1, s2, s3⟩ := st
    obtain ⟨p1, p2⟩ := p
    simp only [bst, Col.nxtA]
    rcases Bool.eq_false_or_eq_true (s.testBit j) with ht | ht
    · simp only [ht, Bool.not_true, Bool.and_false, Bool.false_eq_true, if_false, if_true]
      exact h
    · simp only [or_add s hs j (by omega) ht, c.leftP_eq ho]
      simp only [ht, Bool.not_false, Bool.and_true, Bool.false_eq_true, if_false]
      rcases h with ⟨h1, h2⟩ | ⟨h1, h2⟩
      · simp only at h1 h2
        subst h1
        injection h2 with e1 e2
        subst e1 e2
        by_cases hl : (c.leftN (s + 2 ^ j) : Int) < p2
        · rw [if_pos (by simp [hl]), if_pos (.inr hl)]
          exact .inl ⟨rfl, rfl⟩
        · rw [if_neg (by simp; omega), if_neg (by omega)]
          exact .inl ⟨rfl, rfl⟩
      · simp only at h1 h2
        subst h1
        rw [if_pos (by simp), if_pos (.inl h2)]
        exact .inl ⟨rfl, rfl⟩

theorem Col.next_eq (c : Col) (n : Int) : c.next n = c.nextR n := by
  simp only [Col.next, Col.nextR]
  rcases Bool.eq_false_or_eq_true c.valid with hv | hv
  · have ho := c.valid_iff.1 hv
    rcases Bool.eq_false_or_eq_true (c.isSet n) with hn | hn
    · have hs := ho.set_bd hn
      have hl := ho.len
      have h := nxt_rel ho hs.2.2 c.ws.length 0 (0, 0, false) (-1, 0) (by omega) (.inr ⟨rfl, by decide⟩)
      rw [← List.range_eq_range'] at h
      change nrel (c.nxtP n.toNat) (c.nxt n.toNat) at h
      rw [hv, hn]
      simp only [if_true]
      rcases h with ⟨h1, h2⟩ | ⟨h1, h2⟩
      · rw [h1, h2]
        simp only [if_true]
        rw [if_neg (by omega)]
      · rw [h1, if_neg (by simp), if_pos h2]
    · rw [hv, hn]; rfl
  · rw [hv]; rfl

/-! ### All -/

theorem Col.isSet_nat {c : Col} (ho : c.Ok) {n : Int} (hn : c.isSet n = true) : ∃ k : Nat, n = k ∧ n.toNat = k := ⟨n.toNat, (ho.set_bd hn).1, rfl⟩

theorem co_Alike {c : Col} {vw vp : AV} (h : ColAt H c vw vp) (hl : c.ws.length ≤ 1000 ∧ c.ps.length ≤ 1000) (n : Int) :
    callFL cfg0 prog0 false 18 [c.av vw vp, I n] H none = some ⟨.ret (.tup [I (c.alikeR n).1, I (c.alikeR n).2.1, I (c.alikeR n).2.2]), H, none⟩ := by
  rcases Bool.eq_false_or_eq_true c.valid with hv | hv
  · have ho := c.valid_iff.1 hv
    rcases Bool.eq_false_or_eq_true (c.isSet n) with hn | hn
    · obtain ⟨k, rfl, -⟩ := c.isSet_nat ho hn
      rw [co_Alike_t h ho hv k hn]
      simp only [Col.alikeR, hv, hn, if_true, Int.toNat_natCast, c.alkR_eq, c.fst_eq]
      cases c.prL k <;> rfl
    · rw [co_Alike_s h hl n hv hn]
      simp only [Col.alikeR, hv, hn, if_true, Bool.false_eq_true, if_false]
  · rw [co_Alike_v h hl n hv]
    simp only [Col.alikeR, hv, Bool.false_eq_true, if_false]

theorem co_Pairs {c : Col} {vw vp : AV} (h : ColAt H c vw vp) (hl : c.ws.length ≤ 1000 ∧ c.ps.length ≤ 1000) (n : Int) :
    callFL cfg0 prog0 false 20 [c.av vw vp, I n] H none = some ⟨.ret (.tup [I (c.pairsR n).1, I (c.pairsR n).2.1, I (c.pairsR n).2.2]), H, none⟩ := by
  rcases Bool.eq_false_or_eq_true c.valid with hv | hv
  · have ho := c.valid_iff.1 hv
    rcases Bool.eq_false_or_eq_true (c.isSet n) with hn | hn
    · obtain ⟨k, rfl, -⟩ := c.isSet_nat ho hn
      rw [co_Pairs_t h ho hv k hn]
      simp only [Col.pairsR, hv, hn, if_true, Int.toNat_natCast, c.worst_eq ho, (c.prs_told ho k).n, c.left_len]
    · rw [co_Pairs_s h hl n hv hn]
      simp only [Col.pairsR, hv, hn, if_true, Bool.false_eq_true, if_false]
  · rw [co_Pairs_v h hl n hv]
    simp only [Col.pairsR, hv, Bool.false_eq_true, if_false]

theorem co_Reach {c : Col} {vw vp : AV} (h : ColAt H c vw vp) (hl : c.ws.length ≤ 1000 ∧ c.ps.length ≤ 1000) (n : Int) :
    callFL cfg0 prog0 false 22 [c.av vw vp, I n] H none = some ⟨.ret (.tup [I (c.reachR n).1, I (c.reachR n).2]), H, none⟩ := by
  rcases Bool.eq_false_or_eq_true c.valid with hv | hv
  · have ho := c.valid_iff.1 hv
    rcases Bool.eq_false_or_eq_true (c.isSet n) with hn | hn
    · obtain ⟨k, rfl, -⟩ := c.isSet_nat ho hn
      rw [co_Reach_t h ho hv k hn]
      simp only [Col.reachR, hv, hn, if_true, Int.toNat_natCast, c.last_eq ho]
    · rw [co_Reach_s h hl n hv hn]
      simp only [Col.reachR, hv, hn, if_true, Bool.false_eq_true, if_false]
  · rw [co_Reach_v h hl n hv]
    simp only [Col.reachR, hv, Bool.false_eq_true, if_false]

end Go.Ab
/-
  The laws of colour: what is too long, the sample, what is alive.
-/
namespace Go.Ab
open Go.Proofs
set_option linter.unusedSimpArgs false
set_option linter.unusedVariables false
set_option maxRecDepth 100000
set_option maxHeartbeats 1000000

variable {H : Heap}

def Col.long (c : Col) : Bool := decide ((40 : Int) < if (c.ws.length : Int) < c.ps.length then (c.ps.length : Int) else c.ws.length)

theorem Col.long_false {c : Col} (h : c.long = false) : c.ws.length ≤ 40 ∧ c.ps.length ≤ 40 := by
  simp only [Col.long, decide_eq_false_iff_not] at h
  split at h <;> omega

theorem law_long {c : Col} {vw vp : AV} (h : ColAt H c vw vp) : callFL cfg0 prog0 false 33 [c.av vw vp] H none = some ⟨.ret (.bool c.long), H, none⟩ := by
  have s1 := h.ws.scal
  have s2 := h.ps.scal
  simp only [Col.av]
  refine (callFL_eq fn33 rfl (by simp [Try.f33])).trans ?_
  simp (maxSteps := 1000000) (implicitDefEqProofs := false) (disch := first | rfl | omega | assumption) only [go_sem, ↓reduceIte, Nat.reduceEqDiff, Nat.reduceAdd, Nat.reduceLeDiff, Nat.reduceBEq, Nat.reduceMul, Nat.reduceLT, Int.reduceLT, Int.reduceLE, Int.reduceToNat, Int.reduceNeg, Int.reduceEq, Int.reduceMul, reduceCtorEq, Int.reduceBEq, Int.reduceBNe, Int.reduceAdd, Int.reduceSub, s1, s2, h.ws.len, h.ps.len, Col.long]

def Col.heavy (c : Col) (n : Int) : Bool := c.long || (c.valid && decide (n < c.manyN))

theorem law_heavy {c : Col} {vw vp : AV} (h : ColAt H c vw vp) (n : Int) : callFL cfg0 prog0 false 12 [c.av vw vp, I n] H none = some ⟨.ret (.bool (c.heavy n)), H, none⟩ := by
  have s1 := h.ws.scal
  have s2 := h.ps.scal
  have hL := fun G : Heap => law_long (h.app G)
  have hV := fun G : Heap => ref_Colour (h.app G)
  simp only [Col.av, Col.heavy] at hL hV ⊢
  refine (callFL_eq fn12 rfl (by simp [Try.f12])).trans ?_
  rcases Bool.eq_false_or_eq_true c.long with hl | hl
  · simp (maxSteps := 1000000) (implicitDefEqProofs := false) (disch := first | rfl | omega | assumption) only [go_sem, ↓reduceIte, Nat.reduceEqDiff, Nat.reduceAdd, Nat.reduceLeDiff, Nat.reduceBEq, Nat.reduceMul, Nat.reduceLT, Int.reduceLT, Int.reduceLE, Int.reduceToNat, Int.reduceNeg, Int.reduceEq, Int.reduceMul, reduceCtorEq, Int.reduceBEq, Int.reduceBNe, Int.reduceAdd, Int.reduceSub, s1, s2, hL, hl]
  · rcases Bool.eq_false_or_eq_true c.valid with hv | hv
    · have ho := c.valid_iff.1 hv
      have mb := ho.many_bd
      have me := ho.many_eq
      have b1 := ho.lo
      have b2 := ho.ev
      have z : ¬ c.ev = 0 := by omega
      have t1 : (c.hi - c.lo).tdiv c.ev = (c.manyN : Int) - 1 := by
        rw [Int.tdiv_eq_ediv_of_nonneg (by omega), ← me, Col.many]; omega
      have e1 : IntKind.i64.wrap (c.hi - c.lo) = c.hi - c.lo := w64 (by omega) (by omega)
      have e2 : IntKind.i64.wrap ((c.manyN : Int) - 1) = (c.manyN : Int) - 1 := w64 (by omega) (by omega)
      have e3 : IntKind.i64.wrap ((c.manyN : Int) - 1 + 1) = (c.manyN : Int) := by rw [w64 (by omega) (by omega)]; omega
      simp (maxSteps := 1000000) (implicitDefEqProofs := false) (disch := first | rfl | omega | assumption) only [go_sem, ↓reduceIte, Nat.reduceEqDiff, Nat.reduceAdd, Nat.reduceLeDiff, Nat.reduceBEq, Nat.reduceMul, Nat.reduceLT, Int.reduceLT, Int.reduceLE, Int.reduceToNat, Int.reduceNeg, Int.reduceEq, Int.reduceMul, reduceCtorEq, Int.reduceBEq, Int.reduceBNe, Int.reduceAdd, Int.reduceSub, s1, s2, hL, hV, hl, hv, z, t1, e1, e2, e3]
    · simp (maxSteps := 1000000) (implicitDefEqProofs := false) (disch := first | rfl | omega | assumption) only [go_sem, ↓reduceIte, Nat.reduceEqDiff, Nat.reduceAdd, Nat.reduceLeDiff, Nat.reduceBEq, Nat.reduceMul, Nat.reduceLT, Int.reduceLT, Int.reduceLE, Int.reduceToNat, Int.reduceNeg, Int.reduceEq, Int.reduceMul, reduceCtorEq, Int.reduceBEq, Int.reduceBNe, Int.reduceAdd, Int.reduceSub, s1, s2, hL, hV, hl, hv]

theorem law_span (a b : Int) (H : Heap) : callFL cfg0 prog0 false 40 [I a, I b] H none = some ⟨.ret (.agg [I a, I b]), H, none⟩ := by
  refine (callFL_eq fn40 rfl (by simp [Try.f40])).trans ?_
  simp (maxSteps := 1000000) (implicitDefEqProofs := false) (disch := first | rfl | omega | assumption) only [go_sem, ↓reduceIte, Nat.reduceEqDiff, Nat.reduceAdd, Nat.reduceLeDiff, Nat.reduceBEq, Nat.reduceMul, Nat.reduceLT, Int.reduceLT, Int.reduceLE, Int.reduceToNat, Int.reduceNeg, Int.reduceEq, Int.reduceMul, reduceCtorEq, Int.reduceBEq, Int.reduceBNe, Int.reduceAdd, Int.reduceSub]

def smp : Col := ⟨[12, 20, 17], [5, 9, 4], 100, 130, 5, 1⟩
def smpW : AV := .sl true (smp.ws.map I)
def smpP : AV := .sl true (smp.ps.map I)

theorem smp_at (H : Heap) : ColAt H smp smpW smpP := ⟨⟨rfl, by simp [I, AV.cells]⟩, ⟨rfl, by simp [I, AV.cells]⟩⟩

theorem law_sample (H : Heap) : callFL cfg0 prog0 false 32 [] H none = some ⟨.ret (smp.av smpW smpP), H, none⟩ := by
  refine (callFL_eq fn32 rfl (by simp [Try.f32])).trans ?_
  simp (maxSteps := 1000000) (implicitDefEqProofs := false) (disch := first | rfl | omega | assumption) only [go_sem, ↓reduceIte, Nat.reduceEqDiff, Nat.reduceAdd, Nat.reduceLeDiff, Nat.reduceBEq, Nat.reduceMul, Nat.reduceLT, Int.reduceLT, Int.reduceLE, Int.reduceToNat, Int.reduceNeg, Int.reduceEq, Int.reduceMul, reduceCtorEq, Int.reduceBEq, Int.reduceBNe, Int.reduceAdd, Int.reduceSub, law_span, Col.av, smpW, smpP, smp]

theorem smp_ap : smp.apart 2 100 120 = (4, 0) := by decide +kernel
theorem smp_pt : smp.parts 1 100 125 = (false, 0) := by decide +kernel
theorem smp_al : smp.alikeR 2 = (100, 120, 0) := by decide +kernel
theorem smp_pr : smp.pairsR 1 = (2, 2, 0) := by decide +kernel
theorem smp_re : smp.reachR 2 = (115, 0) := by decide +kernel
theorem smp_fw : smp.bestR (fun s => pop s) = (2, 3, 0) := by decide +kernel
theorem smp_ch : smp.bestR smp.cost = (9, 5, 0) := by decide +kernel
theorem smp_sp : smp.spareR 7 = (7, 0) := by decide +kernel
theorem smp_nx : smp.nextR 1 = (1, 0, 0) := by decide +kernel

theorem smp_len : smp.ws.length ≤ 1000 ∧ smp.ps.length ≤ 1000 := by decide

theorem law_alive (H : Heap) : callFL cfg0 prog0 false 13 [] H none = some ⟨.ret (.bool true), H, none⟩ := by
  have h1 := fun G : Heap => co_Apart (smp_at G) smp_len 2 100 120
  have h2 := fun G : Heap => co_Parts (smp_at G) smp_len 1 100 125
  have h3 := fun G : Heap => co_Alike (smp_at G) smp_len 2
  have h4 := fun G : Heap => co_Pairs (smp_at G) smp_len 1
  have h5 := fun G : Heap => co_Reach (smp_at G) smp_len 2
  have h6 := fun G : Heap => co_Fewest (smp_at G) smp_len
  have h7 := fun G : Heap => co_Cheapest (smp_at G) smp_len
  have h8 := fun G : Heap => co_Spare (smp_at G) smp_len 7
  have h9 := fun G : Heap => co_Next (smp_at G) smp_len 1
  simp only [smp_ap] at h1
  simp only [smp_pt] at h2
  simp only [smp_al] at h3
  simp only [smp_pr] at h4
  simp only [smp_re] at h5
  simp only [Col.few_eq, smp_fw] at h6
  simp only [Col.few_eq, smp_ch] at h7
  simp only [Col.spare_eq, smp_sp] at h8
  simp only [Col.next_eq, smp_nx] at h9
  have hS := law_sample
  generalize smp.av smpW smpP = sv at *
  refine (callFL_eq fn13 rfl (by simp [Try.f13])).trans ?_
  simp (maxSteps := 1000000) (implicitDefEqProofs := false) (disch := first | rfl | omega | assumption) only [go_sem, ↓reduceIte, Nat.reduceEqDiff, Nat.reduceAdd, Nat.reduceLeDiff, Nat.reduceBEq, Nat.reduceMul, Nat.reduceLT, Int.reduceLT, Int.reduceLE, Int.reduceToNat, Int.reduceNeg, Int.reduceEq, Int.reduceMul, reduceCtorEq, Int.reduceBEq, Int.reduceBNe, Int.reduceAdd, Int.reduceSub, hS, h1, h2, h3, h4, h5, h6, h7, h8, h9]

end Go.Ab
/-
  ColourApart, walked.
-/
namespace Go.Ab
open Go.Proofs
set_option linter.unusedSimpArgs false
set_option linter.unusedVariables false
set_option maxRecDepth 100000
set_option maxHeartbeats 2000000

variable {H : Heap}

/-- The set that bits are. -/
def Col.sOf (c : Col) (b : Nat) : Nat := b % 2 ^ c.ws.length

theorem Col.sOf_lt {c : Col} (ho : c.Ok) (b : Nat) : c.sOf b < 64 ∧ c.sOf b < 2 ^ c.ws.length := by
  have h2 : (2 : Nat) ^ c.ws.length ≤ 2 ^ 6 := Nat.pow_le_pow_right (by omega) ho.len.2
  have h3 := Nat.pow_pos (n := c.ws.length) (show 0 < 2 by omega)
  have := Nat.mod_lt b h3
  simp only [Col.sOf]
  omega

theorem Col.sOf_isSet {c : Col} (ho : c.Ok) (b : Nat) : c.isSet (c.sOf b) = true := by
  have := c.sOf_lt ho b
  exact wi_iff.2 ⟨by omega, by omega⟩

theorem sOf_bits {c : Col} (ho : c.Ok) {b : Nat} (hb : b < 256) : bitsOp .and .i64 (b : Int) (((2 ^ c.ws.length : Nat) : Int) - 1) = some (c.sOf b : Int) := by
  have h2 : (2 : Nat) ^ c.ws.length ≤ 2 ^ 6 := Nat.pow_le_pow_right (by omega) ho.len.2
  have h3 := Nat.pow_pos (n := c.ws.length) (show 0 < 2 by omega)
  have e : (((2 ^ c.ws.length : Nat) : Int) - 1) = ((2 ^ c.ws.length - 1 : Nat) : Int) := by omega
  rw [e, bitsAndI (by omega) (by omega), Nat.and_two_pow_sub_one_eq_mod]
  rfl

theorem shlI {c : Col} (ho : c.Ok) : IntKind.i64.wrap (1 * 2 ^ min c.ws.length 64) = ((2 ^ c.ws.length : Nat) : Int) := by
  have : ∀ k : Nat, k ≤ 6 → IntKind.i64.wrap (1 * 2 ^ min k 64) = ((2 ^ k : Nat) : Int) := by
    intro k hk
    have : k = 0 ∨ k = 1 ∨ k = 2 ∨ k = 3 ∨ k = 4 ∨ k = 5 ∨ k = 6 := by omega
    rcases this with rfl | rfl | rfl | rfl | rfl | rfl | rfl <;> decide
  exact this _ ho.len.2

theorem apart_ok {c : Col} (hv : c.valid = true) {k : Nat} (hk : k < c.ws.length) {a b : Int} (ha : 0 ≤ a ∧ a ≤ 2000) (hb : 0 ≤ b ∧ b ≤ 2000) : c.apart k a b = (apartZ (ptZ (c.ws.getD k 0) a) (ptZ (c.ws.getD k 0) b), 0) := by
  have e1 : wi k 0 (c.ws.length - 1) = true := wi_iff.2 (by omega)
  simp only [Col.apart, hv, e1, wi_iff.2 ha, wi_iff.2 hb, Bool.and_self, if_true, Int.toNat_natCast]

theorem apart_self (p : Int) : apartZ p p = 0 := by
  simp only [apartZ, lessZ, Int.lt_irrefl, if_false]
  omega

theorem apartZ_bd (p o : Int) : 0 ≤ apartZ p o ∧ apartZ p o ≤ 20 := by
  have h1 := lessZ_bd p o
  have h2 := lessZ_bd o p
  simp only [apartZ]
  split <;> omega

theorem apartZ_min {p o : Int} (hp : 0 ≤ p ∧ p < 20) (ho : 0 ≤ o ∧ o < 20) : (let d := if p - o < o - p then o - p else p - o; 0 ≤ d ∧ d ≤ 20 ∧ (if 20 - d < d then 20 - d else d) = apartZ p o) := by
  simp only [apartZ, lessZ]
  refine ⟨?_, ?_, ?_⟩ <;> repeat' split
  all_goals omega

theorem apart_loop {c : Col} {vw vp : AV} (h : ColAt H c vw vp) (ho : c.Ok) (hv : c.valid = true) {a b : Int} (ha : 0 ≤ a ∧ a ≤ 2000) (hb : 0 ≤ b ∧ b ≤ 2000) {s : Nat} (hs : s < 64) (r : Bool) (K : List Item) (R : Option Done) (hK : ∀ E : Env, E.get 4 = .ptr H.length 0 → E.get 13 = I a → E.get 14 = I b → E.get 15 = I s → E.get 16 = .bool r → Option.map (finishC H.length) (execL cfg0 prog0 ⟨6, none, false, H.length⟩ K ⟨E, [], H ++ [.box (c.av vw vp)], none⟩) = R)  :
    ∀ (q j : Nat), j + q = c.ws.length → ∀ (pt : Bool), (pt || anyF (fun i => s.testBit i && c.sep a b i) j q) = r → ∀ E : Env, E.get 4 = .ptr H.length 0 → E.get 13 = I a → E.get 14 = I b → E.get 15 = I s → E.get 16 = .bool pt → E.get 94 = vw → E.get 95 = I c.ws.length → E.get 96 = I j →
    Option.map (finishC H.length) (execL cfg0 prog0 ⟨6, none, false, H.length⟩ (loopIt Try.f6 10 :: .inBlock 0 :: K) ⟨E, [], H ++ [.box (c.av vw vp)], none⟩) = R := by
  intro q
  have hl := ho.len
  have hlp := ho.plen
  obtain ⟨a1, a2, a3, a4⟩ := h.ws.fI
  have her := ho.er
  simp only [Col.av] at hK ⊢
  induction q with
  | zero =>
    intro j hj pt hr E g4 g13 g14 g15 g16 g94 g95 g96
    have hk' : ¬ (j : Int) < ((c.ws.length : Nat) : Int) := by omega
    simp only [anyF, Bool.or_false] at hr
    subst hr
    simp only [loopIt, todoPast, todoAt, todoOf, firstReg, ↓reduceIte, Option.some.injEq, Nat.reduceEqDiff, reduceCtorEq, Try.f6]
    rw [execL_inLoop]
    simp (maxSteps := 1000000) (implicitDefEqProofs := false) (disch := first | rfl | omega | assumption) only [go_sem, ↓reduceIte, Nat.reduceEqDiff, Nat.reduceAdd, Nat.reduceLeDiff, Nat.reduceBEq, Nat.reduceMul, Nat.reduceLT, Int.reduceLT, Int.reduceLE, Int.reduceToNat, Int.reduceNeg, Int.reduceEq, Int.reduceMul, reduceCtorEq, Int.reduceBEq, Int.reduceBNe, Int.reduceAdd, Int.reduceSub, g4, g13, g14, g15, g16, g94, g95, g96, ltT, ltF, leT, leF, hk']
    exact hK _ (by exact g4) (by exact g13) (by exact g14) (by exact g15) (by exact g16)
  | succ q ih =>
    intro j hj pt hr E g4 g13 g14 g15 g16 g94 g95 g96
    have hk' : (j : Int) < ((c.ws.length : Nat) : Int) := by omega
    have hk2 : j < c.ws.length := by omega
    have hw := ho.ws j hk2
    have hA := fun G : Heap => co_Apart (h.app G) (by omega) j a b
    have hB := fun G : Heap => co_Apart (h.app G) (by omega) j b a
    have hO := fun G : Heap => co_Apart (h.app G) (by omega) j a a
    simp only [apart_ok hv hk2 ha hb] at hA
    simp only [apart_ok hv hk2 hb ha, apartZ_comm (ptZ (c.ws.getD j 0) b)] at hB
    simp only [apart_ok hv hk2 ha ha, apart_self] at hO
    have hP := fun G : Heap => fr_Part1 (c.ws.getD j 0) a G
    have hQ := fun G : Heap => fr_Part1 (c.ws.getD j 0) b G
    simp only [oneW, wi_iff.2 hw, wi_iff.2 ha, wi_iff.2 hb, if_true] at hP hQ
    have p1 := ptZ_bd (w := c.ws.getD j 0) (n := a) (by omega)
    have p2 := ptZ_bd (w := c.ws.getD j 0) (n := b) (by omega)
    have hsep : c.sep a b j = decide (2 * c.er < apartZ (ptZ (c.ws.getD j 0) a) (ptZ (c.ws.getD j 0) b)) := rfl
    have bd := apartZ_bd (ptZ (c.ws.getD j 0) a) (ptZ (c.ws.getD j 0) b)
    have hmin := apartZ_min p1 p2
    simp only at hmin
    simp only [Col.av] at hA hB hO
    generalize apartZ (ptZ (c.ws.getD j 0) a) (ptZ (c.ws.getD j 0) b) = ap at *
    generalize ptZ (c.ws.getD j 0) a = pa at *
    generalize ptZ (c.ws.getD j 0) b = pb at *
    have e1 := shrI (s := s) (j := j) (by omega)
    have e2 : s / 2 ^ j ≤ s := Nat.div_le_self _ _
    have e3 : bitsOp .and .i64 ((s / 2 ^ j : Nat) : Int) 1 = some ((s / 2 ^ j &&& 1 : Nat) : Int) := bitsAndI (b := 1) (by omega) (by decide)
    have e4 := and_one (s := s) (j := j)
    have z : ¬ (j : Int) < 0 := by omega
    rw [anyF, hsep] at hr
    generalize hd : (if pa - pb < pb - pa then pb - pa else pa - pb) = d at *
    obtain ⟨m1, m2, m3⟩ := hmin
    simp only [loopIt, todoPast, todoAt, todoOf, firstReg, ↓reduceIte, Option.some.injEq, Nat.reduceEqDiff, reduceCtorEq, Try.f6]
    rw [execL_inLoop]
    cases pt with
    | true =>
      simp only [Bool.true_or] at hr
      simp (maxSteps := 1000000) (implicitDefEqProofs := false) (disch := first | rfl | omega | assumption) only [go_sem, ↓reduceIte, Nat.reduceEqDiff, Nat.reduceAdd, Nat.reduceLeDiff, Nat.reduceBEq, Nat.reduceMul, Nat.reduceLT, Int.reduceLT, Int.reduceLE, Int.reduceToNat, Int.reduceNeg, Int.reduceEq, Int.reduceMul, reduceCtorEq, Int.reduceBEq, Int.reduceBNe, Int.reduceAdd, Int.reduceSub, g4, g13, g14, g15, g16, g94, g95, g96, ltT, ltF, leT, leF, hk', a1, a2, a3, a4, hA, hB, hO, hP, hQ, hd, m3]
      exact ih (j + 1) (by omega) true (by rw [Bool.true_or]; exact hr) _ (by exact g4) (by exact g13) (by exact g14) (by exact g15) (by rfl) (by exact g94) (by exact g95) (by rfl)
    | false =>
      rcases Bool.eq_false_or_eq_true (s.testBit j) with ht | ht
      · by_cases hc : 2 * c.er < ap
        · simp only [ht, hc, decide_true, Bool.and_self, Bool.true_or, Bool.or_true] at hr
          simp (maxSteps := 1000000) (implicitDefEqProofs := false) (disch := first | rfl | omega | assumption) only [go_sem, ↓reduceIte, Nat.reduceEqDiff, Nat.reduceAdd, Nat.reduceLeDiff, Nat.reduceBEq, Nat.reduceMul, Nat.reduceLT, Int.reduceLT, Int.reduceLE, Int.reduceToNat, Int.reduceNeg, Int.reduceEq, Int.reduceMul, reduceCtorEq, Int.reduceBEq, Int.reduceBNe, Int.reduceAdd, Int.reduceSub, g4, g13, g14, g15, g16, g94, g95, g96, ltT, ltF, leT, leF, hk', a1, a2, a3, a4, hA, hB, hO, hP, hQ, hd, m3, e1, e3, e4, ht, z, hc]
          exact ih (j + 1) (by omega) true (by rw [Bool.true_or]; exact hr) _ (by exact g4) (by exact g13) (by exact g14) (by exact g15) (by rfl) (by exact g94) (by exact g95) (by rfl)
        · simp only [ht, hc, decide_false, Bool.and_false, Bool.false_or] at hr
          simp (maxSteps := 1000000) (implicitDefEqProofs := false) (disch := first | rfl | omega | assumption) only [go_sem, ↓reduceIte, Nat.reduceEqDiff, Nat.reduceAdd, Nat.reduceLeDiff, Nat.reduceBEq, Nat.reduceMul, Nat.reduceLT, Int.reduceLT, Int.reduceLE, Int.reduceToNat, Int.reduceNeg, Int.reduceEq, Int.reduceMul, reduceCtorEq, Int.reduceBEq, Int.reduceBNe, Int.reduceAdd, Int.reduceSub, g4, g13, g14, g15, g16, g94, g95, g96, ltT, ltF, leT, leF, hk', a1, a2, a3, a4, hA, hB, hO, hP, hQ, hd, m3, e1, e3, e4, ht, z, hc]
          exact ih (j + 1) (by omega) false (by rw [Bool.false_or]; exact hr) _ (by exact g4) (by exact g13) (by exact g14) (by exact g15) (by rfl) (by exact g94) (by exact g95) (by rfl)
      · simp only [ht, Bool.false_and, Bool.false_or] at hr
        simp (maxSteps := 1000000) (implicitDefEqProofs := false) (disch := first | rfl | omega | assumption) only [go_sem, ↓reduceIte, Nat.reduceEqDiff, Nat.reduceAdd, Nat.reduceLeDiff, Nat.reduceBEq, Nat.reduceMul, Nat.reduceLT, Int.reduceLT, Int.reduceLE, Int.reduceToNat, Int.reduceNeg, Int.reduceEq, Int.reduceMul, reduceCtorEq, Int.reduceBEq, Int.reduceBNe, Int.reduceAdd, Int.reduceSub, g4, g13, g14, g15, g16, g94, g95, g96, ltT, ltF, leT, leF, hk', a1, a2, a3, a4, hA, hB, hO, hP, hQ, hd, m3, e1, e3, e4, ht, z]
        exact ih (j + 1) (by omega) false (by rw [Bool.false_or]; exact hr) _ (by exact g4) (by exact g13) (by exact g14) (by exact g15) (by rfl) (by exact g94) (by exact g95) (by rfl)

theorem law_ColourApart {c : Col} {vw vp : AV} (h : ColAt H c vw vp) (at' other b8 : Int) (b1 : 0 ≤ at' ∧ at' ≤ 65535) (b2 : 0 ≤ other ∧ other ≤ 65535) (b3 : 0 ≤ b8 ∧ b8 ≤ 255) :
    callFL cfg0 prog0 false 6 [c.av vw vp, .int .u16 at', .int .u16 other, .int .u8 b8] H none = some ⟨.ret (.bool true), H, none⟩ := by
  have s1 := h.ws.scal
  have s2 := h.ps.scal
  have hL := fun G : Heap => law_long (h.app G)
  have hV := fun G : Heap => ref_Colour (h.app G)
  simp only [Col.av] at hL hV
  rcases Bool.eq_false_or_eq_true c.long with hl | hl
  · simp only [Col.av]
    refine (callFL_eq fn6 rfl (by simp [Try.f6])).trans ?_
    simp (maxSteps := 1000000) (implicitDefEqProofs := false) (disch := first | rfl | omega | assumption) only [go_sem, ↓reduceIte, Nat.reduceEqDiff, Nat.reduceAdd, Nat.reduceLeDiff, Nat.reduceBEq, Nat.reduceMul, Nat.reduceLT, Int.reduceLT, Int.reduceLE, Int.reduceToNat, Int.reduceNeg, Int.reduceEq, Int.reduceMul, reduceCtorEq, Int.reduceBEq, Int.reduceBNe, Int.reduceAdd, Int.reduceSub, s1, s2, hL, hl, law_alive]
  · obtain ⟨l1, l2⟩ := c.long_false hl
    rcases Bool.eq_false_or_eq_true c.valid with hv | hv
    · have ho := c.valid_iff.1 hv
      have hlen := ho.len
      obtain ⟨n1, rfl⟩ : ∃ n : Nat, at' = n := ⟨at'.toNat, by omega⟩
      obtain ⟨n2, rfl⟩ : ∃ n : Nat, other = n := ⟨other.toNat, by omega⟩
      obtain ⟨n3, rfl⟩ : ∃ n : Nat, b8 = n := ⟨b8.toNat, by omega⟩
      have t1 : ((n1 : Nat) : Int).tmod 2001 = ((n1 % 2001 : Nat) : Int) := by rw [Int.tmod_eq_emod_of_nonneg (Int.natCast_nonneg _)]; rfl
      have t2 : ((n2 : Nat) : Int).tmod 2001 = ((n2 % 2001 : Nat) : Int) := by rw [Int.tmod_eq_emod_of_nonneg (Int.natCast_nonneg _)]; rfl
      have t3 := shlI ho
      have t4 := sOf_bits ho (b := n3) (by omega)
      have hs := c.sOf_lt ho n3
      have hss := c.sOf_isSet ho n3
      have hp2 : (2 : Nat) ^ c.ws.length ≤ 2 ^ 6 := Nat.pow_le_pow_right (by omega) hlen.2
      have hp3 := Nat.pow_pos (n := c.ws.length) (show 0 < 2 by omega)
      have ba : 0 ≤ ((n1 % 2001 : Nat) : Int) ∧ ((n1 % 2001 : Nat) : Int) ≤ 2000 := by omega
      have bb : 0 ≤ ((n2 % 2001 : Nat) : Int) ∧ ((n2 % 2001 : Nat) : Int) ≤ 2000 := by omega
      generalize c.sOf n3 = s at *
      generalize ((n1 % 2001 : Nat) : Int) = a at *
      generalize ((n2 % 2001 : Nat) : Int) = b at *
      have h1 := fun G : Heap => co_Parts (h.app G) (by omega) s a b
      have h2 := fun G : Heap => co_Apart (h.app G) (by omega) c.ws.length a b
      have h3 := fun G : Heap => co_Apart (h.app G) (by omega) 0 a 2001
      have h4 := fun G : Heap => co_Parts (h.app G) (by omega) (2 ^ c.ws.length : Nat) a b
      have h5 := fun G : Heap => co_Alike (h.app G) (by omega) (-1)
      have h6 := fun G : Heap => co_Parts (h.app G) (by omega) 0 (-1) b
      have f1 : wi (c.ws.length : Int) 0 (c.ws.length - 1) = false := by simp [wi]; omega
      have f2 : wi (2001 : Int) 0 2000 = false := by decide
      have f3 : c.isSet (2 ^ c.ws.length : Nat) = false := by simp [Col.isSet, wi]; omega
      have f4 : c.isSet (-1) = false := by simp [Col.isSet, wi]
      have f5 : wi (-1 : Int) 0 2000 = false := by decide
      simp only [Col.parts, hv, hss, wi_iff.2 ba, wi_iff.2 bb, Bool.and_self, if_true, Int.toNat_natCast] at h1
      simp only [Col.apart, hv, f1, Bool.false_and, Bool.false_eq_true, if_true, if_false] at h2
      simp only [Col.apart, hv, f2, Bool.and_false, Bool.false_eq_true, if_true, if_false] at h3
      simp only [Col.parts, hv, f3, Bool.false_and, Bool.false_eq_true, if_true, if_false] at h4
      simp only [Col.alikeR, hv, f4, Bool.false_eq_true, if_true, if_false] at h5
      simp only [Col.parts, hv, f5, Bool.false_and, Bool.and_false, Bool.false_eq_true, if_true, if_false] at h6
      simp only [Col.av] at h1 h2 h3 h4 h5 h6 ⊢
      refine (callFL_eq fn6 rfl (by simp [Try.f6])).trans ?_
      simp (maxSteps := 1000000) (implicitDefEqProofs := false) (disch := first | rfl | omega | assumption) only [go_sem, ↓reduceIte, Nat.reduceEqDiff, Nat.reduceAdd, Nat.reduceLeDiff, Nat.reduceBEq, Nat.reduceMul, Nat.reduceLT, Int.reduceLT, Int.reduceLE, Int.reduceToNat, Int.reduceNeg, Int.reduceEq, Int.reduceMul, reduceCtorEq, Int.reduceBEq, Int.reduceBNe, Int.reduceAdd, Int.reduceSub, s1, s2, hL, hV, hl, hv]
      rw [chkK_of]; rotate_left; kernel_rfl
      have z : ¬ (c.ws.length : Int) < 0 := by omega
      simp (maxSteps := 1000000) (implicitDefEqProofs := false) (disch := first | rfl | omega | assumption) only [go_sem, ↓reduceIte, Nat.reduceEqDiff, Nat.reduceAdd, Nat.reduceLeDiff, Nat.reduceBEq, Nat.reduceMul, Nat.reduceLT, Int.reduceLT, Int.reduceLE, Int.reduceToNat, Int.reduceNeg, Int.reduceEq, Int.reduceMul, reduceCtorEq, Int.reduceBEq, Int.reduceBNe, Int.reduceAdd, Int.reduceSub, s1, s2, t1, t2, t3, t4, h.ws.len, z]
      refine apart_loop h ho hv ba bb hs.1 (c.partB s a b) _ _ (fun E g4 g13 g14 g15 g16 => ?_) c.ws.length 0 (by omega) false (by rw [Bool.false_or]; rfl) _ (by rfl) (by rfl) (by rfl) (by rfl) (by rfl) (by rfl) (by rfl) (by rfl)
      simp only [Col.av]
      simp (maxSteps := 1000000) (implicitDefEqProofs := false) (disch := first | rfl | omega | assumption) only [go_sem, ↓reduceIte, Nat.reduceEqDiff, Nat.reduceAdd, Nat.reduceLeDiff, Nat.reduceBEq, Nat.reduceMul, Nat.reduceLT, Int.reduceLT, Int.reduceLE, Int.reduceToNat, Int.reduceNeg, Int.reduceEq, Int.reduceMul, reduceCtorEq, Int.reduceBEq, Int.reduceBNe, Int.reduceAdd, Int.reduceSub, g4, g13, g14, g15, g16, s1, s2, h1, h2, h3, h.ws.len]
      rw [chkK_of]; rotate_left; kernel_rfl
      simp (maxSteps := 1000000) (implicitDefEqProofs := false) (disch := first | rfl | omega | assumption) only [go_sem, ↓reduceIte, Nat.reduceEqDiff, Nat.reduceAdd, Nat.reduceLeDiff, Nat.reduceBEq, Nat.reduceMul, Nat.reduceLT, Int.reduceLT, Int.reduceLE, Int.reduceToNat, Int.reduceNeg, Int.reduceEq, Int.reduceMul, reduceCtorEq, Int.reduceBEq, Int.reduceBNe, Int.reduceAdd, Int.reduceSub, g4, g13, g14, g15, g16, s1, s2, h.ws.len, z, t3, h4, h5, h6, law_alive]
    · have h1 := fun G : Heap => co_Apart (h.app G) (by omega) 0 0 0
      have h2 := fun G : Heap => co_Parts (h.app G) (by omega) 0 0 0
      simp only [Col.apart, hv, Bool.false_eq_true, if_false] at h1
      simp only [Col.parts, hv, Bool.false_eq_true, if_false] at h2
      simp only [Col.av] at h1 h2 ⊢
      refine (callFL_eq fn6 rfl (by simp [Try.f6])).trans ?_
      simp (maxSteps := 1000000) (implicitDefEqProofs := false) (disch := first | rfl | omega | assumption) only [go_sem, ↓reduceIte, Nat.reduceEqDiff, Nat.reduceAdd, Nat.reduceLeDiff, Nat.reduceBEq, Nat.reduceMul, Nat.reduceLT, Int.reduceLT, Int.reduceLE, Int.reduceToNat, Int.reduceNeg, Int.reduceEq, Int.reduceMul, reduceCtorEq, Int.reduceBEq, Int.reduceBNe, Int.reduceAdd, Int.reduceSub, s1, s2, hL, hV, hl, hv, h1, h2, law_alive]

end Go.Ab
/-
  ColourPairs, walked: its loops.
-/
namespace Go.Ab
open Go.Proofs
set_option linter.unusedSimpArgs false
set_option linter.unusedVariables false
set_option maxRecDepth 100000
set_option maxHeartbeats 4000000

variable {H : Heap}

theorem lens_loop {c : Col} {vw vp : AV} (h : ColAt H c vw vp) (hc : c.Ok) :
    ∀ (q j : Nat), j + q = c.manyN → ∀ (len : Nat), ∀ (xs : List AV), xs = ((List.range j).map c.lenAt).map I → len = xs.length → ∀ E : Env, E.get 1 = .ptr H.length 0 → E.get 2 = .gsl (H.length + 1) len → E.get 3 = I (c.lenAt j) →
    Option.map (finishC H.length) (execL cfg0 prog0 ⟨36, none, false, H.length⟩ (todoAt Try.f36 2) ⟨E, [], H ++ [.box (c.av vw vp), .grow 1 xs], none⟩) = some ⟨.ret (.sl false (c.lens.map I)), H, none⟩ := by
  intro q
  have s1 := h.ws.scal
  have s2 := h.ps.scal
  have mb := hc.many_bd
  have b1 := hc.lo
  have b2 := hc.ev
  simp only [Col.av]
  induction q with
  | zero =>
    intro j hj len xs hx hlen E g1 g2 g3
    have hk' : ¬ (j : Int) < ((c.manyN : Nat) : Int) := by omega
    have hlt := hc.lt_many j
    have hx2 : xs = c.lens.map I := by rw [hx, show j = c.manyN by omega]; rfl
    have hn : ¬ c.lenAt j ≤ c.hi := by omega
    subst hlen
    simp only [loopIt, todoPast, todoAt, todoOf, firstReg, ↓reduceIte, Option.some.injEq, Nat.reduceEqDiff, reduceCtorEq, Try.f36]
    rw [execL_inLoop]
    simp (maxSteps := 1000000) (implicitDefEqProofs := false) (disch := first | rfl | omega | assumption) only [go_sem, ↓reduceIte, Nat.reduceEqDiff, Nat.reduceAdd, Nat.reduceLeDiff, Nat.reduceBEq, Nat.reduceMul, Nat.reduceLT, Int.reduceLT, Int.reduceLE, Int.reduceToNat, Int.reduceNeg, Int.reduceEq, Int.reduceMul, reduceCtorEq, Int.reduceBEq, Int.reduceBNe, Int.reduceAdd, Int.reduceSub, g1, g2, g3, ltT, ltF, leT, leF, hk', s1, s2, hn]
    rw [← hx2]
  | succ q ih =>
    intro j hj len xs hx hlen E g1 g2 g3
    have hk' : (j : Int) < ((c.manyN : Nat) : Int) := by omega
    have hk2 : j < c.manyN := by omega
    have hlt := (hc.lt_many j).1 hk2
    have hb := hc.lenAt_bd hk2
    have hxl : xs.length = j := by rw [hx]; simp
    have hof : addElem (H ++ [.box (.agg [vw, vp, I c.lo, I c.hi, I c.ev, I c.er]), .grow 1 xs]) 1 false (.gsl (H.length + 1) len) [I (c.lenAt j)] = some (.gsl (H.length + 1) (len + 1), H ++ [.box (.agg [vw, vp, I c.lo, I c.hi, I c.ev, I c.er]), .grow 1 (xs ++ [I (c.lenAt j)])]) := by
      rw [add_gsl (by simp [get_at']) hlen.symm rfl rfl (by simp; omega), set_at']
      rfl
    simp only [loopIt, todoPast, todoAt, todoOf, firstReg, ↓reduceIte, Option.some.injEq, Nat.reduceEqDiff, reduceCtorEq, Try.f36]
    rw [execL_inLoop]
    simp (maxSteps := 1000000) (implicitDefEqProofs := false) (disch := first | rfl | omega | assumption) only [go_sem, ↓reduceIte, Nat.reduceEqDiff, Nat.reduceAdd, Nat.reduceLeDiff, Nat.reduceBEq, Nat.reduceMul, Nat.reduceLT, Int.reduceLT, Int.reduceLE, Int.reduceToNat, Int.reduceNeg, Int.reduceEq, Int.reduceMul, reduceCtorEq, Int.reduceBEq, Int.reduceBNe, Int.reduceAdd, Int.reduceSub, g1, g2, g3, ltT, ltF, leT, leF, hk', s1, s2, hof]
    exact ih (j + 1) (by omega) (len + 1) _ (by rw [List.range_succ, hx, List.map_append, List.map_append]; rfl) (by rw [hlen]; simp) _ (by exact g1) (by rfl) (by rw [Col.lenAt_succ]; rfl)

theorem law_lengths {c : Col} {vw vp : AV} (h : ColAt H c vw vp) (hc : c.Ok) : callFL cfg0 prog0 false 36 [c.av vw vp] H none = some ⟨.ret (.sl false (c.lens.map I)), H, none⟩ := by
  have s1 := h.ws.scal
  have s2 := h.ps.scal
  have h1 := lens_loop h hc c.manyN 0 (by omega) 0 [] rfl rfl
  simp only [Col.av, Col.lenAt, Int.natCast_zero, Int.zero_mul, Int.add_zero] at h1 ⊢
  refine (callFL_eq fn36 rfl (by simp [Try.f36])).trans ?_
  simp (maxSteps := 1000000) (implicitDefEqProofs := false) (disch := first | rfl | omega | assumption) only [go_sem, ↓reduceIte, Nat.reduceEqDiff, Nat.reduceAdd, Nat.reduceLeDiff, Nat.reduceBEq, Nat.reduceMul, Nat.reduceLT, Int.reduceLT, Int.reduceLE, Int.reduceToNat, Int.reduceNeg, Int.reduceEq, Int.reduceMul, reduceCtorEq, Int.reduceBEq, Int.reduceBNe, Int.reduceAdd, Int.reduceSub, ltT, ltF, leT, leF, s1, s2]
  exact h1 _ (by rfl) (by rfl) (by rfl)

end Go.Ab
