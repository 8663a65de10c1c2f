/-
  The references of the layer settle: what is valid, heats, the excess.
-/
import Derived.Test.YtppmifiahebgfaaKW0
import Derived.Test.YtppmifiahebgfaaP1
import Derived.Test.YtppmifiahebgfaaP2
namespace Go.Ab
open Go.Proofs
set_option linter.unusedSimpArgs false
set_option linter.unusedVariables false

variable {H : Heap} {vb vt : AV}

theorem f77w (n lo hi : Int) (H : Heap) : callFL cfg0 prog0 false 77 [I n, I lo, I hi] H none = some ⟨.ret (.bool (wi n lo hi)), H, none⟩ := f77 n lo hi H
theorem f87w (a b lo hi : Int) (H : Heap) : callFL cfg0 prog0 false 87 [.agg [I a, I b], I lo, I hi] H none = some ⟨.ret (.bool (spn a b lo hi)), H, none⟩ := f87 a b lo hi H
theorem f76w (n : Int) (H : Heap) : callFL cfg0 prog0 false 76 [I n] H none = some ⟨.ret (.bool (inW n)), H, none⟩ := f76 n H

theorem ref_Block (s : Stl) (hvb : SlOk H 6 vb (s.bs.map Blk.av)) (st : vt.scalar = true) (hl : s.bs.length ≤ 1000) (n : Int) :
    callFL cfg0 prog0 false 49 [.agg [vb, I s.near, I s.last, vt], I n] H none = some ⟨.ret (.bool (s.inB n)), H, none⟩ := by
  have sb := hvb.scal
  have e1 : IntKind.i64.wrap ((s.bs.length : Int) - 1) = (s.bs.length : Int) - 1 := w64 (by omega) (by omega)
  refine (callFL_eq fn49 rfl (by simp [Try.f49])).trans ?_
  simp only [go_sem, ↓reduceIte, Nat.reduceEqDiff, Nat.reduceAdd, Nat.reduceLeDiff, Nat.reduceBEq, Nat.reduceMul, Nat.reduceLT, Int.reduceLT, Int.reduceLE, Int.reduceToNat, Int.reduceNeg, Int.reduceEq, Int.reduceMul, reduceCtorEq, Int.reduceBEq, Int.reduceBNe, Int.reduceAdd, Int.reduceSub, bne_self_eq_false, beq_self_eq_true, Nat.le_add_right, eqOk, fn49, res49, gc49, grow49, ty3, ty22, ty23, ty25, ty29, ty56, ty63, sb, st, hvb.len, List.length_map, e1, f77w, Stl.inB]

theorem ref_Minute (s : Stl) (sb : vb.scalar = true) (st : vt.scalar = true) (n : Int) :
    callFL cfg0 prog0 false 50 [.agg [vb, I s.near, I s.last, vt], I n] H none = some ⟨.ret (.bool (s.inM n)), H, none⟩ := by
  refine (callFL_eq fn50 rfl (by simp [Try.f50])).trans ?_
  simp only [go_sem, ↓reduceIte, Nat.reduceEqDiff, Nat.reduceAdd, Nat.reduceLeDiff, Nat.reduceBEq, Nat.reduceMul, Nat.reduceLT, Int.reduceLT, Int.reduceLE, Int.reduceToNat, Int.reduceNeg, Int.reduceEq, Int.reduceMul, reduceCtorEq, Int.reduceBEq, Int.reduceBNe, Int.reduceAdd, Int.reduceSub, bne_self_eq_false, beq_self_eq_true, Nat.le_add_right, eqOk, fn50, res50, gc50, grow50, ty3, ty22, ty23, ty25, ty29, ty56, ty63, sb, st, f77w, Stl.inM]

theorem ref_Settle_l2 (s : Stl) (hvb : SlOk H 6 vb (s.bs.map Blk.av)) (hvt : SlOk H 4 vt (s.ts.map Tch.av)) (hl : s.bs.length ≤ 1000) (hl2 : s.ts.length ≤ 1000) :
    ∀ (n j : Nat), j + n = s.ts.length → ∀ (E : Env) (G : Heap), E.get 1 = .ptr H.length 0 → E.get 5 = I j →
    Option.map (finishC H.length) (execL cfg0 prog0 ⟨33, none, false, H.length⟩ (todoAt Try.f33 10) ⟨E, [], H ++ (.box (.agg [vb, I s.near, I s.last, vt]) :: G), none⟩) =
      some ⟨.ret (.bool ((s.ts.drop j).all (Tch.okb s.bs.length s.last))), H, none⟩ := by
  intro n
  have sb := hvb.scal
  have st := hvt.scal
  induction n with
  | zero =>
    intro j hj E G g1 g5
    have hk' : ¬ (j : Int) < s.ts.length := by omega
    rw [List.drop_eq_nil_of_le (by omega), List.all_nil]
    simp only [loopIt, todoPast, todoAt, todoOf, firstReg, ↓reduceIte, Option.some.injEq, Nat.reduceEqDiff, reduceCtorEq, Try.f33]
    rw [execL_inLoop]
    simp only [go_sem, ↓reduceIte, Nat.reduceEqDiff, Nat.reduceAdd, Nat.reduceLeDiff, Nat.reduceBEq, Nat.reduceMul, Nat.reduceLT, Int.reduceLT, Int.reduceLE, Int.reduceToNat, Int.reduceNeg, Int.reduceEq, Int.reduceMul, reduceCtorEq, Int.reduceBEq, Int.reduceBNe, Int.reduceAdd, Int.reduceSub, bne_self_eq_false, beq_self_eq_true, Nat.le_add_right, eqOk, fn33, res33, gc33_0, gc33_1, gc33_2, gc33_3, gc33_4, gc33_6, gc33_7, gc33_8, gc33_5, gc33_9, gc33_10, gc33_12, gc33_13, gc33_14, gc33_11, gc33_15, gcSt, keepEnv, envLt, heapLt, dfrLt, ADefer.lt, grow33, ty3, ty22, ty23, ty25, ty29, ty56, ty63, g1, g5, hk', hvb.ltn, hvt.ltn, hvt.len, List.length_map]
  | succ n ih =>
    intro j hj E G g1 g5
    have hk' : (j : Int) < s.ts.length := by omega
    have hk2 : j < s.ts.length := by omega
    obtain ⟨-, -, a3, a4, a5⟩ := hvt.at (k := (j : Int)) (x := Tch.av s.ts[j]) (by omega) (by simp [hk2])
    have hj1 : IntKind.i64.wrap ((j : Int) + 1) = ((j + 1 : Nat) : Int) := by rw [w64 (by omega) (by omega)]; omega
    have hB := fun (G : Heap) n => ref_Block (H := H ++ G) s (hvb.app G) st hl n
    have hM := fun (G : Heap) n => ref_Minute (H := H ++ G) s sb st n
    rw [List.drop_eq_getElem_cons hk2, List.all_cons]
    simp only [loopIt, todoPast, todoAt, todoOf, firstReg, ↓reduceIte, Option.some.injEq, Nat.reduceEqDiff, reduceCtorEq, Try.f33]
    rw [execL_inLoop]
    cases h1 : s.inB s.ts[j].b with
    | false =>
      have hok : s.ts[j].okb s.bs.length s.last = false := by simp only [Tch.okb]; rw [show wi s.ts[j].b 0 (s.bs.length - 1) = false from h1]; rfl
      simp only [go_sem, ↓reduceIte, Nat.reduceEqDiff, Nat.reduceAdd, Nat.reduceLeDiff, Nat.reduceBEq, Nat.reduceMul, Nat.reduceLT, Int.reduceLT, Int.reduceLE, Int.reduceToNat, Int.reduceNeg, Int.reduceEq, Int.reduceMul, reduceCtorEq, Int.reduceBEq, Int.reduceBNe, Int.reduceAdd, Int.reduceSub, bne_self_eq_false, beq_self_eq_true, Nat.le_add_right, eqOk, fn33, res33, gc33_0, gc33_1, gc33_2, gc33_3, gc33_4, gc33_6, gc33_7, gc33_8, gc33_5, gc33_9, gc33_10, gc33_12, gc33_13, gc33_14, gc33_11, gc33_15, gcSt, keepEnv, envLt, heapLt, dfrLt, ADefer.lt, grow33, ty3, ty22, ty23, ty25, ty29, ty56, ty63, g1, g5, hk', hvb.ltn, hvt.ltn, hvt.len, List.length_map, a3, a4, a5, Tch.av, hB, hM, h1, hok]
    | true =>
      cases h2 : s.inM s.ts[j].m with
      | false =>
        have hok : s.ts[j].okb s.bs.length s.last = false := by simp only [Tch.okb]; rw [show wi s.ts[j].m 0 s.last = false from h2]; simp
        simp only [go_sem, ↓reduceIte, Nat.reduceEqDiff, Nat.reduceAdd, Nat.reduceLeDiff, Nat.reduceBEq, Nat.reduceMul, Nat.reduceLT, Int.reduceLT, Int.reduceLE, Int.reduceToNat, Int.reduceNeg, Int.reduceEq, Int.reduceMul, reduceCtorEq, Int.reduceBEq, Int.reduceBNe, Int.reduceAdd, Int.reduceSub, bne_self_eq_false, beq_self_eq_true, Nat.le_add_right, eqOk, fn33, res33, gc33_0, gc33_1, gc33_2, gc33_3, gc33_4, gc33_6, gc33_7, gc33_8, gc33_5, gc33_9, gc33_10, gc33_12, gc33_13, gc33_14, gc33_11, gc33_15, gcSt, keepEnv, envLt, heapLt, dfrLt, ADefer.lt, grow33, ty3, ty22, ty23, ty25, ty29, ty56, ty63, g1, g5, hk', hvb.ltn, hvt.ltn, hvt.len, List.length_map, a3, a4, a5, Tch.av, hB, hM, h1, h2, hok]
      | true =>
        have hok : s.ts[j].okb s.bs.length s.last = spn s.ts[j].h0 s.ts[j].h1 (-100) 100 := by simp only [Tch.okb]; rw [show wi s.ts[j].m 0 s.last = true from h2, show wi s.ts[j].b 0 (s.bs.length - 1) = true from h1]; simp
        rw [hok]
        cases h3 : spn s.ts[j].h0 s.ts[j].h1 (-100) 100 with
        | false =>
          simp only [go_sem, ↓reduceIte, Nat.reduceEqDiff, Nat.reduceAdd, Nat.reduceLeDiff, Nat.reduceBEq, Nat.reduceMul, Nat.reduceLT, Int.reduceLT, Int.reduceLE, Int.reduceToNat, Int.reduceNeg, Int.reduceEq, Int.reduceMul, reduceCtorEq, Int.reduceBEq, Int.reduceBNe, Int.reduceAdd, Int.reduceSub, bne_self_eq_false, beq_self_eq_true, Nat.le_add_right, eqOk, fn33, res33, gc33_0, gc33_1, gc33_2, gc33_3, gc33_4, gc33_6, gc33_7, gc33_8, gc33_5, gc33_9, gc33_10, gc33_12, gc33_13, gc33_14, gc33_11, gc33_15, gcSt, keepEnv, envLt, heapLt, dfrLt, ADefer.lt, grow33, ty3, ty22, ty23, ty25, ty29, ty56, ty63, g1, g5, hk', hvb.ltn, hvt.ltn, hvt.len, List.length_map, a3, a4, a5, Tch.av, hB, hM, h1, h2, f87w, h3]
        | true =>
          simp only [go_sem, ↓reduceIte, Nat.reduceEqDiff, Nat.reduceAdd, Nat.reduceLeDiff, Nat.reduceBEq, Nat.reduceMul, Nat.reduceLT, Int.reduceLT, Int.reduceLE, Int.reduceToNat, Int.reduceNeg, Int.reduceEq, Int.reduceMul, reduceCtorEq, Int.reduceBEq, Int.reduceBNe, Int.reduceAdd, Int.reduceSub, bne_self_eq_false, beq_self_eq_true, Nat.le_add_right, eqOk, fn33, res33, gc33_0, gc33_1, gc33_2, gc33_3, gc33_4, gc33_6, gc33_7, gc33_8, gc33_5, gc33_9, gc33_10, gc33_12, gc33_13, gc33_14, gc33_11, gc33_15, gcSt, keepEnv, envLt, heapLt, dfrLt, ADefer.lt, grow33, ty3, ty22, ty23, ty25, ty29, ty56, ty63, g1, g5, hk', hvb.ltn, hvt.ltn, hvt.len, List.length_map, a3, a4, a5, Tch.av, hB, hM, h1, h2, f87w, h3, hj1]
          exact ih (j + 1) (by omega) _ [.box s.ts[j].av] (by rfl) (by rfl)

theorem ref_Settle_l1 (s : Stl) (hvb : SlOk H 6 vb (s.bs.map Blk.av)) (hvt : SlOk H 4 vt (s.ts.map Tch.av)) (hl : s.bs.length ≤ 1000) (hl2 : s.ts.length ≤ 1000) :
    ∀ (n j : Nat), j + n = s.bs.length → ∀ (E : Env) (G : Heap), E.get 1 = .ptr H.length 0 → E.get 3 = I j →
    Option.map (finishC H.length) (execL cfg0 prog0 ⟨33, none, false, H.length⟩ (todoAt Try.f33 4) ⟨E, [], H ++ (.box (.agg [vb, I s.near, I s.last, vt]) :: G), none⟩) =
      some ⟨.ret (.bool ((s.bs.drop j).all Blk.okb && s.ts.all (Tch.okb s.bs.length s.last))), H, none⟩ := by
  intro n
  have sb := hvb.scal
  have st := hvt.scal
  induction n with
  | zero =>
    intro j hj E G g1 g3
    have hk' : ¬ (j : Int) < s.bs.length := by omega
    rw [List.drop_eq_nil_of_le (by omega), List.all_nil, Bool.true_and]
    simp only [loopIt, todoPast, todoAt, todoOf, firstReg, ↓reduceIte, Option.some.injEq, Nat.reduceEqDiff, reduceCtorEq, Try.f33]
    rw [execL_inLoop]
    simp only [go_sem, ↓reduceIte, Nat.reduceEqDiff, Nat.reduceAdd, Nat.reduceLeDiff, Nat.reduceBEq, Nat.reduceMul, Nat.reduceLT, Int.reduceLT, Int.reduceLE, Int.reduceToNat, Int.reduceNeg, Int.reduceEq, Int.reduceMul, reduceCtorEq, Int.reduceBEq, Int.reduceBNe, Int.reduceAdd, Int.reduceSub, bne_self_eq_false, beq_self_eq_true, Nat.le_add_right, eqOk, fn33, res33, gc33_0, gc33_1, gc33_2, gc33_3, gc33_4, gc33_6, gc33_7, gc33_8, gc33_5, gc33_9, gc33_10, gc33_12, gc33_13, gc33_14, gc33_11, gc33_15, gcSt, keepEnv, envLt, heapLt, dfrLt, ADefer.lt, grow33, ty3, ty22, ty23, ty25, ty29, ty56, ty63, g1, g3, hk', hvb.ltn, hvt.ltn, hvb.len, List.length_map]
    exact (ref_Settle_l2 s hvb hvt hl hl2 s.ts.length 0 (by omega) _ [] (by rfl) (by rfl)).trans (by rw [List.drop_zero])
  | succ n ih =>
    intro j hj E G g1 g3
    have hk' : (j : Int) < s.bs.length := by omega
    have hk2 : j < s.bs.length := by omega
    obtain ⟨-, -, a3, a4, a5⟩ := hvb.at (k := (j : Int)) (x := Blk.av s.bs[j]) (by omega) (by simp [hk2])
    have hj1 : IntKind.i64.wrap ((j : Int) + 1) = ((j + 1 : Nat) : Int) := by rw [w64 (by omega) (by omega)]; omega
    rw [List.drop_eq_getElem_cons hk2, List.all_cons]
    simp only [loopIt, todoPast, todoAt, todoOf, firstReg, ↓reduceIte, Option.some.injEq, Nat.reduceEqDiff, reduceCtorEq, Try.f33]
    rw [execL_inLoop]
    cases h1 : spn s.bs[j].x0 s.bs[j].x1 (-100) 100 with
    | false =>
      simp only [go_sem, ↓reduceIte, Nat.reduceEqDiff, Nat.reduceAdd, Nat.reduceLeDiff, Nat.reduceBEq, Nat.reduceMul, Nat.reduceLT, Int.reduceLT, Int.reduceLE, Int.reduceToNat, Int.reduceNeg, Int.reduceEq, Int.reduceMul, reduceCtorEq, Int.reduceBEq, Int.reduceBNe, Int.reduceAdd, Int.reduceSub, bne_self_eq_false, beq_self_eq_true, Nat.le_add_right, eqOk, fn33, res33, gc33_0, gc33_1, gc33_2, gc33_3, gc33_4, gc33_6, gc33_7, gc33_8, gc33_5, gc33_9, gc33_10, gc33_12, gc33_13, gc33_14, gc33_11, gc33_15, gcSt, keepEnv, envLt, heapLt, dfrLt, ADefer.lt, grow33, ty3, ty22, ty23, ty25, ty29, ty56, ty63, g1, g3, hk', hvb.ltn, hvt.ltn, hvb.len, List.length_map, a3, a4, a5, Blk.av, f87w, h1, Blk.okb]
    | true =>
      cases h2 : spn s.bs[j].s0 s.bs[j].s1 2 8 with
      | false =>
        simp only [go_sem, ↓reduceIte, Nat.reduceEqDiff, Nat.reduceAdd, Nat.reduceLeDiff, Nat.reduceBEq, Nat.reduceMul, Nat.reduceLT, Int.reduceLT, Int.reduceLE, Int.reduceToNat, Int.reduceNeg, Int.reduceEq, Int.reduceMul, reduceCtorEq, Int.reduceBEq, Int.reduceBNe, Int.reduceAdd, Int.reduceSub, bne_self_eq_false, beq_self_eq_true, Nat.le_add_right, eqOk, fn33, res33, gc33_0, gc33_1, gc33_2, gc33_3, gc33_4, gc33_6, gc33_7, gc33_8, gc33_5, gc33_9, gc33_10, gc33_12, gc33_13, gc33_14, gc33_11, gc33_15, gcSt, keepEnv, envLt, heapLt, dfrLt, ADefer.lt, grow33, ty3, ty22, ty23, ty25, ty29, ty56, ty63, g1, g3, hk', hvb.ltn, hvt.ltn, hvb.len, List.length_map, a3, a4, a5, Blk.av, f87w, h1, h2, Blk.okb]
      | true =>
        have hok : s.bs[j].okb = spn s.bs[j].g0 s.bs[j].g1 0 20 := by simp only [Blk.okb, h1, h2, Bool.true_and]
        rw [hok]
        cases h3 : spn s.bs[j].g0 s.bs[j].g1 0 20 with
        | false =>
          simp only [go_sem, ↓reduceIte, Nat.reduceEqDiff, Nat.reduceAdd, Nat.reduceLeDiff, Nat.reduceBEq, Nat.reduceMul, Nat.reduceLT, Int.reduceLT, Int.reduceLE, Int.reduceToNat, Int.reduceNeg, Int.reduceEq, Int.reduceMul, reduceCtorEq, Int.reduceBEq, Int.reduceBNe, Int.reduceAdd, Int.reduceSub, bne_self_eq_false, beq_self_eq_true, Nat.le_add_right, eqOk, fn33, res33, gc33_0, gc33_1, gc33_2, gc33_3, gc33_4, gc33_6, gc33_7, gc33_8, gc33_5, gc33_9, gc33_10, gc33_12, gc33_13, gc33_14, gc33_11, gc33_15, gcSt, keepEnv, envLt, heapLt, dfrLt, ADefer.lt, grow33, ty3, ty22, ty23, ty25, ty29, ty56, ty63, g1, g3, hk', hvb.ltn, hvt.ltn, hvb.len, List.length_map, a3, a4, a5, Blk.av, f87w, h1, h2, h3]
        | true =>
          simp only [go_sem, ↓reduceIte, Nat.reduceEqDiff, Nat.reduceAdd, Nat.reduceLeDiff, Nat.reduceBEq, Nat.reduceMul, Nat.reduceLT, Int.reduceLT, Int.reduceLE, Int.reduceToNat, Int.reduceNeg, Int.reduceEq, Int.reduceMul, reduceCtorEq, Int.reduceBEq, Int.reduceBNe, Int.reduceAdd, Int.reduceSub, bne_self_eq_false, beq_self_eq_true, Nat.le_add_right, eqOk, fn33, res33, gc33_0, gc33_1, gc33_2, gc33_3, gc33_4, gc33_6, gc33_7, gc33_8, gc33_5, gc33_9, gc33_10, gc33_12, gc33_13, gc33_14, gc33_11, gc33_15, gcSt, keepEnv, envLt, heapLt, dfrLt, ADefer.lt, grow33, ty3, ty22, ty23, ty25, ty29, ty56, ty63, g1, g3, hk', hvb.ltn, hvt.ltn, hvb.len, List.length_map, a3, a4, a5, Blk.av, f87w, h1, h2, h3, hj1]
          exact ih (j + 1) (by omega) _ [.box s.bs[j].av] (by rfl) (by rfl)

theorem ref_Settle (s : Stl) (hvb : SlOk H 6 vb (s.bs.map Blk.av)) (hvt : SlOk H 4 vt (s.ts.map Tch.av)) (hl : s.bs.length ≤ 1000) (hl2 : s.ts.length ≤ 1000) :
    callFL cfg0 prog0 false 33 [.agg [vb, I s.near, I s.last, vt]] H none = some ⟨.ret (.bool s.valid), H, none⟩ := by
  have sb := hvb.scal
  have st := hvt.scal
  refine (callFL_eq fn33 rfl (by simp [Try.f33])).trans ?_
  simp only [Stl.valid, Stl.nums]
  cases h1 : wi s.bs.length 1 4 with
  | false => simp only [go_sem, ↓reduceIte, Nat.reduceEqDiff, Nat.reduceAdd, Nat.reduceLeDiff, Nat.reduceBEq, Nat.reduceMul, Nat.reduceLT, Int.reduceLT, Int.reduceLE, Int.reduceToNat, Int.reduceNeg, Int.reduceEq, Int.reduceMul, reduceCtorEq, Int.reduceBEq, Int.reduceBNe, Int.reduceAdd, Int.reduceSub, bne_self_eq_false, beq_self_eq_true, Nat.le_add_right, eqOk, fn33, res33, gc33_0, gc33_1, gc33_2, gc33_3, gc33_4, gc33_6, gc33_7, gc33_8, gc33_5, gc33_9, gc33_10, gc33_12, gc33_13, gc33_14, gc33_11, gc33_15, gcSt, keepEnv, envLt, heapLt, dfrLt, ADefer.lt, grow33, ty3, ty22, ty23, ty25, ty29, ty56, ty63, sb, st, hvb.len, hvt.len, List.length_map, f77w, h1]
  | true =>
    cases h2 : wi s.near 0 20 with
    | false => simp only [go_sem, ↓reduceIte, Nat.reduceEqDiff, Nat.reduceAdd, Nat.reduceLeDiff, Nat.reduceBEq, Nat.reduceMul, Nat.reduceLT, Int.reduceLT, Int.reduceLE, Int.reduceToNat, Int.reduceNeg, Int.reduceEq, Int.reduceMul, reduceCtorEq, Int.reduceBEq, Int.reduceBNe, Int.reduceAdd, Int.reduceSub, bne_self_eq_false, beq_self_eq_true, Nat.le_add_right, eqOk, fn33, res33, gc33_0, gc33_1, gc33_2, gc33_3, gc33_4, gc33_6, gc33_7, gc33_8, gc33_5, gc33_9, gc33_10, gc33_12, gc33_13, gc33_14, gc33_11, gc33_15, gcSt, keepEnv, envLt, heapLt, dfrLt, ADefer.lt, grow33, ty3, ty22, ty23, ty25, ty29, ty56, ty63, sb, st, hvb.len, hvt.len, List.length_map, f77w, h1, h2]
    | true =>
      cases h3 : wi s.last 1 60 with
      | false => simp only [go_sem, ↓reduceIte, Nat.reduceEqDiff, Nat.reduceAdd, Nat.reduceLeDiff, Nat.reduceBEq, Nat.reduceMul, Nat.reduceLT, Int.reduceLT, Int.reduceLE, Int.reduceToNat, Int.reduceNeg, Int.reduceEq, Int.reduceMul, reduceCtorEq, Int.reduceBEq, Int.reduceBNe, Int.reduceAdd, Int.reduceSub, bne_self_eq_false, beq_self_eq_true, Nat.le_add_right, eqOk, fn33, res33, gc33_0, gc33_1, gc33_2, gc33_3, gc33_4, gc33_6, gc33_7, gc33_8, gc33_5, gc33_9, gc33_10, gc33_12, gc33_13, gc33_14, gc33_11, gc33_15, gcSt, keepEnv, envLt, heapLt, dfrLt, ADefer.lt, grow33, ty3, ty22, ty23, ty25, ty29, ty56, ty63, sb, st, hvb.len, hvt.len, List.length_map, f77w, h1, h2, h3]
      | true =>
        by_cases h4 : (6 : Int) < s.ts.length
        · have h5 : ¬ (s.ts.length : Int) ≤ 6 := by omega
          simp only [go_sem, ↓reduceIte, Nat.reduceEqDiff, Nat.reduceAdd, Nat.reduceLeDiff, Nat.reduceBEq, Nat.reduceMul, Nat.reduceLT, Int.reduceLT, Int.reduceLE, Int.reduceToNat, Int.reduceNeg, Int.reduceEq, Int.reduceMul, reduceCtorEq, Int.reduceBEq, Int.reduceBNe, Int.reduceAdd, Int.reduceSub, bne_self_eq_false, beq_self_eq_true, Nat.le_add_right, eqOk, fn33, res33, gc33_0, gc33_1, gc33_2, gc33_3, gc33_4, gc33_6, gc33_7, gc33_8, gc33_5, gc33_9, gc33_10, gc33_12, gc33_13, gc33_14, gc33_11, gc33_15, gcSt, keepEnv, envLt, heapLt, dfrLt, ADefer.lt, grow33, ty3, ty22, ty23, ty25, ty29, ty56, ty63, sb, st, hvb.len, hvt.len, List.length_map, f77w, h1, h2, h3, h4, h5, decide_false]
        · have h5 : (s.ts.length : Int) ≤ 6 := by omega
          simp only [go_sem, ↓reduceIte, Nat.reduceEqDiff, Nat.reduceAdd, Nat.reduceLeDiff, Nat.reduceBEq, Nat.reduceMul, Nat.reduceLT, Int.reduceLT, Int.reduceLE, Int.reduceToNat, Int.reduceNeg, Int.reduceEq, Int.reduceMul, reduceCtorEq, Int.reduceBEq, Int.reduceBNe, Int.reduceAdd, Int.reduceSub, bne_self_eq_false, beq_self_eq_true, Nat.le_add_right, eqOk, fn33, res33, gc33_0, gc33_1, gc33_2, gc33_3, gc33_4, gc33_6, gc33_7, gc33_8, gc33_5, gc33_9, gc33_10, gc33_12, gc33_13, gc33_14, gc33_11, gc33_15, gcSt, keepEnv, envLt, heapLt, dfrLt, ADefer.lt, grow33, ty3, ty22, ty23, ty25, ty29, ty56, ty63, sb, st, hvb.len, hvt.len, List.length_map, f77w, h1, h2, h3, h4, h5, decide_true]
          exact (ref_Settle_l1 s hvb hvt hl hl2 s.bs.length 0 (by omega) _ [] (by rfl) (by rfl)).trans (by rw [List.drop_zero])

theorem ref_check (s : Stl) (hvb : SlOk H 6 vb (s.bs.map Blk.av)) (hvt : SlOk H 4 vt (s.ts.map Tch.av)) (hl : s.bs.length ≤ 1000) (hl2 : s.ts.length ≤ 1000) (b : Bool) :
    callFL cfg0 prog0 false 48 [.agg [vb, I s.near, I s.last, vt], .bool b] H none = some ⟨.ret (I (if s.valid then (if b then 0 else 2) else 1)), H, none⟩ := by
  have sb := hvb.scal
  have st := hvt.scal
  have hS := fun G => ref_Settle (H := H ++ G) s (hvb.app G) (hvt.app G) hl hl2
  refine (callFL_eq fn48 rfl (by simp [Try.f48])).trans ?_
  cases hv : s.valid with
  | false => simp only [go_sem, ↓reduceIte, Nat.reduceEqDiff, Nat.reduceAdd, Nat.reduceLeDiff, Nat.reduceBEq, Nat.reduceMul, Nat.reduceLT, Int.reduceLT, Int.reduceLE, Int.reduceToNat, Int.reduceNeg, Int.reduceEq, Int.reduceMul, reduceCtorEq, Int.reduceBEq, Int.reduceBNe, Int.reduceAdd, Int.reduceSub, bne_self_eq_false, beq_self_eq_true, Nat.le_add_right, eqOk, fn48, res48, gc48, grow48, ty3, ty22, ty23, ty25, ty29, ty56, ty63, sb, st, hS, hv]
  | true => cases b <;> simp only [go_sem, ↓reduceIte, Nat.reduceEqDiff, Nat.reduceAdd, Nat.reduceLeDiff, Nat.reduceBEq, Nat.reduceMul, Nat.reduceLT, Int.reduceLT, Int.reduceLE, Int.reduceToNat, Int.reduceNeg, Int.reduceEq, Int.reduceMul, reduceCtorEq, Int.reduceBEq, Int.reduceBNe, Int.reduceAdd, Int.reduceSub, bne_self_eq_false, beq_self_eq_true, Nat.le_add_right, eqOk, fn48, res48, gc48, grow48, ty3, ty22, ty23, ty25, ty29, ty56, ty63, sb, st, hS, hv]

end Go.Ab
/-
  The references of the layer settle: heats, the excess, its span.
-/
namespace Go.Ab
open Go.Proofs
set_option linter.unusedSimpArgs false
set_option linter.unusedVariables false

variable {H : Heap} {vb vt : AV}

def endI (up : Bool) : Int := if up then 1 else 0

theorem ref_heats_loop (s : Stl) (hvb : vb.scalar = true) (hvt : SlOk H 4 vt (s.ts.map Tch.av)) (hl2 : s.ts.length ≤ 1000) (up : Bool) :
    ∀ (n j : Nat) (len : Nat) (xs : List AV), j + n = s.ts.length → xs = ((s.ts.take j).map (·.h (endI up))).map I → len = xs.length → ∀ (E : Env), E.get 1 = .bool up → E.get 2 = .ptr H.length 0 → E.get 5 = .gsl (H.length + 1) len → E.get 6 = I j →
    Option.map (finishC H.length) (execL cfg0 prog0 ⟨96, none, false, H.length⟩ (todoAt Try.f96 3) ⟨E, [], H ++ [.box (.agg [vb, I s.near, I s.last, vt]), .grow 1 xs], none⟩) =
      some ⟨.ret (.sl false ((s.ts.map (·.h (endI up))).map I)), H, none⟩ := by
  intro n
  have st := hvt.scal
  induction n with
  | zero =>
    intro j len xs hj hx hlen E g1 g2 g5 g6
    have hk' : ¬ (j : Int) < s.ts.length := by omega
    rw [show j = s.ts.length by omega, List.take_length] at hx
    simp only [loopIt, todoPast, todoAt, todoOf, firstReg, ↓reduceIte, Option.some.injEq, Nat.reduceEqDiff, reduceCtorEq, Try.f96]
    rw [execL_inLoop]
    subst hlen
    simp only [go_sem, ↓reduceIte, Nat.reduceEqDiff, Nat.reduceAdd, Nat.reduceLeDiff, Nat.reduceBEq, Nat.reduceMul, Nat.reduceLT, Int.reduceLT, Int.reduceLE, Int.reduceToNat, Int.reduceNeg, Int.reduceEq, Int.reduceMul, reduceCtorEq, Int.reduceBEq, Int.reduceBNe, Int.reduceAdd, Int.reduceSub, bne_self_eq_false, beq_self_eq_true, Nat.le_add_right, eqOk, fn96, res96, gc96, grow96_4, grow96_5, grow96_6, ty3, ty22, ty23, ty25, ty29, ty49, ty56, ty63, g1, g2, g5, g6, hk', hvt.len, List.length_map, hx]
  | succ n ih =>
    intro j len xs hj hx hlen E g1 g2 g5 g6
    have hk' : (j : Int) < s.ts.length := by omega
    have hk2 : j < s.ts.length := by omega
    have hxl : xs.length = j := by rw [hx]; simp; omega
    obtain ⟨-, -, a3, a4, a5⟩ := hvt.at (k := (j : Int)) (x := Tch.av s.ts[j]) (by omega) (by simp [hk2])
    have hj1 : IntKind.i64.wrap ((j : Int) + 1) = ((j + 1 : Nat) : Int) := by rw [w64 (by omega) (by omega)]; omega
    have hof : ∀ x : Int, addElem (H ++ [.box (.agg [vb, I s.near, I s.last, vt]), .grow 1 xs]) 1 false (.gsl (H.length + 1) len) [I x] = some (.gsl (H.length + 1) (len + 1), H ++ [.box (.agg [vb, I s.near, I s.last, vt]), .grow 1 (xs ++ [I x])]) := by
      intro x
      rw [add_gsl (by simp [get_at']) hlen.symm rfl rfl (by simp; omega), set_at']
      rfl
    have hnext : ∀ x : Int, s.ts[j].h (endI up) = x → xs ++ [I x] = ((s.ts.take (j + 1)).map (·.h (endI up))).map I := by
      intro x hx'
      rw [List.take_add_one, List.getElem?_eq_getElem hk2, hx, ← hx', List.map_append, List.map_append]; rfl
    simp only [loopIt, todoPast, todoAt, todoOf, firstReg, ↓reduceIte, Option.some.injEq, Nat.reduceEqDiff, reduceCtorEq, Try.f96]
    rw [execL_inLoop]
    cases up with
    | false =>
      simp only [go_sem, ↓reduceIte, Nat.reduceEqDiff, Nat.reduceAdd, Nat.reduceLeDiff, Nat.reduceBEq, Nat.reduceMul, Nat.reduceLT, Int.reduceLT, Int.reduceLE, Int.reduceToNat, Int.reduceNeg, Int.reduceEq, Int.reduceMul, reduceCtorEq, Int.reduceBEq, Int.reduceBNe, Int.reduceAdd, Int.reduceSub, bne_self_eq_false, beq_self_eq_true, Nat.le_add_right, eqOk, fn96, res96, gc96, grow96_4, grow96_5, grow96_6, ty3, ty22, ty23, ty25, ty29, ty49, ty56, ty63, g1, g2, g5, g6, hk', hvt.len, List.length_map, a3, a4, a5, Tch.av, hof, hj1]
      exact ih (j + 1) (len + 1) _ (by omega) (hnext _ rfl) (by rw [hlen]; simp) _ (by exact g1) (by exact g2) (by rfl) (by rfl)
    | true =>
      simp only [go_sem, ↓reduceIte, Nat.reduceEqDiff, Nat.reduceAdd, Nat.reduceLeDiff, Nat.reduceBEq, Nat.reduceMul, Nat.reduceLT, Int.reduceLT, Int.reduceLE, Int.reduceToNat, Int.reduceNeg, Int.reduceEq, Int.reduceMul, reduceCtorEq, Int.reduceBEq, Int.reduceBNe, Int.reduceAdd, Int.reduceSub, bne_self_eq_false, beq_self_eq_true, Nat.le_add_right, eqOk, fn96, res96, gc96, grow96_4, grow96_5, grow96_6, ty3, ty22, ty23, ty25, ty29, ty49, ty56, ty63, g1, g2, g5, g6, hk', hvt.len, List.length_map, a3, a4, a5, Tch.av, hof, hj1]
      exact ih (j + 1) (len + 1) _ (by omega) (hnext _ rfl) (by rw [hlen]; simp) _ (by exact g1) (by exact g2) (by rfl) (by rfl)

theorem ref_heats (s : Stl) (hvb : vb.scalar = true) (hvt : SlOk H 4 vt (s.ts.map Tch.av)) (hl2 : s.ts.length ≤ 1000) (up : Bool) :
    callFL cfg0 prog0 false 96 [.agg [vb, I s.near, I s.last, vt], .bool up] H none = some ⟨.ret (.sl false ((s.ts.map (·.h (endI up))).map I)), H, none⟩ := by
  have st := hvt.scal
  refine (callFL_eq fn96 rfl (by simp [Try.f96])).trans ?_
  simp only [go_sem, ↓reduceIte, Nat.reduceEqDiff, Nat.reduceAdd, Nat.reduceLeDiff, Nat.reduceBEq, Nat.reduceMul, Nat.reduceLT, Int.reduceLT, Int.reduceLE, Int.reduceToNat, Int.reduceNeg, Int.reduceEq, Int.reduceMul, reduceCtorEq, Int.reduceBEq, Int.reduceBNe, Int.reduceAdd, Int.reduceSub, bne_self_eq_false, beq_self_eq_true, Nat.le_add_right, eqOk, fn96, res96, gc96, grow96_4, grow96_5, grow96_6, ty3, ty22, ty23, ty25, ty29, ty49, ty56, ty63, hvb, st]
  exact ref_heats_loop s hvb hvt hl2 up s.ts.length 0 0 [] (by omega) (by simp) rfl _ (by rfl) (by rfl) (by rfl) (by rfl)

theorem heats_cons (t : Tch) (r : List Tch) (blk m e : Int) : heats (t :: r) blk m e = (if t.b = blk ∧ t.m = m then [t.h e] else []) ++ heats r blk m e := by
  by_cases h1 : t.b = blk <;> by_cases h2 : t.m = m <;> simp [heats, h1, h2]

/-- What the heats of a minute come to, from the touch j on. -/
theorem heats_drop {ts : List Tch} {j : Nat} (hj : j < ts.length) (blk m e : Int) : (heats (ts.drop j) blk m e).sum = (if ts[j].b = blk ∧ ts[j].m = m then ts[j].h e else 0) + (heats (ts.drop (j + 1)) blk m e).sum := by
  rw [List.drop_eq_getElem_cons hj, heats_cons, List.sum_append]
  split <;> simp

theorem ref_In_l2 (K : List Item) (R : Option Done) (G : Heap) (s : Stl) (hvb : vb.scalar = true) (hvt : SlOk H 4 vt (s.ts.map Tch.av)) (hl2 : s.ts.length ≤ 1000) (vh : AV) (e : Int) (hvh : SlOk H 1 vh ((s.ts.map (·.h e)).map I)) (hb : ∀ t ∈ s.ts, -100 ≤ t.h e ∧ t.h e ≤ 100)
    (blk k mi : Int) (m : Nat) (acc0 : Int) (hac : -800000 ≤ acc0 ∧ acc0 ≤ 800000)
    (hK : ∀ E : Env, E.get 1 = I blk → E.get 2 = I mi → E.get 4 = I k → E.get 5 = vh → E.get 6 = .ptr H.length 0 → E.get 13 = I ((heats s.ts blk m e).sum + acc0) → E.get 14 = I m → Option.map (finishC H.length) (execL cfg0 prog0 ⟨95, none, false, H.length⟩ K ⟨E, [], H ++ (.box (.agg [vb, I s.near, I s.last, vt]) :: G), none⟩) = R) :
    ∀ (n j : Nat) (acc : Int), j + n = s.ts.length → acc + (heats (s.ts.drop j) blk m e).sum = (heats s.ts blk m e).sum + acc0 → -800000 - 100 * j ≤ acc ∧ acc ≤ 800000 + 100 * j → ∀ E : Env, E.get 1 = I blk → E.get 2 = I mi → E.get 4 = I k → E.get 5 = vh → E.get 6 = .ptr H.length 0 → E.get 13 = I acc → E.get 14 = I m → E.get 15 = I j →
    Option.map (finishC H.length) (execL cfg0 prog0 ⟨95, none, false, H.length⟩ (loopIt Try.f95 8 :: .inBlock 2 :: K) ⟨E, [], H ++ (.box (.agg [vb, I s.near, I s.last, vt]) :: G), none⟩) = R := by
  intro n
  have st := hvt.scal
  induction n with
  | zero =>
    intro j acc hj hs hbd E g1 g2 g4 g5 g6 g13 g14 g15
    have hk' : ¬ (j : Int) < s.ts.length := by omega
    rw [List.drop_eq_nil_of_le (by omega)] at hs
    have hs' : acc = (heats s.ts blk m e).sum + acc0 := by simpa [heats] using hs
    simp only [loopIt, todoPast, todoAt, todoOf, firstReg, ↓reduceIte, Option.some.injEq, Nat.reduceEqDiff, reduceCtorEq, Try.f95]
    rw [execL_inLoop]
    simp only [go_sem, ↓reduceIte, Nat.reduceEqDiff, Nat.reduceAdd, Nat.reduceLeDiff, Nat.reduceBEq, Nat.reduceMul, Nat.reduceLT, Int.reduceLT, Int.reduceLE, Int.reduceToNat, Int.reduceNeg, Int.reduceEq, Int.reduceMul, reduceCtorEq, Int.reduceBEq, Int.reduceBNe, Int.reduceAdd, Int.reduceSub, bne_self_eq_false, beq_self_eq_true, Nat.le_add_right, eqOk, fn95, res95, gc95, grow95, ty3, ty22, ty23, ty25, ty29, ty49, ty56, ty63, g1, g2, g4, g5, g6, g13, g14, g15, hk', hvt.len, List.length_map]
    exact hK _ g1 g2 g4 g5 g6 (by rw [← hs']; exact g13) g14
  | succ n ih =>
    intro j acc hj hs hbd E g1 g2 g4 g5 g6 g13 g14 g15
    have hk' : (j : Int) < s.ts.length := by omega
    have hk2 : j < s.ts.length := by omega
    obtain ⟨a1, a2, a3, a4, a5⟩ := hvt.at (k := (j : Int)) (x := Tch.av s.ts[j]) (by omega) (by simp [hk2])
    obtain ⟨b1, b2, b3, b4, b5⟩ := hvh.at (k := (j : Int)) (x := I (s.ts[j].h e)) (by omega) (by simp [hk2])
    have hj1 : IntKind.i64.wrap ((j : Int) + 1) = ((j + 1 : Nat) : Int) := by rw [w64 (by omega) (by omega)]; omega
    have ht := hb s.ts[j] (List.getElem_mem _)
    have e1 : IntKind.i64.wrap (acc + s.ts[j].h e) = acc + s.ts[j].h e := w64 (by omega) (by omega)
    rw [heats_drop hk2] at hs
    simp only [loopIt, todoPast, todoAt, todoOf, firstReg, ↓reduceIte, Option.some.injEq, Nat.reduceEqDiff, reduceCtorEq, Try.f95]
    rw [execL_inLoop]
    by_cases h1 : s.ts[j].b = blk
    · by_cases h2 : s.ts[j].m = m
      · have c1 : (s.ts[j].b == blk) = true := by simp [h1]
        have c2 : (s.ts[j].m == (m : Int)) = true := by simp [h2]
        rw [if_pos ⟨h1, h2⟩] at hs
        simp only [go_sem, ↓reduceIte, Nat.reduceEqDiff, Nat.reduceAdd, Nat.reduceLeDiff, Nat.reduceBEq, Nat.reduceMul, Nat.reduceLT, Int.reduceLT, Int.reduceLE, Int.reduceToNat, Int.reduceNeg, Int.reduceEq, Int.reduceMul, reduceCtorEq, Int.reduceBEq, Int.reduceBNe, Int.reduceAdd, Int.reduceSub, bne_self_eq_false, beq_self_eq_true, Nat.le_add_right, eqOk, fn95, res95, gc95, grow95, ty3, ty22, ty23, ty25, ty29, ty49, ty56, ty63, g1, g2, g4, g5, g6, g13, g14, g15, hk', hvt.len, List.length_map, a3, a4, a5, b3, b4, b5, Tch.av, c1, c2, e1, hj1]
        exact ih (j + 1) (acc + s.ts[j].h e) (by omega) (by omega) (by omega) _ (by exact g1) (by exact g2) (by exact g4) (by exact g5) (by exact g6) (by rfl) (by exact g14) (by rfl)
      · have c1 : (s.ts[j].b == blk) = true := by simp [h1]
        have c2 : (s.ts[j].m == (m : Int)) = false := by simp [h2]
        rw [if_neg (by simp [h2])] at hs
        simp only [go_sem, ↓reduceIte, Nat.reduceEqDiff, Nat.reduceAdd, Nat.reduceLeDiff, Nat.reduceBEq, Nat.reduceMul, Nat.reduceLT, Int.reduceLT, Int.reduceLE, Int.reduceToNat, Int.reduceNeg, Int.reduceEq, Int.reduceMul, reduceCtorEq, Int.reduceBEq, Int.reduceBNe, Int.reduceAdd, Int.reduceSub, bne_self_eq_false, beq_self_eq_true, Nat.le_add_right, eqOk, fn95, res95, gc95, grow95, ty3, ty22, ty23, ty25, ty29, ty49, ty56, ty63, g1, g2, g4, g5, g6, g13, g14, g15, hk', hvt.len, List.length_map, a3, a4, a5, Tch.av, c1, c2, hj1]
        exact ih (j + 1) acc (by omega) (by omega) (by omega) _ (by exact g1) (by exact g2) (by exact g4) (by exact g5) (by exact g6) (by exact g13) (by exact g14) (by rfl)
    · have c1 : (s.ts[j].b == blk) = false := by simp [h1]
      rw [if_neg (by simp [h1])] at hs
      simp only [go_sem, ↓reduceIte, Nat.reduceEqDiff, Nat.reduceAdd, Nat.reduceLeDiff, Nat.reduceBEq, Nat.reduceMul, Nat.reduceLT, Int.reduceLT, Int.reduceLE, Int.reduceToNat, Int.reduceNeg, Int.reduceEq, Int.reduceMul, reduceCtorEq, Int.reduceBEq, Int.reduceBNe, Int.reduceAdd, Int.reduceSub, bne_self_eq_false, beq_self_eq_true, Nat.le_add_right, eqOk, fn95, res95, gc95, grow95, ty3, ty22, ty23, ty25, ty29, ty49, ty56, ty63, g1, g2, g4, g5, g6, g13, g14, g15, hk', hvt.len, List.length_map, a3, a4, a5, Tch.av, c1, hj1]
      exact ih (j + 1) acc (by omega) (by omega) (by omega) _ (by exact g1) (by exact g2) (by exact g4) (by exact g5) (by exact g6) (by exact g13) (by exact g14) (by rfl)

theorem ref_In_l1 (s : Stl) (hvb : vb.scalar = true) (hvt : SlOk H 4 vt (s.ts.map Tch.av)) (hl2 : s.ts.length ≤ 7) (vh : AV) (e : Int) (hvh : SlOk H 1 vh ((s.ts.map (·.h e)).map I)) (hw : ∀ t ∈ s.ts, -100 ≤ t.h0 ∧ t.h0 ≤ t.h1 ∧ t.h1 ≤ 100)
    (blk k b0 : Int) (hk : 1 ≤ k ∧ k ≤ 100) (hb0 : -100 ≤ b0 ∧ b0 ≤ 100) (mi : Nat) (hmi : mi ≤ 100) :
    ∀ (n m : Nat) (x : Int), m + n = mi + 1 → x = (if m = 0 then b0 else exc s.ts blk b0 k e (m - 1)) → ∀ E : Env, E.get 1 = I blk → E.get 2 = I mi → E.get 4 = I k → E.get 5 = vh → E.get 6 = .ptr H.length 0 → E.get 13 = I x → E.get 14 = I m →
    Option.map (finishC H.length) (execL cfg0 prog0 ⟨95, none, false, H.length⟩ (todoAt Try.f95 3) ⟨E, [], H ++ [.box (.agg [vb, I s.near, I s.last, vt])], none⟩) = some ⟨.ret (I (exc s.ts blk b0 k e mi)), H, none⟩ := by
  intro n
  have st := hvt.scal
  induction n with
  | zero =>
    intro m x hm hx E g1 g2 g4 g5 g6 g13 g14
    have hk' : ¬ (m : Int) ≤ mi := by omega
    rw [if_neg (by omega), show m - 1 = mi by omega] at hx
    subst hx
    simp only [loopIt, todoPast, todoAt, todoOf, firstReg, ↓reduceIte, Option.some.injEq, Nat.reduceEqDiff, reduceCtorEq, Try.f95]
    rw [execL_inLoop]
    simp only [go_sem, ↓reduceIte, Nat.reduceEqDiff, Nat.reduceAdd, Nat.reduceLeDiff, Nat.reduceBEq, Nat.reduceMul, Nat.reduceLT, Int.reduceLT, Int.reduceLE, Int.reduceToNat, Int.reduceNeg, Int.reduceEq, Int.reduceMul, reduceCtorEq, Int.reduceBEq, Int.reduceBNe, Int.reduceAdd, Int.reduceSub, bne_self_eq_false, beq_self_eq_true, Nat.le_add_right, eqOk, fn95, res95, gc95, grow95, ty3, ty22, ty23, ty25, ty29, ty49, ty56, ty63, g1, g2, g4, g5, g6, g13, g14, hk']
  | succ n ih =>
    intro m x hm hx E g1 g2 g4 g5 g6 g13 g14
    have hk' : (m : Int) ≤ mi := by omega
    have hb : ∀ t ∈ s.ts, -100 ≤ t.h e ∧ t.h e ≤ 100 := fun t ht => Tch.h_bd (hw t ht)
    have hm1 : IntKind.i64.wrap ((m : Int) + 1) = ((m + 1 : Nat) : Int) := by rw [w64 (by omega) (by omega)]; omega
    simp only [loopIt, todoPast, todoAt, todoOf, firstReg, ↓reduceIte, Option.some.injEq, Nat.reduceEqDiff, reduceCtorEq, Try.f95]
    rw [execL_inLoop]
    cases m with
    | zero =>
      rw [if_pos rfl] at hx
      subst hx
      have hk0 : (0 : Int) ≤ mi := by omega
      simp only [go_sem, ↓reduceIte, Nat.reduceEqDiff, Nat.reduceAdd, Nat.reduceLeDiff, Nat.reduceBEq, Nat.reduceMul, Nat.reduceLT, Int.reduceLT, Int.reduceLE, Int.reduceToNat, Int.reduceNeg, Int.reduceEq, Int.reduceMul, reduceCtorEq, Int.reduceBEq, Int.reduceBNe, Int.reduceAdd, Int.reduceSub, bne_self_eq_false, beq_self_eq_true, Nat.le_add_right, eqOk, fn95, res95, gc95, grow95, ty3, ty22, ty23, ty25, ty29, ty49, ty56, ty63, g1, g2, g4, g5, g6, g13, g14, hk0, Int.natCast_zero, lt_irr]
      refine ref_In_l2 (H := H) (vb := vb) (vt := vt) _ _ [] s hvb hvt (by omega) vh e hvh hb blk k mi 0 x (by omega) (fun E g1 g2 g4 g5 g6 g13 g14 => ?_) s.ts.length 0 x (by omega) (by rw [List.drop_zero]; omega) (by omega) _ (by exact g1) (by exact g2) (by exact g4) (by exact g5) (by exact g6) (by exact g13) (by exact g14) (by rfl)
      simp only [go_sem, ↓reduceIte, Nat.reduceEqDiff, Nat.reduceAdd, Nat.reduceLeDiff, Nat.reduceBEq, Nat.reduceMul, Nat.reduceLT, Int.reduceLT, Int.reduceLE, Int.reduceToNat, Int.reduceNeg, Int.reduceEq, Int.reduceMul, reduceCtorEq, Int.reduceBEq, Int.reduceBNe, Int.reduceAdd, Int.reduceSub, bne_self_eq_false, beq_self_eq_true, Nat.le_add_right, eqOk, fn95, res95, gc95, grow95, ty3, ty22, ty23, ty25, ty29, ty49, ty56, ty63, g1, g2, g4, g5, g6, g13, g14, Int.natCast_zero, Int.zero_add]
      exact ih 1 ((heats s.ts blk ((0 : Nat) : Int) e).sum + x) (by omega) (by simp [exc]) _ (by exact g1) (by exact g2) (by exact g4) (by exact g5) (by exact g6) (by exact g13) (by rfl)
    | succ m =>
      rw [if_neg (by omega), Nat.add_sub_cancel] at hx
      have hbd := exc_bd (blk := blk) (b0 := b0) (k := k) (e := e) hw (by omega) hb0 hk.1 m
      have hf := fallsZ_bd (x := x) hk.1
      have hF := fun G => f78 x k G (by omega) (by omega) hk.1 (by omega)
      have hpos : (0 : Int) < ((m + 1 : Nat) : Int) := by omega
      simp only [go_sem, ↓reduceIte, Nat.reduceEqDiff, Nat.reduceAdd, Nat.reduceLeDiff, Nat.reduceBEq, Nat.reduceMul, Nat.reduceLT, Int.reduceLT, Int.reduceLE, Int.reduceToNat, Int.reduceNeg, Int.reduceEq, Int.reduceMul, reduceCtorEq, Int.reduceBEq, Int.reduceBNe, Int.reduceAdd, Int.reduceSub, bne_self_eq_false, beq_self_eq_true, Nat.le_add_right, eqOk, fn95, res95, gc95, grow95, ty3, ty22, ty23, ty25, ty29, ty49, ty56, ty63, g1, g2, g4, g5, g6, g13, g14, hk', hpos, hF]
      refine ref_In_l2 (H := H) (vb := vb) (vt := vt) _ _ [] s hvb hvt (by omega) vh e hvh hb blk k mi (m + 1) (fallsZ x k) (by omega) (fun E g1 g2 g4 g5 g6 g13 g14 => ?_) s.ts.length 0 (fallsZ x k) (by omega) (by rw [List.drop_zero]; omega) (by omega) _ (by exact g1) (by exact g2) (by exact g4) (by exact g5) (by exact g6) (by rfl) (by exact g14) (by rfl)
      simp only [go_sem, ↓reduceIte, Nat.reduceEqDiff, Nat.reduceAdd, Nat.reduceLeDiff, Nat.reduceBEq, Nat.reduceMul, Nat.reduceLT, Int.reduceLT, Int.reduceLE, Int.reduceToNat, Int.reduceNeg, Int.reduceEq, Int.reduceMul, reduceCtorEq, Int.reduceBEq, Int.reduceBNe, Int.reduceAdd, Int.reduceSub, bne_self_eq_false, beq_self_eq_true, Nat.le_add_right, eqOk, fn95, res95, gc95, grow95, ty3, ty22, ty23, ty25, ty29, ty49, ty56, ty63, g1, g2, g4, g5, g6, g13, g14, hm1]
      exact ih (m + 1 + 1) ((heats s.ts blk ((m + 1 : Nat) : Int) e).sum + fallsZ x k) (by omega) (by simp [exc, hx]) _ (by exact g1) (by exact g2) (by exact g4) (by exact g5) (by exact g6) (by exact g13) (by rfl)

theorem ref_In (s : Stl) (hvb : vb.scalar = true) (hvt : SlOk H 4 vt (s.ts.map Tch.av)) (hl2 : s.ts.length ≤ 7) (vh : AV) (e : Int) (hvh : SlOk H 1 vh ((s.ts.map (·.h e)).map I)) (hw : ∀ t ∈ s.ts, -100 ≤ t.h0 ∧ t.h0 ≤ t.h1 ∧ t.h1 ≤ 100)
    (blk k b0 : Int) (hk : 1 ≤ k ∧ k ≤ 100) (hb0 : -100 ≤ b0 ∧ b0 ≤ 100) (mi : Nat) (hmi : mi ≤ 100) :
    callFL cfg0 prog0 false 95 [.agg [vb, I s.near, I s.last, vt], I blk, I mi, I b0, I k, vh] H none = some ⟨.ret (I (exc s.ts blk b0 k e mi)), H, none⟩ := by
  have st := hvt.scal
  have sh := hvh.scal
  refine (callFL_eq fn95 rfl (by simp [Try.f95])).trans ?_
  simp only [go_sem, ↓reduceIte, Nat.reduceEqDiff, Nat.reduceAdd, Nat.reduceLeDiff, Nat.reduceBEq, Nat.reduceMul, Nat.reduceLT, Int.reduceLT, Int.reduceLE, Int.reduceToNat, Int.reduceNeg, Int.reduceEq, Int.reduceMul, reduceCtorEq, Int.reduceBEq, Int.reduceBNe, Int.reduceAdd, Int.reduceSub, bne_self_eq_false, beq_self_eq_true, Nat.le_add_right, eqOk, fn95, res95, gc95, grow95, ty3, ty22, ty23, ty25, ty29, ty49, ty56, ty63, hvb, st, sh]
  exact ref_In_l1 s hvb hvt hl2 vh e hvh hw blk k b0 hk hb0 mi hmi (mi + 1) 0 b0 (by omega) (by simp) _ (by rfl) (by rfl) (by rfl) (by rfl) (by rfl) (by rfl) (by rfl)

end Go.Ab
/-
  The references of the layer settle: spans.
-/
namespace Go.Ab
open Go.Proofs
set_option linter.unusedSimpArgs false
set_option linter.unusedVariables false

variable {H : Heap} {vb vt : AV}

theorem ref_hull_loop (v : AV) (l : List Int) (hv : SlOk H 1 v (l.map I)) (hl : l.length ≤ 1000) :
    ∀ (n j : Nat) (lo hi : Int), j + n = l.length → ∀ E : Env, E.get 0 = v → E.get 2 = .ptr H.length 0 → E.get 3 = .ptr (H.length + 1) 0 → E.get 4 = I j →
    Option.map (finishC H.length) (execL cfg0 prog0 ⟨55, none, false, H.length⟩ (todoAt Try.f55 3) ⟨E, [], H ++ [.box (.agg [I 0, I 0]), .box (.agg [I lo, I hi])], none⟩) =
      some ⟨.ret (.agg [I (lows (l.drop j) lo), I (highs (l.drop j) hi)]), H, none⟩ := by
  intro n
  induction n with
  | zero =>
    intro j lo hi hj E g0 g2 g3 g4
    have hk' : ¬ (j : Int) < l.length := by omega
    rw [List.drop_eq_nil_of_le (by omega)]
    simp only [loopIt, todoPast, todoAt, todoOf, firstReg, ↓reduceIte, Option.some.injEq, Nat.reduceEqDiff, reduceCtorEq, Try.f55]
    rw [execL_inLoop]
    simp only [go_sem, ↓reduceIte, Nat.reduceEqDiff, Nat.reduceAdd, Nat.reduceLeDiff, Nat.reduceBEq, Nat.reduceMul, Nat.reduceLT, Int.reduceLT, Int.reduceLE, Int.reduceToNat, Int.reduceNeg, Int.reduceEq, Int.reduceMul, reduceCtorEq, Int.reduceBEq, Int.reduceBNe, Int.reduceAdd, Int.reduceSub, bne_self_eq_false, beq_self_eq_true, Nat.le_add_right, eqOk, fn55, res55, gc55, grow55, ty3, ty29, ty49, plan55_1, plan55_5, g0, g2, g3, g4, hk', hv.len, List.length_map]
    rfl
  | succ n ih =>
    intro j lo hi hj E g0 g2 g3 g4
    have hk' : (j : Int) < l.length := by omega
    have hk2 : j < l.length := by omega
    obtain ⟨a1, a2, a3, a4, a5⟩ := hv.at (k := (j : Int)) (x := I l[j]) (by omega) (by simp [hk2])
    have hj1 : IntKind.i64.wrap ((j : Int) + 1) = ((j + 1 : Nat) : Int) := by rw [w64 (by omega) (by omega)]; omega
    rw [List.drop_eq_getElem_cons hk2, lows_cons, highs_cons]
    simp only [loopIt, todoPast, todoAt, todoOf, firstReg, ↓reduceIte, Option.some.injEq, Nat.reduceEqDiff, reduceCtorEq, Try.f55]
    rw [execL_inLoop]
    simp only [go_sem, ↓reduceIte, Nat.reduceEqDiff, Nat.reduceAdd, Nat.reduceLeDiff, Nat.reduceBEq, Nat.reduceMul, Nat.reduceLT, Int.reduceLT, Int.reduceLE, Int.reduceToNat, Int.reduceNeg, Int.reduceEq, Int.reduceMul, reduceCtorEq, Int.reduceBEq, Int.reduceBNe, Int.reduceAdd, Int.reduceSub, bne_self_eq_false, beq_self_eq_true, Nat.le_add_right, eqOk, fn55, res55, gc55, grow55, ty3, ty29, ty49, plan55_1, plan55_5, g0, g2, g3, g4, hk', hv.len, List.length_map]
    rw [chkK_of]; rotate_left; kernel_rfl
    simp only [go_sem, ↓reduceIte, Nat.reduceEqDiff, Nat.reduceAdd, Nat.reduceLeDiff, Nat.reduceBEq, Nat.reduceMul, Nat.reduceLT, Int.reduceLT, Int.reduceLE, Int.reduceToNat, Int.reduceNeg, Int.reduceEq, Int.reduceMul, reduceCtorEq, Int.reduceBEq, Int.reduceBNe, Int.reduceAdd, Int.reduceSub, bne_self_eq_false, beq_self_eq_true, Nat.le_add_right, eqOk, fn55, res55, gc55, grow55, ty3, ty29, ty49, plan55_1, plan55_5, g0, g2, g3, g4, hk', hv.len, List.length_map, a3, a4, a5, hj1]
    exact ih (j + 1) _ _ (by omega) _ (by exact g0) (by exact g2) (by exact g3) (by rfl)

theorem ref_hull (v : AV) (l : List Int) (x : Int) (r : List Int) (hx : l = x :: r) (hv : SlOk H 1 v (l.map I)) (hl : l.length ≤ 1000) :
    callFL cfg0 prog0 false 55 [v] H none = some ⟨.ret (.agg [I (lows l x), I (highs l x)]), H, none⟩ := by
  obtain ⟨a1, a2, a3, a4, a5⟩ := hv.at (k := 0) (x := I x) (by omega) (by rw [hx]; rfl)
  have sv := hv.scal
  have hl0 := hv.ltn
  refine (callFL_eq fn55 rfl (by simp [Try.f55])).trans ?_
  simp only [go_sem, ↓reduceIte, Nat.reduceEqDiff, Nat.reduceAdd, Nat.reduceLeDiff, Nat.reduceBEq, Nat.reduceMul, Nat.reduceLT, Int.reduceLT, Int.reduceLE, Int.reduceToNat, Int.reduceNeg, Int.reduceEq, Int.reduceMul, reduceCtorEq, Int.reduceBEq, Int.reduceBNe, Int.reduceAdd, Int.reduceSub, bne_self_eq_false, beq_self_eq_true, Nat.le_add_right, eqOk, fn55, res55, gc55, grow55, ty3, ty29, ty49, plan55_1, plan55_5, a3, a4, a5, sv]
  rw [chkK_of]; rotate_left; kernel_rfl
  simp only [go_sem, ↓reduceIte, Nat.reduceEqDiff, Nat.reduceAdd, Nat.reduceLeDiff, Nat.reduceBEq, Nat.reduceMul, Nat.reduceLT, Int.reduceLT, Int.reduceLE, Int.reduceToNat, Int.reduceNeg, Int.reduceEq, Int.reduceMul, reduceCtorEq, Int.reduceBEq, Int.reduceBNe, Int.reduceAdd, Int.reduceSub, bne_self_eq_false, beq_self_eq_true, Nat.le_add_right, eqOk, fn55, res55, gc55, grow55, ty3, ty29, ty49, plan55_1, plan55_5, a3, a4, a5, sv]
  exact (ref_hull_loop v l hv hl l.length 0 x x (by omega) _ (by rfl) (by rfl) (by rfl) (by rfl)).trans (by rw [List.drop_zero])

def fLo (s : Stl) (blk : Int) (b : Blk) (m : Nat) (j : Nat) : Int := exc s.ts blk (b.x 0) (b.s0 + j) 0 m
def fHi (s : Stl) (blk : Int) (b : Blk) (m : Nat) (j : Nat) : Int := exc s.ts blk (b.x 1) (b.s0 + j) 1 m

theorem ref_warm_loop (s : Stl) (hs : s.Wf) (hvb : SlOk H 6 vb (s.bs.map Blk.av)) (hvt : SlOk H 4 vt (s.ts.map Tch.av)) (blk : Int) (b : Blk) (h0 : 0 ≤ blk) (hb : s.bs[blk.toNat]? = some b) (m : Nat) (hm : m ≤ 60) :
    ∀ (n j : Nat) (len : Nat) (xs : List AV), j + n = b.n → xs = (endsL (fLo s blk b m) (fHi s blk b m) j).map I → len = xs.length → ∀ E : Env, E.get 1 = I blk → E.get 2 = I m → E.get 3 = .ptr H.length 0 → E.get 6 = .ptr (H.length + 1) 0 → E.get 7 = .ptr (H.length + 2) 0 → E.get 8 = .gsl (H.length + 3) len → E.get 9 = I (b.s0 + j) →
    Option.map (finishC H.length) (execL cfg0 prog0 ⟨51, none, false, H.length⟩ (todoAt Try.f51 4) ⟨E, [], H ++ [.box (.agg [vb, I s.near, I s.last, vt]), .box (.agg [I 0, I 0]), .box b.av, .grow 1 xs], none⟩) =
      some ⟨.ret (.agg [I (warmLo s blk b m), I (warmHi s blk b m)]), H, none⟩ := by
  have hbo := hs.bs b (List.mem_of_getElem? hb)
  have hn := hbo.hn
  have sb := hvb.scal
  intro n
  induction n with
  | zero =>
    intro j len xs hj hx hlen E g1 g2 g3 g6 g7 g8 g9
    have hk' : ¬ b.s0 + (j : Int) ≤ b.s1 := by omega
    have hjn : j = b.n := by omega
    subst hjn
    have hnn : 1 ≤ b.n := by have := hbo.a5; omega
    have hle : ∀ j, fLo s blk b m j ≤ fHi s blk b m j := fun j => exc_le (fun t ht => (hs.ts t ht).2.1) (by have := hbo.a4; omega) (by have := hbo.a2; simpa [Blk.x] using this) blk m
    have e1 : lows (endsL (fLo s blk b m) (fHi s blk b m) b.n) (fLo s blk b m 0) = warmLo s blk b m := endsL_low hnn hle
    have e2 : highs (endsL (fLo s blk b m) (fHi s blk b m) b.n) (fLo s blk b m 0) = warmHi s blk b m := endsL_high hnn hle
    obtain ⟨r, hr⟩ := endsL_head (fLo s blk b m) (fHi s blk b m) b.n hnn
    have hl := endsL_len (fLo s blk b m) (fHi s blk b m) b.n
    have hH := ref_hull (H := H ++ [.box (.agg [vb, I s.near, I s.last, vt]), .box (.agg [I 0, I 0]), .box b.av, .grow 1 xs]) (.gsl (H.length + 3) len) (endsL (fLo s blk b m) (fHi s blk b m) b.n) (fLo s blk b m 0) r hr
      ⟨⟨by rw [get_at' 3, hx]; rfl, by rw [hlen, hx]⟩, by simp [AV.cells]⟩ (by have := hbo.a6; have := hbo.a4; omega)
    rw [e1, e2] at hH
    simp only [loopIt, todoPast, todoAt, todoOf, firstReg, ↓reduceIte, Option.some.injEq, Nat.reduceEqDiff, reduceCtorEq, Try.f51]
    rw [execL_inLoop]
    simp only [go_sem, ↓reduceIte, Nat.reduceEqDiff, Nat.reduceAdd, Nat.reduceLeDiff, Nat.reduceBEq, Nat.reduceMul, Nat.reduceLT, Int.reduceLT, Int.reduceLE, Int.reduceToNat, Int.reduceNeg, Int.reduceEq, Int.reduceMul, reduceCtorEq, Int.reduceBEq, Int.reduceBNe, Int.reduceAdd, Int.reduceSub, bne_self_eq_false, beq_self_eq_true, Nat.le_add_right, eqOk, fn51, res51, gc51, grow51_6, grow51_7, grow51_8, grow51_9, ty3, ty4, ty22, ty23, ty25, ty29, ty49, ty56, ty63, plan51_6, plan51_7, g1, g2, g3, g6, g7, g8, g9, Blk.av, hk'] at hH ⊢
    simp only [go_sem, ↓reduceIte, Nat.reduceEqDiff, Nat.reduceAdd, Nat.reduceLeDiff, Nat.reduceBEq, Nat.reduceMul, Nat.reduceLT, Int.reduceLT, Int.reduceLE, Int.reduceToNat, Int.reduceNeg, Int.reduceEq, Int.reduceMul, reduceCtorEq, Int.reduceBEq, Int.reduceBNe, Int.reduceAdd, Int.reduceSub, bne_self_eq_false, beq_self_eq_true, Nat.le_add_right, eqOk, fn51, res51, gc51, grow51_6, grow51_7, grow51_8, grow51_9, ty3, ty4, ty22, ty23, ty25, ty29, ty49, ty56, ty63, plan51_6, plan51_7, hH, g1, g2, g3, g6, g7, g8, g9]
  | succ n ih =>
    intro j len xs hj hx hlen E g1 g2 g3 g6 g7 g8 g9
    have hk' : b.s0 + (j : Int) ≤ b.s1 := by omega
    have hlj := endsL_len (fLo s blk b m) (fHi s blk b m) j
    have hxl : xs.length = 2 * j := by rw [hx, List.length_map, hlj]
    have c1 := hbo.a1; have c2 := hbo.a2; have c3 := hbo.a3; have c4 := hbo.a4; have c6 := hbo.a6
    have hj1 : IntKind.i64.wrap (b.s0 + (j : Int) + 1) = b.s0 + ((j + 1 : Nat) : Int) := by rw [w64 (by omega) (by omega)]; omega
    have hHe := fun (G : Heap) (up : Bool) => ref_heats (H := H ++ G) s sb (hvt.app G) (by have := hs.len; omega) up
    have hI0 := fun (G : Heap) => ref_In (H := H ++ G) s sb (hvt.app G) hs.len (.sl false ((s.ts.map (·.h (endI false))).map I)) 0 ⟨rfl, by simp [AV.cells]⟩ hs.ts blk (b.s0 + j) b.x0 (by omega) (by omega) m (by omega)
    have hI1 := fun (G : Heap) => ref_In (H := H ++ G) s sb (hvt.app G) hs.len (.sl false ((s.ts.map (·.h (endI true))).map I)) 1 ⟨rfl, by simp [AV.cells]⟩ hs.ts blk (b.s0 + j) b.x1 (by omega) (by omega) m (by omega)
    have hof : ∀ (x : Int) (len : Nat) (xs : List AV), len = xs.length → len ≤ 1000 → addElem (H ++ [.box (.agg [vb, I s.near, I s.last, vt]), .box (.agg [I 0, I 0]), .box b.av, .grow 1 xs]) 1 false (.gsl (H.length + 3) len) [I x] = some (.gsl (H.length + 3) (len + 1), H ++ [.box (.agg [vb, I s.near, I s.last, vt]), .box (.agg [I 0, I 0]), .box b.av, .grow 1 (xs ++ [I x])]) := by
      intro x len xs hlen hle
      rw [add_gsl (by simp [get_at']) hlen.symm rfl rfl (by simp; omega), set_at']
      rfl
    have o1 := hof (exc s.ts blk b.x0 (b.s0 + j) 0 m) len xs hlen (by omega)
    have o2 := hof (exc s.ts blk b.x1 (b.s0 + j) 1 m) (len + 1) (xs ++ [I (exc s.ts blk b.x0 (b.s0 + j) 0 m)]) (by rw [hlen]; simp) (by omega)
    simp only [loopIt, todoPast, todoAt, todoOf, firstReg, ↓reduceIte, Option.some.injEq, Nat.reduceEqDiff, reduceCtorEq, Try.f51]
    rw [execL_inLoop]
    simp only [Blk.av] at o1 o2 ⊢
    simp only [go_sem, ↓reduceIte, Nat.reduceEqDiff, Nat.reduceAdd, Nat.reduceLeDiff, Nat.reduceBEq, Nat.reduceMul, Nat.reduceLT, Int.reduceLT, Int.reduceLE, Int.reduceToNat, Int.reduceNeg, Int.reduceEq, Int.reduceMul, reduceCtorEq, Int.reduceBEq, Int.reduceBNe, Int.reduceAdd, Int.reduceSub, bne_self_eq_false, beq_self_eq_true, Nat.le_add_right, eqOk, fn51, res51, gc51, grow51_6, grow51_7, grow51_8, grow51_9, ty3, ty4, ty22, ty23, ty25, ty29, ty49, ty56, ty63, plan51_6, plan51_7, g1, g2, g3, g6, g7, g8, g9, hk']
    rw [chkK_of]; rotate_left; kernel_rfl
    simp only [go_sem, ↓reduceIte, Nat.reduceEqDiff, Nat.reduceAdd, Nat.reduceLeDiff, Nat.reduceBEq, Nat.reduceMul, Nat.reduceLT, Int.reduceLT, Int.reduceLE, Int.reduceToNat, Int.reduceNeg, Int.reduceEq, Int.reduceMul, reduceCtorEq, Int.reduceBEq, Int.reduceBNe, Int.reduceAdd, Int.reduceSub, bne_self_eq_false, beq_self_eq_true, Nat.le_add_right, eqOk, fn51, res51, gc51, grow51_6, grow51_7, grow51_8, grow51_9, ty3, ty4, ty22, ty23, ty25, ty29, ty49, ty56, ty63, plan51_6, plan51_7, g1, g2, g3, g6, g7, g8, g9, hk', hHe, hI0, hI1, o1, o2]
    rw [chkK_of]; rotate_left; kernel_rfl
    simp only [go_sem, ↓reduceIte, Nat.reduceEqDiff, Nat.reduceAdd, Nat.reduceLeDiff, Nat.reduceBEq, Nat.reduceMul, Nat.reduceLT, Int.reduceLT, Int.reduceLE, Int.reduceToNat, Int.reduceNeg, Int.reduceEq, Int.reduceMul, reduceCtorEq, Int.reduceBEq, Int.reduceBNe, Int.reduceAdd, Int.reduceSub, bne_self_eq_false, beq_self_eq_true, Nat.le_add_right, eqOk, fn51, res51, gc51, grow51_6, grow51_7, grow51_8, grow51_9, ty3, ty4, ty22, ty23, ty25, ty29, ty49, ty56, ty63, plan51_6, plan51_7, g1, g2, g3, g6, g7, g8, g9, hk', hHe, hI0, hI1, o1, o2, hj1]
    refine ih (j + 1) (len + 1 + 1) _ (by omega) ?_ (by rw [hlen]; simp) _ (by exact g1) (by exact g2) (by exact g3) (by exact g6) (by exact g7) (by rfl) (by rfl)
    rw [endsL, List.map_append, ← hx]
    rfl

theorem ref_warm (s : Stl) (hs : s.Wf) (hvb : SlOk H 6 vb (s.bs.map Blk.av)) (hvt : SlOk H 4 vt (s.ts.map Tch.av)) (blk : Int) (b : Blk) (h0 : 0 ≤ blk) (hb : s.bs[blk.toNat]? = some b) (m : Nat) (hm : m ≤ 60) :
    callFL cfg0 prog0 false 51 [.agg [vb, I s.near, I s.last, vt], I blk, I m] H none = some ⟨.ret (.agg [I (warmLo s blk b m), I (warmHi s blk b m)]), H, none⟩ := by
  obtain ⟨a1, a2, a3, a4, a5⟩ := hvb.at (k := blk) (x := b.av) h0 (by simp [hb])
  have sb := hvb.scal
  have st := hvt.scal
  simp only [Blk.av] at a1 a2 a3 a4 a5
  refine (callFL_eq fn51 rfl (by simp [Try.f51])).trans ?_
  simp only [go_sem, ↓reduceIte, Nat.reduceEqDiff, Nat.reduceAdd, Nat.reduceLeDiff, Nat.reduceBEq, Nat.reduceMul, Nat.reduceLT, Int.reduceLT, Int.reduceLE, Int.reduceToNat, Int.reduceNeg, Int.reduceEq, Int.reduceMul, reduceCtorEq, Int.reduceBEq, Int.reduceBNe, Int.reduceAdd, Int.reduceSub, bne_self_eq_false, beq_self_eq_true, Nat.le_add_right, eqOk, fn51, res51, gc51, grow51_6, grow51_7, grow51_8, grow51_9, ty3, ty4, ty22, ty23, ty25, ty29, ty49, ty56, ty63, plan51_6, plan51_7, sb, st, a3, a4, a5]
  exact ref_warm_loop s hs hvb hvt blk b h0 hb m hm b.n 0 0 [] (by omega) rfl rfl _ (by rfl) (by rfl) (by rfl) (by rfl) (by rfl) (by rfl) (by simp [Env.get])

theorem ref_Excess (s : Stl) (hvb : SlOk H 6 vb (s.bs.map Blk.av)) (hvt : SlOk H 4 vt (s.ts.map Tch.av)) (hl : s.bs.length ≤ 1000) (hl2 : s.ts.length ≤ 1000) (n m : Int) :
    callFL cfg0 prog0 false 15 [.agg [vb, I s.near, I s.last, vt], I n, I m] H none = some ⟨.ret (.tup [.agg [I (s.excess n m).1, I (s.excess n m).2.1], I (s.excess n m).2.2]), H, none⟩ := by
  have sb := hvb.scal
  have st := hvt.scal
  have hB := fun (G : Heap) n => ref_Block (H := H ++ G) s (hvb.app G) st hl n
  have hM := fun (G : Heap) n => ref_Minute (H := H ++ G) s sb st n
  have hC := fun (G : Heap) b => ref_check (H := H ++ G) s (hvb.app G) (hvt.app G) hl hl2 b
  refine (callFL_eq fn15 rfl (by simp [Try.f15])).trans ?_
  simp only [go_sem, ↓reduceIte, Nat.reduceEqDiff, Nat.reduceAdd, Nat.reduceLeDiff, Nat.reduceBEq, Nat.reduceMul, Nat.reduceLT, Int.reduceLT, Int.reduceLE, Int.reduceToNat, Int.reduceNeg, Int.reduceEq, Int.reduceMul, reduceCtorEq, Int.reduceBEq, Int.reduceBNe, Int.reduceAdd, Int.reduceSub, bne_self_eq_false, beq_self_eq_true, Nat.le_add_right, eqOk, fn15, res15, gc15, grow15, ty3, ty4, ty22, ty23, ty25, ty29, ty30, ty56, ty63, plan15_1, sb, st]
  rw [chkK_of]; rotate_left; kernel_rfl
  simp only [Stl.excess]
  cases hb : s.inB n with
  | false => cases hv : s.valid <;> simp only [go_sem, ↓reduceIte, Nat.reduceEqDiff, Nat.reduceAdd, Nat.reduceLeDiff, Nat.reduceBEq, Nat.reduceMul, Nat.reduceLT, Int.reduceLT, Int.reduceLE, Int.reduceToNat, Int.reduceNeg, Int.reduceEq, Int.reduceMul, reduceCtorEq, Int.reduceBEq, Int.reduceBNe, Int.reduceAdd, Int.reduceSub, bne_self_eq_false, beq_self_eq_true, Nat.le_add_right, eqOk, fn15, res15, gc15, grow15, ty3, ty4, ty22, ty23, ty25, ty29, ty30, ty56, ty63, plan15_1, sb, st, hB, hM, hC, hb, hv]
  | true =>
    cases hm : s.inM m with
    | false => cases hv : s.valid <;> simp only [go_sem, ↓reduceIte, Nat.reduceEqDiff, Nat.reduceAdd, Nat.reduceLeDiff, Nat.reduceBEq, Nat.reduceMul, Nat.reduceLT, Int.reduceLT, Int.reduceLE, Int.reduceToNat, Int.reduceNeg, Int.reduceEq, Int.reduceMul, reduceCtorEq, Int.reduceBEq, Int.reduceBNe, Int.reduceAdd, Int.reduceSub, bne_self_eq_false, beq_self_eq_true, Nat.le_add_right, eqOk, fn15, res15, gc15, grow15, ty3, ty4, ty22, ty23, ty25, ty29, ty30, ty56, ty63, plan15_1, sb, st, hB, hM, hC, hb, hm, hv]
    | true =>
      cases hv : s.valid with
      | false => simp only [go_sem, ↓reduceIte, Nat.reduceEqDiff, Nat.reduceAdd, Nat.reduceLeDiff, Nat.reduceBEq, Nat.reduceMul, Nat.reduceLT, Int.reduceLT, Int.reduceLE, Int.reduceToNat, Int.reduceNeg, Int.reduceEq, Int.reduceMul, reduceCtorEq, Int.reduceBEq, Int.reduceBNe, Int.reduceAdd, Int.reduceSub, bne_self_eq_false, beq_self_eq_true, Nat.le_add_right, eqOk, fn15, res15, gc15, grow15, ty3, ty4, ty22, ty23, ty25, ty29, ty30, ty56, ty63, plan15_1, sb, st, hB, hM, hC, hb, hm, hv]
      | true =>
        have hw := Stl.valid_wf hv
        obtain ⟨h0, hbk⟩ := Stl.inB_blk hb
        obtain ⟨m', rfl, hm'⟩ := Stl.inM_nat hw hm
        have hW := fun (G : Heap) => ref_warm (H := H ++ G) s hw (hvb.app G) (hvt.app G) n (s.blk n) h0 hbk m' hm'
        simp only [go_sem, ↓reduceIte, Nat.reduceEqDiff, Nat.reduceAdd, Nat.reduceLeDiff, Nat.reduceBEq, Nat.reduceMul, Nat.reduceLT, Int.reduceLT, Int.reduceLE, Int.reduceToNat, Int.reduceNeg, Int.reduceEq, Int.reduceMul, reduceCtorEq, Int.reduceBEq, Int.reduceBNe, Int.reduceAdd, Int.reduceSub, bne_self_eq_false, beq_self_eq_true, Nat.le_add_right, eqOk, fn15, res15, gc15, grow15, ty3, ty4, ty22, ty23, ty25, ty29, ty30, ty56, ty63, plan15_1, sb, st, hB, hM, hC, hb, hm, hv, hW]
        rfl

end Go.Ab
/-
  The references of the layer settle: longer, when, all.
-/
namespace Go.Ab
open Go.Proofs
set_option linter.unusedSimpArgs false
set_option linter.unusedVariables false

variable {H : Heap} {vb vt : AV}

theorem downZ_eq (n : Int) : downZ n = n / 10 := by
  rcases Int.lt_or_le n 0 with h | h
  · obtain ⟨m, rfl⟩ : ∃ m, n = -m := ⟨-n, by omega⟩
    rw [downZ, Int.neg_tdiv, Int.neg_tmod, Int.tdiv_eq_ediv_of_nonneg (by omega), Int.tmod_eq_emod_of_nonneg (by omega)]
    split <;> omega
  · rw [downZ, Int.tdiv_eq_ediv_of_nonneg h, Int.tmod_eq_emod_of_nonneg h]
    split <;> omega

theorem downZ_mono {a b : Int} (h : a ≤ b) : downZ a ≤ downZ b := by
  rw [downZ_eq, downZ_eq]; omega

theorem downR_eq (n : Int) : (if 0 ≤ n then n.tdiv 10 else 0 - (9 - n).tdiv 10) = downZ n := by
  rw [downZ_eq]
  split
  · rename_i h; rw [Int.tdiv_eq_ediv_of_nonneg h]
  · rename_i h; rw [Int.tdiv_eq_ediv_of_nonneg (by omega)]; omega

theorem ref_Down (n : Int) (hn : -100000000 ≤ n ∧ n ≤ 100000000) : callFL cfg0 prog0 false 56 [I n] H none = some ⟨.ret (I (downZ n)), H, none⟩ := by
  have h := downR_eq n
  have hz := downZ_eq n
  refine (callFL_eq fn56 rfl (by simp [Try.f56])).trans ?_
  by_cases h0 : 0 ≤ n
  · rw [if_pos h0] at h
    have e1 : IntKind.i64.wrap (n.tdiv 10) = downZ n := by rw [h]; exact w64 (by omega) (by omega)
    simp only [go_sem, ↓reduceIte, Nat.reduceEqDiff, Nat.reduceAdd, Nat.reduceLeDiff, Nat.reduceBEq, Nat.reduceMul, Nat.reduceLT, Int.reduceLT, Int.reduceLE, Int.reduceToNat, Int.reduceNeg, Int.reduceEq, Int.reduceMul, reduceCtorEq, Int.reduceBEq, Int.reduceBNe, Int.reduceAdd, Int.reduceSub, bne_self_eq_false, beq_self_eq_true, Nat.le_add_right, eqOk, fn56, res56, gc56, grow56, ty3, h0, ge_iff_le, e1]
  · rw [if_neg h0] at h
    have e1 : IntKind.i64.wrap (9 - n) = 9 - n := w64 (by omega) (by omega)
    have e2 : IntKind.i64.wrap ((9 - n).tdiv 10) = (9 - n).tdiv 10 := w64 (by omega) (by omega)
    have e3 : IntKind.i64.wrap (0 - (9 - n).tdiv 10) = downZ n := by rw [h]; exact w64 (by omega) (by omega)
    simp only [go_sem, ↓reduceIte, Nat.reduceEqDiff, Nat.reduceAdd, Nat.reduceLeDiff, Nat.reduceBEq, Nat.reduceMul, Nat.reduceLT, Int.reduceLT, Int.reduceLE, Int.reduceToNat, Int.reduceNeg, Int.reduceEq, Int.reduceMul, reduceCtorEq, Int.reduceBEq, Int.reduceBNe, Int.reduceAdd, Int.reduceSub, bne_self_eq_false, beq_self_eq_true, Nat.le_add_right, eqOk, fn56, res56, gc56, grow56, ty3, h0, ge_iff_le, e1, e2, e3]

theorem warm_le {s : Stl} (hs : s.Wf) {blk : Int} {b : Blk} (hb : s.bs[blk.toNat]? = some b) (m : Nat) : warmLo s blk b m ≤ warmHi s blk b m := by
  have hbo := hs.bs b (List.mem_of_getElem? hb)
  have hnn : 1 ≤ b.n := by have := hbo.a5; have := hbo.hn; omega
  obtain ⟨h1, -⟩ := loS_spec (fLo s blk b m) b.n hnn
  obtain ⟨h2, -⟩ := hiS_spec (fHi s blk b m) b.n hnn
  have h3 := h1 0 (by omega)
  have h4 := h2 0 (by omega)
  have hle : fLo s blk b m 0 ≤ fHi s blk b m 0 := exc_le (fun t ht => (hs.ts t ht).2.1) (by have := hbo.a4; omega) (by have := hbo.a2; simpa [Blk.x] using this) blk m
  exact Int.le_trans h3 (Int.le_trans hle h4)

theorem ref_all (s : Stl) (hs : s.Wf) (hvb : SlOk H 6 vb (s.bs.map Blk.av)) (hvt : SlOk H 4 vt (s.ts.map Tch.av)) (blk : Int) (b : Blk) (h0 : 0 ≤ blk) (hb : s.bs[blk.toNat]? = some b) (m : Nat) (hm : m ≤ 60) :
    callFL cfg0 prog0 false 62 [.agg [vb, I s.near, I s.last, vt], I blk, I m] H none = some ⟨.ret (.bool (settl s blk b m)), H, none⟩ := by
  have sb := hvb.scal
  have st := hvt.scal
  have hW := fun (G : Heap) => ref_warm (H := H ++ G) s hs (hvb.app G) (hvt.app G) blk b h0 hb m hm
  have e1 : IntKind.i64.wrap (0 - s.near) = -s.near := by have := hs.near; rw [w64 (by omega) (by omega)]; omega
  refine (callFL_eq fn62 rfl (by simp [Try.f62])).trans ?_
  simp only [settl]
  by_cases c1 : -s.near ≤ warmLo s blk b m
  · by_cases c2 : warmHi s blk b m ≤ s.near
    · simp only [go_sem, ↓reduceIte, Nat.reduceEqDiff, Nat.reduceAdd, Nat.reduceLeDiff, Nat.reduceBEq, Nat.reduceMul, Nat.reduceLT, Int.reduceLT, Int.reduceLE, Int.reduceToNat, Int.reduceNeg, Int.reduceEq, Int.reduceMul, reduceCtorEq, Int.reduceBEq, Int.reduceBNe, Int.reduceAdd, Int.reduceSub, bne_self_eq_false, beq_self_eq_true, Nat.le_add_right, eqOk, fn62, res62, gc62, grow62, ty3, ty22, ty23, ty25, ty29, ty56, ty63, sb, st, hW, e1, ge_iff_le, c1, c2, decide_true, Bool.and_self]
    · simp only [go_sem, ↓reduceIte, Nat.reduceEqDiff, Nat.reduceAdd, Nat.reduceLeDiff, Nat.reduceBEq, Nat.reduceMul, Nat.reduceLT, Int.reduceLT, Int.reduceLE, Int.reduceToNat, Int.reduceNeg, Int.reduceEq, Int.reduceMul, reduceCtorEq, Int.reduceBEq, Int.reduceBNe, Int.reduceAdd, Int.reduceSub, bne_self_eq_false, beq_self_eq_true, Nat.le_add_right, eqOk, fn62, res62, gc62, grow62, ty3, ty22, ty23, ty25, ty29, ty56, ty63, sb, st, hW, e1, ge_iff_le, c1, c2, decide_true, decide_false, Bool.and_false]
  · simp only [go_sem, ↓reduceIte, Nat.reduceEqDiff, Nat.reduceAdd, Nat.reduceLeDiff, Nat.reduceBEq, Nat.reduceMul, Nat.reduceLT, Int.reduceLT, Int.reduceLE, Int.reduceToNat, Int.reduceNeg, Int.reduceEq, Int.reduceMul, reduceCtorEq, Int.reduceBEq, Int.reduceBNe, Int.reduceAdd, Int.reduceSub, bne_self_eq_false, beq_self_eq_true, Nat.le_add_right, eqOk, fn62, res62, gc62, grow62, ty3, ty22, ty23, ty25, ty29, ty56, ty63, sb, st, hW, e1, ge_iff_le, c1, decide_false, Bool.false_and]

theorem ref_Longer (s : Stl) (hvb : SlOk H 6 vb (s.bs.map Blk.av)) (hvt : SlOk H 4 vt (s.ts.map Tch.av)) (hl : s.bs.length ≤ 1000) (hl2 : s.ts.length ≤ 1000) (n m : Int) :
    callFL cfg0 prog0 false 17 [.agg [vb, I s.near, I s.last, vt], I n, I m] H none = some ⟨.ret (.tup [.agg [I (s.longer n m).1, I (s.longer n m).2.1], I (s.longer n m).2.2]), H, none⟩ := by
  have sb := hvb.scal
  have st := hvt.scal
  have hB := fun (G : Heap) n => ref_Block (H := H ++ G) s (hvb.app G) st hl n
  have hM := fun (G : Heap) n => ref_Minute (H := H ++ G) s sb st n
  have hC := fun (G : Heap) b => ref_check (H := H ++ G) s (hvb.app G) (hvt.app G) hl hl2 b
  refine (callFL_eq fn17 rfl (by simp [Try.f17])).trans ?_
  simp only [go_sem, ↓reduceIte, Nat.reduceEqDiff, Nat.reduceAdd, Nat.reduceLeDiff, Nat.reduceBEq, Nat.reduceMul, Nat.reduceLT, Int.reduceLT, Int.reduceLE, Int.reduceToNat, Int.reduceNeg, Int.reduceEq, Int.reduceMul, reduceCtorEq, Int.reduceBEq, Int.reduceBNe, Int.reduceAdd, Int.reduceSub, bne_self_eq_false, beq_self_eq_true, Nat.le_add_right, eqOk, fn17, res17, gc17, grow17, ty3, ty4, ty22, ty23, ty25, ty29, ty30, ty49, ty56, ty63, plan17_1, plan17_4, plan17_5, sb, st]
  rw [chkK_of]; rotate_left; kernel_rfl
  simp only [Stl.longer]
  cases hb : s.inB n with
  | false => cases hv : s.valid <;> simp only [go_sem, ↓reduceIte, Nat.reduceEqDiff, Nat.reduceAdd, Nat.reduceLeDiff, Nat.reduceBEq, Nat.reduceMul, Nat.reduceLT, Int.reduceLT, Int.reduceLE, Int.reduceToNat, Int.reduceNeg, Int.reduceEq, Int.reduceMul, reduceCtorEq, Int.reduceBEq, Int.reduceBNe, Int.reduceAdd, Int.reduceSub, bne_self_eq_false, beq_self_eq_true, Nat.le_add_right, eqOk, fn17, res17, gc17, grow17, ty3, ty4, ty22, ty23, ty25, ty29, ty30, ty49, ty56, ty63, plan17_1, plan17_4, plan17_5, sb, st, hB, hM, hC, hb, hv]
  | true =>
    cases hm : s.inM m with
    | false => cases hv : s.valid <;> simp only [go_sem, ↓reduceIte, Nat.reduceEqDiff, Nat.reduceAdd, Nat.reduceLeDiff, Nat.reduceBEq, Nat.reduceMul, Nat.reduceLT, Int.reduceLT, Int.reduceLE, Int.reduceToNat, Int.reduceNeg, Int.reduceEq, Int.reduceMul, reduceCtorEq, Int.reduceBEq, Int.reduceBNe, Int.reduceAdd, Int.reduceSub, bne_self_eq_false, beq_self_eq_true, Nat.le_add_right, eqOk, fn17, res17, gc17, grow17, ty3, ty4, ty22, ty23, ty25, ty29, ty30, ty49, ty56, ty63, plan17_1, plan17_4, plan17_5, sb, st, hB, hM, hC, hb, hm, hv]
    | true =>
      cases hv : s.valid with
      | false => simp only [go_sem, ↓reduceIte, Nat.reduceEqDiff, Nat.reduceAdd, Nat.reduceLeDiff, Nat.reduceBEq, Nat.reduceMul, Nat.reduceLT, Int.reduceLT, Int.reduceLE, Int.reduceToNat, Int.reduceNeg, Int.reduceEq, Int.reduceMul, reduceCtorEq, Int.reduceBEq, Int.reduceBNe, Int.reduceAdd, Int.reduceSub, bne_self_eq_false, beq_self_eq_true, Nat.le_add_right, eqOk, fn17, res17, gc17, grow17, ty3, ty4, ty22, ty23, ty25, ty29, ty30, ty49, ty56, ty63, plan17_1, plan17_4, plan17_5, sb, st, hB, hM, hC, hb, hm, hv]
      | true =>
        have hw := Stl.valid_wf hv
        obtain ⟨h0, hbk⟩ := Stl.inB_blk hb
        obtain ⟨m', rfl, hm'⟩ := Stl.inM_nat hw hm
        have hW := fun (G : Heap) => ref_warm (H := H ++ G) s hw (hvb.app G) (hvt.app G) n (s.blk n) h0 hbk m' hm'
        obtain ⟨a1, a2, a3, a4, a5⟩ := hvb.at (k := n) (x := (s.blk n).av) h0 (by simp [hbk])
        simp only [Blk.av] at a1 a2 a3 a4 a5
        have hbo := hw.bs (s.blk n) (List.mem_of_getElem? hbk)
        obtain ⟨w1, w2⟩ := warm_bd hw (blk := n) hbk (m := m') hm'
        have hle := warm_le hw (blk := n) hbk m'
        rw [Int.toNat_natCast]
        have g1 : 0 ≤ (s.blk n).g0 ∧ (s.blk n).g0 ≤ 20 := by have := hbo.a7; have := hbo.a8; have := hbo.a9; omega
        have g2 : 0 ≤ (s.blk n).g1 ∧ (s.blk n).g1 ≤ 20 := by have := hbo.a7; have := hbo.a8; have := hbo.a9; omega
        generalize warmLo s n (s.blk n) m' = x at *
        generalize warmHi s n (s.blk n) m' = y at *
        have p1 := mul_bd w1 g1
        have p2 := mul_bd w1 g2
        have p3 := mul_bd w2 g1
        have p4 := mul_bd w2 g2
        have q1 : x * (s.blk n).g0 ≤ y * (s.blk n).g0 := Int.mul_le_mul_of_nonneg_right hle g1.1
        have q2 : x * (s.blk n).g1 ≤ y * (s.blk n).g1 := Int.mul_le_mul_of_nonneg_right hle g2.1
        have d1 := downZ_mono q1
        have d2 := downZ_mono q2
        generalize (s.blk n).g0 = u at *
        generalize (s.blk n).g1 = v at *
        have e1 : IntKind.i64.wrap (x * u) = x * u := w64 (by omega) (by omega)
        have e2 : IntKind.i64.wrap (x * v) = x * v := w64 (by omega) (by omega)
        have e3 : IntKind.i64.wrap (y * u) = y * u := w64 (by omega) (by omega)
        have e4 : IntKind.i64.wrap (y * v) = y * v := w64 (by omega) (by omega)
        have hD := fun (n : Int) (hn : -100000000 ≤ n ∧ n ≤ 100000000) (G : Heap) => ref_Down (H := G) n hn
        have D1 := hD (x * u) (by omega)
        have D2 := hD (x * v) (by omega)
        have D3 := hD (y * u) (by omega)
        have D4 := hD (y * v) (by omega)
        have hH := fun (G : Heap) => ref_hull (H := G) (.sl true [I (downZ (x * u)), I (downZ (x * v)), I (downZ (y * u)), I (downZ (y * v))]) [downZ (x * u), downZ (x * v), downZ (y * u), downZ (y * v)] (downZ (x * u)) _ rfl ⟨rfl, by simp [AV.cells]⟩ (by simp)
        have r1 : lows [downZ (x * u), downZ (x * v), downZ (y * u), downZ (y * v)] (downZ (x * u)) = mn (downZ (x * u)) (downZ (x * v)) := by
          simp only [lows, List.foldl_cons, List.foldl_nil, mn]; repeat' split
          all_goals omega
        have r2 : highs [downZ (x * u), downZ (x * v), downZ (y * u), downZ (y * v)] (downZ (x * u)) = mx (downZ (y * u)) (downZ (y * v)) := by
          simp only [highs, List.foldl_cons, List.foldl_nil, mx]; repeat' split
          all_goals omega
        have hel : ptrOf (elA vb n 4) = gslOf vb := ptrOf_elA hvb
        simp only [go_sem, ↓reduceIte, Nat.reduceEqDiff, Nat.reduceAdd, Nat.reduceLeDiff, Nat.reduceBEq, Nat.reduceMul, Nat.reduceLT, Int.reduceLT, Int.reduceLE, Int.reduceToNat, Int.reduceNeg, Int.reduceEq, Int.reduceMul, reduceCtorEq, Int.reduceBEq, Int.reduceBNe, Int.reduceAdd, Int.reduceSub, bne_self_eq_false, beq_self_eq_true, Nat.le_add_right, eqOk, fn17, res17, gc17, grow17, ty3, ty4, ty22, ty23, ty25, ty29, ty30, ty49, ty56, ty63, plan17_1, plan17_4, plan17_5, sb, st, hB, hM, hC, hb, hm, hv]
        rw [chkK_of]; rotate_left; kernel_rfl
        rcases hvb.obj with hg | ⟨l, hg, hlt, hget⟩
        · simp only [go_sem, ↓reduceIte, Nat.reduceEqDiff, Nat.reduceAdd, Nat.reduceLeDiff, Nat.reduceBEq, Nat.reduceMul, Nat.reduceLT, Int.reduceLT, Int.reduceLE, Int.reduceToNat, Int.reduceNeg, Int.reduceEq, Int.reduceMul, reduceCtorEq, Int.reduceBEq, Int.reduceBNe, Int.reduceAdd, Int.reduceSub, bne_self_eq_false, beq_self_eq_true, Nat.le_add_right, eqOk, fn17, res17, gc17, grow17, ty3, ty4, ty22, ty23, ty25, ty29, ty30, ty49, ty56, ty63, plan17_1, plan17_4, plan17_5, sb, st, hB, hM, hC, hb, hm, hv, hW, a3, a4, a5, hel, hg]
          rw [chkK_of]; rotate_left; kernel_rfl
          simp only [go_sem, ↓reduceIte, Nat.reduceEqDiff, Nat.reduceAdd, Nat.reduceLeDiff, Nat.reduceBEq, Nat.reduceMul, Nat.reduceLT, Int.reduceLT, Int.reduceLE, Int.reduceToNat, Int.reduceNeg, Int.reduceEq, Int.reduceMul, reduceCtorEq, Int.reduceBEq, Int.reduceBNe, Int.reduceAdd, Int.reduceSub, bne_self_eq_false, beq_self_eq_true, Nat.le_add_right, eqOk, fn17, res17, gc17, grow17, ty3, ty4, ty22, ty23, ty25, ty29, ty30, ty49, ty56, ty63, plan17_1, plan17_4, plan17_5, sb, st, e1, e2, e3, e4, D1, D2, D3, D4, hH, r1, r2]
        · simp only [go_sem, ↓reduceIte, Nat.reduceEqDiff, Nat.reduceAdd, Nat.reduceLeDiff, Nat.reduceBEq, Nat.reduceMul, Nat.reduceLT, Int.reduceLT, Int.reduceLE, Int.reduceToNat, Int.reduceNeg, Int.reduceEq, Int.reduceMul, reduceCtorEq, Int.reduceBEq, Int.reduceBNe, Int.reduceAdd, Int.reduceSub, bne_self_eq_false, beq_self_eq_true, Nat.le_add_right, eqOk, fn17, res17, gc17, grow17, ty3, ty4, ty22, ty23, ty25, ty29, ty30, ty49, ty56, ty63, plan17_1, plan17_4, plan17_5, sb, st, hB, hM, hC, hb, hm, hv, hW, a3, a4, a5, hel, hg, get_lt hlt, hget]
          rw [chkK_of]; rotate_left; kernel_rfl
          simp only [go_sem, ↓reduceIte, Nat.reduceEqDiff, Nat.reduceAdd, Nat.reduceLeDiff, Nat.reduceBEq, Nat.reduceMul, Nat.reduceLT, Int.reduceLT, Int.reduceLE, Int.reduceToNat, Int.reduceNeg, Int.reduceEq, Int.reduceMul, reduceCtorEq, Int.reduceBEq, Int.reduceBNe, Int.reduceAdd, Int.reduceSub, bne_self_eq_false, beq_self_eq_true, Nat.le_add_right, eqOk, fn17, res17, gc17, grow17, ty3, ty4, ty22, ty23, ty25, ty29, ty30, ty49, ty56, ty63, plan17_1, plan17_4, plan17_5, sb, st, e1, e2, e3, e4, D1, D2, D3, D4, hH, r1, r2]

theorem ref_When_loop (s : Stl) (hs : s.Wf) (hvb : SlOk H 6 vb (s.bs.map Blk.av)) (hvt : SlOk H 4 vt (s.ts.map Tch.av)) (blk : Int) (b : Blk) (h0 : 0 ≤ blk) (hb : s.bs[blk.toNat]? = some b) (l : Nat) (hl : s.last = l) :
    ∀ (n i : Nat), i + n = l + 1 → ∀ E : Env, E.get 1 = I blk → E.get 2 = .ptr H.length 0 → E.get 7 = I ((l : Int) - i + 1) → E.get 8 = I ((l : Int) - i) →
    Option.map (finishC H.length) (execL cfg0 prog0 ⟨21, none, false, H.length⟩ (todoAt Try.f21 6) ⟨E, [], H ++ [.box (.agg [vb, I s.near, I s.last, vt])], none⟩) =
      some ⟨.ret (match findN (fun j => !settl s blk b (l - j)) i n with
        | none => .tup [I 0, I 0]
        | some i => if (l : Int) - i < l then .tup [I ((l : Int) - i + 1), I 0] else .tup [I 0, I 4]), H, none⟩ := by
  intro n
  have hlast := hs.last
  induction n with
  | zero =>
    intro i hi E g1 g2 g7 g8
    have hk' : ¬ 0 ≤ (l : Int) - i := by omega
    have e1 : (l : Int) - i + 1 = 0 := by omega
    have e2 : ¬ s.last < 0 := by omega
    simp only [findN]
    rw [e1] at g7
    simp only [loopIt, todoPast, todoAt, todoOf, firstReg, ↓reduceIte, Option.some.injEq, Nat.reduceEqDiff, reduceCtorEq, Try.f21]
    rw [execL_inLoop]
    simp only [go_sem, ↓reduceIte, Nat.reduceEqDiff, Nat.reduceAdd, Nat.reduceLeDiff, Nat.reduceBEq, Nat.reduceMul, Nat.reduceLT, Int.reduceLT, Int.reduceLE, Int.reduceToNat, Int.reduceNeg, Int.reduceEq, Int.reduceMul, reduceCtorEq, Int.reduceBEq, Int.reduceBNe, Int.reduceAdd, Int.reduceSub, bne_self_eq_false, beq_self_eq_true, Nat.le_add_right, eqOk, fn21, res21, gc21, grow21, ty3, ty4, ty22, ty23, ty25, ty29, ty30, ty56, ty63, plan21_1, g1, g2, g7, g8, ge_iff_le, hk', gt_iff_lt, e2]
  | succ n ih =>
    intro i hi E g1 g2 g7 g8
    have hk' : 0 ≤ (l : Int) - i := by omega
    have hA := fun (G : Heap) => ref_all (H := H ++ G) s hs (hvb.app G) (hvt.app G) blk b h0 hb (l - i) (by omega)
    rw [show ((l - i : Nat) : Int) = (l : Int) - i by omega] at hA
    have e1 : IntKind.i64.wrap ((l : Int) - i - 1) = (l : Int) - (i + 1 : Nat) := by rw [w64 (by omega) (by omega)]; omega
    have e2 : (l : Int) - (i + 1 : Nat) + 1 = (l : Int) - i := by omega
    simp only [findN]
    simp only [loopIt, todoPast, todoAt, todoOf, firstReg, ↓reduceIte, Option.some.injEq, Nat.reduceEqDiff, reduceCtorEq, Try.f21]
    rw [execL_inLoop]
    rcases Bool.eq_false_or_eq_true (settl s blk b (l - i)) with hc | hc
    · simp only [go_sem, ↓reduceIte, Nat.reduceEqDiff, Nat.reduceAdd, Nat.reduceLeDiff, Nat.reduceBEq, Nat.reduceMul, Nat.reduceLT, Int.reduceLT, Int.reduceLE, Int.reduceToNat, Int.reduceNeg, Int.reduceEq, Int.reduceMul, reduceCtorEq, Int.reduceBEq, Int.reduceBNe, Int.reduceAdd, Int.reduceSub, bne_self_eq_false, beq_self_eq_true, Nat.le_add_right, eqOk, fn21, res21, gc21, grow21, ty3, ty4, ty22, ty23, ty25, ty29, ty30, ty56, ty63, plan21_1, g1, g2, g7, g8, ge_iff_le, hk', hA, hc, e1]
      exact ih (i + 1) (by omega) _ (by exact g1) (by exact g2) (by rw [e2]; rfl) (by rfl)
    · by_cases h1 : (l : Int) - i < l
      · have h2 : ¬ s.last < (l : Int) - i + 1 := by omega
        simp only [go_sem, ↓reduceIte, Nat.reduceEqDiff, Nat.reduceAdd, Nat.reduceLeDiff, Nat.reduceBEq, Nat.reduceMul, Nat.reduceLT, Int.reduceLT, Int.reduceLE, Int.reduceToNat, Int.reduceNeg, Int.reduceEq, Int.reduceMul, reduceCtorEq, Int.reduceBEq, Int.reduceBNe, Int.reduceAdd, Int.reduceSub, bne_self_eq_false, beq_self_eq_true, Nat.le_add_right, eqOk, fn21, res21, gc21, grow21, ty3, ty4, ty22, ty23, ty25, ty29, ty30, ty56, ty63, plan21_1, g1, g2, g7, g8, ge_iff_le, hk', hA, hc, gt_iff_lt, h1, h2]
      · have h2 : s.last < (l : Int) - i + 1 := by omega
        simp only [go_sem, ↓reduceIte, Nat.reduceEqDiff, Nat.reduceAdd, Nat.reduceLeDiff, Nat.reduceBEq, Nat.reduceMul, Nat.reduceLT, Int.reduceLT, Int.reduceLE, Int.reduceToNat, Int.reduceNeg, Int.reduceEq, Int.reduceMul, reduceCtorEq, Int.reduceBEq, Int.reduceBNe, Int.reduceAdd, Int.reduceSub, bne_self_eq_false, beq_self_eq_true, Nat.le_add_right, eqOk, fn21, res21, gc21, grow21, ty3, ty4, ty22, ty23, ty25, ty29, ty30, ty56, ty63, plan21_1, g1, g2, g7, g8, ge_iff_le, hk', hA, hc, gt_iff_lt, h1, h2]

theorem ref_When (s : Stl) (hvb : SlOk H 6 vb (s.bs.map Blk.av)) (hvt : SlOk H 4 vt (s.ts.map Tch.av)) (hl : s.bs.length ≤ 1000) (hl2 : s.ts.length ≤ 1000) (n : Int) :
    callFL cfg0 prog0 false 21 [.agg [vb, I s.near, I s.last, vt], I n] H none = some ⟨.ret (.tup [I (s.when n).1, I (s.when n).2]), H, none⟩ := by
  have sb := hvb.scal
  have st := hvt.scal
  have hB := fun (G : Heap) n => ref_Block (H := H ++ G) s (hvb.app G) st hl n
  have hC := fun (G : Heap) b => ref_check (H := H ++ G) s (hvb.app G) (hvt.app G) hl hl2 b
  refine (callFL_eq fn21 rfl (by simp [Try.f21])).trans ?_
  simp only [go_sem, ↓reduceIte, Nat.reduceEqDiff, Nat.reduceAdd, Nat.reduceLeDiff, Nat.reduceBEq, Nat.reduceMul, Nat.reduceLT, Int.reduceLT, Int.reduceLE, Int.reduceToNat, Int.reduceNeg, Int.reduceEq, Int.reduceMul, reduceCtorEq, Int.reduceBEq, Int.reduceBNe, Int.reduceAdd, Int.reduceSub, bne_self_eq_false, beq_self_eq_true, Nat.le_add_right, eqOk, fn21, res21, gc21, grow21, ty3, ty4, ty22, ty23, ty25, ty29, ty30, ty56, ty63, plan21_1, sb, st]
  rw [chkK_of]; rotate_left; kernel_rfl
  simp only [Stl.when]
  cases hb : s.inB n with
  | false => cases hv : s.valid <;> simp only [go_sem, ↓reduceIte, Nat.reduceEqDiff, Nat.reduceAdd, Nat.reduceLeDiff, Nat.reduceBEq, Nat.reduceMul, Nat.reduceLT, Int.reduceLT, Int.reduceLE, Int.reduceToNat, Int.reduceNeg, Int.reduceEq, Int.reduceMul, reduceCtorEq, Int.reduceBEq, Int.reduceBNe, Int.reduceAdd, Int.reduceSub, bne_self_eq_false, beq_self_eq_true, Nat.le_add_right, eqOk, fn21, res21, gc21, grow21, ty3, ty4, ty22, ty23, ty25, ty29, ty30, ty56, ty63, plan21_1, sb, st, hB, hC, hb, hv]
  | true =>
    cases hv : s.valid with
    | false => simp only [go_sem, ↓reduceIte, Nat.reduceEqDiff, Nat.reduceAdd, Nat.reduceLeDiff, Nat.reduceBEq, Nat.reduceMul, Nat.reduceLT, Int.reduceLT, Int.reduceLE, Int.reduceToNat, Int.reduceNeg, Int.reduceEq, Int.reduceMul, reduceCtorEq, Int.reduceBEq, Int.reduceBNe, Int.reduceAdd, Int.reduceSub, bne_self_eq_false, beq_self_eq_true, Nat.le_add_right, eqOk, fn21, res21, gc21, grow21, ty3, ty4, ty22, ty23, ty25, ty29, ty30, ty56, ty63, plan21_1, sb, st, hB, hC, hb, hv]
    | true =>
      have hw := Stl.valid_wf hv
      obtain ⟨h0, hbk⟩ := Stl.inB_blk hb
      have hlast := hw.last
      obtain ⟨l, hll⟩ : ∃ l : Nat, s.last = l := ⟨s.last.toNat, by omega⟩
      have e1 : IntKind.i64.wrap (s.last + 1) = (l : Int) - (0 : Nat) + 1 := by rw [w64 (by omega) (by omega)]; omega
      have e2 : s.last = (l : Int) - (0 : Nat) := by omega
      simp only [go_sem, ↓reduceIte, Nat.reduceEqDiff, Nat.reduceAdd, Nat.reduceLeDiff, Nat.reduceBEq, Nat.reduceMul, Nat.reduceLT, Int.reduceLT, Int.reduceLE, Int.reduceToNat, Int.reduceNeg, Int.reduceEq, Int.reduceMul, reduceCtorEq, Int.reduceBEq, Int.reduceBNe, Int.reduceAdd, Int.reduceSub, bne_self_eq_false, beq_self_eq_true, Nat.le_add_right, eqOk, fn21, res21, gc21, grow21, ty3, ty4, ty22, ty23, ty25, ty29, ty30, ty56, ty63, plan21_1, sb, st, hB, hC, hb, hv, e1]
      refine (ref_When_loop s hw hvb hvt n (s.blk n) h0 hbk l hll (l + 1) 0 (by omega) _ (by rfl) (by rfl) (by rfl) (by rw [← e2]; rfl)).trans ?_
      simp only [whenR, hll, Int.toNat_natCast]
      cases findN (fun j => !settl s n (s.blk n) (l - j)) 0 (l + 1) with
      | none => rfl
      | some i =>
        by_cases h1 : (l : Int) - i < l
        · simp only [h1, if_true]
        · simp only [h1, if_false]

end Go.Ab
/-
  The references of the layer settle: all, rests, wait, latest.
-/
namespace Go.Ab
open Go.Proofs
set_option linter.unusedSimpArgs false
set_option linter.unusedVariables false

variable {H : Heap} {vb vt : AV}

theorem when_at {s : Stl} (hv : s.valid = true) {j : Nat} (hj : j < s.bs.length) : s.when j = (match whenR s j (s.blk j) with | some w => (w, 0) | none => (0, 4)) := by
  have hc : s.inB j = true := by simp only [Stl.inB, wi, Bool.and_eq_true, decide_eq_true_eq]; omega
  simp only [Stl.when, hv, hc, if_true]
  cases whenR s j (s.blk j) <;> rfl

theorem ref_All_loop (s : Stl) (hv : s.valid = true) (hvb : SlOk H 6 vb (s.bs.map Blk.av)) (hvt : SlOk H 4 vt (s.ts.map Tch.av)) (hl : s.bs.length ≤ 1000) (hl2 : s.ts.length ≤ 1000) :
    ∀ (n j : Nat) (acc : Int), j + n = s.bs.length → allR s j = some acc → ∀ E : Env, E.get 1 = .ptr H.length 0 → E.get 5 = I acc → E.get 6 = I j →
    Option.map (finishC H.length) (execL cfg0 prog0 ⟨23, none, false, H.length⟩ (todoAt Try.f23 6) ⟨E, [], H ++ [.box (.agg [vb, I s.near, I s.last, vt])], none⟩) =
      some ⟨.ret (.tup [I s.allE.1, I s.allE.2]), H, none⟩ := by
  intro n
  induction n with
  | zero =>
    intro j acc hj ha E g1 g5 g6
    have hk' : ¬ (j : Int) < s.bs.length := by omega
    rw [show j = s.bs.length by omega] at ha
    simp only [Stl.allE, ha]
    simp only [loopIt, todoPast, todoAt, todoOf, firstReg, ↓reduceIte, Option.some.injEq, Nat.reduceEqDiff, reduceCtorEq, Try.f23]
    rw [execL_inLoop]
    simp only [go_sem, ↓reduceIte, Nat.reduceEqDiff, Nat.reduceAdd, Nat.reduceLeDiff, Nat.reduceBEq, Nat.reduceMul, Nat.reduceLT, Int.reduceLT, Int.reduceLE, Int.reduceToNat, Int.reduceNeg, Int.reduceEq, Int.reduceMul, reduceCtorEq, Int.reduceBEq, Int.reduceBNe, Int.reduceAdd, Int.reduceSub, bne_self_eq_false, beq_self_eq_true, Nat.le_add_right, eqOk, fn23, res23, gc23, grow23, ty3, ty4, ty22, ty23, ty25, ty29, ty30, ty56, ty63, g1, g5, g6, hvb.len, List.length_map, hk']
  | succ n ih =>
    intro j acc hj ha E g1 g5 g6
    have hk' : (j : Int) < s.bs.length := by omega
    have hj1 : IntKind.i64.wrap ((j : Int) + 1) = ((j + 1 : Nat) : Int) := by rw [w64 (by omega) (by omega)]; omega
    have hW := fun (G : Heap) => ref_When (H := H ++ G) s (hvb.app G) (hvt.app G) hl hl2 j
    rw [when_at hv (by omega)] at hW
    simp only [loopIt, todoPast, todoAt, todoOf, firstReg, ↓reduceIte, Option.some.injEq, Nat.reduceEqDiff, reduceCtorEq, Try.f23]
    rw [execL_inLoop]
    cases hw : whenR s j (s.blk j) with
    | none =>
      have hn : allR s s.bs.length = none := by
        have h1 : allR s (j + 1) = none := by simp only [allR, ha, hw]
        have := allR_none h1 n
        rwa [show j + 1 + n = s.bs.length by omega] at this
      simp only [Stl.allE, hn]
      simp only [hw] at hW
      simp only [go_sem, ↓reduceIte, Nat.reduceEqDiff, Nat.reduceAdd, Nat.reduceLeDiff, Nat.reduceBEq, Nat.reduceMul, Nat.reduceLT, Int.reduceLT, Int.reduceLE, Int.reduceToNat, Int.reduceNeg, Int.reduceEq, Int.reduceMul, reduceCtorEq, Int.reduceBEq, Int.reduceBNe, Int.reduceAdd, Int.reduceSub, bne_self_eq_false, beq_self_eq_true, Nat.le_add_right, eqOk, fn23, res23, gc23, grow23, ty3, ty4, ty22, ty23, ty25, ty29, ty30, ty56, ty63, g1, g5, g6, hvb.len, List.length_map, hk', hW]
    | some w =>
      have h1 : allR s (j + 1) = some (mx acc w) := by simp only [allR, ha, hw]
      simp only [hw] at hW
      simp only [go_sem, ↓reduceIte, Nat.reduceEqDiff, Nat.reduceAdd, Nat.reduceLeDiff, Nat.reduceBEq, Nat.reduceMul, Nat.reduceLT, Int.reduceLT, Int.reduceLE, Int.reduceToNat, Int.reduceNeg, Int.reduceEq, Int.reduceMul, reduceCtorEq, Int.reduceBEq, Int.reduceBNe, Int.reduceAdd, Int.reduceSub, bne_self_eq_false, beq_self_eq_true, Nat.le_add_right, eqOk, fn23, res23, gc23, grow23, ty3, ty4, ty22, ty23, ty25, ty29, ty30, ty56, ty63, g1, g5, g6, hvb.len, List.length_map, hk', hW, hj1]
      exact ih (j + 1) (mx acc w) (by omega) h1 _ (by exact g1) (by rfl) (by rfl)

theorem ref_All (s : Stl) (hvb : SlOk H 6 vb (s.bs.map Blk.av)) (hvt : SlOk H 4 vt (s.ts.map Tch.av)) (hl : s.bs.length ≤ 1000) (hl2 : s.ts.length ≤ 1000) :
    callFL cfg0 prog0 false 23 [.agg [vb, I s.near, I s.last, vt]] H none = some ⟨.ret (.tup [I s.allS.1, I s.allS.2]), H, none⟩ := by
  have sb := hvb.scal
  have st := hvt.scal
  have hC := fun (G : Heap) b => ref_check (H := H ++ G) s (hvb.app G) (hvt.app G) hl hl2 b
  refine (callFL_eq fn23 rfl (by simp [Try.f23])).trans ?_
  simp only [Stl.allS]
  cases hv : s.valid with
  | false => simp only [go_sem, ↓reduceIte, Nat.reduceEqDiff, Nat.reduceAdd, Nat.reduceLeDiff, Nat.reduceBEq, Nat.reduceMul, Nat.reduceLT, Int.reduceLT, Int.reduceLE, Int.reduceToNat, Int.reduceNeg, Int.reduceEq, Int.reduceMul, reduceCtorEq, Int.reduceBEq, Int.reduceBNe, Int.reduceAdd, Int.reduceSub, bne_self_eq_false, beq_self_eq_true, Nat.le_add_right, eqOk, fn23, res23, gc23, grow23, ty3, ty4, ty22, ty23, ty25, ty29, ty30, ty56, ty63, sb, st, hC, hv]
  | true =>
    simp only [go_sem, ↓reduceIte, Nat.reduceEqDiff, Nat.reduceAdd, Nat.reduceLeDiff, Nat.reduceBEq, Nat.reduceMul, Nat.reduceLT, Int.reduceLT, Int.reduceLE, Int.reduceToNat, Int.reduceNeg, Int.reduceEq, Int.reduceMul, reduceCtorEq, Int.reduceBEq, Int.reduceBNe, Int.reduceAdd, Int.reduceSub, bne_self_eq_false, beq_self_eq_true, Nat.le_add_right, eqOk, fn23, res23, gc23, grow23, ty3, ty4, ty22, ty23, ty25, ty29, ty30, ty56, ty63, sb, st, hC, hv]
    exact ref_All_loop s hv hvb hvt hl hl2 s.bs.length 0 0 (by omega) rfl _ (by rfl) (by rfl) (by rfl)

theorem ref_Rests_loop (s : Stl) (hs : s.Wf) (hvb : SlOk H 6 vb (s.bs.map Blk.av)) (hvt : SlOk H 4 vt (s.ts.map Tch.av)) (n : Int) (h0 : 0 ≤ n) (hb : s.bs[n.toNat]? = some (s.blk n)) :
    ∀ (q j : Nat), j + q = s.last.toNat + 1 → ∀ E : Env, E.get 1 = I n → E.get 2 = .ptr H.length 0 → E.get 7 = .gsl (H.length + 1) (restsR (settl s n (s.blk n)) j).length → E.get 8 = I j →
    Option.map (finishC H.length) (execL cfg0 prog0 ⟨25, none, false, H.length⟩ (todoAt Try.f25 6) ⟨E, [], H ++ [.box (.agg [vb, I s.near, I s.last, vt]), .grow 2 ((restsR (settl s n (s.blk n)) j).map spA)], none⟩) =
      some ⟨.ret (.tup [.sl false ((s.restsL n).map spA), I 0]), H, none⟩ := by
  intro q
  have sb := hvb.scal
  have st := hvt.scal
  have hlast := hs.last
  induction q with
  | zero =>
    intro j hj E g1 g2 g7 g8
    have hk' : ¬ (j : Int) ≤ s.last := by omega
    have hj' : restsR (settl s n (s.blk n)) j = s.restsL n := by rw [show j = s.last.toNat + 1 by omega]; rfl
    rw [hj'] at g7 ⊢
    simp only [loopIt, todoPast, todoAt, todoOf, firstReg, ↓reduceIte, Option.some.injEq, Nat.reduceEqDiff, reduceCtorEq, Try.f25]
    rw [execL_inLoop]
    simp only [go_sem, ↓reduceIte, Nat.reduceEqDiff, Nat.reduceAdd, Nat.reduceLeDiff, Nat.reduceBEq, Nat.reduceMul, Nat.reduceLT, Int.reduceLT, Int.reduceLE, Int.reduceToNat, Int.reduceNeg, Int.reduceEq, Int.reduceMul, reduceCtorEq, Int.reduceBEq, Int.reduceBNe, Int.reduceAdd, Int.reduceSub, bne_self_eq_false, beq_self_eq_true, Nat.le_add_right, eqOk, fn25, res25, gc25, grow25_4, grow25_5, grow25_6, grow25_7, grow25_8, grow25_9, grow25_49, ty3, ty4, ty22, ty23, ty25, ty29, ty30, ty38, ty56, ty63, plan25_1, g1, g2, g7, g8, hk', List.length_map]
  | succ q ih =>
    intro j hj E g1 g2 g7 g8
    have hk' : (j : Int) ≤ s.last := by omega
    have hj1 : IntKind.i64.wrap ((j : Int) + 1) = ((j + 1 : Nat) : Int) := by rw [w64 (by omega) (by omega)]; omega
    have hjm : IntKind.i64.wrap ((j : Int) - 1) = (j : Int) - 1 := w64 (by omega) (by omega)
    have hA := fun (G : Heap) => ref_all (H := H ++ G) s hs (hvb.app G) (hvt.app G) n (s.blk n) h0 hb j (by omega)
    obtain ⟨hrl, hrb⟩ := restsR_bd (settl s n (s.blk n)) j
    have hih := ih (j + 1) (by omega)
    simp only [restsR] at hih
    generalize restsR (settl s n (s.blk n)) j = l at *
    simp only [loopIt, todoPast, todoAt, todoOf, firstReg, ↓reduceIte, Option.some.injEq, Nat.reduceEqDiff, reduceCtorEq, Try.f25]
    rw [execL_inLoop]
    rcases Bool.eq_false_or_eq_true (settl s n (s.blk n) j) with hse | hse
    · rw [hse] at hih
      simp only [if_true, restStep] at hih
      have e1 : IntKind.i64.wrap ((l.length : Int) - 1) = (l.length : Int) - 1 := w64 (by omega) (by omega)
      have hadd : addElem (H ++ [.box (.agg [vb, I s.near, I s.last, vt]), .grow 2 (l.map spA)]) 2 true (.gsl (H.length + 1) l.length) [.agg [I j, I j]] =
          some (.gsl (H.length + 1) (l.length + 1), H ++ [.box (.agg [vb, I s.near, I s.last, vt]), .grow 2 (l.map spA ++ [.agg [I j, I j]])]) := by
        rw [add_gsl (xs := l.map spA) (by simp [get_at']) (by simp) rfl rfl (by simp; omega), set_at']
        rfl
      cases hgl : l.getLast? with
      | none =>
        have hl0 : l = [] := by simpa using hgl
        subst hl0
        rw [hgl] at hih
        simp only [List.nil_append, List.map_cons, List.map_nil, List.length_cons, List.length_nil, Nat.zero_add, spA] at hih hadd
        simp only [go_sem, ↓reduceIte, Nat.reduceEqDiff, Nat.reduceAdd, Nat.reduceLeDiff, Nat.reduceBEq, Nat.reduceMul, Nat.reduceLT, Int.reduceLT, Int.reduceLE, Int.reduceToNat, Int.reduceNeg, Int.reduceEq, Int.reduceMul, reduceCtorEq, Int.reduceBEq, Int.reduceBNe, Int.reduceAdd, Int.reduceSub, bne_self_eq_false, beq_self_eq_true, Nat.le_add_right, eqOk, fn25, res25, gc25, grow25_4, grow25_5, grow25_6, grow25_7, grow25_8, grow25_9, grow25_49, ty3, ty4, ty22, ty23, ty25, ty29, ty30, ty38, ty56, ty63, plan25_1, g1, g2, g7, g8, hk', hA, hse, hj1, hadd, Int.natCast_zero, gt_iff_lt, lt_irr, decide_false, List.length_nil, List.map_nil]
        exact hih _ (by exact g1) (by exact g2) (by rfl) (by rfl)
      | some p =>
        have hlne : 0 < l.length := by
          cases l with
          | nil => simp at hgl
          | cons _ _ => simp
        have hpl : l[l.length - 1]? = some p := by rw [← List.getLast?_eq_getElem?]; exact hgl
        have hpb := hrb p (List.mem_of_getLast? hgl)
        rw [hgl] at hih
        have hpos : (0 : Int) < (l.length : Int) := by omega
        have hge : (0 : Int) ≤ (l.length : Int) - 1 := by omega
        have htn : ((l.length : Int) - 1).toNat = l.length - 1 := by omega
        have hxs : (l.map spA)[l.length - 1]? = some (.agg [I p.1, I p.2]) := by rw [List.getElem?_map, hpl]; rfl
        have hidx : ∀ te : Ty, te.size = 2 → idxAddr (H ++ [.box (.agg [vb, I s.near, I s.last, vt]), .grow 2 (l.map spA)]) te (.gsl (H.length + 1) l.length) ((l.length : Int) - 1) = some (.eptr (H.length + 1) l.length (l.length - 1) 0) := by
          intro te hte
          simp only [idxAddr, get_at', List.getElem?_cons_succ, List.getElem?_cons_zero, List.length_map, htn, hte]
          rw [if_pos ⟨trivial, hge, by omega, trivial⟩]
        by_cases heq : p.2 + 1 = (j : Int)
        · simp only [if_pos heq] at hih
          have hbq : (p.2 == (j : Int) - 1) = true := by simp; omega
          simp only [List.map_set, List.length_set, spA] at hih
          simp only [go_sem, ↓reduceIte, Nat.reduceEqDiff, Nat.reduceAdd, Nat.reduceLeDiff, Nat.reduceBEq, Nat.reduceMul, Nat.reduceLT, Int.reduceLT, Int.reduceLE, Int.reduceToNat, Int.reduceNeg, Int.reduceEq, Int.reduceMul, reduceCtorEq, Int.reduceBEq, Int.reduceBNe, Int.reduceAdd, Int.reduceSub, bne_self_eq_false, beq_self_eq_true, Nat.le_add_right, eqOk, fn25, res25, gc25, grow25_4, grow25_5, grow25_6, grow25_7, grow25_8, grow25_9, grow25_49, ty3, ty4, ty22, ty23, ty25, ty29, ty30, ty38, ty56, ty63, plan25_1, g1, g2, g7, g8, hk', hA, hse, hj1, hjm, gt_iff_lt, hpos, e1, hidx, List.length_map, hxs, hbq]
          exact hih _ (by exact g1) (by exact g2) (by exact g7) (by rfl)
        · simp only [if_neg heq] at hih
          have hbq : (p.2 == (j : Int) - 1) = false := by simp; omega
          simp only [List.map_append, List.map_cons, List.map_nil, List.length_append, List.length_cons, List.length_nil, Nat.zero_add, spA] at hih
          simp only [go_sem, ↓reduceIte, Nat.reduceEqDiff, Nat.reduceAdd, Nat.reduceLeDiff, Nat.reduceBEq, Nat.reduceMul, Nat.reduceLT, Int.reduceLT, Int.reduceLE, Int.reduceToNat, Int.reduceNeg, Int.reduceEq, Int.reduceMul, reduceCtorEq, Int.reduceBEq, Int.reduceBNe, Int.reduceAdd, Int.reduceSub, bne_self_eq_false, beq_self_eq_true, Nat.le_add_right, eqOk, fn25, res25, gc25, grow25_4, grow25_5, grow25_6, grow25_7, grow25_8, grow25_9, grow25_49, ty3, ty4, ty22, ty23, ty25, ty29, ty30, ty38, ty56, ty63, plan25_1, g1, g2, g7, g8, hk', hA, hse, hj1, hjm, gt_iff_lt, hpos, e1, hidx, List.length_map, hxs, hbq, hadd]
          exact hih _ (by exact g1) (by exact g2) (by rfl) (by rfl)
    · rw [hse] at hih
      simp only [Bool.false_eq_true, if_false] at hih
      simp only [go_sem, ↓reduceIte, Nat.reduceEqDiff, Nat.reduceAdd, Nat.reduceLeDiff, Nat.reduceBEq, Nat.reduceMul, Nat.reduceLT, Int.reduceLT, Int.reduceLE, Int.reduceToNat, Int.reduceNeg, Int.reduceEq, Int.reduceMul, reduceCtorEq, Int.reduceBEq, Int.reduceBNe, Int.reduceAdd, Int.reduceSub, bne_self_eq_false, beq_self_eq_true, Nat.le_add_right, eqOk, fn25, res25, gc25, grow25_4, grow25_5, grow25_6, grow25_7, grow25_8, grow25_9, grow25_49, ty3, ty4, ty22, ty23, ty25, ty29, ty30, ty38, ty56, ty63, plan25_1, g1, g2, g7, g8, hk', hA, hse, hj1]
      exact hih _ (by exact g1) (by exact g2) (by exact g7) (by rfl)

theorem ref_Rests (s : Stl) (hvb : SlOk H 6 vb (s.bs.map Blk.av)) (hvt : SlOk H 4 vt (s.ts.map Tch.av)) (hl : s.bs.length ≤ 1000) (hl2 : s.ts.length ≤ 1000) (n : Int) :
    callFL cfg0 prog0 false 25 [.agg [vb, I s.near, I s.last, vt], I n] H none = some ⟨.ret (if s.valid then (if s.inB n then .tup [.sl false ((s.restsL n).map spA), I 0] else .tup [.sl true [], I 2]) else .tup [.sl true [], I 1]), H, none⟩ := by
  have sb := hvb.scal
  have st := hvt.scal
  have hB := fun (G : Heap) n => ref_Block (H := H ++ G) s (hvb.app G) st hl n
  have hC := fun (G : Heap) b => ref_check (H := H ++ G) s (hvb.app G) (hvt.app G) hl hl2 b
  refine (callFL_eq fn25 rfl (by simp [Try.f25])).trans ?_
  simp only [go_sem, ↓reduceIte, Nat.reduceEqDiff, Nat.reduceAdd, Nat.reduceLeDiff, Nat.reduceBEq, Nat.reduceMul, Nat.reduceLT, Int.reduceLT, Int.reduceLE, Int.reduceToNat, Int.reduceNeg, Int.reduceEq, Int.reduceMul, reduceCtorEq, Int.reduceBEq, Int.reduceBNe, Int.reduceAdd, Int.reduceSub, bne_self_eq_false, beq_self_eq_true, Nat.le_add_right, eqOk, fn25, res25, gc25, grow25_4, grow25_5, grow25_6, grow25_7, grow25_8, grow25_9, grow25_49, ty3, ty4, ty22, ty23, ty25, ty29, ty30, ty38, ty56, ty63, plan25_1, sb, st]
  rw [chkK_of]; rotate_left; kernel_rfl
  cases hb : s.inB n with
  | false => cases hv : s.valid <;> simp only [go_sem, ↓reduceIte, Nat.reduceEqDiff, Nat.reduceAdd, Nat.reduceLeDiff, Nat.reduceBEq, Nat.reduceMul, Nat.reduceLT, Int.reduceLT, Int.reduceLE, Int.reduceToNat, Int.reduceNeg, Int.reduceEq, Int.reduceMul, reduceCtorEq, Int.reduceBEq, Int.reduceBNe, Int.reduceAdd, Int.reduceSub, bne_self_eq_false, beq_self_eq_true, Nat.le_add_right, eqOk, fn25, res25, gc25, grow25_4, grow25_5, grow25_6, grow25_7, grow25_8, grow25_9, grow25_49, ty3, ty4, ty22, ty23, ty25, ty29, ty30, ty38, ty56, ty63, plan25_1, sb, st, hB, hC, hb, hv]
  | true =>
    cases hv : s.valid with
    | false => simp only [go_sem, ↓reduceIte, Nat.reduceEqDiff, Nat.reduceAdd, Nat.reduceLeDiff, Nat.reduceBEq, Nat.reduceMul, Nat.reduceLT, Int.reduceLT, Int.reduceLE, Int.reduceToNat, Int.reduceNeg, Int.reduceEq, Int.reduceMul, reduceCtorEq, Int.reduceBEq, Int.reduceBNe, Int.reduceAdd, Int.reduceSub, bne_self_eq_false, beq_self_eq_true, Nat.le_add_right, eqOk, fn25, res25, gc25, grow25_4, grow25_5, grow25_6, grow25_7, grow25_8, grow25_9, grow25_49, ty3, ty4, ty22, ty23, ty25, ty29, ty30, ty38, ty56, ty63, plan25_1, sb, st, hB, hC, hb, hv]
    | true =>
      have hw := Stl.valid_wf hv
      obtain ⟨h0, hbk⟩ := Stl.inB_blk hb
      simp only [go_sem, ↓reduceIte, Nat.reduceEqDiff, Nat.reduceAdd, Nat.reduceLeDiff, Nat.reduceBEq, Nat.reduceMul, Nat.reduceLT, Int.reduceLT, Int.reduceLE, Int.reduceToNat, Int.reduceNeg, Int.reduceEq, Int.reduceMul, reduceCtorEq, Int.reduceBEq, Int.reduceBNe, Int.reduceAdd, Int.reduceSub, bne_self_eq_false, beq_self_eq_true, Nat.le_add_right, eqOk, fn25, res25, gc25, grow25_4, grow25_5, grow25_6, grow25_7, grow25_8, grow25_9, grow25_49, ty3, ty4, ty22, ty23, ty25, ty29, ty30, ty38, ty56, ty63, plan25_1, sb, st, hB, hC, hb, hv]
      exact ref_Rests_loop s hw hvb hvt n h0 hbk (s.last.toNat + 1) 0 (by omega) _ (by rfl) (by rfl) (by rfl) (by rfl)

theorem ref_Wait_l2 (R : Option Done) (K : List Item) (s : Stl) (hs : s.Wf) (hsb : vb.scalar = true) (hst : vt.scalar = true) (n w k : Int) (hk : 1 ≤ k ∧ k ≤ 100) :
    ∀ (q j : Nat) (x o : Int), j + q = 101 → -100 ≤ x ∧ x ≤ 100 → 0 ≤ o ∧ o ≤ 1000 →
    (∀ E : Env, E.get 1 = I n → E.get 2 = I w → E.get 3 = .ptr H.length 0 → E.get 9 = I (waitI s.near k q j x o) → E.get 10 = I k → Option.map (finishC H.length) (execL cfg0 prog0 ⟨27, none, false, H.length⟩ K ⟨E, [], H ++ [.box (.agg [vb, I s.near, I s.last, vt])], none⟩) = R) →
    ∀ E : Env, E.get 1 = I n → E.get 2 = I w → E.get 3 = .ptr H.length 0 → E.get 9 = I o → E.get 10 = I k → E.get 11 = I x → E.get 12 = I j →
    Option.map (finishC H.length) (execL cfg0 prog0 ⟨27, none, false, H.length⟩ (loopIt Try.f27 10 :: .inBlock 2 :: K) ⟨E, [], H ++ [.box (.agg [vb, I s.near, I s.last, vt])], none⟩) = R := by
  intro q
  have hnear := hs.near
  induction q with
  | zero =>
    intro j x o hj hx ho hK E g1 g2 g3 g9 g10 g11 g12
    have hk' : ¬ (j : Int) ≤ 100 := by omega
    simp only [loopIt, todoPast, todoAt, todoOf, firstReg, ↓reduceIte, Option.some.injEq, Nat.reduceEqDiff, reduceCtorEq, Try.f27]
    rw [execL_inLoop]
    simp only [go_sem, ↓reduceIte, Nat.reduceEqDiff, Nat.reduceAdd, Nat.reduceLeDiff, Nat.reduceBEq, Nat.reduceMul, Nat.reduceLT, Int.reduceLT, Int.reduceLE, Int.reduceToNat, Int.reduceNeg, Int.reduceEq, Int.reduceMul, reduceCtorEq, Int.reduceBEq, Int.reduceBNe, Int.reduceAdd, Int.reduceSub, bne_self_eq_false, beq_self_eq_true, Nat.le_add_right, eqOk, fn27, res27, gc27, grow27, ty3, ty4, ty22, ty23, ty25, ty29, ty30, ty56, ty63, plan27_1, g1, g2, g3, g9, g10, g11, g12, hk']
    exact hK _ (by exact g1) (by exact g2) (by exact g3) (by exact g9) (by exact g10)
  | succ q ih =>
    intro j x o hj hx ho hK E g1 g2 g3 g9 g10 g11 g12
    have hk' : (j : Int) ≤ 100 := by omega
    have hj1 : IntKind.i64.wrap ((j : Int) + 1) = ((j + 1 : Nat) : Int) := by rw [w64 (by omega) (by omega)]; omega
    have e1 : IntKind.i64.wrap (0 - s.near) = -s.near := by rw [w64 (by omega) (by omega)]; omega
    have hF := fun G => f78 x k G (by omega) (by omega) hk.1 (by omega)
    have hfb := fallsZ_bd (x := x) hk.1
    simp only [waitI] at hK
    rw [show (j : Int) + 1 = ((j + 1 : Nat) : Int) by omega] at hK
    simp only [loopIt, todoPast, todoAt, todoOf, firstReg, ↓reduceIte, Option.some.injEq, Nat.reduceEqDiff, reduceCtorEq, Try.f27]
    rw [execL_inLoop]
    cases hin : wi x (-s.near) s.near with
    | true =>
      simp only [hin, if_true] at hK
      simp only [go_sem, ↓reduceIte, Nat.reduceEqDiff, Nat.reduceAdd, Nat.reduceLeDiff, Nat.reduceBEq, Nat.reduceMul, Nat.reduceLT, Int.reduceLT, Int.reduceLE, Int.reduceToNat, Int.reduceNeg, Int.reduceEq, Int.reduceMul, reduceCtorEq, Int.reduceBEq, Int.reduceBNe, Int.reduceAdd, Int.reduceSub, bne_self_eq_false, beq_self_eq_true, Nat.le_add_right, eqOk, fn27, res27, gc27, grow27, ty3, ty4, ty22, ty23, ty25, ty29, ty30, ty56, ty63, plan27_1, g1, g2, g3, g9, g10, g11, g12, hk', e1, f77w, hin, hF, hj1]
      exact ih (j + 1) (fallsZ x k) o (by omega) (by omega) ho hK _ (by exact g1) (by exact g2) (by exact g3) (by exact g9) (by exact g10) (by rfl) (by rfl)
    | false =>
      simp only [hin, Bool.false_eq_true, if_false] at hK
      simp only [go_sem, ↓reduceIte, Nat.reduceEqDiff, Nat.reduceAdd, Nat.reduceLeDiff, Nat.reduceBEq, Nat.reduceMul, Nat.reduceLT, Int.reduceLT, Int.reduceLE, Int.reduceToNat, Int.reduceNeg, Int.reduceEq, Int.reduceMul, reduceCtorEq, Int.reduceBEq, Int.reduceBNe, Int.reduceAdd, Int.reduceSub, bne_self_eq_false, beq_self_eq_true, Nat.le_add_right, eqOk, fn27, res27, gc27, grow27, ty3, ty4, ty22, ty23, ty25, ty29, ty30, ty56, ty63, plan27_1, g1, g2, g3, g9, g10, g11, g12, hk', e1, f77w, hin, hF, hj1]
      exact ih (j + 1) (fallsZ x k) (mx o ((j + 1 : Nat) : Int)) (by omega) (by omega) (by simp only [mx]; split <;> omega) hK _ (by exact g1) (by exact g2) (by exact g3) (by rfl) (by exact g10) (by rfl) (by rfl)

theorem ref_Wait_l1 (s : Stl) (hs : s.Wf) (hvb : SlOk H 6 vb (s.bs.map Blk.av)) (hst : vt.scalar = true) (n w : Int) (h0 : 0 ≤ n) (b : Blk) (hb : s.bs[n.toNat]? = some b) (hw : -100 ≤ w ∧ w ≤ 100) :
    ∀ (q : Nat) (k o : Int), k + q = b.s1 + 1 → 2 ≤ k → 0 ≤ o ∧ o ≤ 1000 → ∀ E : Env, E.get 1 = I n → E.get 2 = I w → E.get 3 = .ptr H.length 0 → E.get 9 = I o → E.get 10 = I k →
    Option.map (finishC H.length) (execL cfg0 prog0 ⟨27, none, false, H.length⟩ (todoAt Try.f27 6) ⟨E, [], H ++ [.box (.agg [vb, I s.near, I s.last, vt])], none⟩) =
      some ⟨.ret (.tup [I (waitO s.near w q k o), I 0]), H, none⟩ := by
  intro q
  have hbo := hs.bs b (List.mem_of_getElem? hb)
  have hb6 := hbo.a6
  obtain ⟨-, -, a3, a4, a5⟩ := hvb.at (k := n) (x := b.av) h0 (by simp [hb])
  simp only [Blk.av] at a3 a4 a5
  induction q with
  | zero =>
    intro k o hk k2 ho E g1 g2 g3 g9 g10
    have hk' : ¬ k ≤ b.s1 := by omega
    simp only [loopIt, todoPast, todoAt, todoOf, firstReg, ↓reduceIte, Option.some.injEq, Nat.reduceEqDiff, reduceCtorEq, Try.f27]
    rw [execL_inLoop]
    simp only [go_sem, ↓reduceIte, Nat.reduceEqDiff, Nat.reduceAdd, Nat.reduceLeDiff, Nat.reduceBEq, Nat.reduceMul, Nat.reduceLT, Int.reduceLT, Int.reduceLE, Int.reduceToNat, Int.reduceNeg, Int.reduceEq, Int.reduceMul, reduceCtorEq, Int.reduceBEq, Int.reduceBNe, Int.reduceAdd, Int.reduceSub, bne_self_eq_false, beq_self_eq_true, Nat.le_add_right, eqOk, fn27, res27, gc27, grow27, ty3, ty4, ty22, ty23, ty25, ty29, ty30, ty56, ty63, plan27_1, g1, g2, g3, g9, g10, a3, a4, a5, hk', waitO]
  | succ q ih =>
    intro k o hk k2 ho E g1 g2 g3 g9 g10
    have hk' : k ≤ b.s1 := by omega
    have hk1 : IntKind.i64.wrap (k + 1) = k + 1 := w64 (by omega) (by omega)
    have hW := waitI_0 (near := s.near) (show 1 ≤ k by omega) ho.1 w
    have hWb : (waitF s.near k 101 w : Int) ≤ 101 := by
      have : ∀ (f : Nat) x, waitF s.near k f x ≤ f := by
        intro f
        induction f with
        | zero => intro x; exact Nat.le_refl _
        | succ f ihf => intro x; simp only [waitF]; split <;> first | omega | exact Nat.succ_le_succ (ihf _)
      have := this 101 w
      omega
    simp only [loopIt, todoPast, todoAt, todoOf, firstReg, ↓reduceIte, Option.some.injEq, Nat.reduceEqDiff, reduceCtorEq, Try.f27]
    rw [execL_inLoop]
    simp only [go_sem, ↓reduceIte, Nat.reduceEqDiff, Nat.reduceAdd, Nat.reduceLeDiff, Nat.reduceBEq, Nat.reduceMul, Nat.reduceLT, Int.reduceLT, Int.reduceLE, Int.reduceToNat, Int.reduceNeg, Int.reduceEq, Int.reduceMul, reduceCtorEq, Int.reduceBEq, Int.reduceBNe, Int.reduceAdd, Int.reduceSub, bne_self_eq_false, beq_self_eq_true, Nat.le_add_right, eqOk, fn27, res27, gc27, grow27, ty3, ty4, ty22, ty23, ty25, ty29, ty30, ty56, ty63, plan27_1, g1, g2, g3, g9, g10, a3, a4, a5, hk']
    refine ref_Wait_l2 (H := H) (vb := vb) (vt := vt) _ _ s hs hvb.scal hst n w k (by omega) 101 0 w o (by omega) hw ho (fun E g1 g2 g3 g9 g10 => ?_) _ (by exact g1) (by exact g2) (by exact g3) (by exact g9) (by exact g10) (by rfl) (by rfl)
    simp only [go_sem, ↓reduceIte, Nat.reduceEqDiff, Nat.reduceAdd, Nat.reduceLeDiff, Nat.reduceBEq, Nat.reduceMul, Nat.reduceLT, Int.reduceLT, Int.reduceLE, Int.reduceToNat, Int.reduceNeg, Int.reduceEq, Int.reduceMul, reduceCtorEq, Int.reduceBEq, Int.reduceBNe, Int.reduceAdd, Int.reduceSub, bne_self_eq_false, beq_self_eq_true, Nat.le_add_right, eqOk, fn27, res27, gc27, grow27, ty3, ty4, ty22, ty23, ty25, ty29, ty30, ty56, ty63, plan27_1, g1, g2, g3, g9, g10, hk1, waitO]
    exact ih (k + 1) (waitI s.near k 101 0 w o) (by omega) (by omega) (by rw [hW]; simp only [mx]; split <;> omega) _ (by exact g1) (by exact g2) (by exact g3) (by exact g9) (by rfl)

theorem ref_Wait (s : Stl) (hvb : SlOk H 6 vb (s.bs.map Blk.av)) (hvt : SlOk H 4 vt (s.ts.map Tch.av)) (hl : s.bs.length ≤ 1000) (hl2 : s.ts.length ≤ 1000) (n x : Int) :
    callFL cfg0 prog0 false 27 [.agg [vb, I s.near, I s.last, vt], I n, I x] H none = some ⟨.ret (.tup [I (s.wait n x).1, I (s.wait n x).2]), H, none⟩ := by
  have sb := hvb.scal
  have st := hvt.scal
  have hB := fun (G : Heap) n => ref_Block (H := H ++ G) s (hvb.app G) st hl n
  have hC := fun (G : Heap) b => ref_check (H := H ++ G) s (hvb.app G) (hvt.app G) hl hl2 b
  refine (callFL_eq fn27 rfl (by simp [Try.f27])).trans ?_
  simp only [go_sem, ↓reduceIte, Nat.reduceEqDiff, Nat.reduceAdd, Nat.reduceLeDiff, Nat.reduceBEq, Nat.reduceMul, Nat.reduceLT, Int.reduceLT, Int.reduceLE, Int.reduceToNat, Int.reduceNeg, Int.reduceEq, Int.reduceMul, reduceCtorEq, Int.reduceBEq, Int.reduceBNe, Int.reduceAdd, Int.reduceSub, bne_self_eq_false, beq_self_eq_true, Nat.le_add_right, eqOk, fn27, res27, gc27, grow27, ty3, ty4, ty22, ty23, ty25, ty29, ty30, ty56, ty63, plan27_1, sb, st]
  rw [chkK_of]; rotate_left; kernel_rfl
  simp only [Stl.wait]
  cases hb : s.inB n with
  | false => cases hv : s.valid <;> simp only [go_sem, ↓reduceIte, Nat.reduceEqDiff, Nat.reduceAdd, Nat.reduceLeDiff, Nat.reduceBEq, Nat.reduceMul, Nat.reduceLT, Int.reduceLT, Int.reduceLE, Int.reduceToNat, Int.reduceNeg, Int.reduceEq, Int.reduceMul, reduceCtorEq, Int.reduceBEq, Int.reduceBNe, Int.reduceAdd, Int.reduceSub, bne_self_eq_false, beq_self_eq_true, Nat.le_add_right, eqOk, fn27, res27, gc27, grow27, ty3, ty4, ty22, ty23, ty25, ty29, ty30, ty56, ty63, plan27_1, sb, st, hB, hC, hb, hv]
  | true =>
    cases hx : inW x with
    | false => cases hv : s.valid <;> simp only [go_sem, ↓reduceIte, Nat.reduceEqDiff, Nat.reduceAdd, Nat.reduceLeDiff, Nat.reduceBEq, Nat.reduceMul, Nat.reduceLT, Int.reduceLT, Int.reduceLE, Int.reduceToNat, Int.reduceNeg, Int.reduceEq, Int.reduceMul, reduceCtorEq, Int.reduceBEq, Int.reduceBNe, Int.reduceAdd, Int.reduceSub, bne_self_eq_false, beq_self_eq_true, Nat.le_add_right, eqOk, fn27, res27, gc27, grow27, ty3, ty4, ty22, ty23, ty25, ty29, ty30, ty56, ty63, plan27_1, sb, st, hB, hC, f76w, hb, hx, hv]
    | true =>
      cases hv : s.valid with
      | false => simp only [go_sem, ↓reduceIte, Nat.reduceEqDiff, Nat.reduceAdd, Nat.reduceLeDiff, Nat.reduceBEq, Nat.reduceMul, Nat.reduceLT, Int.reduceLT, Int.reduceLE, Int.reduceToNat, Int.reduceNeg, Int.reduceEq, Int.reduceMul, reduceCtorEq, Int.reduceBEq, Int.reduceBNe, Int.reduceAdd, Int.reduceSub, bne_self_eq_false, beq_self_eq_true, Nat.le_add_right, eqOk, fn27, res27, gc27, grow27, ty3, ty4, ty22, ty23, ty25, ty29, ty30, ty56, ty63, plan27_1, sb, st, hB, hC, f76w, hb, hx, hv]
      | true =>
        have hw := Stl.valid_wf hv
        obtain ⟨h0, hbk⟩ := Stl.inB_blk hb
        have hbo := hw.bs (s.blk n) (List.mem_of_getElem? hbk)
        have hbn := hbo.hn
        have hs4 := hbo.a4
        have hs5 := hbo.a5
        obtain ⟨-, -, a3, a4, a5⟩ := hvb.at (k := n) (x := (s.blk n).av) h0 (by simp [hbk])
        simp only [Blk.av] at a3 a4 a5
        have hxb : -100 ≤ x ∧ x ≤ 100 := by simpa only [inW, wi, Bool.and_eq_true, decide_eq_true_eq] using hx
        simp only [go_sem, ↓reduceIte, Nat.reduceEqDiff, Nat.reduceAdd, Nat.reduceLeDiff, Nat.reduceBEq, Nat.reduceMul, Nat.reduceLT, Int.reduceLT, Int.reduceLE, Int.reduceToNat, Int.reduceNeg, Int.reduceEq, Int.reduceMul, reduceCtorEq, Int.reduceBEq, Int.reduceBNe, Int.reduceAdd, Int.reduceSub, bne_self_eq_false, beq_self_eq_true, Nat.le_add_right, eqOk, fn27, res27, gc27, grow27, ty3, ty4, ty22, ty23, ty25, ty29, ty30, ty56, ty63, plan27_1, sb, st, hB, hC, f76w, hb, hx, hv, a3, a4, a5]
        refine (ref_Wait_l1 s hw hvb st n x h0 (s.blk n) hbk hxb (s.blk n).n (s.blk n).s0 0 (by omega) (by omega) (by omega) _ (by rfl) (by rfl) (by rfl) (by rfl) (by rfl)).trans ?_
        obtain ⟨q, hq⟩ : ∃ q, (s.blk n).n = q + 1 := ⟨(s.blk n).n - 1, by omega⟩
        rw [hq, waitO_eq q _ _ (by omega) (by omega), show (s.blk n).s0 + (q : Int) = (s.blk n).s1 by omega, waitF_fuel hw.near.1 (by omega) 101 (x.natAbs + 1) x (by omega) (by omega)]
        have : mx 0 ((waitF s.near (s.blk n).s1 (x.natAbs + 1) x : Nat) : Int) = (waitF s.near (s.blk n).s1 (x.natAbs + 1) x : Nat) := by simp only [mx]; split <;> omega
        rw [this]

theorem SlOk.seal {sz : Nat} {v : AV} {xs : List AV} (h : SlOk H sz v xs) (G : Heap) : sealG (H ++ G) H.length v = v := by
  obtain ⟨h1, h2⟩ := h
  cases v <;> simp only at h1 <;> simp only [sealG]
  rw [if_pos (List.getElem?_eq_some_iff.1 h1.1).1]

theorem touch_len (s : Stl) (n m x : Int) : (s.touch n m x).ts.length = s.ts.length + 1 := by simp [Stl.touch]

theorem ref_Touched (s : Stl) (hvb : SlOk H 6 vb (s.bs.map Blk.av)) (hvt : SlOk H 4 vt (s.ts.map Tch.av)) (hl2 : s.ts.length ≤ 1000) (n m x : Int) :
    callFL cfg0 prog0 false 86 [.agg [vb, I s.near, I s.last, vt], I n, I m, I x] H none = some ⟨.ret (.agg [vb, I s.near, I s.last, .sl false ((s.touch n m x).ts.map Tch.av)]), H, none⟩ := by
  have sb := hvb.scal
  have st := hvt.scal
  have h1 : addElem (H ++ [.box (.agg [vb, I s.near, I s.last, vt]), .box (.agg [.sl true [], I 0, I 0, .sl true []])]) 4 true (.sl true []) (s.ts.map Tch.av) = some (.gsl (H.length + 2) s.ts.length, H ++ [.box (.agg [vb, I s.near, I s.last, vt]), .box (.agg [.sl true [], I 0, I 0, .sl true []]), .grow 4 (s.ts.map Tch.av)]) := by
    rw [add_full rfl rfl (elemsOk_map (fun _ => rfl) _) (ltL_map (fun _ => rfl) _) (by simp; omega) rfl]
    simp
  have h2 : addElem (H ++ [.box (.agg [vb, I s.near, I s.last, vt]), .box (.agg [.sl true [], I 0, I 0, .sl true []]), .grow 4 (s.ts.map Tch.av)]) 4 true (.gsl (H.length + 2) s.ts.length) [.agg [I n, I m, I x, I x]] = some (.gsl (H.length + 2) (s.ts.length + 1), H ++ [.box (.agg [vb, I s.near, I s.last, vt]), .box (.agg [.sl true [], I 0, I 0, .sl true []]), .grow 4 ((s.touch n m x).ts.map Tch.av)]) := by
    rw [add_gsl (xs := s.ts.map Tch.av) (by simp [get_at']) (by simp) rfl rfl (by simp; omega), set_at']
    simp only [Stl.touch, List.map_append]
    rfl
  have he := fun G => (hvt.app G).elems
  have hs1 := hvb.seal
  have hlt := hvb.lt0
  refine (callFL_eq fn86 rfl (by simp [Try.f86])).trans ?_
  simp only [go_sem, ↓reduceIte, Nat.reduceEqDiff, Nat.reduceAdd, Nat.reduceLeDiff, Nat.reduceBEq, Nat.reduceMul, Nat.reduceLT, Int.reduceLT, Int.reduceLE, Int.reduceToNat, Int.reduceNeg, Int.reduceEq, Int.reduceMul, reduceCtorEq, Int.reduceBEq, Int.reduceBNe, Int.reduceAdd, Int.reduceSub, bne_self_eq_false, beq_self_eq_true, Nat.le_add_right, eqOk, fn86, res86, gc86, grow86, ty3, ty22, ty23, ty25, ty29, ty56, ty63, sb, st, he, h1, h2, ↓hs1, hlt, List.length_map, touch_len]

theorem touch_wf {s : Stl} (hs : s.Wf) (hl6 : s.ts.length ≤ 6) (n m : Int) {x : Int} (hx : -100 ≤ x ∧ x ≤ 100) : (s.touch n m x).Wf := ⟨hs.bs, fun t ht => by
    simp only [Stl.touch, List.mem_append, List.mem_singleton] at ht
    rcases ht with ht | rfl
    · exact hs.ts t ht
    · exact ⟨hx.1, Int.le_refl _, hx.2⟩, by simp [Stl.touch]; omega, hs.near, hs.last, hs.blen⟩

theorem valid_len {s : Stl} (hv : s.valid = true) : s.ts.length ≤ 6 := by
  simp only [Stl.valid, Stl.nums, Bool.and_eq_true, decide_eq_true_eq] at hv
  omega

theorem ref_Latest_loop (s : Stl) (hs : s.Wf) (hl6 : s.ts.length ≤ 6) (hvb : SlOk H 6 vb (s.bs.map Blk.av)) (hvt : SlOk H 4 vt (s.ts.map Tch.av)) (n x : Int) (h0 : 0 ≤ n) (hb : s.bs[n.toNat]? = some (s.blk n)) (hx : -100 ≤ x ∧ x ≤ 100) (y : Nat) (hy : y ≤ 60) :
    ∀ (q i : Nat), i + q = y + 1 → ∀ E : Env, E.get 1 = I n → E.get 2 = I x → E.get 3 = I y → E.get 4 = .ptr H.length 0 → E.get 11 = I ((y : Int) - i) →
    Option.map (finishC H.length) (execL cfg0 prog0 ⟨29, none, false, H.length⟩ (todoAt Try.f29 5) ⟨E, [], H ++ [.box (.agg [vb, I s.near, I s.last, vt])], none⟩) =
      some ⟨.ret (match findN (fun j => settl (s.touch n ((y : Int) - j) x) n (s.blk n) y) i q with
        | some i => .tup [I ((y : Int) - i), I 0]
        | none => .tup [I 0, I 4]), H, none⟩ := by
  intro q
  induction q with
  | zero =>
    intro i hi E g1 g2 g3 g4 g11
    have hk' : ¬ 0 ≤ (y : Int) - i := by omega
    simp only [findN]
    simp only [loopIt, todoPast, todoAt, todoOf, firstReg, ↓reduceIte, Option.some.injEq, Nat.reduceEqDiff, reduceCtorEq, Try.f29]
    rw [execL_inLoop]
    simp only [go_sem, ↓reduceIte, Nat.reduceEqDiff, Nat.reduceAdd, Nat.reduceLeDiff, Nat.reduceBEq, Nat.reduceMul, Nat.reduceLT, Int.reduceLT, Int.reduceLE, Int.reduceToNat, Int.reduceNeg, Int.reduceEq, Int.reduceMul, reduceCtorEq, Int.reduceBEq, Int.reduceBNe, Int.reduceAdd, Int.reduceSub, bne_self_eq_false, beq_self_eq_true, Nat.le_add_right, eqOk, fn29, res29, gc29, grow29, ty3, ty4, ty22, ty23, ty25, ty29, ty30, ty56, ty63, plan29_1, g1, g2, g3, g4, g11, ge_iff_le, hk']
  | succ q ih =>
    intro i hi E g1 g2 g3 g4 g11
    have hk' : 0 ≤ (y : Int) - i := by omega
    have hT := fun (G : Heap) => ref_Touched (H := H ++ G) s (hvb.app G) (hvt.app G) (by omega) n ((y : Int) - i) x
    have hA := fun (G : Heap) => ref_all (H := H ++ G) (vt := .sl false ((s.touch n ((y : Int) - i) x).ts.map Tch.av)) (s.touch n ((y : Int) - i) x) (touch_wf hs hl6 n _ hx) (hvb.app G) ⟨rfl, by simp only [List.mem_map]; rintro _ ⟨t, _, rfl⟩; rfl⟩ n (s.blk n) h0 hb y hy
    have e1 : IntKind.i64.wrap ((y : Int) - i - 1) = (y : Int) - (i + 1 : Nat) := by rw [w64 (by omega) (by omega)]; omega
    simp only [findN]
    have hih := ih (i + 1) (by omega)
    have hn1 : (s.touch n ((y : Int) - i) x).near = s.near := rfl
    have hn2 : (s.touch n ((y : Int) - i) x).last = s.last := rfl
    rw [hn1, hn2] at hA
    simp only [loopIt, todoPast, todoAt, todoOf, firstReg, ↓reduceIte, Option.some.injEq, Nat.reduceEqDiff, reduceCtorEq, Try.f29]
    rw [execL_inLoop]
    rcases Bool.eq_false_or_eq_true (settl (s.touch n ((y : Int) - i) x) n (s.blk n) y) with hc | hc
    · simp only [go_sem, ↓reduceIte, Nat.reduceEqDiff, Nat.reduceAdd, Nat.reduceLeDiff, Nat.reduceBEq, Nat.reduceMul, Nat.reduceLT, Int.reduceLT, Int.reduceLE, Int.reduceToNat, Int.reduceNeg, Int.reduceEq, Int.reduceMul, reduceCtorEq, Int.reduceBEq, Int.reduceBNe, Int.reduceAdd, Int.reduceSub, bne_self_eq_false, beq_self_eq_true, Nat.le_add_right, eqOk, fn29, res29, gc29, grow29, ty3, ty4, ty22, ty23, ty25, ty29, ty30, ty56, ty63, plan29_1, g1, g2, g3, g4, g11, ge_iff_le, hk', hT, hA, hc, e1]
    · simp only [go_sem, ↓reduceIte, Nat.reduceEqDiff, Nat.reduceAdd, Nat.reduceLeDiff, Nat.reduceBEq, Nat.reduceMul, Nat.reduceLT, Int.reduceLT, Int.reduceLE, Int.reduceToNat, Int.reduceNeg, Int.reduceEq, Int.reduceMul, reduceCtorEq, Int.reduceBEq, Int.reduceBNe, Int.reduceAdd, Int.reduceSub, bne_self_eq_false, beq_self_eq_true, Nat.le_add_right, eqOk, fn29, res29, gc29, grow29, ty3, ty4, ty22, ty23, ty25, ty29, ty30, ty56, ty63, plan29_1, g1, g2, g3, g4, g11, ge_iff_le, hk', hT, hA, hc, e1]
      exact hih _ (by exact g1) (by exact g2) (by exact g3) (by exact g4) (by rfl)

theorem ref_Latest (s : Stl) (hvb : SlOk H 6 vb (s.bs.map Blk.av)) (hvt : SlOk H 4 vt (s.ts.map Tch.av)) (hl : s.bs.length ≤ 1000) (hl2 : s.ts.length ≤ 1000) (n x y : Int) :
    callFL cfg0 prog0 false 29 [.agg [vb, I s.near, I s.last, vt], I n, I x, I y] H none = some ⟨.ret (.tup [I (s.latest n x y).1, I (s.latest n x y).2]), H, none⟩ := by
  have sb := hvb.scal
  have st := hvt.scal
  have hB := fun (G : Heap) n => ref_Block (H := H ++ G) s (hvb.app G) st hl n
  have hM := fun (G : Heap) n => ref_Minute (H := H ++ G) s sb st n
  have hC := fun (G : Heap) b => ref_check (H := H ++ G) s (hvb.app G) (hvt.app G) hl hl2 b
  refine (callFL_eq fn29 rfl (by simp [Try.f29])).trans ?_
  simp only [go_sem, ↓reduceIte, Nat.reduceEqDiff, Nat.reduceAdd, Nat.reduceLeDiff, Nat.reduceBEq, Nat.reduceMul, Nat.reduceLT, Int.reduceLT, Int.reduceLE, Int.reduceToNat, Int.reduceNeg, Int.reduceEq, Int.reduceMul, reduceCtorEq, Int.reduceBEq, Int.reduceBNe, Int.reduceAdd, Int.reduceSub, bne_self_eq_false, beq_self_eq_true, Nat.le_add_right, eqOk, fn29, res29, gc29, grow29, ty3, ty4, ty22, ty23, ty25, ty29, ty30, ty56, ty63, plan29_1, sb, st]
  rw [chkK_of]; rotate_left; kernel_rfl
  simp only [Stl.latest]
  cases hb : s.inB n with
  | false => cases hv : s.valid <;> simp only [go_sem, ↓reduceIte, Nat.reduceEqDiff, Nat.reduceAdd, Nat.reduceLeDiff, Nat.reduceBEq, Nat.reduceMul, Nat.reduceLT, Int.reduceLT, Int.reduceLE, Int.reduceToNat, Int.reduceNeg, Int.reduceEq, Int.reduceMul, reduceCtorEq, Int.reduceBEq, Int.reduceBNe, Int.reduceAdd, Int.reduceSub, bne_self_eq_false, beq_self_eq_true, Nat.le_add_right, eqOk, fn29, res29, gc29, grow29, ty3, ty4, ty22, ty23, ty25, ty29, ty30, ty56, ty63, plan29_1, sb, st, hB, hC, hb, hv, Bool.false_and]
  | true =>
    cases hx : inW x with
    | false => cases hv : s.valid <;> simp only [go_sem, ↓reduceIte, Nat.reduceEqDiff, Nat.reduceAdd, Nat.reduceLeDiff, Nat.reduceBEq, Nat.reduceMul, Nat.reduceLT, Int.reduceLT, Int.reduceLE, Int.reduceToNat, Int.reduceNeg, Int.reduceEq, Int.reduceMul, reduceCtorEq, Int.reduceBEq, Int.reduceBNe, Int.reduceAdd, Int.reduceSub, bne_self_eq_false, beq_self_eq_true, Nat.le_add_right, eqOk, fn29, res29, gc29, grow29, ty3, ty4, ty22, ty23, ty25, ty29, ty30, ty56, ty63, plan29_1, sb, st, hB, hC, f76w, hb, hx, hv, Bool.false_and, Bool.and_false]
    | true =>
      cases hy : s.inM y with
      | false => cases hv : s.valid <;> simp only [go_sem, ↓reduceIte, Nat.reduceEqDiff, Nat.reduceAdd, Nat.reduceLeDiff, Nat.reduceBEq, Nat.reduceMul, Nat.reduceLT, Int.reduceLT, Int.reduceLE, Int.reduceToNat, Int.reduceNeg, Int.reduceEq, Int.reduceMul, reduceCtorEq, Int.reduceBEq, Int.reduceBNe, Int.reduceAdd, Int.reduceSub, bne_self_eq_false, beq_self_eq_true, Nat.le_add_right, eqOk, fn29, res29, gc29, grow29, ty3, ty4, ty22, ty23, ty25, ty29, ty30, ty56, ty63, plan29_1, sb, st, hB, hC, hM, f76w, hb, hx, hy, hv, Bool.and_false, Bool.true_and]
      | true =>
        cases hv : s.valid with
        | false => simp only [go_sem, ↓reduceIte, Nat.reduceEqDiff, Nat.reduceAdd, Nat.reduceLeDiff, Nat.reduceBEq, Nat.reduceMul, Nat.reduceLT, Int.reduceLT, Int.reduceLE, Int.reduceToNat, Int.reduceNeg, Int.reduceEq, Int.reduceMul, reduceCtorEq, Int.reduceBEq, Int.reduceBNe, Int.reduceAdd, Int.reduceSub, bne_self_eq_false, beq_self_eq_true, Nat.le_add_right, eqOk, fn29, res29, gc29, grow29, ty3, ty4, ty22, ty23, ty25, ty29, ty30, ty56, ty63, plan29_1, sb, st, hB, hC, hM, f76w, hb, hx, hy, hv]
        | true =>
          have hw := Stl.valid_wf hv
          obtain ⟨h0, hbk⟩ := Stl.inB_blk hb
          obtain ⟨y', rfl, hy'⟩ := Stl.inM_nat hw hy
          have hxb : -100 ≤ x ∧ x ≤ 100 := by simpa only [inW, wi, Bool.and_eq_true, decide_eq_true_eq] using hx
          simp only [go_sem, ↓reduceIte, Nat.reduceEqDiff, Nat.reduceAdd, Nat.reduceLeDiff, Nat.reduceBEq, Nat.reduceMul, Nat.reduceLT, Int.reduceLT, Int.reduceLE, Int.reduceToNat, Int.reduceNeg, Int.reduceEq, Int.reduceMul, reduceCtorEq, Int.reduceBEq, Int.reduceBNe, Int.reduceAdd, Int.reduceSub, bne_self_eq_false, beq_self_eq_true, Nat.le_add_right, eqOk, fn29, res29, gc29, grow29, ty3, ty4, ty22, ty23, ty25, ty29, ty30, ty56, ty63, plan29_1, sb, st, hB, hC, hM, f76w, hb, hx, hy, hv]
          refine (ref_Latest_loop s hw (valid_len hv) hvb hvt n x h0 hbk hxb y' hy' (y' + 1) 0 (by omega) _ (by rfl) (by rfl) (by rfl) (by rfl) (by simp [Env.get])).trans ?_
          simp only [Int.toNat_natCast, Bool.and_self, if_true]
          cases findN (fun j => settl (s.touch n ((y' : Int) - j) x) n (s.blk n) y') 0 (y' + 1) <;> rfl

end Go.Ab
