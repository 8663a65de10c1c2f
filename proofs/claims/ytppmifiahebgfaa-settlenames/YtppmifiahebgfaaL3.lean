/-
  The names that the statement gives, walked.
-/
import Derived.Test.YtppmifiahebgfaaL2
namespace Go.Ab
open Go.Proofs
set_option linter.unusedSimpArgs false
set_option linter.unusedVariables false
set_option maxRecDepth 100000

theorem wr1 : IntKind.i64.wrap 1 = 1 := by decide
theorem wr2 : IntKind.i64.wrap 2 = 2 := by decide
theorem wr3 : IntKind.i64.wrap 3 = 3 := by decide
theorem wr4 : IntKind.i64.wrap 4 = 4 := by decide

theorem f5 (H : Heap) : callFL cfg0 prog0 false 5 [] H none = some ⟨.ret (.bool true), H, none⟩ := by
  refine (callFL_eq fn5 rfl (by simp [Try.f5])).trans ?_
  simp only [go_sem, ↓reduceIte, Nat.reduceEqDiff, Nat.reduceAdd, Nat.reduceLeDiff, Nat.reduceBEq, Nat.reduceMul, Nat.reduceLT, Int.reduceLT, Int.reduceLE, Int.reduceToNat, Int.reduceNeg, Int.reduceEq, Int.reduceMul, reduceCtorEq, fn5, res5, gc5, grow5, ty3, ty22, ty23, ty25, ty29, ty30, ty38, ty45, ty46, ty56, ty63, plan5_4, plan5_16, eqt29, f32, f31, smp14a, smp14b, smp14c, smp14d, smp16a, smp18a, smp18b, smp20a, smp24a, smp26a, smp26b, smp28a, f13, eqOk, sameL, AV.same, spans_b, List.append_eq, idxAddr, Int.reduceAdd, wr1, wr2, wr3, wr4]
  rw [execL_inLoop]
  simp only [go_sem, ↓reduceIte, Nat.reduceEqDiff, Nat.reduceAdd, Nat.reduceLeDiff, Nat.reduceBEq, Nat.reduceMul, Nat.reduceLT, Int.reduceLT, Int.reduceLE, Int.reduceToNat, Int.reduceNeg, Int.reduceEq, Int.reduceMul, reduceCtorEq, fn5, res5, gc5, grow5, ty3, ty22, ty23, ty25, ty29, ty30, ty38, ty45, ty46, ty56, ty63, plan5_4, plan5_16, eqt29, f32, f31, smp14a, smp14b, smp14c, smp14d, smp16a, smp18a, smp18b, smp20a, smp24a, smp26a, smp26b, smp28a, f13, eqOk, sameL, AV.same, spans_b, List.append_eq, idxAddr, Int.reduceAdd, wr1, wr2, wr3, wr4]
  rw [chkK_of]; rotate_left; kernel_rfl
  simp only [go_sem, ↓reduceIte, Nat.reduceEqDiff, Nat.reduceAdd, Nat.reduceLeDiff, Nat.reduceBEq, Nat.reduceMul, Nat.reduceLT, Int.reduceLT, Int.reduceLE, Int.reduceToNat, Int.reduceNeg, Int.reduceEq, Int.reduceMul, reduceCtorEq, fn5, res5, gc5, grow5, ty3, ty22, ty23, ty25, ty29, ty30, ty38, ty45, ty46, ty56, ty63, plan5_4, plan5_16, eqt29, f32, f31, smp14a, smp14b, smp14c, smp14d, smp16a, smp18a, smp18b, smp20a, smp24a, smp26a, smp26b, smp28a, f13, eqOk, sameL, AV.same, spans_b, List.append_eq, idxAddr, Int.reduceAdd, wr1, wr2, wr3, wr4]
  rw [execL_inLoop]
  simp only [go_sem, ↓reduceIte, Nat.reduceEqDiff, Nat.reduceAdd, Nat.reduceLeDiff, Nat.reduceBEq, Nat.reduceMul, Nat.reduceLT, Int.reduceLT, Int.reduceLE, Int.reduceToNat, Int.reduceNeg, Int.reduceEq, Int.reduceMul, reduceCtorEq, fn5, res5, gc5, grow5, ty3, ty22, ty23, ty25, ty29, ty30, ty38, ty45, ty46, ty56, ty63, plan5_4, plan5_16, eqt29, f32, f31, smp14a, smp14b, smp14c, smp14d, smp16a, smp18a, smp18b, smp20a, smp24a, smp26a, smp26b, smp28a, f13, eqOk, sameL, AV.same, spans_b, List.append_eq, idxAddr, Int.reduceAdd, wr1, wr2, wr3, wr4]
  rw [chkK_of]; rotate_left; kernel_rfl
  simp only [go_sem, ↓reduceIte, Nat.reduceEqDiff, Nat.reduceAdd, Nat.reduceLeDiff, Nat.reduceBEq, Nat.reduceMul, Nat.reduceLT, Int.reduceLT, Int.reduceLE, Int.reduceToNat, Int.reduceNeg, Int.reduceEq, Int.reduceMul, reduceCtorEq, fn5, res5, gc5, grow5, ty3, ty22, ty23, ty25, ty29, ty30, ty38, ty45, ty46, ty56, ty63, plan5_4, plan5_16, eqt29, f32, f31, smp14a, smp14b, smp14c, smp14d, smp16a, smp18a, smp18b, smp20a, smp24a, smp26a, smp26b, smp28a, f13, eqOk, sameL, AV.same, spans_b, List.append_eq, idxAddr, Int.reduceAdd, wr1, wr2, wr3, wr4]
  rw [execL_inLoop]
  simp only [go_sem, ↓reduceIte, Nat.reduceEqDiff, Nat.reduceAdd, Nat.reduceLeDiff, Nat.reduceBEq, Nat.reduceMul, Nat.reduceLT, Int.reduceLT, Int.reduceLE, Int.reduceToNat, Int.reduceNeg, Int.reduceEq, Int.reduceMul, reduceCtorEq, fn5, res5, gc5, grow5, ty3, ty22, ty23, ty25, ty29, ty30, ty38, ty45, ty46, ty56, ty63, plan5_4, plan5_16, eqt29, f32, f31, smp14a, smp14b, smp14c, smp14d, smp16a, smp18a, smp18b, smp20a, smp24a, smp26a, smp26b, smp28a, f13, eqOk, sameL, AV.same, spans_b, List.append_eq, idxAddr, Int.reduceAdd, wr1, wr2, wr3, wr4]
  rw [chkK_of]; rotate_left; kernel_rfl
  simp only [go_sem, ↓reduceIte, Nat.reduceEqDiff, Nat.reduceAdd, Nat.reduceLeDiff, Nat.reduceBEq, Nat.reduceMul, Nat.reduceLT, Int.reduceLT, Int.reduceLE, Int.reduceToNat, Int.reduceNeg, Int.reduceEq, Int.reduceMul, reduceCtorEq, fn5, res5, gc5, grow5, ty3, ty22, ty23, ty25, ty29, ty30, ty38, ty45, ty46, ty56, ty63, plan5_4, plan5_16, eqt29, f32, f31, smp14a, smp14b, smp14c, smp14d, smp16a, smp18a, smp18b, smp20a, smp24a, smp26a, smp26b, smp28a, f13, eqOk, sameL, AV.same, spans_b, List.append_eq, idxAddr, Int.reduceAdd, wr1, wr2, wr3, wr4]
  rw [execL_inLoop]
  simp only [go_sem, ↓reduceIte, Nat.reduceEqDiff, Nat.reduceAdd, Nat.reduceLeDiff, Nat.reduceBEq, Nat.reduceMul, Nat.reduceLT, Int.reduceLT, Int.reduceLE, Int.reduceToNat, Int.reduceNeg, Int.reduceEq, Int.reduceMul, reduceCtorEq, fn5, res5, gc5, grow5, ty3, ty22, ty23, ty25, ty29, ty30, ty38, ty45, ty46, ty56, ty63, plan5_4, plan5_16, eqt29, f32, f31, smp14a, smp14b, smp14c, smp14d, smp16a, smp18a, smp18b, smp20a, smp24a, smp26a, smp26b, smp28a, f13, eqOk, sameL, AV.same, spans_b, List.append_eq, idxAddr, Int.reduceAdd, wr1, wr2, wr3, wr4]
  rw [chkK_of]; rotate_left; kernel_rfl
  simp only [go_sem, ↓reduceIte, Nat.reduceEqDiff, Nat.reduceAdd, Nat.reduceLeDiff, Nat.reduceBEq, Nat.reduceMul, Nat.reduceLT, Int.reduceLT, Int.reduceLE, Int.reduceToNat, Int.reduceNeg, Int.reduceEq, Int.reduceMul, reduceCtorEq, fn5, res5, gc5, grow5, ty3, ty22, ty23, ty25, ty29, ty30, ty38, ty45, ty46, ty56, ty63, plan5_4, plan5_16, eqt29, f32, f31, smp14a, smp14b, smp14c, smp14d, smp16a, smp18a, smp18b, smp20a, smp24a, smp26a, smp26b, smp28a, f13, eqOk, sameL, AV.same, spans_b, List.append_eq, idxAddr, Int.reduceAdd, wr1, wr2, wr3, wr4]
  rw [execL_inLoop]
  simp only [go_sem, ↓reduceIte, Nat.reduceEqDiff, Nat.reduceAdd, Nat.reduceLeDiff, Nat.reduceBEq, Nat.reduceMul, Nat.reduceLT, Int.reduceLT, Int.reduceLE, Int.reduceToNat, Int.reduceNeg, Int.reduceEq, Int.reduceMul, reduceCtorEq, fn5, res5, gc5, grow5, ty3, ty22, ty23, ty25, ty29, ty30, ty38, ty45, ty46, ty56, ty63, plan5_4, plan5_16, eqt29, f32, f31, smp14a, smp14b, smp14c, smp14d, smp16a, smp18a, smp18b, smp20a, smp24a, smp26a, smp26b, smp28a, f13, eqOk, sameL, AV.same, spans_b, List.append_eq, idxAddr, Int.reduceAdd, wr1, wr2, wr3, wr4]
  rw [chkK_of]; rotate_left; kernel_rfl
  simp only [go_sem, ↓reduceIte, Nat.reduceEqDiff, Nat.reduceAdd, Nat.reduceLeDiff, Nat.reduceBEq, Nat.reduceMul, Nat.reduceLT, Int.reduceLT, Int.reduceLE, Int.reduceToNat, Int.reduceNeg, Int.reduceEq, Int.reduceMul, reduceCtorEq, fn5, res5, gc5, grow5, ty3, ty22, ty23, ty25, ty29, ty30, ty38, ty45, ty46, ty56, ty63, plan5_4, plan5_16, eqt29, f32, f31, smp14a, smp14b, smp14c, smp14d, smp16a, smp18a, smp18b, smp20a, smp24a, smp26a, smp26b, smp28a, f13, eqOk, sameL, AV.same, spans_b, List.append_eq, idxAddr, Int.reduceAdd, wr1, wr2, wr3, wr4]
  done

end Go.Ab
