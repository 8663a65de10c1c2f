/-
  The sample is alive; the names that the statement gives are true of it.
-/
import Derived.Test.YtppmifiahebgfaaL1
namespace Go.Ab
open Go.Proofs
set_option linter.unusedSimpArgs false
set_option linter.unusedVariables false
set_option maxRecDepth 100000

theorem spans_a (H : Heap) (u v : Bool) : callFL cfg0 prog0 false 30 [.sl u [.agg [I 1, I 3], .agg [I 6, I 12]], .sl v [.agg [I 1, I 3], .agg [I 6, I 12]]] H none = some ⟨.ret (.bool true), H, none⟩ :=
  (f30 H (xs := [(1, 3), (6, 12)]) (ys := [(1, 3), (6, 12)]) ⟨rfl, by simp [spA, AV.cells]⟩ ⟨rfl, by simp [spA, AV.cells]⟩ (by simp) (by simp)).trans (by simp)

theorem spans_b (H : Heap) (u v : Bool) : callFL cfg0 prog0 false 30 [.sl u [.agg [I 7, I 12]], .sl v [.agg [I 7, I 12]]] H none = some ⟨.ret (.bool true), H, none⟩ :=
  (f30 H (xs := [(7, 12)]) (ys := [(7, 12)]) ⟨rfl, by simp [spA, AV.cells]⟩ ⟨rfl, by simp [spA, AV.cells]⟩ (by simp) (by simp)).trans (by simp)

theorem smpA_c : smpA.cells = [.sl true (smp.bs.map Blk.av), I 5, I 12, .sl true (smp.ts.map Tch.av)] := rfl

theorem f13 (H : Heap) : callFL cfg0 prog0 false 13 [] H none = some ⟨.ret (.bool true), H, none⟩ := by
  refine (callFL_eq fn13 rfl (by simp [Try.f13])).trans ?_
  simp only [go_sem, ↓reduceIte, Nat.reduceEqDiff, Nat.reduceAdd, Nat.reduceLeDiff, Nat.reduceBEq, Nat.reduceMul, Nat.reduceLT, Int.reduceLT, Int.reduceLE, Int.reduceToNat, Int.reduceNeg, Int.reduceEq, Int.reduceMul, reduceCtorEq, fn13, res13, gc13, grow13, ty3, ty22, ty23, ty25, ty29, ty30, ty38, ty56, ty63, plan13_10, eqt29, List.append_eq, f32, f31, smp14e, smp16b, smp18c, smp20b, smp22a, smp24b, smp26c, smp28b, smp18d]
  rw [chkK_of]; rotate_left; kernel_rfl
  simp only [go_sem, ↓reduceIte, Nat.reduceEqDiff, Nat.reduceAdd, Nat.reduceLeDiff, Nat.reduceBEq, Nat.reduceMul, Nat.reduceLT, Int.reduceLT, Int.reduceLE, Int.reduceToNat, Int.reduceNeg, Int.reduceEq, Int.reduceMul, reduceCtorEq, fn13, res13, gc13, grow13, ty3, ty22, ty23, ty25, ty29, ty30, ty38, ty56, ty63, plan13_10, eqt29, List.append_eq, f32, f31, smp14e, smp16b, smp18c, smp20b, smp22a, smp24b, smp26c, smp28b, smp18d, eqOk, sameL, AV.same, spans_a]
  done

end Go.Ab
