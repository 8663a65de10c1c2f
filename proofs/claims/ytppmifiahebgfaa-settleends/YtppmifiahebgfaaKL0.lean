/-
  The law's own helpers: a span, a touch, the sample.
-/
import Derived.Test.YtppmifiahebgfaaKW0
import Derived.Test.YtppmifiahebgfaaKR0
import Derived.Test.YtppmifiahebgfaaP5
import Derived.Test.YtppmifiahebgfaaP6
namespace Go.Ab
open Go.Proofs
set_option linter.unusedSimpArgs false
set_option linter.unusedVariables false

theorem f31 (a b : Int) (H : Heap) : callFL cfg0 prog0 false 31 [I a, I b] H none = some ⟨.ret (.agg [I a, I b]), H, none⟩ := by
  refine (callFL_eq fn31 rfl (by simp [Try.f31])).trans ?_
  simp only [go_sem, ↓reduceIte, Nat.reduceEqDiff, Nat.reduceAdd, Nat.reduceLeDiff, Nat.reduceBEq, Nat.reduceMul, Nat.reduceLT, Int.reduceLT, Int.reduceLE, Int.reduceToNat, Int.reduceNeg, Int.reduceEq, Int.reduceMul, reduceCtorEq, fn31, res31, gc31, grow31, ty3, ty29]

theorem f39 (a b x y : Int) (H : Heap) : callFL cfg0 prog0 false 39 [I a, I b, I x, I y] H none = some ⟨.ret (.agg [I a, I b, I x, I y]), H, none⟩ := by
  refine (callFL_eq fn39 rfl (by simp [Try.f39])).trans ?_
  simp only [go_sem, ↓reduceIte, Nat.reduceEqDiff, Nat.reduceAdd, Nat.reduceLeDiff, Nat.reduceBEq, Nat.reduceMul, Nat.reduceLT, Int.reduceLT, Int.reduceLE, Int.reduceToNat, Int.reduceNeg, Int.reduceEq, Int.reduceMul, reduceCtorEq, fn39, res39, gc39, grow39, ty3, ty29, ty63, f31]

theorem f30_loop (H : Heap) {u v : AV} {xs ys : List (Int × Int)} (hu : SlOk H 2 u (xs.map spA)) (hv : SlOk H 2 v (ys.map spA)) (hlen : xs.length = ys.length) (hl : xs.length ≤ 100000) :
    ∀ (n k : Nat) (e : Env), k + n = xs.length → e.get 0 = u → e.get 1 = v → e.get 5 = I k →
    execL cfg0 prog0 ⟨30, none, false, H.length⟩ (todoAt Try.f30 4) ⟨e, [], H, none⟩ = some ⟨.ret (.bool (decide (xs.drop k = ys.drop k))), H, none⟩ := by
  intro n
  induction n with
  | zero =>
    intro k e hk g0 g1 g5
    have hk' : ¬ (k : Int) < xs.length := by omega
    have d1 : xs.drop k = [] := List.drop_eq_nil_of_le (by omega)
    have d2 : ys.drop k = [] := List.drop_eq_nil_of_le (by omega)
    simp only [loopIt, todoPast, todoAt, todoOf, firstReg, ↓reduceIte, Option.some.injEq, Nat.reduceEqDiff, reduceCtorEq, Try.f30]
    rw [execL_inLoop]
    simp only [go_sem, ↓reduceIte, Nat.reduceEqDiff, Nat.reduceAdd, Nat.reduceLeDiff, Nat.reduceBEq, Nat.reduceMul, Nat.reduceLT, Int.reduceLT, Int.reduceLE, Int.reduceToNat, Int.reduceNeg, Int.reduceEq, Int.reduceMul, reduceCtorEq, fn30, res30, gc30, grow30, ty3, ty29, ty38, plan30_6, eqt29, g0, g1, g5, hu.len, List.length_map, hk', d1, d2]
  | succ n ih =>
    intro k e hk g0 g1 g5
    have hk' : (k : Int) < xs.length := by omega
    have hkx : k < xs.length := by omega
    have hky : k < ys.length := by omega
    have ex : (xs.map spA)[(k : Int).toNat]? = some (spA xs[k]) := by simp [hkx]
    have ey : (ys.map spA)[(k : Int).toNat]? = some (spA ys[k]) := by simp [hky]
    obtain ⟨a1, a2, a3, a4, a5⟩ := hu.at (by omega) ex
    obtain ⟨b1, b2, b3, b4, b5⟩ := hv.at (by omega) ey
    have w : IntKind.i64.wrap ((k : Int) + 1) = ((k + 1 : Nat) : Int) := by rw [w64 (by omega) (by omega)]; omega
    have d1 : xs.drop k = xs[k] :: xs.drop (k + 1) := List.drop_eq_getElem_cons hkx
    have d2 : ys.drop k = ys[k] :: ys.drop (k + 1) := List.drop_eq_getElem_cons hky
    simp only [loopIt, todoPast, todoAt, todoOf, firstReg, ↓reduceIte, Option.some.injEq, Nat.reduceEqDiff, reduceCtorEq, Try.f30]
    rw [execL_inLoop]
    simp only [go_sem, ↓reduceIte, Nat.reduceEqDiff, Nat.reduceAdd, Nat.reduceLeDiff, Nat.reduceBEq, Nat.reduceMul, Nat.reduceLT, Int.reduceLT, Int.reduceLE, Int.reduceToNat, Int.reduceNeg, Int.reduceEq, Int.reduceMul, reduceCtorEq, fn30, res30, gc30, grow30, ty3, ty29, ty38, plan30_6, eqt29, g0, g1, g5, hu.len, List.length_map, hk']
    rw [chkK_of]; rotate_left; kernel_rfl
    have hp : ∀ p q : Int × Int, p = q ↔ p.1 = q.1 ∧ p.2 = q.2 := fun p q => Prod.ext_iff
    by_cases h1 : xs[k].1 = ys[k].1
    · by_cases h2 : xs[k].2 = ys[k].2
      · have hd : decide (xs.drop k = ys.drop k) = decide (xs.drop (k + 1) = ys.drop (k + 1)) := by
          rw [d1, d2]; simp only [List.cons.injEq, hp, h1, h2, true_and, and_self]
        rw [hd]
        simp only [go_sem, ↓reduceIte, Nat.reduceEqDiff, Nat.reduceAdd, Nat.reduceLeDiff, Nat.reduceBEq, Nat.reduceMul, Nat.reduceLT, Int.reduceLT, Int.reduceLE, Int.reduceToNat, Int.reduceNeg, Int.reduceEq, Int.reduceMul, reduceCtorEq, fn30, res30, gc30, grow30, ty3, ty29, ty38, plan30_6, eqt29, g0, g1, g5, a1, a2, a3, b1, b2, b3, spA, hu.lt0, hv.lt0, w, sameL, AV.same, eqOk, h1, h2]
        exact ih (k + 1) _ (by omega) (by exact g0) (by exact g1) (by rfl)
      · have hd : decide (xs.drop k = ys.drop k) = false := by
          rw [d1, d2]; simp only [List.cons.injEq, hp, h2, and_false, false_and, decide_false]
        have h2' : (xs[k].2 == ys[k].2) = false := by simpa using h2
        rw [hd]
        simp only [go_sem, ↓reduceIte, Nat.reduceEqDiff, Nat.reduceAdd, Nat.reduceLeDiff, Nat.reduceBEq, Nat.reduceMul, Nat.reduceLT, Int.reduceLT, Int.reduceLE, Int.reduceToNat, Int.reduceNeg, Int.reduceEq, Int.reduceMul, reduceCtorEq, fn30, res30, gc30, grow30, ty3, ty29, ty38, plan30_6, eqt29, g0, g1, g5, a1, a2, a3, b1, b2, b3, spA, hu.lt0, hv.lt0, w, sameL, AV.same, eqOk, h1, h2']
    · have hd : decide (xs.drop k = ys.drop k) = false := by
          rw [d1, d2]; simp only [List.cons.injEq, hp, h1, false_and, decide_false]
      have h1' : (xs[k].1 == ys[k].1) = false := by simpa using h1
      rw [hd]
      simp only [go_sem, ↓reduceIte, Nat.reduceEqDiff, Nat.reduceAdd, Nat.reduceLeDiff, Nat.reduceBEq, Nat.reduceMul, Nat.reduceLT, Int.reduceLT, Int.reduceLE, Int.reduceToNat, Int.reduceNeg, Int.reduceEq, Int.reduceMul, reduceCtorEq, fn30, res30, gc30, grow30, ty3, ty29, ty38, plan30_6, eqt29, g0, g1, g5, a1, a2, a3, b1, b2, b3, spA, hu.lt0, hv.lt0, w, sameL, AV.same, eqOk, h1']

theorem f30 (H : Heap) {u v : AV} {xs ys : List (Int × Int)} (hu : SlOk H 2 u (xs.map spA)) (hv : SlOk H 2 v (ys.map spA)) (hl : xs.length ≤ 100000) (hl' : ys.length ≤ 100000) :
    callFL cfg0 prog0 false 30 [u, v] H none = some ⟨.ret (.bool (decide (xs = ys))), H, none⟩ := by
  have su := hu.scal
  have sv := hv.scal
  refine (callFL_eq fn30 rfl (by simp [Try.f30])).trans ?_
  by_cases hlen : xs.length = ys.length
  · simp only [go_sem, ↓reduceIte, Nat.reduceEqDiff, Nat.reduceAdd, Nat.reduceLeDiff, Nat.reduceBEq, Nat.reduceMul, Nat.reduceLT, Int.reduceLT, Int.reduceLE, Int.reduceToNat, Int.reduceNeg, Int.reduceEq, Int.reduceMul, reduceCtorEq, fn30, res30, gc30, grow30, ty3, ty29, ty38, plan30_6, eqt29, hu.len, hv.len, List.length_map, hlen]
    refine (congrArg (Option.map _) (f30_loop H hu hv hlen hl xs.length 0 _ (by omega) (by rfl) (by rfl) (by rfl))).trans ?_
    simp only [go_sem, ↓reduceIte, Nat.reduceEqDiff, Nat.reduceAdd, Nat.reduceLeDiff, Nat.reduceBEq, Nat.reduceMul, Nat.reduceLT, Int.reduceLT, Int.reduceLE, Int.reduceToNat, Int.reduceNeg, Int.reduceEq, Int.reduceMul, reduceCtorEq]
  · have hi : ((xs.length : Int) == ys.length) = false := by
      have : ¬ (xs.length : Int) = ys.length := by omega
      simpa using this
    have hd : decide (xs = ys) = false := by
      simp only [decide_eq_false_iff_not]
      rintro rfl; exact hlen rfl
    simp only [go_sem, ↓reduceIte, Nat.reduceEqDiff, Nat.reduceAdd, Nat.reduceLeDiff, Nat.reduceBEq, Nat.reduceMul, Nat.reduceLT, Int.reduceLT, Int.reduceLE, Int.reduceToNat, Int.reduceNeg, Int.reduceEq, Int.reduceMul, reduceCtorEq, fn30, res30, gc30, grow30, ty3, ty29, ty38, plan30_6, eqt29, hu.len, hv.len, List.length_map, hi, hd, bne]

def smp : Stl := ⟨[⟨40, 44, 4, 4, 10, 12⟩, ⟨-6, -5, 2, 3, 0, 0⟩], 5, 12, [⟨1, 4, 8, 10⟩]⟩

/-- The sample as the program holds it. -/
def smpA : AV := .agg [.sl true (smp.bs.map Blk.av), I 5, I 12, .sl true (smp.ts.map Tch.av)]

theorem f32 (H : Heap) : callFL cfg0 prog0 false 32 [] H none = some ⟨.ret smpA, H, none⟩ := by
  refine (callFL_eq fn32 rfl (by simp [Try.f32])).trans ?_
  simp only [go_sem, ↓reduceIte, Nat.reduceEqDiff, Nat.reduceAdd, Nat.reduceLeDiff, Nat.reduceBEq, Nat.reduceMul, Nat.reduceLT, Int.reduceLT, Int.reduceLE, Int.reduceToNat, Int.reduceNeg, Int.reduceEq, Int.reduceMul, reduceCtorEq, fn32, res32, gc32, grow32, ty3, ty22, ty23, ty25, ty29, ty56, ty63, f31, f39]
  rfl

theorem smp_b (H : Heap) : SlOk H 6 (.sl true (smp.bs.map Blk.av)) (smp.bs.map Blk.av) := ⟨rfl, by simp [smp, Blk.av, AV.cells]⟩
theorem smp_t (H : Heap) : SlOk H 4 (.sl true (smp.ts.map Tch.av)) (smp.ts.map Tch.av) := ⟨rfl, by simp [smp, Tch.av, AV.cells]⟩

theorem smp14a_e : smp.excess 0 4 = (12, 13, 0) := by kernel_rfl
theorem smp14a (H : Heap) : callFL cfg0 prog0 false 14 [smpA, I 0, I 4] H none = some ⟨.ret (.tup [.agg [I 12, I 13], I 0]), H, none⟩ := by
  refine (f14 smp (smp_b H) (smp_t H) (by decide) (by decide) 0 4).trans ?_
  rw [smp14a_e]

theorem smp14b_e : smp.excess 0 7 = (4, 4, 0) := by kernel_rfl
theorem smp14b (H : Heap) : callFL cfg0 prog0 false 14 [smpA, I 0, I 7] H none = some ⟨.ret (.tup [.agg [I 4, I 4], I 0]), H, none⟩ := by
  refine (f14 smp (smp_b H) (smp_t H) (by decide) (by decide) 0 7).trans ?_
  rw [smp14b_e]

theorem smp14c_e : smp.excess 1 1 = (-4, -2, 0) := by kernel_rfl
theorem smp14c (H : Heap) : callFL cfg0 prog0 false 14 [smpA, I 1, I 1] H none = some ⟨.ret (.tup [.agg [I (-4), I (-2)], I 0]), H, none⟩ := by
  refine (f14 smp (smp_b H) (smp_t H) (by decide) (by decide) 1 1).trans ?_
  rw [smp14c_e]

theorem smp14d_e : smp.excess 1 4 = (8, 10, 0) := by kernel_rfl
theorem smp14d (H : Heap) : callFL cfg0 prog0 false 14 [smpA, I 1, I 4] H none = some ⟨.ret (.tup [.agg [I 8, I 10], I 0]), H, none⟩ := by
  refine (f14 smp (smp_b H) (smp_t H) (by decide) (by decide) 1 4).trans ?_
  rw [smp14d_e]

theorem smp14e_e : smp.excess 1 5 = (4, 6, 0) := by kernel_rfl
theorem smp14e (H : Heap) : callFL cfg0 prog0 false 14 [smpA, I 1, I 5] H none = some ⟨.ret (.tup [.agg [I 4, I 6], I 0]), H, none⟩ := by
  refine (f14 smp (smp_b H) (smp_t H) (by decide) (by decide) 1 5).trans ?_
  rw [smp14e_e]

theorem smp16a_e : smp.longer 1 4 = (0, 0, 0) := by kernel_rfl
theorem smp16a (H : Heap) : callFL cfg0 prog0 false 16 [smpA, I 1, I 4] H none = some ⟨.ret (.tup [.agg [I 0, I 0], I 0]), H, none⟩ := by
  refine (f16 smp (smp_b H) (smp_t H) (by decide) (by decide) 1 4).trans ?_
  rw [smp16a_e]

theorem smp16b_e : smp.longer 0 0 = (40, 52, 0) := by kernel_rfl
theorem smp16b (H : Heap) : callFL cfg0 prog0 false 16 [smpA, I 0, I 0] H none = some ⟨.ret (.tup [.agg [I 40, I 52], I 0]), H, none⟩ := by
  refine (f16 smp (smp_b H) (smp_t H) (by decide) (by decide) 0 0).trans ?_
  rw [smp16b_e]

theorem smp18a_e : smp.settled 0 7 = (2, 0) := by kernel_rfl
theorem smp18a (H : Heap) : callFL cfg0 prog0 false 18 [smpA, I 0, I 7] H none = some ⟨.ret (.tup [I 2, I 0]), H, none⟩ := by
  refine (f18 smp (smp_b H) (smp_t H) (by decide) (by decide) 0 7).trans ?_
  rw [smp18a_e]

theorem smp18b_e : smp.settled 1 0 = (1, 0) := by kernel_rfl
theorem smp18b (H : Heap) : callFL cfg0 prog0 false 18 [smpA, I 1, I 0] H none = some ⟨.ret (.tup [I 1, I 0]), H, none⟩ := by
  refine (f18 smp (smp_b H) (smp_t H) (by decide) (by decide) 1 0).trans ?_
  rw [smp18b_e]

theorem smp18c_e : smp.settled 1 5 = (1, 0) := by kernel_rfl
theorem smp18c (H : Heap) : callFL cfg0 prog0 false 18 [smpA, I 1, I 5] H none = some ⟨.ret (.tup [I 1, I 0]), H, none⟩ := by
  refine (f18 smp (smp_b H) (smp_t H) (by decide) (by decide) 1 5).trans ?_
  rw [smp18c_e]

theorem smp18d_e : smp.settled 0 6 = (0, 0) := by kernel_rfl
theorem smp18d (H : Heap) : callFL cfg0 prog0 false 18 [smpA, I 0, I 6] H none = some ⟨.ret (.tup [I 0, I 0]), H, none⟩ := by
  refine (f18 smp (smp_b H) (smp_t H) (by decide) (by decide) 0 6).trans ?_
  rw [smp18d_e]

theorem smp20a_e : smp.when 0 = (7, 0) := by kernel_rfl
theorem smp20a (H : Heap) : callFL cfg0 prog0 false 20 [smpA, I 0] H none = some ⟨.ret (.tup [I 7, I 0]), H, none⟩ := by
  refine (f20 smp (smp_b H) (smp_t H) (by decide) (by decide) 0).trans ?_
  rw [smp20a_e]

theorem smp20b_e : smp.when 1 = (6, 0) := by kernel_rfl
theorem smp20b (H : Heap) : callFL cfg0 prog0 false 20 [smpA, I 1] H none = some ⟨.ret (.tup [I 6, I 0]), H, none⟩ := by
  refine (f20 smp (smp_b H) (smp_t H) (by decide) (by decide) 1).trans ?_
  rw [smp20b_e]

theorem smp22a_e : smp.allS = (7, 0) := by kernel_rfl
theorem smp22a (H : Heap) : callFL cfg0 prog0 false 22 [smpA] H none = some ⟨.ret (.tup [I 7, I 0]), H, none⟩ := by
  refine (f22 smp (smp_b H) (smp_t H) (by decide) (by decide)).trans ?_
  rw [smp22a_e]

theorem smp26a_e : smp.wait 0 44 = (7, 0) := by kernel_rfl
theorem smp26a (H : Heap) : callFL cfg0 prog0 false 26 [smpA, I 0, I 44] H none = some ⟨.ret (.tup [I 7, I 0]), H, none⟩ := by
  refine (f26 smp (smp_b H) (smp_t H) (by decide) (by decide) 0 44).trans ?_
  rw [smp26a_e]

theorem smp26b_e : smp.wait 0 5 = (0, 0) := by kernel_rfl
theorem smp26b (H : Heap) : callFL cfg0 prog0 false 26 [smpA, I 0, I 5] H none = some ⟨.ret (.tup [I 0, I 0]), H, none⟩ := by
  refine (f26 smp (smp_b H) (smp_t H) (by decide) (by decide) 0 5).trans ?_
  rw [smp26b_e]

theorem smp26c_e : smp.wait 1 (-9) = (2, 0) := by kernel_rfl
theorem smp26c (H : Heap) : callFL cfg0 prog0 false 26 [smpA, I 1, I (-9)] H none = some ⟨.ret (.tup [I 2, I 0]), H, none⟩ := by
  refine (f26 smp (smp_b H) (smp_t H) (by decide) (by decide) 1 (-9)).trans ?_
  rw [smp26c_e]

theorem smp28a_e : smp.latest 0 100 7 = (0, 4) := by kernel_rfl
theorem smp28a (H : Heap) : callFL cfg0 prog0 false 28 [smpA, I 0, I 100, I 7] H none = some ⟨.ret (.tup [I 0, I 4]), H, none⟩ := by
  refine (f28 smp (smp_b H) (smp_t H) (by decide) (by decide) 0 100 7).trans ?_
  rw [smp28a_e]

theorem smp28b_e : smp.latest 0 20 12 = (7, 0) := by kernel_rfl
theorem smp28b (H : Heap) : callFL cfg0 prog0 false 28 [smpA, I 0, I 20, I 12] H none = some ⟨.ret (.tup [I 7, I 0]), H, none⟩ := by
  refine (f28 smp (smp_b H) (smp_t H) (by decide) (by decide) 0 20 12).trans ?_
  rw [smp28b_e]

theorem smp24_e (n : Int) (l : List (Int × Int)) (h1 : smp.valid = true) (h2 : smp.inB n = true) (h3 : smp.restsL n = l) (H : Heap) : callFL cfg0 prog0 false 24 [smpA, I n] H none = some ⟨.ret (.tup [.sl false (l.map spA), I 0]), H, none⟩ := by
  refine (f24 smp (smp_b H) (smp_t H) (by decide) (by decide) n).trans ?_
  rw [h1, h2, h3]; rfl

theorem smp24a (H : Heap) : callFL cfg0 prog0 false 24 [smpA, I 0] H none = some ⟨.ret (.tup [.sl false [.agg [I 7, I 12]], I 0]), H, none⟩ := smp24_e 0 [(7, 12)] (by kernel_rfl) (by kernel_rfl) (by kernel_rfl) H
theorem smp24b (H : Heap) : callFL cfg0 prog0 false 24 [smpA, I 1] H none = some ⟨.ret (.tup [.sl false [.agg [I 1, I 3], .agg [I 6, I 12]], I 0]), H, none⟩ := smp24_e 1 [(1, 3), (6, 12)] (by kernel_rfl) (by kernel_rfl) (by kernel_rfl) H

end Go.Ab
/-
  The sample is alive; the names that the statement gives are true of it.
-/
namespace Go.Ab
open Go.Proofs
set_option linter.unusedSimpArgs false
set_option linter.unusedVariables false
set_option maxRecDepth 100000

theorem spans_a (H : Heap) (u v : Bool) : callFL cfg0 prog0 false 30 [.sl u [.agg [I 1, I 3], .agg [I 6, I 12]], .sl v [.agg [I 1, I 3], .agg [I 6, I 12]]] H none = some ⟨.ret (.bool true), H, none⟩ :=
  (f30 H (xs := [(1, 3), (6, 12)]) (ys := [(1, 3), (6, 12)]) ⟨rfl, by simp [spA, AV.cells]⟩ ⟨rfl, by simp [spA, AV.cells]⟩ (by simp) (by simp)).trans (by simp)

theorem spans_b (H : Heap) (u v : Bool) : callFL cfg0 prog0 false 30 [.sl u [.agg [I 7, I 12]], .sl v [.agg [I 7, I 12]]] H none = some ⟨.ret (.bool true), H, none⟩ :=
  (f30 H (xs := [(7, 12)]) (ys := [(7, 12)]) ⟨rfl, by simp [spA, AV.cells]⟩ ⟨rfl, by simp [spA, AV.cells]⟩ (by simp) (by simp)).trans (by simp)

theorem smpA_c : smpA.cells = [.sl true (smp.bs.map Blk.av), I 5, I 12, .sl true (smp.ts.map Tch.av)] := rfl

theorem f13 (H : Heap) : callFL cfg0 prog0 false 13 [] H none = some ⟨.ret (.bool true), H, none⟩ := by
  refine (callFL_eq fn13 rfl (by simp [Try.f13])).trans ?_
  simp only [go_sem, ↓reduceIte, Nat.reduceEqDiff, Nat.reduceAdd, Nat.reduceLeDiff, Nat.reduceBEq, Nat.reduceMul, Nat.reduceLT, Int.reduceLT, Int.reduceLE, Int.reduceToNat, Int.reduceNeg, Int.reduceEq, Int.reduceMul, reduceCtorEq, fn13, res13, gc13, grow13, ty3, ty22, ty23, ty25, ty29, ty30, ty38, ty56, ty63, plan13_10, eqt29, List.append_eq, f32, f31, smp14e, smp16b, smp18c, smp20b, smp22a, smp24b, smp26c, smp28b, smp18d]
  rw [chkK_of]; rotate_left; kernel_rfl
  simp only [go_sem, ↓reduceIte, Nat.reduceEqDiff, Nat.reduceAdd, Nat.reduceLeDiff, Nat.reduceBEq, Nat.reduceMul, Nat.reduceLT, Int.reduceLT, Int.reduceLE, Int.reduceToNat, Int.reduceNeg, Int.reduceEq, Int.reduceMul, reduceCtorEq, fn13, res13, gc13, grow13, ty3, ty22, ty23, ty25, ty29, ty30, ty38, ty56, ty63, plan13_10, eqt29, List.append_eq, f32, f31, smp14e, smp16b, smp18c, smp20b, smp22a, smp24b, smp26c, smp28b, smp18d, eqOk, sameL, AV.same, spans_a]
  done

end Go.Ab
/-
  SettleLatest, walked.
-/
namespace Go.Ab
open Go.Proofs
set_option linter.unusedSimpArgs false
set_option linter.unusedVariables false
set_option maxRecDepth 100000

variable {H : Heap} {vb vt : AV}

abbrev U8 (n : Int) : AV := .int .u8 n

theorem law_long (s : Stl) (hvb : SlOk H 6 vb (s.bs.map Blk.av)) (hvt : SlOk H 4 vt (s.ts.map Tch.av)) (G : Heap) :
    callFL cfg0 prog0 false 12 [.agg [vb, I s.near, I s.last, vt]] G none = some ⟨.ret (.bool (decide (40 < (if (s.bs.length : Int) < s.ts.length then (s.ts.length : Int) else s.bs.length)))), G, none⟩ :=
  f12 s.near s.last vb vt s.bs.length s.ts.length G (by rw [hvb.len, List.length_map]) (by rw [hvt.len, List.length_map]) hvb.scal hvt.scal

theorem long_cases (s : Stl) : decide (40 < (if (s.bs.length : Int) < s.ts.length then (s.ts.length : Int) else s.bs.length)) = true ∨ (decide (40 < (if (s.bs.length : Int) < s.ts.length then (s.ts.length : Int) else s.bs.length)) = false ∧ s.bs.length ≤ 40 ∧ s.ts.length ≤ 40) := by
  by_cases h : 40 < (if (s.bs.length : Int) < s.ts.length then (s.ts.length : Int) else s.bs.length)
  · exact .inl (by simpa using h)
  · refine .inr ⟨by simpa using h, ?_⟩
    split at h <;> omega

theorem tmod_nn {a b : Int} (h : 0 ≤ a) : a.tmod b = a % b := Int.tmod_eq_emod_of_nonneg h

theorem mod_lt {a b : Int} (hb : 0 < b) : 0 ≤ a % b ∧ a % b < b := ⟨Int.emod_nonneg _ (by omega), Int.emod_lt_of_pos _ hb⟩

/-- What validity says in numbers. -/
theorem valid_nums {s : Stl} (hv : s.valid = true) : 1 ≤ s.bs.length ∧ s.bs.length ≤ 4 ∧ 1 ≤ s.last ∧ s.last ≤ 60 ∧ 0 ≤ s.near ∧ s.near ≤ 20 ∧ s.ts.length ≤ 6 := by
  simp only [Stl.valid, Stl.nums, wi, Bool.and_eq_true, decide_eq_true_eq] at hv
  omega

theorem inB_of {s : Stl} {b : Int} (h : 0 ≤ b ∧ b < s.bs.length) : s.inB b = true := by
  simp only [Stl.inB, wi, Bool.and_eq_true, decide_eq_true_eq]; omega
theorem inM_of {s : Stl} {m : Int} (h : 0 ≤ m ∧ m ≤ s.last) : s.inM m = true := by
  simp only [Stl.inM, wi, Bool.and_eq_true, decide_eq_true_eq]; omega
theorem inW_of {m : Int} (h : -100 ≤ m ∧ m ≤ 100) : inW m = true := by
  simp only [inW, wi, Bool.and_eq_true, decide_eq_true_eq]; omega

theorem touch_valid {s : Stl} (hv : s.valid = true) (hl : s.ts.length ≤ 5) {b m x : Int} (hb : 0 ≤ b ∧ b < s.bs.length) (hm : 0 ≤ m ∧ m ≤ s.last) (hx : -100 ≤ x ∧ x ≤ 100) : (s.touch b m x).valid = true := by
  simp only [Stl.valid, Stl.nums, Stl.touch, Bool.and_eq_true, decide_eq_true_eq, List.all_append, List.all_cons, List.all_nil, List.length_append, List.length_cons, List.length_nil] at hv ⊢
  refine ⟨⟨hv.1.1, hv.1.2.1, hv.1.2.2.1, by omega⟩, hv.2.1, hv.2.2, ?_, trivial⟩
  simp only [Tch.okb, wi, spn, Bool.and_eq_true, decide_eq_true_eq]
  omega

theorem law_with (s : Stl) (hvb : SlOk H 6 vb (s.bs.map Blk.av)) (hvt : SlOk H 4 vt (s.ts.map Tch.av)) (hl2 : s.ts.length ≤ 1000) (n m x : Int) :
    callFL cfg0 prog0 false 38 [.agg [vb, I s.near, I s.last, vt], .agg [I n, I m, I x, I x]] H none = some ⟨.ret (.agg [vb, I s.near, I s.last, .sl false ((s.touch n m x).ts.map Tch.av)]), H, none⟩ := by
  have sb := hvb.scal
  have st := hvt.scal
  have h1 : addElem (H ++ [.box (.agg [vb, I s.near, I s.last, vt]), .box (.agg [I n, I m, I x, I x]), .box (.agg [.sl true [], I 0, I 0, .sl true []])]) 4 true (.sl true []) (s.ts.map Tch.av) = some (.gsl (H.length + 3) s.ts.length, H ++ [.box (.agg [vb, I s.near, I s.last, vt]), .box (.agg [I n, I m, I x, I x]), .box (.agg [.sl true [], I 0, I 0, .sl true []]), .grow 4 (s.ts.map Tch.av)]) := by
    rw [add_full rfl rfl (elemsOk_map (fun _ => rfl) _) (ltL_map (fun _ => rfl) _) (by simp; omega) rfl]
    simp
  have h2 : addElem (H ++ [.box (.agg [vb, I s.near, I s.last, vt]), .box (.agg [I n, I m, I x, I x]), .box (.agg [.sl true [], I 0, I 0, .sl true []]), .grow 4 (s.ts.map Tch.av)]) 4 true (.gsl (H.length + 3) s.ts.length) [.agg [I n, I m, I x, I x]] = some (.gsl (H.length + 3) (s.ts.length + 1), H ++ [.box (.agg [vb, I s.near, I s.last, vt]), .box (.agg [I n, I m, I x, I x]), .box (.agg [.sl true [], I 0, I 0, .sl true []]), .grow 4 ((s.touch n m x).ts.map Tch.av)]) := by
    rw [add_gsl (xs := s.ts.map Tch.av) (by simp [get_at']) (by simp) rfl rfl (by simp; omega), set_at']
    simp only [Stl.touch, List.map_append]
    rfl
  have he := fun G => (hvt.app G).elems
  have hs1 := hvb.seal
  have hlt := hvb.lt0
  refine (callFL_eq fn38 rfl (by simp [Try.f38])).trans ?_
  simp only [go_sem, ↓reduceIte, Nat.reduceEqDiff, Nat.reduceAdd, Nat.reduceLeDiff, Nat.reduceBEq, Nat.reduceMul, Nat.reduceLT, Int.reduceLT, Int.reduceLE, Int.reduceToNat, Int.reduceNeg, Int.reduceEq, Int.reduceMul, reduceCtorEq, Int.reduceBEq, Int.reduceBNe, Int.reduceAdd, Int.reduceSub, bne_self_eq_false, beq_self_eq_true, Nat.le_add_right, eqOk, fn38, res38, gc38, grow38, ty3, ty22, ty23, ty25, ty29, ty56, ty63, plan38_1, sb, st]
  rw [chkK_of]; rotate_left; kernel_rfl
  simp only [go_sem, ↓reduceIte, Nat.reduceEqDiff, Nat.reduceAdd, Nat.reduceLeDiff, Nat.reduceBEq, Nat.reduceMul, Nat.reduceLT, Int.reduceLT, Int.reduceLE, Int.reduceToNat, Int.reduceNeg, Int.reduceEq, Int.reduceMul, reduceCtorEq, Int.reduceBEq, Int.reduceBNe, Int.reduceAdd, Int.reduceSub, bne_self_eq_false, beq_self_eq_true, Nat.le_add_right, eqOk, fn38, res38, gc38, grow38, ty3, ty22, ty23, ty25, ty29, ty56, ty63, plan38_1, sb, st, he, h1, h2, ↓hs1, hlt, List.length_map, touch_len]

theorem Latest_loop (s : Stl) (hv : s.valid = true) (hl5 : s.ts.length ≤ 5) (hvb : SlOk H 6 vb (s.bs.map Blk.av)) (hvt : SlOk H 4 vt (s.ts.map Tch.av)) (b x : Int) (hb : 0 ≤ b ∧ b < s.bs.length) (hx : -100 ≤ x ∧ x ≤ 100) (y : Nat) (hy : (y : Int) ≤ s.last) :
    ∀ (q i : Nat) (n e : Int), i + q = y + 1 → (n, e) = (match findN (fun j => settl (s.touch b ((y : Int) - j) x) b (s.blk b) y) i q with | some i => ((y : Int) - i, 0) | none => (0, 4)) → ∀ E : Env, E.get 4 = .ptr H.length 0 → E.get 9 = I b → E.get 10 = I x → E.get 11 = I y → E.get 12 = I n → E.get 13 = I e → E.get 14 = I ((y : Int) - i) →
    Option.map (finishC H.length) (execL cfg0 prog0 ⟨10, none, false, H.length⟩ (todoAt Try.f10 8) ⟨E, [], H ++ [.box (.agg [vb, I s.near, I s.last, vt])], none⟩) = some ⟨.ret (.bool true), H, none⟩ := by
  intro q
  have hn := valid_nums hv
  induction q with
  | zero =>
    intro i n e hi hne E g4 g9 g10 g11 g12 g13 g14
    have hk' : ¬ 0 ≤ (y : Int) - i := by omega
    simp only [findN, Prod.mk.injEq] at hne
    obtain ⟨rfl, rfl⟩ := hne
    simp only [loopIt, todoPast, todoAt, todoOf, firstReg, ↓reduceIte, Option.some.injEq, Nat.reduceEqDiff, reduceCtorEq, Try.f10]
    rw [execL_inLoop]
    simp only [go_sem, ↓reduceIte, Nat.reduceEqDiff, Nat.reduceAdd, Nat.reduceLeDiff, Nat.reduceBEq, Nat.reduceMul, Nat.reduceLT, Int.reduceLT, Int.reduceLE, Int.reduceToNat, Int.reduceNeg, Int.reduceEq, Int.reduceMul, reduceCtorEq, Int.reduceBEq, Int.reduceBNe, Int.reduceAdd, Int.reduceSub, bne_self_eq_false, beq_self_eq_true, Nat.le_add_right, eqOk, fn10, res10, gc10, grow10, ty3, ty5, ty22, ty23, ty25, ty29, ty30, ty56, ty63, plan10_3, plan10_10, g4, g9, g10, g11, g12, g13, g14, ge_iff_le, hk', f13]
  | succ q ih =>
    intro i n e hi hne E g4 g9 g10 g11 g12 g13 g14
    have hk' : 0 ≤ (y : Int) - i := by omega
    have e1 : IntKind.i64.wrap ((y : Int) - i - 1) = (y : Int) - (i + 1 : Nat) := by rw [w64 (by omega) (by omega)]; omega
    have hW := fun (G : Heap) => law_with (H := H ++ G) s (hvb.app G) (hvt.app G) (by omega) b ((y : Int) - i) x
    have htv := touch_valid (s := s) hv hl5 hb (m := (y : Int) - i) (by omega) hx
    have hS := fun (G : Heap) => f18 (H := H ++ G) (vt := .sl false ((s.touch b ((y : Int) - i) x).ts.map Tch.av)) (s.touch b ((y : Int) - i) x) (hvb.app G) ⟨rfl, by simp only [List.mem_map]; rintro _ ⟨t, _, rfl⟩; rfl⟩ (show s.bs.length ≤ 1000 by omega) (by rw [touch_len]; omega) b y
    have hn1 : (s.touch b ((y : Int) - i) x).near = s.near := rfl
    have hn2 : (s.touch b ((y : Int) - i) x).last = s.last := rfl
    have hn3 : (s.touch b ((y : Int) - i) x).blk b = s.blk b := rfl
    have hib : (s.touch b ((y : Int) - i) x).inB b = true := inB_of hb
    have him : (s.touch b ((y : Int) - i) x).inM y = true := inM_of (by rw [hn2]; omega)
    rw [hn1, hn2] at hS
    simp only [Stl.settled, htv, hib, him, hn3, Bool.and_self, if_true, Int.toNat_natCast] at hS
    simp only [findN] at hne
    simp only [loopIt, todoPast, todoAt, todoOf, firstReg, ↓reduceIte, Option.some.injEq, Nat.reduceEqDiff, reduceCtorEq, Try.f10]
    rw [execL_inLoop]
    simp only [go_sem, ↓reduceIte, Nat.reduceEqDiff, Nat.reduceAdd, Nat.reduceLeDiff, Nat.reduceBEq, Nat.reduceMul, Nat.reduceLT, Int.reduceLT, Int.reduceLE, Int.reduceToNat, Int.reduceNeg, Int.reduceEq, Int.reduceMul, reduceCtorEq, Int.reduceBEq, Int.reduceBNe, Int.reduceAdd, Int.reduceSub, bne_self_eq_false, beq_self_eq_true, Nat.le_add_right, eqOk, fn10, res10, gc10, grow10, ty3, ty5, ty22, ty23, ty25, ty29, ty30, ty56, ty63, plan10_3, plan10_10, g4, g9, g10, g11, g12, g13, g14, ge_iff_le, hk']
    rw [chkK_of]; rotate_left; kernel_rfl
    rcases Bool.eq_false_or_eq_true (settl (s.touch b ((y : Int) - i) x) b (s.blk b) y) with hc | hc
    · simp only [hc, if_true, Prod.mk.injEq] at hne
      obtain ⟨rfl, rfl⟩ := hne
      simp only [hc, if_true] at hS
      simp only [go_sem, ↓reduceIte, Nat.reduceEqDiff, Nat.reduceAdd, Nat.reduceLeDiff, Nat.reduceBEq, Nat.reduceMul, Nat.reduceLT, Int.reduceLT, Int.reduceLE, Int.reduceToNat, Int.reduceNeg, Int.reduceEq, Int.reduceMul, reduceCtorEq, Int.reduceBEq, Int.reduceBNe, Int.reduceAdd, Int.reduceSub, bne_self_eq_false, beq_self_eq_true, Nat.le_add_right, eqOk, fn10, res10, gc10, grow10, ty3, ty5, ty22, ty23, ty25, ty29, ty30, ty56, ty63, plan10_3, plan10_10, g4, g9, g10, g11, g12, g13, g14, f39, hW, hS, f13]
    · simp only [hc, Bool.false_eq_true, if_false] at hne hS
      have hih := ih (i + 1) n e (by omega) hne
      rcases Bool.eq_false_or_eq_true (someS (s.touch b ((y : Int) - i) x) b (s.blk b) y) with hd | hd
      · simp only [hd, if_true] at hS
        simp only [go_sem, ↓reduceIte, Nat.reduceEqDiff, Nat.reduceAdd, Nat.reduceLeDiff, Nat.reduceBEq, Nat.reduceMul, Nat.reduceLT, Int.reduceLT, Int.reduceLE, Int.reduceToNat, Int.reduceNeg, Int.reduceEq, Int.reduceMul, reduceCtorEq, Int.reduceBEq, Int.reduceBNe, Int.reduceAdd, Int.reduceSub, bne_self_eq_false, beq_self_eq_true, Nat.le_add_right, eqOk, fn10, res10, gc10, grow10, ty3, ty5, ty22, ty23, ty25, ty29, ty30, ty56, ty63, plan10_3, plan10_10, g4, g9, g10, g11, g12, g13, g14, f39, hW, hS, e1]
        exact hih _ (by exact g4) (by exact g9) (by exact g10) (by exact g11) (by exact g12) (by exact g13) (by rfl)
      · simp only [hd, Bool.false_eq_true, if_false] at hS
        simp only [go_sem, ↓reduceIte, Nat.reduceEqDiff, Nat.reduceAdd, Nat.reduceLeDiff, Nat.reduceBEq, Nat.reduceMul, Nat.reduceLT, Int.reduceLT, Int.reduceLE, Int.reduceToNat, Int.reduceNeg, Int.reduceEq, Int.reduceMul, reduceCtorEq, Int.reduceBEq, Int.reduceBNe, Int.reduceAdd, Int.reduceSub, bne_self_eq_false, beq_self_eq_true, Nat.le_add_right, eqOk, fn10, res10, gc10, grow10, ty3, ty5, ty22, ty23, ty25, ty29, ty30, ty56, ty63, plan10_3, plan10_10, g4, g9, g10, g11, g12, g13, g14, f39, hW, hS, e1]
        exact hih _ (by exact g4) (by exact g9) (by exact g10) (by exact g11) (by exact g12) (by exact g13) (by rfl)

theorem find_lt {d : Nat → Bool} : ∀ {m j i : Nat}, findN d j m = some i → j ≤ i ∧ i < j + m
  | 0, j, i, h => by simp [findN] at h
  | m + 1, j, i, h => by
    simp only [findN] at h
    split at h
    · injection h with h; omega
    · have := find_lt h; omega

theorem law_SettleLatest (s : Stl) (hvb : SlOk H 6 vb (s.bs.map Blk.av)) (hvt : SlOk H 4 vt (s.ts.map Tch.av)) (w u a : Int) (hw : 0 ≤ w ∧ w ≤ 255) (hu : 0 ≤ u ∧ u ≤ 255) (ha : 0 ≤ a ∧ a ≤ 255) :
    callFL cfg0 prog0 false 10 [.agg [vb, I s.near, I s.last, vt], U8 w, U8 u, U8 a] H none = some ⟨.ret (.bool true), H, none⟩ := by
  have sb := hvb.scal
  have st := hvt.scal
  have hL := law_long s hvb hvt
  refine (callFL_eq fn10 rfl (by simp [Try.f10])).trans ?_
  rcases long_cases s with hl | ⟨hl, hl1, hl2⟩
  · simp only [go_sem, ↓reduceIte, Nat.reduceEqDiff, Nat.reduceAdd, Nat.reduceLeDiff, Nat.reduceBEq, Nat.reduceMul, Nat.reduceLT, Int.reduceLT, Int.reduceLE, Int.reduceToNat, Int.reduceNeg, Int.reduceEq, Int.reduceMul, reduceCtorEq, Int.reduceBEq, Int.reduceBNe, Int.reduceAdd, Int.reduceSub, bne_self_eq_false, beq_self_eq_true, Nat.le_add_right, eqOk, fn10, res10, gc10, grow10, ty3, ty5, ty22, ty23, ty25, ty29, ty30, ty56, ty63, plan10_3, plan10_10, sb, st, hL, hl, f13]
  · have hV := fun (G : Heap) => ref_Settle (H := H ++ G) s (hvb.app G) (hvt.app G) (by omega) (by omega)
    cases hv : s.valid with
    | false => simp only [go_sem, ↓reduceIte, Nat.reduceEqDiff, Nat.reduceAdd, Nat.reduceLeDiff, Nat.reduceBEq, Nat.reduceMul, Nat.reduceLT, Int.reduceLT, Int.reduceLE, Int.reduceToNat, Int.reduceNeg, Int.reduceEq, Int.reduceMul, reduceCtorEq, Int.reduceBEq, Int.reduceBNe, Int.reduceAdd, Int.reduceSub, bne_self_eq_false, beq_self_eq_true, Nat.le_add_right, eqOk, fn10, res10, gc10, grow10, ty3, ty5, ty22, ty23, ty25, ty29, ty30, ty56, ty63, plan10_3, plan10_10, sb, st, hL, hl, hV, hv, f13]
    | true =>
      have hn := valid_nums hv
      by_cases h5 : 6 ≤ (s.ts.length : Int)
      · simp only [go_sem, ↓reduceIte, Nat.reduceEqDiff, Nat.reduceAdd, Nat.reduceLeDiff, Nat.reduceBEq, Nat.reduceMul, Nat.reduceLT, Int.reduceLT, Int.reduceLE, Int.reduceToNat, Int.reduceNeg, Int.reduceEq, Int.reduceMul, reduceCtorEq, Int.reduceBEq, Int.reduceBNe, Int.reduceAdd, Int.reduceSub, bne_self_eq_false, beq_self_eq_true, Nat.le_add_right, eqOk, fn10, res10, gc10, grow10, ty3, ty5, ty22, ty23, ty25, ty29, ty30, ty56, ty63, plan10_3, plan10_10, sb, st, hL, hl, hV, hv, hvt.len, List.length_map, ge_iff_le, h5, decide_true, f13]
      · have c1 : IntKind.i64.wrap w = w := w64 (by omega) (by omega)
        have c2 : IntKind.i64.wrap u = u := w64 (by omega) (by omega)
        have c3 : IntKind.i64.wrap a = a := w64 (by omega) (by omega)
        have m1 := mod_lt (a := w) (b := (s.bs.length : Int)) (by omega)
        have m2 := mod_lt (a := u) (b := 201) (by omega)
        have m3 := mod_lt (a := a) (b := s.last + 1) (by omega)
        have z1 : ¬ (s.bs.length : Int) = 0 := by omega
        have z3 : ¬ s.last + 1 = 0 := by omega
        have c4 : IntKind.i64.wrap (s.last + 1) = s.last + 1 := w64 (by omega) (by omega)
        have c5 : IntKind.i64.wrap (u % 201 - 100) = u % 201 - 100 := w64 (by omega) (by omega)
        have t1 : w.tmod (s.bs.length : Int) = w % (s.bs.length : Int) := tmod_nn hw.1
        have t2 : u.tmod 201 = u % 201 := tmod_nn hu.1
        have t3 : a.tmod (s.last + 1) = a % (s.last + 1) := tmod_nn ha.1
        generalize w % (s.bs.length : Int) = b at *
        generalize u % 201 = x1 at *
        generalize a % (s.last + 1) = y at *
        obtain ⟨y, rfl⟩ : ∃ k : Nat, y = k := ⟨y.toNat, by omega⟩
        obtain ⟨x, hx1⟩ : ∃ x, x1 - 100 = x := ⟨_, rfl⟩
        have hLt := fun (G : Heap) => f28 (H := H ++ G) s (hvb.app G) (hvt.app G) (by omega) (by omega) b x y
        simp only [Stl.latest, hv, inB_of m1, inW_of (show -100 ≤ x ∧ x ≤ 100 by omega), inM_of (show 0 ≤ (y : Int) ∧ (y : Int) ≤ s.last by omega), Bool.and_self, if_true, Int.toNat_natCast] at hLt
        rw [hx1] at c5
        simp only [go_sem, ↓reduceIte, Nat.reduceEqDiff, Nat.reduceAdd, Nat.reduceLeDiff, Nat.reduceBEq, Nat.reduceMul, Nat.reduceLT, Int.reduceLT, Int.reduceLE, Int.reduceToNat, Int.reduceNeg, Int.reduceEq, Int.reduceMul, reduceCtorEq, Int.reduceBEq, Int.reduceBNe, Int.reduceAdd, Int.reduceSub, bne_self_eq_false, beq_self_eq_true, Nat.le_add_right, eqOk, fn10, res10, gc10, grow10, ty3, ty5, ty22, ty23, ty25, ty29, ty30, ty56, ty63, plan10_3, plan10_10, sb, st, hL, hl, hV, hv, hvt.len, List.length_map, ge_iff_le, h5, decide_false]
        rw [chkK_of]; rotate_left; kernel_rfl
        have hloop := fun n e h => Latest_loop (H := H) s hv (by omega) hvb hvt b x m1 (by omega) y (by omega) (y + 1) 0 n e (by omega) h
        cases hf : findN (fun j => settl (s.touch b ((y : Int) - j) x) b (s.blk b) y) 0 (y + 1) with
        | none =>
          simp only [hf] at hLt hloop
          have r1 : ¬ (y : Int) < 0 := by omega
          simp only [go_sem, ↓reduceIte, Nat.reduceEqDiff, Nat.reduceAdd, Nat.reduceLeDiff, Nat.reduceBEq, Nat.reduceMul, Nat.reduceLT, Int.reduceLT, Int.reduceLE, Int.reduceToNat, Int.reduceNeg, Int.reduceEq, Int.reduceMul, reduceCtorEq, Int.reduceBEq, Int.reduceBNe, Int.reduceAdd, Int.reduceSub, bne_self_eq_false, beq_self_eq_true, Nat.le_add_right, eqOk, fn10, res10, gc10, grow10, ty3, ty5, ty22, ty23, ty25, ty29, ty30, ty56, ty63, plan10_3, plan10_10, sb, st, hvb.len, List.length_map, c1, c2, c3, c4, z1, z3, t1, t2, t3, hx1, c5, hLt, gt_iff_lt, r1, decide_false]
          exact hloop 0 4 rfl _ (by rfl) (by rfl) (by rfl) (by rfl) (by rfl) (by rfl) (by simp [Env.get])
        | some i =>
          have hlt := find_lt hf
          simp only [hf] at hLt hloop
          have r1 : ¬ (y : Int) - i < 0 := by omega
          have r2 : ¬ (y : Int) < (y : Int) - i := by omega
          simp only [go_sem, ↓reduceIte, Nat.reduceEqDiff, Nat.reduceAdd, Nat.reduceLeDiff, Nat.reduceBEq, Nat.reduceMul, Nat.reduceLT, Int.reduceLT, Int.reduceLE, Int.reduceToNat, Int.reduceNeg, Int.reduceEq, Int.reduceMul, reduceCtorEq, Int.reduceBEq, Int.reduceBNe, Int.reduceAdd, Int.reduceSub, bne_self_eq_false, beq_self_eq_true, Nat.le_add_right, eqOk, fn10, res10, gc10, grow10, ty3, ty5, ty22, ty23, ty25, ty29, ty30, ty56, ty63, plan10_3, plan10_10, sb, st, hvb.len, List.length_map, c1, c2, c3, c4, z1, z3, t1, t2, t3, hx1, c5, hLt, gt_iff_lt, r1, r2, decide_false]
          exact hloop _ _ rfl _ (by rfl) (by rfl) (by rfl) (by rfl) (by rfl) (by rfl) (by simp [Env.get])

end Go.Ab
/-
  SettleRests, walked.
-/
namespace Go.Ab
open Go.Proofs
set_option linter.unusedSimpArgs false
set_option linter.unusedVariables false
set_option maxRecDepth 100000

variable {H : Heap} {vb vt : AV}

theorem law_inside (n lo hi : Int) : callFL cfg0 prog0 false 35 [I n, .agg [I lo, I hi]] H none = some ⟨.ret (.bool (wi n lo hi)), H, none⟩ := by
  refine (callFL_eq fn35 rfl (by simp [Try.f35])).trans ?_
  simp only [wi]
  by_cases h : lo ≤ n
  · simp only [go_sem, ↓reduceIte, Nat.reduceEqDiff, Nat.reduceAdd, Nat.reduceLeDiff, Nat.reduceBEq, Nat.reduceMul, Nat.reduceLT, Int.reduceLT, Int.reduceLE, Int.reduceToNat, Int.reduceNeg, Int.reduceEq, Int.reduceMul, reduceCtorEq, Int.reduceBEq, Int.reduceBNe, Int.reduceAdd, Int.reduceSub, bne_self_eq_false, beq_self_eq_true, Nat.le_add_right, eqOk, fn35, res35, gc35, grow35, ty3, ty29, h, decide_true, Bool.true_and]
  · simp only [go_sem, ↓reduceIte, Nat.reduceEqDiff, Nat.reduceAdd, Nat.reduceLeDiff, Nat.reduceBEq, Nat.reduceMul, Nat.reduceLT, Int.reduceLT, Int.reduceLE, Int.reduceToNat, Int.reduceNeg, Int.reduceEq, Int.reduceMul, reduceCtorEq, Int.reduceBEq, Int.reduceBNe, Int.reduceAdd, Int.reduceSub, bne_self_eq_false, beq_self_eq_true, Nat.le_add_right, eqOk, fn35, res35, gc35, grow35, ty3, ty29, h, decide_false, Bool.false_and]

/-- The spans, one by one: none out of place, and whether one has the minute. -/
theorem Rests_l18 (R : Option Done) (K : List Item) (s : Stl) (hv : s.valid = true) (l : List (Int × Int)) (hl : l.length ≤ 1000) (hbd : ∀ p ∈ l, 0 ≤ p.1 ∧ p.1 ≤ p.2 ∧ p.2 ≤ s.last) (hgap : l.Pairwise fun p q => p.2 + 1 < q.1) (sb : ∀ N, vb.lt (H.length + N) = true) (st : ∀ N, vt.lt (H.length + N) = true)
    (b fr f al g k : Int) (m : Nat) (x0 x1 : Int)
    (hK : ∀ E : Env, E.get 2 = .ptr H.length 0 → E.get 5 = I b → E.get 6 = .sl false (l.map spA) → E.get 8 = I fr → E.get 9 = I f → E.get 10 = I al → E.get 11 = I g → E.get 12 = I m → E.get 15 = I k → E.get 17 = .bool (l.any fun p => wi m p.1 p.2) → E.get 85 = I (s.last + 1) → E.get 86 = I m →
      Option.map (finishC H.length) (execL cfg0 prog0 ⟨8, none, false, H.length⟩ K ⟨E, [], H ++ [.box (.agg [vb, I s.near, I s.last, vt]), .box (.agg [I x0, I x1])], none⟩) = R) :
    ∀ (q j : Nat) (rs : Bool), j + q = l.length → (rs || (l.drop j).any fun p => wi m p.1 p.2) = (l.any fun p => wi m p.1 p.2) → ∀ (E : Env) (G : Heap), E.get 2 = .ptr H.length 0 → E.get 5 = I b → E.get 6 = .sl false (l.map spA) → E.get 8 = I fr → E.get 9 = I f → E.get 10 = I al → E.get 11 = I g → E.get 12 = I m → E.get 15 = I k → E.get 17 = .bool rs → E.get 85 = I (s.last + 1) → E.get 86 = I m → E.get 146 = .sl false (l.map spA) → E.get 147 = I l.length → E.get 148 = I j →
    Option.map (finishC H.length) (execL cfg0 prog0 ⟨8, none, false, H.length⟩ (loopIt Try.f8 18 :: .inBlock 2 :: K) ⟨E, [], H ++ (.box (.agg [vb, I s.near, I s.last, vt]) :: .box (.agg [I x0, I x1]) :: G), none⟩) = R := by
  intro q
  have hn := valid_nums hv
  have hlt : ltL 0 (l.map spA) = true := ltL_map (fun _ => rfl) _
  induction q with
  | zero =>
    intro j rs hj hrs E G g2 g5 g6 g8 g9 g10 g11 g12 g15 g17 g85 g86 g146 g147 g148
    have hk' : ¬ (j : Int) < l.length := by omega
    rw [List.drop_eq_nil_of_le (by omega), List.any_nil, Bool.or_false] at hrs
    rw [hrs] at g17
    simp only [loopIt, todoPast, todoAt, todoOf, firstReg, ↓reduceIte, Option.some.injEq, Nat.reduceEqDiff, reduceCtorEq, Try.f8]
    rw [execL_inLoop]
    simp only [go_sem, ↓reduceIte, Nat.reduceEqDiff, Nat.reduceAdd, Nat.reduceLeDiff, Nat.reduceBEq, Nat.reduceMul, Nat.reduceLT, Int.reduceLT, Int.reduceLE, Int.reduceToNat, Int.reduceNeg, Int.reduceEq, Int.reduceMul, reduceCtorEq, Int.reduceBEq, Int.reduceBNe, Int.reduceAdd, Int.reduceSub, bne_self_eq_false, beq_self_eq_true, Nat.le_add_right, eqOk, fn8, res8, gc8_0, gc8_1, gc8_2, gc8_3, gc8_4, gc8_5, gc8_6, gc8_7, gc8_8, gc8_9, gc8_10, gc8_11, gc8_12, gc8_13, gc8_14, gc8_15, gc8_16, gc8_17, gc8_18, gc8_19, gc8_20, gc8_21, gc8_22, gc8_23, gc8_24, gc8_25, gc8_26, gc8_27, gc8_28, gc8_29, gc8_30, gc8_31, gc8_32, gc8_33, gc8_34, gc8_35, gc8_36, gc8_37, gcSt, keepEnv, envLt, heapLt, dfrLt, ADefer.lt, grow8, ty3, ty4, ty5, ty22, ty23, ty25, ty29, ty30, ty38, ty56, ty63, plan8_20, plan8_28, eqt4, g2, g5, g6, g8, g9, g10, g11, g12, g15, g17, g85, g86, g146, g147, g148, hk', sb, st, hlt]
    exact hK _ (by rfl) (by rfl) (by rfl) (by rfl) (by rfl) (by rfl) (by rfl) (by rfl) (by rfl) (by rfl) (by rfl) (by rfl)
  | succ q ih =>
    intro j rs hj hrs E G g2 g5 g6 g8 g9 g10 g11 g12 g15 g17 g85 g86 g146 g147 g148
    have hk' : (j : Int) < l.length := by omega
    have hk2 : j < l.length := by omega
    have hj1 : IntKind.i64.wrap ((j : Int) + 1) = ((j + 1 : Nat) : Int) := by rw [w64 (by omega) (by omega)]; omega
    have hsl : ∀ G, SlOk (H ++ G) 2 (.sl false (l.map spA)) (l.map spA) := fun G => ⟨rfl, by simp only [List.mem_map]; rintro _ ⟨p, _, rfl⟩; rfl⟩
    obtain ⟨-, -, a3, a4, a5⟩ := (hsl []).at (k := (j : Int)) (x := spA l[j]) (by omega) (by simp [hk2])
    rw [List.append_nil] at a4 a5
    have hb := hbd l[j] (List.getElem_mem _)
    have c1 : ¬ l[j].2 < l[j].1 := by omega
    have c2 : ¬ l[j].1 < 0 := by omega
    have c3 : ¬ s.last < l[j].2 := by omega
    rw [List.drop_eq_getElem_cons hk2, List.any_cons, ← Bool.or_assoc] at hrs
    have hih := ih (j + 1) (rs || wi m l[j].1 l[j].2) (by omega) hrs
    simp only [loopIt, todoPast, todoAt, todoOf, firstReg, ↓reduceIte, Option.some.injEq, Nat.reduceEqDiff, reduceCtorEq, Try.f8]
    rw [execL_inLoop]
    simp only [spA] at a4 a5
    simp only [go_sem, ↓reduceIte, Nat.reduceEqDiff, Nat.reduceAdd, Nat.reduceLeDiff, Nat.reduceBEq, Nat.reduceMul, Nat.reduceLT, Int.reduceLT, Int.reduceLE, Int.reduceToNat, Int.reduceNeg, Int.reduceEq, Int.reduceMul, reduceCtorEq, Int.reduceBEq, Int.reduceBNe, Int.reduceAdd, Int.reduceSub, bne_self_eq_false, beq_self_eq_true, Nat.le_add_right, eqOk, fn8, res8, gc8_0, gc8_1, gc8_2, gc8_3, gc8_4, gc8_5, gc8_6, gc8_7, gc8_8, gc8_9, gc8_10, gc8_11, gc8_12, gc8_13, gc8_14, gc8_15, gc8_16, gc8_17, gc8_18, gc8_19, gc8_20, gc8_21, gc8_22, gc8_23, gc8_24, gc8_25, gc8_26, gc8_27, gc8_28, gc8_29, gc8_30, gc8_31, gc8_32, gc8_33, gc8_34, gc8_35, gc8_36, gc8_37, gcSt, keepEnv, envLt, heapLt, dfrLt, ADefer.lt, grow8, ty3, ty4, ty5, ty22, ty23, ty25, ty29, ty30, ty38, ty56, ty63, plan8_20, plan8_28, eqt4, g2, g5, g6, g8, g9, g10, g11, g12, g15, g17, g85, g86, g146, g147, g148, hk', sb, st, hlt, a3, a4, a5]
    rw [chkK_of]; rotate_left; kernel_rfl
    rcases Nat.eq_zero_or_pos j with h0 | h0
    · have c4 : ¬ (0 : Int) < j := by omega
      cases rs with
      | true =>
        simp only [go_sem, ↓reduceIte, Nat.reduceEqDiff, Nat.reduceAdd, Nat.reduceLeDiff, Nat.reduceBEq, Nat.reduceMul, Nat.reduceLT, Int.reduceLT, Int.reduceLE, Int.reduceToNat, Int.reduceNeg, Int.reduceEq, Int.reduceMul, reduceCtorEq, Int.reduceBEq, Int.reduceBNe, Int.reduceAdd, Int.reduceSub, bne_self_eq_false, beq_self_eq_true, Nat.le_add_right, eqOk, fn8, res8, gc8_0, gc8_1, gc8_2, gc8_3, gc8_4, gc8_5, gc8_6, gc8_7, gc8_8, gc8_9, gc8_10, gc8_11, gc8_12, gc8_13, gc8_14, gc8_15, gc8_16, gc8_17, gc8_18, gc8_19, gc8_20, gc8_21, gc8_22, gc8_23, gc8_24, gc8_25, gc8_26, gc8_27, gc8_28, gc8_29, gc8_30, gc8_31, gc8_32, gc8_33, gc8_34, gc8_35, gc8_36, gc8_37, gcSt, keepEnv, envLt, heapLt, dfrLt, ADefer.lt, grow8, ty3, ty4, ty5, ty22, ty23, ty25, ty29, ty30, ty38, ty56, ty63, plan8_20, plan8_28, eqt4, g2, g5, g6, g8, g9, g10, g11, g12, g15, g17, g85, g86, g146, g147, g148, gt_iff_lt, c1, c2, c3, c4, decide_false, hj1]
        exact hih _ _ (by rfl) (by rfl) (by rfl) (by rfl) (by rfl) (by rfl) (by rfl) (by rfl) (by rfl) (by rfl) (by rfl) (by rfl) (by rfl) (by rfl) (by rfl)
      | false =>
        simp only [go_sem, ↓reduceIte, Nat.reduceEqDiff, Nat.reduceAdd, Nat.reduceLeDiff, Nat.reduceBEq, Nat.reduceMul, Nat.reduceLT, Int.reduceLT, Int.reduceLE, Int.reduceToNat, Int.reduceNeg, Int.reduceEq, Int.reduceMul, reduceCtorEq, Int.reduceBEq, Int.reduceBNe, Int.reduceAdd, Int.reduceSub, bne_self_eq_false, beq_self_eq_true, Nat.le_add_right, eqOk, fn8, res8, gc8_0, gc8_1, gc8_2, gc8_3, gc8_4, gc8_5, gc8_6, gc8_7, gc8_8, gc8_9, gc8_10, gc8_11, gc8_12, gc8_13, gc8_14, gc8_15, gc8_16, gc8_17, gc8_18, gc8_19, gc8_20, gc8_21, gc8_22, gc8_23, gc8_24, gc8_25, gc8_26, gc8_27, gc8_28, gc8_29, gc8_30, gc8_31, gc8_32, gc8_33, gc8_34, gc8_35, gc8_36, gc8_37, gcSt, keepEnv, envLt, heapLt, dfrLt, ADefer.lt, grow8, ty3, ty4, ty5, ty22, ty23, ty25, ty29, ty30, ty38, ty56, ty63, plan8_20, plan8_28, eqt4, g2, g5, g6, g8, g9, g10, g11, g12, g15, g17, g85, g86, g146, g147, g148, gt_iff_lt, c1, c2, c3, c4, decide_false, law_inside, hj1]
        exact hih _ _ (by rfl) (by rfl) (by rfl) (by rfl) (by rfl) (by rfl) (by rfl) (by rfl) (by rfl) (by rfl) (by rfl) (by rfl) (by rfl) (by rfl) (by rfl)
    · have c4 : (0 : Int) < j := by omega
      have hk3 : j - 1 < l.length := by omega
      obtain ⟨-, -, b3, b4, b5⟩ := (hsl []).at (k := (j : Int) - 1) (x := spA l[j - 1]) (by omega) (by rw [show ((j : Int) - 1).toNat = j - 1 by omega]; simp [hk3])
      rw [List.append_nil] at b4 b5
      simp only [spA] at b4 b5
      have hg2 : l[j - 1].2 + 1 < l[j].1 := List.pairwise_iff_getElem.1 hgap (j - 1) j hk3 hk2 (by omega)
      have hb2 := hbd l[j - 1] (List.getElem_mem _)
      have c5 : ¬ l[j].1 ≤ l[j - 1].2 + 1 := by omega
      have e1 : IntKind.i64.wrap ((j : Int) - 1) = (j : Int) - 1 := w64 (by omega) (by omega)
      have e2 : IntKind.i64.wrap (l[j - 1].2 + 1) = l[j - 1].2 + 1 := w64 (by omega) (by omega)
      cases rs with
      | true =>
        simp only [go_sem, ↓reduceIte, Nat.reduceEqDiff, Nat.reduceAdd, Nat.reduceLeDiff, Nat.reduceBEq, Nat.reduceMul, Nat.reduceLT, Int.reduceLT, Int.reduceLE, Int.reduceToNat, Int.reduceNeg, Int.reduceEq, Int.reduceMul, reduceCtorEq, Int.reduceBEq, Int.reduceBNe, Int.reduceAdd, Int.reduceSub, bne_self_eq_false, beq_self_eq_true, Nat.le_add_right, eqOk, fn8, res8, gc8_0, gc8_1, gc8_2, gc8_3, gc8_4, gc8_5, gc8_6, gc8_7, gc8_8, gc8_9, gc8_10, gc8_11, gc8_12, gc8_13, gc8_14, gc8_15, gc8_16, gc8_17, gc8_18, gc8_19, gc8_20, gc8_21, gc8_22, gc8_23, gc8_24, gc8_25, gc8_26, gc8_27, gc8_28, gc8_29, gc8_30, gc8_31, gc8_32, gc8_33, gc8_34, gc8_35, gc8_36, gc8_37, gcSt, keepEnv, envLt, heapLt, dfrLt, ADefer.lt, grow8, ty3, ty4, ty5, ty22, ty23, ty25, ty29, ty30, ty38, ty56, ty63, plan8_20, plan8_28, eqt4, g2, g5, g6, g8, g9, g10, g11, g12, g15, g17, g85, g86, g146, g147, g148, gt_iff_lt, c1, c2, c3, c4, e1, b3, b4, b5, e2, c5, decide_false, hj1]
        exact hih _ _ (by rfl) (by rfl) (by rfl) (by rfl) (by rfl) (by rfl) (by rfl) (by rfl) (by rfl) (by rfl) (by rfl) (by rfl) (by rfl) (by rfl) (by rfl)
      | false =>
        simp only [go_sem, ↓reduceIte, Nat.reduceEqDiff, Nat.reduceAdd, Nat.reduceLeDiff, Nat.reduceBEq, Nat.reduceMul, Nat.reduceLT, Int.reduceLT, Int.reduceLE, Int.reduceToNat, Int.reduceNeg, Int.reduceEq, Int.reduceMul, reduceCtorEq, Int.reduceBEq, Int.reduceBNe, Int.reduceAdd, Int.reduceSub, bne_self_eq_false, beq_self_eq_true, Nat.le_add_right, eqOk, fn8, res8, gc8_0, gc8_1, gc8_2, gc8_3, gc8_4, gc8_5, gc8_6, gc8_7, gc8_8, gc8_9, gc8_10, gc8_11, gc8_12, gc8_13, gc8_14, gc8_15, gc8_16, gc8_17, gc8_18, gc8_19, gc8_20, gc8_21, gc8_22, gc8_23, gc8_24, gc8_25, gc8_26, gc8_27, gc8_28, gc8_29, gc8_30, gc8_31, gc8_32, gc8_33, gc8_34, gc8_35, gc8_36, gc8_37, gcSt, keepEnv, envLt, heapLt, dfrLt, ADefer.lt, grow8, ty3, ty4, ty5, ty22, ty23, ty25, ty29, ty30, ty38, ty56, ty63, plan8_20, plan8_28, eqt4, g2, g5, g6, g8, g9, g10, g11, g12, g15, g17, g85, g86, g146, g147, g148, gt_iff_lt, c1, c2, c3, c4, e1, b3, b4, b5, e2, c5, decide_false, law_inside, hj1]
        exact hih _ _ (by rfl) (by rfl) (by rfl) (by rfl) (by rfl) (by rfl) (by rfl) (by rfl) (by rfl) (by rfl) (by rfl) (by rfl) (by rfl) (by rfl) (by rfl)

/-- What a settle says of a block in a minute agrees with its excess. -/
theorem settled_excess {s : Stl} (hs : s.Wf) {blk : Int} {b : Blk} (hb : s.bs[blk.toNat]? = some b) (m : Nat) :
    (settl s blk b m = true ∨ someS s blk b m = true) → warmLo s blk b m ≤ s.near ∧ -s.near ≤ warmHi s blk b m := by
  have hbo := hs.bs b (List.mem_of_getElem? hb)
  have hle := warm_le hs hb m
  have hnn : 1 ≤ b.n := by have := hbo.a5; have := hbo.hn; omega
  rintro (h | h)
  · simp only [settl, Bool.and_eq_true, decide_eq_true_eq] at h; omega
  · obtain ⟨l1, -⟩ := loS_spec (fun j => exc s.ts blk (b.x 0) (b.s0 + j) 0 m) b.n hnn
    obtain ⟨u1, -⟩ := hiS_spec (fun j => exc s.ts blk (b.x 1) (b.s0 + j) 1 m) b.n hnn
    change ∀ j, j < b.n → warmLo s blk b m ≤ _ at l1
    change ∀ j, j < b.n → _ ≤ warmHi s blk b m at u1
    simp only [someS] at h
    rcases stop_find (fun j => decide (exc s.ts blk (b.x 0) (b.s0 + j) 0 m ≤ s.near) && decide (-s.near ≤ exc s.ts blk (b.x 1) (b.s0 + j) 1 m)) b.n 0 with ⟨hf, -, -⟩ | ⟨i, hf, -, hi, -, hlt, -⟩
    · rw [hf] at h; simp at h
    · simp only [Bool.and_eq_true, decide_eq_true_eq] at hi
      have := l1 i (by omega)
      have := u1 i (by omega)
      omega

theorem Rests_l10 (R : Option Done) (K : List Item) (s : Stl) (hv : s.valid = true) (hvb : SlOk H 6 vb (s.bs.map Blk.av)) (hvt : SlOk H 4 vt (s.ts.map Tch.av)) (b : Int) (hb : 0 ≤ b ∧ b < s.bs.length) (L : Nat) (hL : s.last = L)
    (fr f al g : Int)
    (hK : ∀ E : Env, E.get 2 = .ptr H.length 0 → E.get 6 = .sl false ((s.restsL b).map spA) → E.get 8 = I fr → E.get 9 = I f → E.get 10 = I al → E.get 11 = I g →
      Option.map (finishC H.length) (execL cfg0 prog0 ⟨8, none, false, H.length⟩ K ⟨E, [], H ++ [.box (.agg [vb, I s.near, I s.last, vt])], none⟩) = R) :
    ∀ (q m : Nat), m + q = L + 1 → ∀ (E : Env) (G : Heap), E.get 2 = .ptr H.length 0 → E.get 5 = I b → E.get 6 = .sl false ((s.restsL b).map spA) → E.get 8 = I fr → E.get 9 = I f → E.get 10 = I al → E.get 11 = I g → E.get 85 = I (s.last + 1) → E.get 86 = I m →
    Option.map (finishC H.length) (execL cfg0 prog0 ⟨8, none, false, H.length⟩ (loopIt Try.f8 10 :: .inBlock 0 :: K) ⟨E, [], H ++ (.box (.agg [vb, I s.near, I s.last, vt]) :: G), none⟩) = R := by
  intro q
  have hn := valid_nums hv
  have hwf := Stl.valid_wf hv
  have hlt : ltL 0 ((s.restsL b).map spA) = true := ltL_map (fun _ => rfl) _
  obtain ⟨h0, hbk⟩ := Stl.inB_blk (inB_of (s := s) hb)
  have hok := restsR_ok (settl s b (s.blk b)) (s.last.toNat + 1)
  change RestOk _ _ (s.restsL b) at hok
  have hlen : (s.restsL b).length ≤ 100 := by
    have := (restsR_bd (settl s b (s.blk b)) (s.last.toNat + 1)).1
    simp only [Stl.restsL]; omega
  induction q with
  | zero =>
    intro m hm E G g2 g5 g6 g8 g9 g10 g11 g85 g86
    have hk' : ¬ (m : Int) < s.last + 1 := by omega
    simp only [loopIt, todoPast, todoAt, todoOf, firstReg, ↓reduceIte, Option.some.injEq, Nat.reduceEqDiff, reduceCtorEq, Try.f8]
    rw [execL_inLoop]
    simp only [go_sem, ↓reduceIte, Nat.reduceEqDiff, Nat.reduceAdd, Nat.reduceLeDiff, Nat.reduceBEq, Nat.reduceMul, Nat.reduceLT, Int.reduceLT, Int.reduceLE, Int.reduceToNat, Int.reduceNeg, Int.reduceEq, Int.reduceMul, reduceCtorEq, Int.reduceBEq, Int.reduceBNe, Int.reduceAdd, Int.reduceSub, bne_self_eq_false, beq_self_eq_true, Nat.le_add_right, eqOk, fn8, res8, gc8_0, gc8_1, gc8_2, gc8_3, gc8_4, gc8_5, gc8_6, gc8_7, gc8_8, gc8_9, gc8_10, gc8_11, gc8_12, gc8_13, gc8_14, gc8_15, gc8_16, gc8_17, gc8_18, gc8_19, gc8_20, gc8_21, gc8_22, gc8_23, gc8_24, gc8_25, gc8_26, gc8_27, gc8_28, gc8_29, gc8_30, gc8_31, gc8_32, gc8_33, gc8_34, gc8_35, gc8_36, gc8_37, gcSt, keepEnv, envLt, heapLt, dfrLt, ADefer.lt, grow8, ty3, ty4, ty5, ty22, ty23, ty25, ty29, ty30, ty38, ty56, ty63, plan8_20, plan8_28, eqt4, g2, g5, g6, g8, g9, g10, g11, g85, g86, hk', hvb.ltn, hvt.ltn, hlt]
    exact hK _ (by rfl) (by rfl) (by rfl) (by rfl) (by rfl) (by rfl)
  | succ q ih =>
    intro m hm E G g2 g5 g6 g8 g9 g10 g11 g85 g86
    have hk' : (m : Int) < s.last + 1 := by omega
    have hm1 : IntKind.i64.wrap ((m : Int) + 1) = ((m + 1 : Nat) : Int) := by rw [w64 (by omega) (by omega)]; omega
    have e1 : IntKind.i64.wrap (0 - s.near) = -s.near := by rw [w64 (by omega) (by omega)]; omega
    have hX := fun (G : Heap) => f14 (H := H ++ G) s (hvb.app G) (hvt.app G) (by omega) (by omega) b m
    have hS := fun (G : Heap) => f18 (H := H ++ G) s (hvb.app G) (hvt.app G) (by omega) (by omega) b m
    simp only [Stl.excess, Stl.settled, hv, inB_of hb, inM_of (s := s) (m := (m : Int)) (by omega), Bool.and_self, if_true, Int.toNat_natCast] at hX hS
    have hse := settled_excess hwf hbk m
    have hih := ih (m + 1) (by omega)
    have hcov : ((s.restsL b).any fun p => wi m p.1 p.2) = settl s b (s.blk b) m := by
      have := hok.cov m (by omega)
      rw [Bool.eq_iff_iff, this, List.any_eq_true]
      simp only [wi, Bool.and_eq_true, decide_eq_true_eq]
    have hin := fun (k x0 x1 : Int) R K hK => Rests_l18 (H := H) (vb := vb) (vt := vt) R K s hv (s.restsL b) (by omega) (fun p hp => by have := hok.bd p hp; omega) hok.gap hvb.ltn hvt.ltn b fr f al g k m x0 x1 hK (s.restsL b).length 0 false (by omega) (by rw [List.drop_zero, Bool.false_or])
    have hs1 : (decide (-s.near ≤ warmLo s b (s.blk b) m) && decide (warmHi s b (s.blk b) m ≤ s.near)) = settl s b (s.blk b) m := rfl
    generalize warmLo s b (s.blk b) m = lo at *
    generalize warmHi s b (s.blk b) m = hi at *
    simp only [loopIt, todoPast, todoAt, todoOf, firstReg, ↓reduceIte, Option.some.injEq, Nat.reduceEqDiff, reduceCtorEq, Try.f8]
    rw [execL_inLoop]
    rcases Bool.eq_false_or_eq_true (settl s b (s.blk b) m) with hc | hc
    · have hse := hse (.inl hc)
      have w1 : -s.near ≤ lo ∧ hi ≤ s.near := by rw [hc] at hs1; simpa only [Bool.and_eq_true, decide_eq_true_eq] using hs1
      have w2 : ¬ s.near < lo := by omega
      have w3 : ¬ hi < -s.near := by omega
      simp only [hc, if_true] at hS
      simp only [go_sem, ↓reduceIte, Nat.reduceEqDiff, Nat.reduceAdd, Nat.reduceLeDiff, Nat.reduceBEq, Nat.reduceMul, Nat.reduceLT, Int.reduceLT, Int.reduceLE, Int.reduceToNat, Int.reduceNeg, Int.reduceEq, Int.reduceMul, reduceCtorEq, Int.reduceBEq, Int.reduceBNe, Int.reduceAdd, Int.reduceSub, bne_self_eq_false, beq_self_eq_true, Nat.le_add_right, eqOk, fn8, res8, gc8_0, gc8_1, gc8_2, gc8_3, gc8_4, gc8_5, gc8_6, gc8_7, gc8_8, gc8_9, gc8_10, gc8_11, gc8_12, gc8_13, gc8_14, gc8_15, gc8_16, gc8_17, gc8_18, gc8_19, gc8_20, gc8_21, gc8_22, gc8_23, gc8_24, gc8_25, gc8_26, gc8_27, gc8_28, gc8_29, gc8_30, gc8_31, gc8_32, gc8_33, gc8_34, gc8_35, gc8_36, gc8_37, gcSt, keepEnv, envLt, heapLt, dfrLt, ADefer.lt, grow8, ty3, ty4, ty5, ty22, ty23, ty25, ty29, ty30, ty38, ty56, ty63, plan8_20, plan8_28, eqt4, g2, g5, g6, g8, g9, g10, g11, g85, g86, hk', hvb.ltn, hvt.ltn, hlt, hX, hS, e1, List.length_map, ge_iff_le, gt_iff_lt, w1.1, w1.2, w2, w3, decide_true, decide_false]
      refine hin 2 lo hi _ _ (fun E g2 g5 g6 g8 g9 g10 g11 g12 g15 g17 g85 g86 => ?_) _ _ (by rfl) (by rfl) (by rfl) (by rfl) (by rfl) (by rfl) (by rfl) (by rfl) (by rfl) (by rfl) (by rfl) (by rfl) (by rfl) (by rfl) (by rfl)
      rw [hcov, hc] at g17
      simp only [go_sem, ↓reduceIte, Nat.reduceEqDiff, Nat.reduceAdd, Nat.reduceLeDiff, Nat.reduceBEq, Nat.reduceMul, Nat.reduceLT, Int.reduceLT, Int.reduceLE, Int.reduceToNat, Int.reduceNeg, Int.reduceEq, Int.reduceMul, reduceCtorEq, Int.reduceBEq, Int.reduceBNe, Int.reduceAdd, Int.reduceSub, bne_self_eq_false, beq_self_eq_true, Nat.le_add_right, eqOk, fn8, res8, gc8_0, gc8_1, gc8_2, gc8_3, gc8_4, gc8_5, gc8_6, gc8_7, gc8_8, gc8_9, gc8_10, gc8_11, gc8_12, gc8_13, gc8_14, gc8_15, gc8_16, gc8_17, gc8_18, gc8_19, gc8_20, gc8_21, gc8_22, gc8_23, gc8_24, gc8_25, gc8_26, gc8_27, gc8_28, gc8_29, gc8_30, gc8_31, gc8_32, gc8_33, gc8_34, gc8_35, gc8_36, gc8_37, gcSt, keepEnv, envLt, heapLt, dfrLt, ADefer.lt, grow8, ty3, ty4, ty5, ty22, ty23, ty25, ty29, ty30, ty38, ty56, ty63, plan8_20, plan8_28, eqt4, g2, g5, g6, g8, g9, g10, g11, g12, g15, g17, g85, g86, hm1]
      exact hih _ _ (by exact g2) (by exact g5) (by exact g6) (by exact g8) (by exact g9) (by exact g10) (by exact g11) (by exact g85) (by rfl)
    · simp only [hc, Bool.false_eq_true, if_false] at hS
      rw [hc] at hs1
      have hcond : (-s.near ≤ lo ∧ ¬ hi ≤ s.near) ∨ ¬ -s.near ≤ lo := by
        by_cases h1 : -s.near ≤ lo
        · by_cases h2 : hi ≤ s.near
          · simp [h1, h2] at hs1
          · exact .inl ⟨h1, h2⟩
        · exact .inr h1
      rcases Bool.eq_false_or_eq_true (someS s b (s.blk b) m) with hd | hd
      · have hse := hse (.inr hd)
        have w2 : ¬ s.near < lo := by omega
        have w3 : ¬ hi < -s.near := by omega
        simp only [hd, if_true] at hS
        rcases hcond with ⟨h1, h2⟩ | h1
        · simp only [go_sem, ↓reduceIte, Nat.reduceEqDiff, Nat.reduceAdd, Nat.reduceLeDiff, Nat.reduceBEq, Nat.reduceMul, Nat.reduceLT, Int.reduceLT, Int.reduceLE, Int.reduceToNat, Int.reduceNeg, Int.reduceEq, Int.reduceMul, reduceCtorEq, Int.reduceBEq, Int.reduceBNe, Int.reduceAdd, Int.reduceSub, bne_self_eq_false, beq_self_eq_true, Nat.le_add_right, eqOk, fn8, res8, gc8_0, gc8_1, gc8_2, gc8_3, gc8_4, gc8_5, gc8_6, gc8_7, gc8_8, gc8_9, gc8_10, gc8_11, gc8_12, gc8_13, gc8_14, gc8_15, gc8_16, gc8_17, gc8_18, gc8_19, gc8_20, gc8_21, gc8_22, gc8_23, gc8_24, gc8_25, gc8_26, gc8_27, gc8_28, gc8_29, gc8_30, gc8_31, gc8_32, gc8_33, gc8_34, gc8_35, gc8_36, gc8_37, gcSt, keepEnv, envLt, heapLt, dfrLt, ADefer.lt, grow8, ty3, ty4, ty5, ty22, ty23, ty25, ty29, ty30, ty38, ty56, ty63, plan8_20, plan8_28, eqt4, g2, g5, g6, g8, g9, g10, g11, g85, g86, hk', hvb.ltn, hvt.ltn, hlt, hX, hS, e1, List.length_map, ge_iff_le, gt_iff_lt, h1, h2, w2, w3, decide_true, decide_false]
          refine hin 1 lo hi _ _ (fun E g2 g5 g6 g8 g9 g10 g11 g12 g15 g17 g85 g86 => ?_) _ _ (by rfl) (by rfl) (by rfl) (by rfl) (by rfl) (by rfl) (by rfl) (by rfl) (by rfl) (by rfl) (by rfl) (by rfl) (by rfl) (by rfl) (by rfl)
          rw [hcov, hc] at g17
          simp only [go_sem, ↓reduceIte, Nat.reduceEqDiff, Nat.reduceAdd, Nat.reduceLeDiff, Nat.reduceBEq, Nat.reduceMul, Nat.reduceLT, Int.reduceLT, Int.reduceLE, Int.reduceToNat, Int.reduceNeg, Int.reduceEq, Int.reduceMul, reduceCtorEq, Int.reduceBEq, Int.reduceBNe, Int.reduceAdd, Int.reduceSub, bne_self_eq_false, beq_self_eq_true, Nat.le_add_right, eqOk, fn8, res8, gc8_0, gc8_1, gc8_2, gc8_3, gc8_4, gc8_5, gc8_6, gc8_7, gc8_8, gc8_9, gc8_10, gc8_11, gc8_12, gc8_13, gc8_14, gc8_15, gc8_16, gc8_17, gc8_18, gc8_19, gc8_20, gc8_21, gc8_22, gc8_23, gc8_24, gc8_25, gc8_26, gc8_27, gc8_28, gc8_29, gc8_30, gc8_31, gc8_32, gc8_33, gc8_34, gc8_35, gc8_36, gc8_37, gcSt, keepEnv, envLt, heapLt, dfrLt, ADefer.lt, grow8, ty3, ty4, ty5, ty22, ty23, ty25, ty29, ty30, ty38, ty56, ty63, plan8_20, plan8_28, eqt4, g2, g5, g6, g8, g9, g10, g11, g12, g15, g17, g85, g86, hm1]
          exact hih _ _ (by exact g2) (by exact g5) (by exact g6) (by exact g8) (by exact g9) (by exact g10) (by exact g11) (by exact g85) (by rfl)
        · simp only [go_sem, ↓reduceIte, Nat.reduceEqDiff, Nat.reduceAdd, Nat.reduceLeDiff, Nat.reduceBEq, Nat.reduceMul, Nat.reduceLT, Int.reduceLT, Int.reduceLE, Int.reduceToNat, Int.reduceNeg, Int.reduceEq, Int.reduceMul, reduceCtorEq, Int.reduceBEq, Int.reduceBNe, Int.reduceAdd, Int.reduceSub, bne_self_eq_false, beq_self_eq_true, Nat.le_add_right, eqOk, fn8, res8, gc8_0, gc8_1, gc8_2, gc8_3, gc8_4, gc8_5, gc8_6, gc8_7, gc8_8, gc8_9, gc8_10, gc8_11, gc8_12, gc8_13, gc8_14, gc8_15, gc8_16, gc8_17, gc8_18, gc8_19, gc8_20, gc8_21, gc8_22, gc8_23, gc8_24, gc8_25, gc8_26, gc8_27, gc8_28, gc8_29, gc8_30, gc8_31, gc8_32, gc8_33, gc8_34, gc8_35, gc8_36, gc8_37, gcSt, keepEnv, envLt, heapLt, dfrLt, ADefer.lt, grow8, ty3, ty4, ty5, ty22, ty23, ty25, ty29, ty30, ty38, ty56, ty63, plan8_20, plan8_28, eqt4, g2, g5, g6, g8, g9, g10, g11, g85, g86, hk', hvb.ltn, hvt.ltn, hlt, hX, hS, e1, List.length_map, ge_iff_le, gt_iff_lt, h1, w2, w3, decide_true, decide_false]
          refine hin 1 lo hi _ _ (fun E g2 g5 g6 g8 g9 g10 g11 g12 g15 g17 g85 g86 => ?_) _ _ (by rfl) (by rfl) (by rfl) (by rfl) (by rfl) (by rfl) (by rfl) (by rfl) (by rfl) (by rfl) (by rfl) (by rfl) (by rfl) (by rfl) (by rfl)
          rw [hcov, hc] at g17
          simp only [go_sem, ↓reduceIte, Nat.reduceEqDiff, Nat.reduceAdd, Nat.reduceLeDiff, Nat.reduceBEq, Nat.reduceMul, Nat.reduceLT, Int.reduceLT, Int.reduceLE, Int.reduceToNat, Int.reduceNeg, Int.reduceEq, Int.reduceMul, reduceCtorEq, Int.reduceBEq, Int.reduceBNe, Int.reduceAdd, Int.reduceSub, bne_self_eq_false, beq_self_eq_true, Nat.le_add_right, eqOk, fn8, res8, gc8_0, gc8_1, gc8_2, gc8_3, gc8_4, gc8_5, gc8_6, gc8_7, gc8_8, gc8_9, gc8_10, gc8_11, gc8_12, gc8_13, gc8_14, gc8_15, gc8_16, gc8_17, gc8_18, gc8_19, gc8_20, gc8_21, gc8_22, gc8_23, gc8_24, gc8_25, gc8_26, gc8_27, gc8_28, gc8_29, gc8_30, gc8_31, gc8_32, gc8_33, gc8_34, gc8_35, gc8_36, gc8_37, gcSt, keepEnv, envLt, heapLt, dfrLt, ADefer.lt, grow8, ty3, ty4, ty5, ty22, ty23, ty25, ty29, ty30, ty38, ty56, ty63, plan8_20, plan8_28, eqt4, g2, g5, g6, g8, g9, g10, g11, g12, g15, g17, g85, g86, hm1]
          exact hih _ _ (by exact g2) (by exact g5) (by exact g6) (by exact g8) (by exact g9) (by exact g10) (by exact g11) (by exact g85) (by rfl)
      · simp only [hd, Bool.false_eq_true, if_false] at hS
        rcases hcond with ⟨h1, h2⟩ | h1
        · simp only [go_sem, ↓reduceIte, Nat.reduceEqDiff, Nat.reduceAdd, Nat.reduceLeDiff, Nat.reduceBEq, Nat.reduceMul, Nat.reduceLT, Int.reduceLT, Int.reduceLE, Int.reduceToNat, Int.reduceNeg, Int.reduceEq, Int.reduceMul, reduceCtorEq, Int.reduceBEq, Int.reduceBNe, Int.reduceAdd, Int.reduceSub, bne_self_eq_false, beq_self_eq_true, Nat.le_add_right, eqOk, fn8, res8, gc8_0, gc8_1, gc8_2, gc8_3, gc8_4, gc8_5, gc8_6, gc8_7, gc8_8, gc8_9, gc8_10, gc8_11, gc8_12, gc8_13, gc8_14, gc8_15, gc8_16, gc8_17, gc8_18, gc8_19, gc8_20, gc8_21, gc8_22, gc8_23, gc8_24, gc8_25, gc8_26, gc8_27, gc8_28, gc8_29, gc8_30, gc8_31, gc8_32, gc8_33, gc8_34, gc8_35, gc8_36, gc8_37, gcSt, keepEnv, envLt, heapLt, dfrLt, ADefer.lt, grow8, ty3, ty4, ty5, ty22, ty23, ty25, ty29, ty30, ty38, ty56, ty63, plan8_20, plan8_28, eqt4, g2, g5, g6, g8, g9, g10, g11, g85, g86, hk', hvb.ltn, hvt.ltn, hlt, hX, hS, e1, List.length_map, ge_iff_le, gt_iff_lt, h1, h2, decide_true, decide_false]
          refine hin 0 lo hi _ _ (fun E g2 g5 g6 g8 g9 g10 g11 g12 g15 g17 g85 g86 => ?_) _ _ (by rfl) (by rfl) (by rfl) (by rfl) (by rfl) (by rfl) (by rfl) (by rfl) (by rfl) (by rfl) (by rfl) (by rfl) (by rfl) (by rfl) (by rfl)
          rw [hcov, hc] at g17
          simp only [go_sem, ↓reduceIte, Nat.reduceEqDiff, Nat.reduceAdd, Nat.reduceLeDiff, Nat.reduceBEq, Nat.reduceMul, Nat.reduceLT, Int.reduceLT, Int.reduceLE, Int.reduceToNat, Int.reduceNeg, Int.reduceEq, Int.reduceMul, reduceCtorEq, Int.reduceBEq, Int.reduceBNe, Int.reduceAdd, Int.reduceSub, bne_self_eq_false, beq_self_eq_true, Nat.le_add_right, eqOk, fn8, res8, gc8_0, gc8_1, gc8_2, gc8_3, gc8_4, gc8_5, gc8_6, gc8_7, gc8_8, gc8_9, gc8_10, gc8_11, gc8_12, gc8_13, gc8_14, gc8_15, gc8_16, gc8_17, gc8_18, gc8_19, gc8_20, gc8_21, gc8_22, gc8_23, gc8_24, gc8_25, gc8_26, gc8_27, gc8_28, gc8_29, gc8_30, gc8_31, gc8_32, gc8_33, gc8_34, gc8_35, gc8_36, gc8_37, gcSt, keepEnv, envLt, heapLt, dfrLt, ADefer.lt, grow8, ty3, ty4, ty5, ty22, ty23, ty25, ty29, ty30, ty38, ty56, ty63, plan8_20, plan8_28, eqt4, g2, g5, g6, g8, g9, g10, g11, g12, g15, g17, g85, g86, hm1]
          exact hih _ _ (by exact g2) (by exact g5) (by exact g6) (by exact g8) (by exact g9) (by exact g10) (by exact g11) (by exact g85) (by rfl)
        · simp only [go_sem, ↓reduceIte, Nat.reduceEqDiff, Nat.reduceAdd, Nat.reduceLeDiff, Nat.reduceBEq, Nat.reduceMul, Nat.reduceLT, Int.reduceLT, Int.reduceLE, Int.reduceToNat, Int.reduceNeg, Int.reduceEq, Int.reduceMul, reduceCtorEq, Int.reduceBEq, Int.reduceBNe, Int.reduceAdd, Int.reduceSub, bne_self_eq_false, beq_self_eq_true, Nat.le_add_right, eqOk, fn8, res8, gc8_0, gc8_1, gc8_2, gc8_3, gc8_4, gc8_5, gc8_6, gc8_7, gc8_8, gc8_9, gc8_10, gc8_11, gc8_12, gc8_13, gc8_14, gc8_15, gc8_16, gc8_17, gc8_18, gc8_19, gc8_20, gc8_21, gc8_22, gc8_23, gc8_24, gc8_25, gc8_26, gc8_27, gc8_28, gc8_29, gc8_30, gc8_31, gc8_32, gc8_33, gc8_34, gc8_35, gc8_36, gc8_37, gcSt, keepEnv, envLt, heapLt, dfrLt, ADefer.lt, grow8, ty3, ty4, ty5, ty22, ty23, ty25, ty29, ty30, ty38, ty56, ty63, plan8_20, plan8_28, eqt4, g2, g5, g6, g8, g9, g10, g11, g85, g86, hk', hvb.ltn, hvt.ltn, hlt, hX, hS, e1, List.length_map, ge_iff_le, gt_iff_lt, h1, decide_true, decide_false]
          refine hin 0 lo hi _ _ (fun E g2 g5 g6 g8 g9 g10 g11 g12 g15 g17 g85 g86 => ?_) _ _ (by rfl) (by rfl) (by rfl) (by rfl) (by rfl) (by rfl) (by rfl) (by rfl) (by rfl) (by rfl) (by rfl) (by rfl) (by rfl) (by rfl) (by rfl)
          rw [hcov, hc] at g17
          simp only [go_sem, ↓reduceIte, Nat.reduceEqDiff, Nat.reduceAdd, Nat.reduceLeDiff, Nat.reduceBEq, Nat.reduceMul, Nat.reduceLT, Int.reduceLT, Int.reduceLE, Int.reduceToNat, Int.reduceNeg, Int.reduceEq, Int.reduceMul, reduceCtorEq, Int.reduceBEq, Int.reduceBNe, Int.reduceAdd, Int.reduceSub, bne_self_eq_false, beq_self_eq_true, Nat.le_add_right, eqOk, fn8, res8, gc8_0, gc8_1, gc8_2, gc8_3, gc8_4, gc8_5, gc8_6, gc8_7, gc8_8, gc8_9, gc8_10, gc8_11, gc8_12, gc8_13, gc8_14, gc8_15, gc8_16, gc8_17, gc8_18, gc8_19, gc8_20, gc8_21, gc8_22, gc8_23, gc8_24, gc8_25, gc8_26, gc8_27, gc8_28, gc8_29, gc8_30, gc8_31, gc8_32, gc8_33, gc8_34, gc8_35, gc8_36, gc8_37, gcSt, keepEnv, envLt, heapLt, dfrLt, ADefer.lt, grow8, ty3, ty4, ty5, ty22, ty23, ty25, ty29, ty30, ty38, ty56, ty63, plan8_20, plan8_28, eqt4, g2, g5, g6, g8, g9, g10, g11, g12, g15, g17, g85, g86, hm1]
          exact hih _ _ (by exact g2) (by exact g5) (by exact g6) (by exact g8) (by exact g9) (by exact g10) (by exact g11) (by exact g85) (by rfl)

/-- All blocks, one by one: the latest of the minutes, and whether there is one of each. -/
theorem Rests_l32 (R : Option Done) (K : List Item) (s : Stl) (hv : s.valid = true) (hvb : SlOk H 6 vb (s.bs.map Blk.av)) (hvt : SlOk H 4 vt (s.ts.map Tch.av)) (al g : Int)
    (hK : ∀ (E : Env) (la : Int) (so : Bool), (so = true ∧ allR s s.bs.length = some la) ∨ (so = false ∧ allR s s.bs.length = none) → E.get 10 = I al → E.get 11 = I g → E.get 21 = I la → E.get 22 = .bool so →
      Option.map (finishC H.length) (execL cfg0 prog0 ⟨8, none, false, H.length⟩ K ⟨E, [], H ++ [.box (.agg [vb, I s.near, I s.last, vt])], none⟩) = R) :
    ∀ (q j : Nat) (la : Int) (so : Bool), j + q = s.bs.length → (so = true ∧ allR s j = some la) ∨ (so = false ∧ allR s j = none) → ∀ E : Env, E.get 2 = .ptr H.length 0 → E.get 10 = I al → E.get 11 = I g → E.get 21 = I la → E.get 22 = .bool so → E.get 231 = I s.bs.length → E.get 232 = I j →
    Option.map (finishC H.length) (execL cfg0 prog0 ⟨8, none, false, H.length⟩ (loopIt Try.f8 32 :: .inBlock 4 :: K) ⟨E, [], H ++ [.box (.agg [vb, I s.near, I s.last, vt])], none⟩) = R := by
  intro q
  have hn := valid_nums hv
  induction q with
  | zero =>
    intro j la so hj ha E g2 g10 g11 g21 g22 g231 g232
    have hk' : ¬ (j : Int) < s.bs.length := by omega
    rw [show j = s.bs.length by omega] at ha
    simp only [loopIt, todoPast, todoAt, todoOf, firstReg, ↓reduceIte, Option.some.injEq, Nat.reduceEqDiff, reduceCtorEq, Try.f8]
    rw [execL_inLoop]
    simp only [go_sem, ↓reduceIte, Nat.reduceEqDiff, Nat.reduceAdd, Nat.reduceLeDiff, Nat.reduceBEq, Nat.reduceMul, Nat.reduceLT, Int.reduceLT, Int.reduceLE, Int.reduceToNat, Int.reduceNeg, Int.reduceEq, Int.reduceMul, reduceCtorEq, Int.reduceBEq, Int.reduceBNe, Int.reduceAdd, Int.reduceSub, bne_self_eq_false, beq_self_eq_true, Nat.le_add_right, eqOk, fn8, res8, gc8_0, gc8_1, gc8_2, gc8_3, gc8_4, gc8_5, gc8_6, gc8_7, gc8_8, gc8_9, gc8_10, gc8_11, gc8_12, gc8_13, gc8_14, gc8_15, gc8_16, gc8_17, gc8_18, gc8_19, gc8_20, gc8_21, gc8_22, gc8_23, gc8_24, gc8_25, gc8_26, gc8_27, gc8_28, gc8_29, gc8_30, gc8_31, gc8_32, gc8_33, gc8_34, gc8_35, gc8_36, gc8_37, gcSt, keepEnv, envLt, heapLt, dfrLt, ADefer.lt, grow8, ty3, ty4, ty5, ty22, ty23, ty25, ty29, ty30, ty38, ty56, ty63, plan8_20, plan8_28, eqt4, g2, g10, g11, g21, g22, g231, g232, hk']
    exact hK _ la so ha (by exact g10) (by exact g11) (by exact g21) (by exact g22)
  | succ q ih =>
    intro j la so hj ha E g2 g10 g11 g21 g22 g231 g232
    have hk' : (j : Int) < s.bs.length := by omega
    have hj1 : IntKind.i64.wrap ((j : Int) + 1) = ((j + 1 : Nat) : Int) := by rw [w64 (by omega) (by omega)]; omega
    have hW := fun (G : Heap) => f20 (H := H ++ G) s (hvb.app G) (hvt.app G) (by omega) (by omega) j
    rw [show s.when j = _ from by simp only [Stl.when, hv, inB_of (s := s) (b := (j : Int)) (by omega), if_true]; rfl] at hW
    simp only [loopIt, todoPast, todoAt, todoOf, firstReg, ↓reduceIte, Option.some.injEq, Nat.reduceEqDiff, reduceCtorEq, Try.f8]
    rw [execL_inLoop]
    rcases ha with ⟨rfl, ha⟩ | ⟨rfl, ha⟩
    · cases hw : whenR s j (s.blk j) with
      | none =>
        simp only [hw] at hW
        simp only [go_sem, ↓reduceIte, Nat.reduceEqDiff, Nat.reduceAdd, Nat.reduceLeDiff, Nat.reduceBEq, Nat.reduceMul, Nat.reduceLT, Int.reduceLT, Int.reduceLE, Int.reduceToNat, Int.reduceNeg, Int.reduceEq, Int.reduceMul, reduceCtorEq, Int.reduceBEq, Int.reduceBNe, Int.reduceAdd, Int.reduceSub, bne_self_eq_false, beq_self_eq_true, Nat.le_add_right, eqOk, fn8, res8, gc8_0, gc8_1, gc8_2, gc8_3, gc8_4, gc8_5, gc8_6, gc8_7, gc8_8, gc8_9, gc8_10, gc8_11, gc8_12, gc8_13, gc8_14, gc8_15, gc8_16, gc8_17, gc8_18, gc8_19, gc8_20, gc8_21, gc8_22, gc8_23, gc8_24, gc8_25, gc8_26, gc8_27, gc8_28, gc8_29, gc8_30, gc8_31, gc8_32, gc8_33, gc8_34, gc8_35, gc8_36, gc8_37, gcSt, keepEnv, envLt, heapLt, dfrLt, ADefer.lt, grow8, ty3, ty4, ty5, ty22, ty23, ty25, ty29, ty30, ty38, ty56, ty63, plan8_20, plan8_28, eqt4, g2, g10, g11, g21, g22, g231, g232, hk', hW, hj1]
        exact ih (j + 1) _ false (by omega) (.inr ⟨rfl, by simp only [allR, ha, hw]⟩) _ (by exact g2) (by exact g10) (by exact g11) (by rfl) (by rfl) (by exact g231) (by rfl)
      | some w =>
        simp only [hw] at hW
        simp only [go_sem, ↓reduceIte, Nat.reduceEqDiff, Nat.reduceAdd, Nat.reduceLeDiff, Nat.reduceBEq, Nat.reduceMul, Nat.reduceLT, Int.reduceLT, Int.reduceLE, Int.reduceToNat, Int.reduceNeg, Int.reduceEq, Int.reduceMul, reduceCtorEq, Int.reduceBEq, Int.reduceBNe, Int.reduceAdd, Int.reduceSub, bne_self_eq_false, beq_self_eq_true, Nat.le_add_right, eqOk, fn8, res8, gc8_0, gc8_1, gc8_2, gc8_3, gc8_4, gc8_5, gc8_6, gc8_7, gc8_8, gc8_9, gc8_10, gc8_11, gc8_12, gc8_13, gc8_14, gc8_15, gc8_16, gc8_17, gc8_18, gc8_19, gc8_20, gc8_21, gc8_22, gc8_23, gc8_24, gc8_25, gc8_26, gc8_27, gc8_28, gc8_29, gc8_30, gc8_31, gc8_32, gc8_33, gc8_34, gc8_35, gc8_36, gc8_37, gcSt, keepEnv, envLt, heapLt, dfrLt, ADefer.lt, grow8, ty3, ty4, ty5, ty22, ty23, ty25, ty29, ty30, ty38, ty56, ty63, plan8_20, plan8_28, eqt4, g2, g10, g11, g21, g22, g231, g232, hk', hW, hj1]
        exact ih (j + 1) (mx la w) true (by omega) (.inl ⟨rfl, by simp only [allR, ha, hw]⟩) _ (by exact g2) (by exact g10) (by exact g11) (by rfl) (by rfl) (by exact g231) (by rfl)
    · cases hw : whenR s j (s.blk j) with
      | none =>
        simp only [hw] at hW
        simp only [go_sem, ↓reduceIte, Nat.reduceEqDiff, Nat.reduceAdd, Nat.reduceLeDiff, Nat.reduceBEq, Nat.reduceMul, Nat.reduceLT, Int.reduceLT, Int.reduceLE, Int.reduceToNat, Int.reduceNeg, Int.reduceEq, Int.reduceMul, reduceCtorEq, Int.reduceBEq, Int.reduceBNe, Int.reduceAdd, Int.reduceSub, bne_self_eq_false, beq_self_eq_true, Nat.le_add_right, eqOk, fn8, res8, gc8_0, gc8_1, gc8_2, gc8_3, gc8_4, gc8_5, gc8_6, gc8_7, gc8_8, gc8_9, gc8_10, gc8_11, gc8_12, gc8_13, gc8_14, gc8_15, gc8_16, gc8_17, gc8_18, gc8_19, gc8_20, gc8_21, gc8_22, gc8_23, gc8_24, gc8_25, gc8_26, gc8_27, gc8_28, gc8_29, gc8_30, gc8_31, gc8_32, gc8_33, gc8_34, gc8_35, gc8_36, gc8_37, gcSt, keepEnv, envLt, heapLt, dfrLt, ADefer.lt, grow8, ty3, ty4, ty5, ty22, ty23, ty25, ty29, ty30, ty38, ty56, ty63, plan8_20, plan8_28, eqt4, g2, g10, g11, g21, g22, g231, g232, hk', hW, hj1]
        exact ih (j + 1) _ false (by omega) (.inr ⟨rfl, by simp only [allR, ha]⟩) _ (by exact g2) (by exact g10) (by exact g11) (by rfl) (by rfl) (by exact g231) (by rfl)
      | some w =>
        simp only [hw] at hW
        simp only [go_sem, ↓reduceIte, Nat.reduceEqDiff, Nat.reduceAdd, Nat.reduceLeDiff, Nat.reduceBEq, Nat.reduceMul, Nat.reduceLT, Int.reduceLT, Int.reduceLE, Int.reduceToNat, Int.reduceNeg, Int.reduceEq, Int.reduceMul, reduceCtorEq, Int.reduceBEq, Int.reduceBNe, Int.reduceAdd, Int.reduceSub, bne_self_eq_false, beq_self_eq_true, Nat.le_add_right, eqOk, fn8, res8, gc8_0, gc8_1, gc8_2, gc8_3, gc8_4, gc8_5, gc8_6, gc8_7, gc8_8, gc8_9, gc8_10, gc8_11, gc8_12, gc8_13, gc8_14, gc8_15, gc8_16, gc8_17, gc8_18, gc8_19, gc8_20, gc8_21, gc8_22, gc8_23, gc8_24, gc8_25, gc8_26, gc8_27, gc8_28, gc8_29, gc8_30, gc8_31, gc8_32, gc8_33, gc8_34, gc8_35, gc8_36, gc8_37, gcSt, keepEnv, envLt, heapLt, dfrLt, ADefer.lt, grow8, ty3, ty4, ty5, ty22, ty23, ty25, ty29, ty30, ty38, ty56, ty63, plan8_20, plan8_28, eqt4, g2, g10, g11, g21, g22, g231, g232, hk', hW, hj1]
        exact ih (j + 1) _ false (by omega) (.inr ⟨rfl, by simp only [allR, ha]⟩) _ (by exact g2) (by exact g10) (by exact g11) (by rfl) (by rfl) (by exact g231) (by rfl)

/-- What is checked behind the minutes. -/
theorem Rests_tail (s : Stl) (hv : s.valid = true) (hvb : SlOk H 6 vb (s.bs.map Blk.av)) (hvt : SlOk H 4 vt (s.ts.map Tch.av)) (b : Int) (hb : 0 ≤ b ∧ b < s.bs.length) (L : Nat) (hL : s.last = L) (fr f al g : Int)
    (hfr : (match whenR s b (s.blk b) with | some w => (w, (0 : Int)) | none => (0, 4)) = (fr, f)) (hal : (match allR s s.bs.length with | some w => (w, (0 : Int)) | none => (0, 4)) = (al, g)) :
    ∀ E : Env, E.get 2 = .ptr H.length 0 → E.get 6 = .sl false ((s.restsL b).map spA) → E.get 8 = I fr → E.get 9 = I f → E.get 10 = I al → E.get 11 = I g →
    Option.map (finishC H.length) (execL cfg0 prog0 ⟨8, none, false, H.length⟩ (todoPast Try.f8 10) ⟨E, [], H ++ [.box (.agg [vb, I s.near, I s.last, vt])], none⟩) = some ⟨.ret (.bool true), H, none⟩ := by
  intro E g2 g6 g8 g9 g10 g11
  have hn := valid_nums hv
  have hok := restsR_ok (settl s b (s.blk b)) (L + 1)
  have hlast := rest_when hL hok
  rw [show restsR (settl s b (s.blk b)) (L + 1) = s.restsL b by simp only [Stl.restsL, hL, Int.toNat_natCast]] at hok hlast
  have hlen : (s.restsL b).length ≤ 100 := by
    have := (restsR_bd (settl s b (s.blk b)) (s.last.toNat + 1)).1
    simp only [Stl.restsL]; omega
  have e1 : IntKind.i64.wrap (((s.restsL b).length : Int) - 1) = ((s.restsL b).length : Int) - 1 := w64 (by omega) (by omega)
  have hsl : ∀ G, SlOk (H ++ G) 2 (.sl false ((s.restsL b).map spA)) ((s.restsL b).map spA) := fun G => ⟨rfl, by simp only [List.mem_map]; rintro _ ⟨p, _, rfl⟩; rfl⟩
  have l32 := fun R K hK => Rests_l32 (H := H) (vb := vb) (vt := vt) R K s hv hvb hvt al g hK s.bs.length 0 0 true (by omega) (.inl ⟨rfl, rfl⟩)
  -- behind the blocks
  have fin : ∀ (E : Env) (la : Int) (so : Bool), (so = true ∧ allR s s.bs.length = some la) ∨ (so = false ∧ allR s s.bs.length = none) → E.get 10 = I al → E.get 11 = I g → E.get 21 = I la → E.get 22 = .bool so →
      Option.map (finishC H.length) (execL cfg0 prog0 ⟨8, none, false, H.length⟩ (todoPast Try.f8 32) ⟨E, [], H ++ [.box (.agg [vb, I s.near, I s.last, vt])], none⟩) = some ⟨.ret (.bool true), H, none⟩ := by
    intro E la so hso g10 g11 g21 g22
    simp only [todoPast, loopIt, todoPast, todoAt, todoOf, firstReg, ↓reduceIte, Option.some.injEq, Nat.reduceEqDiff, reduceCtorEq, Try.f8]
    rcases hso with ⟨rfl, ha⟩ | ⟨rfl, ha⟩
    · simp only [ha, Prod.mk.injEq] at hal
      obtain ⟨rfl, rfl⟩ := hal
      simp only [go_sem, ↓reduceIte, Nat.reduceEqDiff, Nat.reduceAdd, Nat.reduceLeDiff, Nat.reduceBEq, Nat.reduceMul, Nat.reduceLT, Int.reduceLT, Int.reduceLE, Int.reduceToNat, Int.reduceNeg, Int.reduceEq, Int.reduceMul, reduceCtorEq, Int.reduceBEq, Int.reduceBNe, Int.reduceAdd, Int.reduceSub, bne_self_eq_false, beq_self_eq_true, Nat.le_add_right, eqOk, fn8, res8, gc8_0, gc8_1, gc8_2, gc8_3, gc8_4, gc8_5, gc8_6, gc8_7, gc8_8, gc8_9, gc8_10, gc8_11, gc8_12, gc8_13, gc8_14, gc8_15, gc8_16, gc8_17, gc8_18, gc8_19, gc8_20, gc8_21, gc8_22, gc8_23, gc8_24, gc8_25, gc8_26, gc8_27, gc8_28, gc8_29, gc8_30, gc8_31, gc8_32, gc8_33, gc8_34, gc8_35, gc8_36, gc8_37, gcSt, keepEnv, envLt, heapLt, dfrLt, ADefer.lt, grow8, ty3, ty4, ty5, ty22, ty23, ty25, ty29, ty30, ty38, ty56, ty63, plan8_20, plan8_28, eqt4, g10, g11, g21, g22, f13]
    · simp only [ha, Prod.mk.injEq] at hal
      obtain ⟨rfl, rfl⟩ := hal
      simp only [go_sem, ↓reduceIte, Nat.reduceEqDiff, Nat.reduceAdd, Nat.reduceLeDiff, Nat.reduceBEq, Nat.reduceMul, Nat.reduceLT, Int.reduceLT, Int.reduceLE, Int.reduceToNat, Int.reduceNeg, Int.reduceEq, Int.reduceMul, reduceCtorEq, Int.reduceBEq, Int.reduceBNe, Int.reduceAdd, Int.reduceSub, bne_self_eq_false, beq_self_eq_true, Nat.le_add_right, eqOk, fn8, res8, gc8_0, gc8_1, gc8_2, gc8_3, gc8_4, gc8_5, gc8_6, gc8_7, gc8_8, gc8_9, gc8_10, gc8_11, gc8_12, gc8_13, gc8_14, gc8_15, gc8_16, gc8_17, gc8_18, gc8_19, gc8_20, gc8_21, gc8_22, gc8_23, gc8_24, gc8_25, gc8_26, gc8_27, gc8_28, gc8_29, gc8_30, gc8_31, gc8_32, gc8_33, gc8_34, gc8_35, gc8_36, gc8_37, gcSt, keepEnv, envLt, heapLt, dfrLt, ADefer.lt, grow8, ty3, ty4, ty5, ty22, ty23, ty25, ty29, ty30, ty38, ty56, ty63, plan8_20, plan8_28, eqt4, g10, g11, g21, g22, f13]
  simp only [todoPast, loopIt, todoPast, todoAt, todoOf, firstReg, ↓reduceIte, Option.some.injEq, Nat.reduceEqDiff, reduceCtorEq, Try.f8]
  simp only [go_sem, ↓reduceIte, Nat.reduceEqDiff, Nat.reduceAdd, Nat.reduceLeDiff, Nat.reduceBEq, Nat.reduceMul, Nat.reduceLT, Int.reduceLT, Int.reduceLE, Int.reduceToNat, Int.reduceNeg, Int.reduceEq, Int.reduceMul, reduceCtorEq, Int.reduceBEq, Int.reduceBNe, Int.reduceAdd, Int.reduceSub, bne_self_eq_false, beq_self_eq_true, Nat.le_add_right, eqOk, fn8, res8, gc8_0, gc8_1, gc8_2, gc8_3, gc8_4, gc8_5, gc8_6, gc8_7, gc8_8, gc8_9, gc8_10, gc8_11, gc8_12, gc8_13, gc8_14, gc8_15, gc8_16, gc8_17, gc8_18, gc8_19, gc8_20, gc8_21, gc8_22, gc8_23, gc8_24, gc8_25, gc8_26, gc8_27, gc8_28, gc8_29, gc8_30, gc8_31, gc8_32, gc8_33, gc8_34, gc8_35, gc8_36, gc8_37, gcSt, keepEnv, envLt, heapLt, dfrLt, ADefer.lt, grow8, ty3, ty4, ty5, ty22, ty23, ty25, ty29, ty30, ty38, ty56, ty63, plan8_20, plan8_28, eqt4, g2, g6, g8, g9, g10, g11, List.length_map, e1]
  rw [chkK_of]; rotate_left; kernel_rfl
  cases hw : whenR s b (s.blk b) with
  | none =>
    simp only [hw, Prod.mk.injEq] at hfr hlast
    obtain ⟨rfl, rfl⟩ := hfr
    cases hgl : (s.restsL b).getLast? with
    | none =>
      have hl0 : s.restsL b = [] := by simpa using hgl
      have hz : ¬ (0 : Int) ≤ ((s.restsL b).length : Int) - 1 := by rw [hl0]; simp
      simp only [go_sem, ↓reduceIte, Nat.reduceEqDiff, Nat.reduceAdd, Nat.reduceLeDiff, Nat.reduceBEq, Nat.reduceMul, Nat.reduceLT, Int.reduceLT, Int.reduceLE, Int.reduceToNat, Int.reduceNeg, Int.reduceEq, Int.reduceMul, reduceCtorEq, Int.reduceBEq, Int.reduceBNe, Int.reduceAdd, Int.reduceSub, bne_self_eq_false, beq_self_eq_true, Nat.le_add_right, eqOk, fn8, res8, gc8_0, gc8_1, gc8_2, gc8_3, gc8_4, gc8_5, gc8_6, gc8_7, gc8_8, gc8_9, gc8_10, gc8_11, gc8_12, gc8_13, gc8_14, gc8_15, gc8_16, gc8_17, gc8_18, gc8_19, gc8_20, gc8_21, gc8_22, gc8_23, gc8_24, gc8_25, gc8_26, gc8_27, gc8_28, gc8_29, gc8_30, gc8_31, gc8_32, gc8_33, gc8_34, gc8_35, gc8_36, gc8_37, gcSt, keepEnv, envLt, heapLt, dfrLt, ADefer.lt, grow8, ty3, ty4, ty5, ty22, ty23, ty25, ty29, ty30, ty38, ty56, ty63, plan8_20, plan8_28, eqt4, g2, g6, g8, g9, g10, g11, List.length_map, e1, ge_iff_le, hz, hvb.len, decide_false]
      exact l32 _ _ fin _ (by exact g2) (by exact g10) (by exact g11) (by rfl) (by rfl) (by rfl) (by rfl)
    | some p =>
      have hne : p.2 ≠ L := hlast p hgl
      have hlne : 0 < (s.restsL b).length := by
        cases hx : s.restsL b with
        | nil => rw [hx] at hgl; simp at hgl
        | cons _ _ => simp
      have hz : (0 : Int) ≤ ((s.restsL b).length : Int) - 1 := by omega
      obtain ⟨a1, a2, a3, a4, a5⟩ := (hsl []).at (k := ((s.restsL b).length : Int) - 1) (x := spA p) (by omega) (by rw [List.getElem?_map, show (((s.restsL b).length : Int) - 1).toNat = (s.restsL b).length - 1 by omega, ← List.getLast?_eq_getElem?, hgl]; rfl)
      rw [List.append_nil] at a4 a5
      simp only [spA] at a4 a5
      have hbq : (p.2 == s.last) = false := by rw [hL]; simpa using hne
      simp only [go_sem, ↓reduceIte, Nat.reduceEqDiff, Nat.reduceAdd, Nat.reduceLeDiff, Nat.reduceBEq, Nat.reduceMul, Nat.reduceLT, Int.reduceLT, Int.reduceLE, Int.reduceToNat, Int.reduceNeg, Int.reduceEq, Int.reduceMul, reduceCtorEq, Int.reduceBEq, Int.reduceBNe, Int.reduceAdd, Int.reduceSub, bne_self_eq_false, beq_self_eq_true, Nat.le_add_right, eqOk, fn8, res8, gc8_0, gc8_1, gc8_2, gc8_3, gc8_4, gc8_5, gc8_6, gc8_7, gc8_8, gc8_9, gc8_10, gc8_11, gc8_12, gc8_13, gc8_14, gc8_15, gc8_16, gc8_17, gc8_18, gc8_19, gc8_20, gc8_21, gc8_22, gc8_23, gc8_24, gc8_25, gc8_26, gc8_27, gc8_28, gc8_29, gc8_30, gc8_31, gc8_32, gc8_33, gc8_34, gc8_35, gc8_36, gc8_37, gcSt, keepEnv, envLt, heapLt, dfrLt, ADefer.lt, grow8, ty3, ty4, ty5, ty22, ty23, ty25, ty29, ty30, ty38, ty56, ty63, plan8_20, plan8_28, eqt4, g2, g6, g8, g9, g10, g11, List.length_map, e1, ge_iff_le, hz, hvb.len, a3, a4, a5, hbq, decide_true]
      exact l32 _ _ fin _ (by exact g2) (by exact g10) (by exact g11) (by rfl) (by rfl) (by rfl) (by rfl)
  | some w =>
    simp only [hw, Prod.mk.injEq] at hfr hlast
    obtain ⟨rfl, rfl⟩ := hfr
    obtain ⟨p, hgl, hp2, hp1⟩ := hlast
    have hlne : 0 < (s.restsL b).length := by
      cases hx : s.restsL b with
      | nil => rw [hx] at hgl; simp at hgl
      | cons _ _ => simp
    have hz : (0 : Int) ≤ ((s.restsL b).length : Int) - 1 := by omega
    obtain ⟨a1, a2, a3, a4, a5⟩ := (hsl []).at (k := ((s.restsL b).length : Int) - 1) (x := spA p) (by omega) (by rw [List.getElem?_map, show (((s.restsL b).length : Int) - 1).toNat = (s.restsL b).length - 1 by omega, ← List.getLast?_eq_getElem?, hgl]; rfl)
    rw [List.append_nil] at a4 a5
    simp only [spA] at a4 a5
    have hbq : (p.2 == s.last) = true := by rw [hL, hp2]; simp
    have hbn : (p.1 != w) = false := by rw [hp1]; simp
    simp only [go_sem, ↓reduceIte, Nat.reduceEqDiff, Nat.reduceAdd, Nat.reduceLeDiff, Nat.reduceBEq, Nat.reduceMul, Nat.reduceLT, Int.reduceLT, Int.reduceLE, Int.reduceToNat, Int.reduceNeg, Int.reduceEq, Int.reduceMul, reduceCtorEq, Int.reduceBEq, Int.reduceBNe, Int.reduceAdd, Int.reduceSub, bne_self_eq_false, beq_self_eq_true, Nat.le_add_right, eqOk, fn8, res8, gc8_0, gc8_1, gc8_2, gc8_3, gc8_4, gc8_5, gc8_6, gc8_7, gc8_8, gc8_9, gc8_10, gc8_11, gc8_12, gc8_13, gc8_14, gc8_15, gc8_16, gc8_17, gc8_18, gc8_19, gc8_20, gc8_21, gc8_22, gc8_23, gc8_24, gc8_25, gc8_26, gc8_27, gc8_28, gc8_29, gc8_30, gc8_31, gc8_32, gc8_33, gc8_34, gc8_35, gc8_36, gc8_37, gcSt, keepEnv, envLt, heapLt, dfrLt, ADefer.lt, grow8, ty3, ty4, ty5, ty22, ty23, ty25, ty29, ty30, ty38, ty56, ty63, plan8_20, plan8_28, eqt4, g2, g6, g8, g9, g10, g11, List.length_map, e1, ge_iff_le, hz, hvb.len, a3, a4, a5, hbq, hbn, decide_true]
    exact l32 _ _ fin _ (by exact g2) (by exact g10) (by exact g11) (by rfl) (by rfl) (by rfl) (by rfl)

theorem law_SettleRests (s : Stl) (hvb : SlOk H 6 vb (s.bs.map Blk.av)) (hvt : SlOk H 4 vt (s.ts.map Tch.av)) (w : Int) (hw : 0 ≤ w ∧ w ≤ 255) :
    callFL cfg0 prog0 false 8 [.agg [vb, I s.near, I s.last, vt], U8 w] H none = some ⟨.ret (.bool true), H, none⟩ := by
  have sb := hvb.scal
  have st := hvt.scal
  have hL := law_long s hvb hvt
  refine (callFL_eq fn8 rfl (by simp [Try.f8])).trans ?_
  rcases long_cases s with hl | ⟨hl, hl1, hl2⟩
  · simp only [go_sem, ↓reduceIte, Nat.reduceEqDiff, Nat.reduceAdd, Nat.reduceLeDiff, Nat.reduceBEq, Nat.reduceMul, Nat.reduceLT, Int.reduceLT, Int.reduceLE, Int.reduceToNat, Int.reduceNeg, Int.reduceEq, Int.reduceMul, reduceCtorEq, Int.reduceBEq, Int.reduceBNe, Int.reduceAdd, Int.reduceSub, bne_self_eq_false, beq_self_eq_true, Nat.le_add_right, eqOk, fn8, res8, gc8_0, gc8_1, gc8_2, gc8_3, gc8_4, gc8_5, gc8_6, gc8_7, gc8_8, gc8_9, gc8_10, gc8_11, gc8_12, gc8_13, gc8_14, gc8_15, gc8_16, gc8_17, gc8_18, gc8_19, gc8_20, gc8_21, gc8_22, gc8_23, gc8_24, gc8_25, gc8_26, gc8_27, gc8_28, gc8_29, gc8_30, gc8_31, gc8_32, gc8_33, gc8_34, gc8_35, gc8_36, gc8_37, gcSt, keepEnv, envLt, heapLt, dfrLt, ADefer.lt, grow8, ty3, ty4, ty5, ty22, ty23, ty25, ty29, ty30, ty38, ty56, ty63, plan8_20, plan8_28, eqt4, sb, st, hL, hl, f13]
  · have hV := fun (G : Heap) => ref_Settle (H := H ++ G) s (hvb.app G) (hvt.app G) (by omega) (by omega)
    cases hv : s.valid with
    | false => simp only [go_sem, ↓reduceIte, Nat.reduceEqDiff, Nat.reduceAdd, Nat.reduceLeDiff, Nat.reduceBEq, Nat.reduceMul, Nat.reduceLT, Int.reduceLT, Int.reduceLE, Int.reduceToNat, Int.reduceNeg, Int.reduceEq, Int.reduceMul, reduceCtorEq, Int.reduceBEq, Int.reduceBNe, Int.reduceAdd, Int.reduceSub, bne_self_eq_false, beq_self_eq_true, Nat.le_add_right, eqOk, fn8, res8, gc8_0, gc8_1, gc8_2, gc8_3, gc8_4, gc8_5, gc8_6, gc8_7, gc8_8, gc8_9, gc8_10, gc8_11, gc8_12, gc8_13, gc8_14, gc8_15, gc8_16, gc8_17, gc8_18, gc8_19, gc8_20, gc8_21, gc8_22, gc8_23, gc8_24, gc8_25, gc8_26, gc8_27, gc8_28, gc8_29, gc8_30, gc8_31, gc8_32, gc8_33, gc8_34, gc8_35, gc8_36, gc8_37, gcSt, keepEnv, envLt, heapLt, dfrLt, ADefer.lt, grow8, ty3, ty4, ty5, ty22, ty23, ty25, ty29, ty30, ty38, ty56, ty63, plan8_20, plan8_28, eqt4, sb, st, hL, hl, hV, hv, f13]
    | true =>
      have hn := valid_nums hv
      have hwf := Stl.valid_wf hv
      have c1 : IntKind.i64.wrap w = w := w64 (by omega) (by omega)
      have m1 := mod_lt (a := w) (b := (s.bs.length : Int)) (by omega)
      have z1 : ¬ (s.bs.length : Int) = 0 := by omega
      have t1 : w.tmod (s.bs.length : Int) = w % (s.bs.length : Int) := tmod_nn hw.1
      have c4 : IntKind.i64.wrap (s.last + 1) = s.last + 1 := w64 (by omega) (by omega)
      generalize w % (s.bs.length : Int) = b at *
      obtain ⟨L, hLl⟩ : ∃ L : Nat, s.last = L := ⟨s.last.toNat, by omega⟩
      have hR := fun (G : Heap) => f24 (H := H ++ G) s (hvb.app G) (hvt.app G) (by omega) (by omega) b
      have hW := fun (G : Heap) => f20 (H := H ++ G) s (hvb.app G) (hvt.app G) (by omega) (by omega) b
      have hA := fun (G : Heap) => f22 (H := H ++ G) s (hvb.app G) (hvt.app G) (by omega) (by omega)
      rw [show s.when b = _ from by simp only [Stl.when, hv, inB_of m1, if_true]; rfl] at hW
      rw [show s.allS = _ from by simp only [Stl.allS, Stl.allE, hv, if_true]; rfl] at hA
      simp only [hv, inB_of m1, if_true] at hR
      have l10 := fun fr f al g R K hK => Rests_l10 (H := H) (vb := vb) (vt := vt) R K s hv hvb hvt b m1 L hLl fr f al g hK (L + 1) 0 (by omega)
      simp only [go_sem, ↓reduceIte, Nat.reduceEqDiff, Nat.reduceAdd, Nat.reduceLeDiff, Nat.reduceBEq, Nat.reduceMul, Nat.reduceLT, Int.reduceLT, Int.reduceLE, Int.reduceToNat, Int.reduceNeg, Int.reduceEq, Int.reduceMul, reduceCtorEq, Int.reduceBEq, Int.reduceBNe, Int.reduceAdd, Int.reduceSub, bne_self_eq_false, beq_self_eq_true, Nat.le_add_right, eqOk, fn8, res8, gc8_0, gc8_1, gc8_2, gc8_3, gc8_4, gc8_5, gc8_6, gc8_7, gc8_8, gc8_9, gc8_10, gc8_11, gc8_12, gc8_13, gc8_14, gc8_15, gc8_16, gc8_17, gc8_18, gc8_19, gc8_20, gc8_21, gc8_22, gc8_23, gc8_24, gc8_25, gc8_26, gc8_27, gc8_28, gc8_29, gc8_30, gc8_31, gc8_32, gc8_33, gc8_34, gc8_35, gc8_36, gc8_37, gcSt, keepEnv, envLt, heapLt, dfrLt, ADefer.lt, grow8, ty3, ty4, ty5, ty22, ty23, ty25, ty29, ty30, ty38, ty56, ty63, plan8_20, plan8_28, eqt4, sb, st, hL, hl, hV, hv, hvb.len, List.length_map, z1, t1, c1, hR, hW, hA, c4]
      cases hw : whenR s b (s.blk b) with
      | none =>
        simp only [hw] at hW
        cases ha : allR s s.bs.length with
        | none =>
          simp only [ha] at hA
          simp only [go_sem, ↓reduceIte, Nat.reduceEqDiff, Nat.reduceAdd, Nat.reduceLeDiff, Nat.reduceBEq, Nat.reduceMul, Nat.reduceLT, Int.reduceLT, Int.reduceLE, Int.reduceToNat, Int.reduceNeg, Int.reduceEq, Int.reduceMul, reduceCtorEq, Int.reduceBEq, Int.reduceBNe, Int.reduceAdd, Int.reduceSub, bne_self_eq_false, beq_self_eq_true, Nat.le_add_right, eqOk, fn8, res8, gc8_0, gc8_1, gc8_2, gc8_3, gc8_4, gc8_5, gc8_6, gc8_7, gc8_8, gc8_9, gc8_10, gc8_11, gc8_12, gc8_13, gc8_14, gc8_15, gc8_16, gc8_17, gc8_18, gc8_19, gc8_20, gc8_21, gc8_22, gc8_23, gc8_24, gc8_25, gc8_26, gc8_27, gc8_28, gc8_29, gc8_30, gc8_31, gc8_32, gc8_33, gc8_34, gc8_35, gc8_36, gc8_37, gcSt, keepEnv, envLt, heapLt, dfrLt, ADefer.lt, grow8, ty3, ty4, ty5, ty22, ty23, ty25, ty29, ty30, ty38, ty56, ty63, plan8_20, plan8_28, eqt4, sb, st, hL, hl, hV, hv, hvb.len, List.length_map, z1, t1, c1, hR, hW, hA, c4]
          refine l10 0 4 0 4 _ _ (fun E g2 g6 g8 g9 g10 g11 => ?_) _ [] (by rfl) (by rfl) (by rfl) (by rfl) (by rfl) (by rfl) (by rfl) (by rfl) (by rfl)
          exact Rests_tail s hv hvb hvt b m1 L hLl 0 4 0 4 (by rw [hw]) (by rw [ha]) E g2 g6 g8 g9 g10 g11
        | some la =>
          simp only [ha] at hA
          simp only [go_sem, ↓reduceIte, Nat.reduceEqDiff, Nat.reduceAdd, Nat.reduceLeDiff, Nat.reduceBEq, Nat.reduceMul, Nat.reduceLT, Int.reduceLT, Int.reduceLE, Int.reduceToNat, Int.reduceNeg, Int.reduceEq, Int.reduceMul, reduceCtorEq, Int.reduceBEq, Int.reduceBNe, Int.reduceAdd, Int.reduceSub, bne_self_eq_false, beq_self_eq_true, Nat.le_add_right, eqOk, fn8, res8, gc8_0, gc8_1, gc8_2, gc8_3, gc8_4, gc8_5, gc8_6, gc8_7, gc8_8, gc8_9, gc8_10, gc8_11, gc8_12, gc8_13, gc8_14, gc8_15, gc8_16, gc8_17, gc8_18, gc8_19, gc8_20, gc8_21, gc8_22, gc8_23, gc8_24, gc8_25, gc8_26, gc8_27, gc8_28, gc8_29, gc8_30, gc8_31, gc8_32, gc8_33, gc8_34, gc8_35, gc8_36, gc8_37, gcSt, keepEnv, envLt, heapLt, dfrLt, ADefer.lt, grow8, ty3, ty4, ty5, ty22, ty23, ty25, ty29, ty30, ty38, ty56, ty63, plan8_20, plan8_28, eqt4, sb, st, hL, hl, hV, hv, hvb.len, List.length_map, z1, t1, c1, hR, hW, hA, c4]
          refine l10 0 4 la 0 _ _ (fun E g2 g6 g8 g9 g10 g11 => ?_) _ [] (by rfl) (by rfl) (by rfl) (by rfl) (by rfl) (by rfl) (by rfl) (by rfl) (by rfl)
          exact Rests_tail s hv hvb hvt b m1 L hLl 0 4 la 0 (by rw [hw]) (by rw [ha]) E g2 g6 g8 g9 g10 g11
      | some w =>
        simp only [hw] at hW
        cases ha : allR s s.bs.length with
        | none =>
          simp only [ha] at hA
          simp only [go_sem, ↓reduceIte, Nat.reduceEqDiff, Nat.reduceAdd, Nat.reduceLeDiff, Nat.reduceBEq, Nat.reduceMul, Nat.reduceLT, Int.reduceLT, Int.reduceLE, Int.reduceToNat, Int.reduceNeg, Int.reduceEq, Int.reduceMul, reduceCtorEq, Int.reduceBEq, Int.reduceBNe, Int.reduceAdd, Int.reduceSub, bne_self_eq_false, beq_self_eq_true, Nat.le_add_right, eqOk, fn8, res8, gc8_0, gc8_1, gc8_2, gc8_3, gc8_4, gc8_5, gc8_6, gc8_7, gc8_8, gc8_9, gc8_10, gc8_11, gc8_12, gc8_13, gc8_14, gc8_15, gc8_16, gc8_17, gc8_18, gc8_19, gc8_20, gc8_21, gc8_22, gc8_23, gc8_24, gc8_25, gc8_26, gc8_27, gc8_28, gc8_29, gc8_30, gc8_31, gc8_32, gc8_33, gc8_34, gc8_35, gc8_36, gc8_37, gcSt, keepEnv, envLt, heapLt, dfrLt, ADefer.lt, grow8, ty3, ty4, ty5, ty22, ty23, ty25, ty29, ty30, ty38, ty56, ty63, plan8_20, plan8_28, eqt4, sb, st, hL, hl, hV, hv, hvb.len, List.length_map, z1, t1, c1, hR, hW, hA, c4]
          refine l10 w 0 0 4 _ _ (fun E g2 g6 g8 g9 g10 g11 => ?_) _ [] (by rfl) (by rfl) (by rfl) (by rfl) (by rfl) (by rfl) (by rfl) (by rfl) (by rfl)
          exact Rests_tail s hv hvb hvt b m1 L hLl w 0 0 4 (by rw [hw]) (by rw [ha]) E g2 g6 g8 g9 g10 g11
        | some la =>
          simp only [ha] at hA
          simp only [go_sem, ↓reduceIte, Nat.reduceEqDiff, Nat.reduceAdd, Nat.reduceLeDiff, Nat.reduceBEq, Nat.reduceMul, Nat.reduceLT, Int.reduceLT, Int.reduceLE, Int.reduceToNat, Int.reduceNeg, Int.reduceEq, Int.reduceMul, reduceCtorEq, Int.reduceBEq, Int.reduceBNe, Int.reduceAdd, Int.reduceSub, bne_self_eq_false, beq_self_eq_true, Nat.le_add_right, eqOk, fn8, res8, gc8_0, gc8_1, gc8_2, gc8_3, gc8_4, gc8_5, gc8_6, gc8_7, gc8_8, gc8_9, gc8_10, gc8_11, gc8_12, gc8_13, gc8_14, gc8_15, gc8_16, gc8_17, gc8_18, gc8_19, gc8_20, gc8_21, gc8_22, gc8_23, gc8_24, gc8_25, gc8_26, gc8_27, gc8_28, gc8_29, gc8_30, gc8_31, gc8_32, gc8_33, gc8_34, gc8_35, gc8_36, gc8_37, gcSt, keepEnv, envLt, heapLt, dfrLt, ADefer.lt, grow8, ty3, ty4, ty5, ty22, ty23, ty25, ty29, ty30, ty38, ty56, ty63, plan8_20, plan8_28, eqt4, sb, st, hL, hl, hV, hv, hvb.len, List.length_map, z1, t1, c1, hR, hW, hA, c4]
          refine l10 w 0 la 0 _ _ (fun E g2 g6 g8 g9 g10 g11 => ?_) _ [] (by rfl) (by rfl) (by rfl) (by rfl) (by rfl) (by rfl) (by rfl) (by rfl) (by rfl)
          exact Rests_tail s hv hvb hvt b m1 L hLl w 0 la 0 (by rw [hw]) (by rw [ha]) E g2 g6 g8 g9 g10 g11

end Go.Ab
/-
  A truth, drawn: walked.
-/
namespace Go.Ab
open Go.Proofs
set_option linter.unusedSimpArgs false
set_option linter.unusedVariables false
set_option maxRecDepth 100000

variable {H : Heap} {vb vt : AV}

abbrev U16 (n : Int) : AV := .int .u16 n

theorem SlOk.setB {sz A : Nat} {v w w' : AV} {xs : List AV} (h : SlOk H sz v xs) (hA : H[A]? = some (.box w)) : SlOk (H.set A (.box w')) sz v xs := by
  obtain ⟨h1, h2⟩ := h
  refine ⟨?_, h2⟩
  cases v <;> simp only at h1 ⊢
  · exact h1
  · rename_i l n
    refine ⟨?_, h1.2⟩
    rw [List.getElem?_set_ne]
    · exact h1.1
    · rintro rfl
      rw [hA] at h1
      cases h1.1

theorem law_draw (A B : Nat) (vw : AV) (ws : List Int) (a lo hi : Int) (hA : H[A]? = some (.box (I a))) (hB : H[B]? = some (.box vw)) (hw : SlOk H 1 vw (ws.map U16)) (hb : ∀ x ∈ ws, 0 ≤ x ∧ x ≤ 65535) (ha : 0 ≤ a ∧ a ≤ 100000) (h1 : -1000 ≤ lo) (h2 : lo ≤ hi) (h3 : hi ≤ 1000) :
    callFL cfg0 prog0 false 88 [.agg [I lo, I hi], .ptr A 0, .ptr B 0] H none = some ⟨.ret (I (drawZ ws a lo hi)), H.set A (.box (I (a + 1))), none⟩ := by
  have hAl := (List.getElem?_eq_some_iff.1 hA).1
  have hBl := (List.getElem?_eq_some_iff.1 hB).1
  have e1 : IntKind.i64.wrap (a + 1) = a + 1 := w64 (by omega) (by omega)
  have hd := drawZ_in ws a h2
  by_cases hAB : A = B
  · subst hAB
    rw [hA] at hB
    injection hB with hB
    injection hB with hB
    have := hw.len
    rw [← hB] at this
    simp [evLen] at this
  have hBs : (H.set A (.box (I (a + 1))))[B]? = some (.box vw) := by rw [List.getElem?_set_ne hAB]; exact hB
  have hAs : (H.set A (.box (I (a + 1))))[A]? = some (.box (I (a + 1))) := List.getElem?_set_self hAl
  have hAl' : A < (H.set A (.box (I (a + 1)))).length := by simpa using hAl
  have hBl' : B < (H.set A (.box (I (a + 1)))).length := by simpa using hBl
  refine (callFL_eq fn88 rfl (by simp [Try.f88])).trans ?_
  by_cases h0 : ws.length = 0
  · have hz : ((ws.length : Int) == 0) = true := by simp [h0]
    have hdz : drawZ ws a lo hi = lo := by rw [drawZ, if_pos h0]
    rw [hdz]
    simp only [go_sem, ↓reduceIte, Nat.reduceEqDiff, Nat.reduceAdd, Nat.reduceLeDiff, Nat.reduceBEq, Nat.reduceMul, Nat.reduceLT, Int.reduceLT, Int.reduceLE, Int.reduceToNat, Int.reduceNeg, Int.reduceEq, Int.reduceMul, reduceCtorEq, Int.reduceBEq, Int.reduceBNe, Int.reduceAdd, Int.reduceSub, bne_self_eq_false, beq_self_eq_true, Nat.le_add_right, eqOk, fn88, res88, gc88, grow88, ty3, ty29, ty48, ty105, plan88_4, get_lt hAl, get_lt hBl, get_lt hAl', get_lt hBl', set_lt hAl, hA, hB, hAs, hBs, e1, hw.len, hw.cel, List.length_map, hz]
    done
  · have hne : ¬ (ws.length : Int) = 0 := by omega
    have hz : ((ws.length : Int) == 0) = false := by simpa using h0
    have m1 := mod_lt (a := a + 1) (b := (ws.length : Int)) (by omega)
    have t1 : (a + 1).tmod (ws.length : Int) = (a + 1) % (ws.length : Int) := tmod_nn (by omega)
    have hdz : drawZ ws a lo hi = lo + (ws.getD ((a + 1) % (ws.length : Int)).toNat 0 + 53 * (a + 1)) % (hi - lo + 1) := by rw [drawZ, if_neg h0]
    rw [hdz] at hd ⊢
    generalize (a + 1) % (ws.length : Int) = i at *
    have hi2 : i.toNat < ws.length := by omega
    have hgd : ws.getD i.toNat 0 = ws[i.toNat] := by rw [List.getD_eq_getElem?_getD, List.getElem?_eq_getElem hi2]; rfl
    have hx := hb ws[i.toNat] (List.getElem_mem _)
    rw [hgd] at hd ⊢
    obtain ⟨a1, a2, a3, a4, a5⟩ := (hw.setB (w' := I (a + 1)) hA).at (k := i) (x := U16 ws[i.toNat]) (by omega) (by simp [hi2])
    generalize ws[i.toNat] = x at *
    have c1 : IntKind.i64.wrap x = x := w64 (by omega) (by omega)
    have c2 : IntKind.i64.wrap (53 * (a + 1)) = 53 * (a + 1) := w64 (by omega) (by omega)
    have c3 : IntKind.i64.wrap (x + 53 * (a + 1)) = x + 53 * (a + 1) := w64 (by omega) (by omega)
    have c4 : IntKind.i64.wrap (hi - lo) = hi - lo := w64 (by omega) (by omega)
    have c5 : IntKind.i64.wrap (hi - lo + 1) = hi - lo + 1 := w64 (by omega) (by omega)
    have c6 : ¬ hi - lo + 1 = 0 := by omega
    have t2 : (x + 53 * (a + 1)).tmod (hi - lo + 1) = (x + 53 * (a + 1)) % (hi - lo + 1) := tmod_nn (by omega)
    have c7 : IntKind.i64.wrap (lo + (x + 53 * (a + 1)) % (hi - lo + 1)) = lo + (x + 53 * (a + 1)) % (hi - lo + 1) := w64 (by omega) (by omega)
    simp only [go_sem, ↓reduceIte, Nat.reduceEqDiff, Nat.reduceAdd, Nat.reduceLeDiff, Nat.reduceBEq, Nat.reduceMul, Nat.reduceLT, Int.reduceLT, Int.reduceLE, Int.reduceToNat, Int.reduceNeg, Int.reduceEq, Int.reduceMul, reduceCtorEq, Int.reduceBEq, Int.reduceBNe, Int.reduceAdd, Int.reduceSub, bne_self_eq_false, beq_self_eq_true, Nat.le_add_right, eqOk, fn88, res88, gc88, grow88, ty3, ty29, ty48, ty105, plan88_4, get_lt hAl, get_lt hBl, get_lt hAl', get_lt hBl', set_lt hAl, hA, hB, hAs, hBs, e1, hw.len, hw.cel, List.length_map, hz]
    rw [chkK_of]; rotate_left; kernel_rfl
    have hel : ptrOf (elA vw i 0) = gslOf vw := ptrOf_elA (H := H) hw
    simp only [go_sem, ↓reduceIte, Nat.reduceEqDiff, Nat.reduceAdd, Nat.reduceLeDiff, Nat.reduceBEq, Nat.reduceMul, Nat.reduceLT, Int.reduceLT, Int.reduceLE, Int.reduceToNat, Int.reduceNeg, Int.reduceEq, Int.reduceMul, reduceCtorEq, Int.reduceBEq, Int.reduceBNe, Int.reduceAdd, Int.reduceSub, bne_self_eq_false, beq_self_eq_true, Nat.le_add_right, eqOk, fn88, res88, gc88, grow88, ty3, ty29, ty48, ty105, plan88_4, get_lt hAl, get_lt hBl, get_lt hAl', get_lt hBl', set_lt hAl, hA, hB, hAs, hBs, e1, hw.len, hw.cel, List.length_map, hne, t1, a3, a4, a5, c1, c2, c3, c4, c5, c6, c7, t2]

theorem law_falls_loop (n k : Int) (hn : -1000000 ≤ n ∧ n ≤ 1000000) (hk : 1 ≤ k ∧ k ≤ 100) : ∀ (q : Nat) (by' : Int), by' + q = (mx n (-n) + k - 1) / k → 0 ≤ by' → ∀ E : Env, E.get 0 = I n → E.get 1 = I k → E.get 5 = I by' →
    Option.map (finishC H.length) (execL cfg0 prog0 ⟨89, none, false, H.length⟩ (todoAt Try.f89 2) ⟨E, [], H, none⟩) = some ⟨.ret (I (fallsZ n k)), H, none⟩ := by
  intro q
  have hm : 0 ≤ mx n (-n) ∧ mx n (-n) ≤ 1000000 ∧ (if n < -n then -n else n) = mx n (-n) := by
    refine ⟨?_, ?_, rfl⟩ <;> (simp only [mx]; split <;> omega)
  obtain ⟨s1, s2⟩ := ceil_spec hm.1 hk.1
  have hc := fallsZ_ceil (n := n) hk.1
  have hfb := fallsZ_bd (x := n) hk.1
  have e0 : IntKind.i64.wrap (0 - n) = -n := by rw [w64 (by omega) (by omega)]; omega
  have hq : (mx n (-n) + k - 1) / k ≤ 1000000 := by
    refine Int.not_lt.1 fun h => ?_
    have := s2 1000000 (by omega) (by omega)
    have : 1000000 * 1 ≤ 1000000 * k := Int.mul_le_mul_of_nonneg_left hk.1 (by omega)
    omega
  generalize (mx n (-n) + k - 1) / k = Q at *
  induction q with
  | zero =>
    intro y hy h0 E g0 g1 g5
    have hyQ : y = Q := by omega
    subst hyQ
    have hk' : ¬ y * k < mx n (-n) := by omega
    have hyk : y * k ≤ 1000000 * 100 := Int.mul_le_mul hq hk.2 (by omega) (by omega)
    have hyk0 : 0 ≤ y * k := Int.mul_nonneg h0 (by omega)
    have e1 : IntKind.i64.wrap (y * k) = y * k := w64 (by omega) (by omega)
    simp only [loopIt, todoPast, todoAt, todoOf, firstReg, ↓reduceIte, Option.some.injEq, Nat.reduceEqDiff, reduceCtorEq, Try.f89]
    rw [execL_inLoop]
    by_cases hneg : n < 0
    · rw [if_pos hneg] at hc
      have e2 : IntKind.i64.wrap (n + y) = fallsZ n k := by rw [hc]; exact w64 (by omega) (by omega)
      simp only [go_sem, ↓reduceIte, Nat.reduceEqDiff, Nat.reduceAdd, Nat.reduceLeDiff, Nat.reduceBEq, Nat.reduceMul, Nat.reduceLT, Int.reduceLT, Int.reduceLE, Int.reduceToNat, Int.reduceNeg, Int.reduceEq, Int.reduceMul, reduceCtorEq, Int.reduceBEq, Int.reduceBNe, Int.reduceAdd, Int.reduceSub, bne_self_eq_false, beq_self_eq_true, Nat.le_add_right, eqOk, fn89, res89, gc89, grow89, ty3, g0, g1, g5, e0, hm.2.2, e1, hk', hneg, e2]
    · rw [if_neg hneg] at hc
      have e2 : IntKind.i64.wrap (n - y) = fallsZ n k := by rw [hc]; exact w64 (by omega) (by omega)
      simp only [go_sem, ↓reduceIte, Nat.reduceEqDiff, Nat.reduceAdd, Nat.reduceLeDiff, Nat.reduceBEq, Nat.reduceMul, Nat.reduceLT, Int.reduceLT, Int.reduceLE, Int.reduceToNat, Int.reduceNeg, Int.reduceEq, Int.reduceMul, reduceCtorEq, Int.reduceBEq, Int.reduceBNe, Int.reduceAdd, Int.reduceSub, bne_self_eq_false, beq_self_eq_true, Nat.le_add_right, eqOk, fn89, res89, gc89, grow89, ty3, g0, g1, g5, e0, hm.2.2, e1, hk', hneg, e2]
  | succ q ih =>
    intro y hy h0 E g0 g1 g5
    have hk' : y * k < mx n (-n) := s2 y h0 (by omega)
    have hyk0 : 0 ≤ y * k := Int.mul_nonneg h0 (by omega)
    have e1 : IntKind.i64.wrap (y * k) = y * k := w64 (by omega) (by omega)
    have e2 : IntKind.i64.wrap (y + 1) = y + 1 := w64 (by omega) (by omega)
    simp only [loopIt, todoPast, todoAt, todoOf, firstReg, ↓reduceIte, Option.some.injEq, Nat.reduceEqDiff, reduceCtorEq, Try.f89]
    rw [execL_inLoop]
    simp only [go_sem, ↓reduceIte, Nat.reduceEqDiff, Nat.reduceAdd, Nat.reduceLeDiff, Nat.reduceBEq, Nat.reduceMul, Nat.reduceLT, Int.reduceLT, Int.reduceLE, Int.reduceToNat, Int.reduceNeg, Int.reduceEq, Int.reduceMul, reduceCtorEq, Int.reduceBEq, Int.reduceBNe, Int.reduceAdd, Int.reduceSub, bne_self_eq_false, beq_self_eq_true, Nat.le_add_right, eqOk, fn89, res89, gc89, grow89, ty3, g0, g1, g5, e0, hm.2.2, e1, hk', e2]
    exact ih (y + 1) (by omega) (by omega) _ (by exact g0) (by exact g1) (by rfl)

theorem law_falls (n k : Int) (hn : -1000000 ≤ n ∧ n ≤ 1000000) (hk : 1 ≤ k ∧ k ≤ 100) : callFL cfg0 prog0 false 89 [I n, I k] H none = some ⟨.ret (I (fallsZ n k)), H, none⟩ := by
  have hq : 0 ≤ (mx n (-n) + k - 1) / k := by
    refine Int.ediv_nonneg ?_ (by omega)
    simp only [mx]; split <;> omega
  refine (callFL_eq fn89 rfl (by simp [Try.f89])).trans ?_
  simp only [go_sem, ↓reduceIte, Nat.reduceEqDiff, Nat.reduceAdd, Nat.reduceLeDiff, Nat.reduceBEq, Nat.reduceMul, Nat.reduceLT, Int.reduceLT, Int.reduceLE, Int.reduceToNat, Int.reduceNeg, Int.reduceEq, Int.reduceMul, reduceCtorEq, Int.reduceBEq, Int.reduceBNe, Int.reduceAdd, Int.reduceSub, bne_self_eq_false, beq_self_eq_true, Nat.le_add_right, eqOk, fn89, res89, gc89, grow89, ty3]
  exact law_falls_loop n k hn hk ((mx n (-n) + k - 1) / k).toNat 0 (by omega) (Int.le_refl _) _ (by rfl) (by rfl) (by rfl)

theorem law_down (n : Int) (hn : -100000000 ≤ n ∧ n ≤ 100000000) : callFL cfg0 prog0 false 36 [I n] H none = some ⟨.ret (I (downZ n)), H, none⟩ := by
  have hd := downZ_eq n
  have hb : -10000000 ≤ n.tdiv 10 ∧ n.tdiv 10 ≤ 10000000 ∧ (n.tdiv 10 = downZ n ∨ (n.tdiv 10 = downZ n + 1 ∧ n < n.tdiv 10 * 10)) ∧ downZ n * 10 ≤ n := by
    rcases Int.lt_or_le n 0 with h | h
    · obtain ⟨m, rfl⟩ : ∃ m, n = -m := ⟨-n, by omega⟩
      rw [Int.neg_tdiv, Int.tdiv_eq_ediv_of_nonneg (by omega)]
      omega
    · rw [Int.tdiv_eq_ediv_of_nonneg h]
      omega
  obtain ⟨q, hq⟩ : ∃ q, n.tdiv 10 = q := ⟨_, rfl⟩
  rw [hq] at hb
  have e1 : IntKind.i64.wrap q = q := w64 (by omega) (by omega)
  have e2 : IntKind.i64.wrap (q * 10) = q * 10 := w64 (by omega) (by omega)
  refine (callFL_eq fn36 rfl (by simp [Try.f36])).trans ?_
  simp only [go_sem, ↓reduceIte, Nat.reduceEqDiff, Nat.reduceAdd, Nat.reduceLeDiff, Nat.reduceBEq, Nat.reduceMul, Nat.reduceLT, Int.reduceLT, Int.reduceLE, Int.reduceToNat, Int.reduceNeg, Int.reduceEq, Int.reduceMul, reduceCtorEq, Int.reduceBEq, Int.reduceBNe, Int.reduceAdd, Int.reduceSub, bne_self_eq_false, beq_self_eq_true, Nat.le_add_right, eqOk, fn36, res36, gc36, grow36, ty3, hq, e1]
  rw [execL_inLoop]
  rcases hb.2.2.1 with h | ⟨h, h2⟩
  · subst h
    have hk : ¬ n < downZ n * 10 := by omega
    simp only [go_sem, ↓reduceIte, Nat.reduceEqDiff, Nat.reduceAdd, Nat.reduceLeDiff, Nat.reduceBEq, Nat.reduceMul, Nat.reduceLT, Int.reduceLT, Int.reduceLE, Int.reduceToNat, Int.reduceNeg, Int.reduceEq, Int.reduceMul, reduceCtorEq, Int.reduceBEq, Int.reduceBNe, Int.reduceAdd, Int.reduceSub, bne_self_eq_false, beq_self_eq_true, Nat.le_add_right, eqOk, fn36, res36, gc36, grow36, ty3, hq, e1, e2, gt_iff_lt, hk]
  · have e3 : IntKind.i64.wrap (q - 1) = downZ n := by rw [w64 (by omega) (by omega)]; omega
    have e4 : IntKind.i64.wrap (downZ n * 10) = downZ n * 10 := w64 (by omega) (by omega)
    have hk : ¬ n < downZ n * 10 := by omega
    simp only [go_sem, ↓reduceIte, Nat.reduceEqDiff, Nat.reduceAdd, Nat.reduceLeDiff, Nat.reduceBEq, Nat.reduceMul, Nat.reduceLT, Int.reduceLT, Int.reduceLE, Int.reduceToNat, Int.reduceNeg, Int.reduceEq, Int.reduceMul, reduceCtorEq, Int.reduceBEq, Int.reduceBNe, Int.reduceAdd, Int.reduceSub, bne_self_eq_false, beq_self_eq_true, Nat.le_add_right, eqOk, fn36, res36, gc36, grow36, ty3, hq, e1, e2, gt_iff_lt, h2, e3]
    rw [execL_inLoop]
    simp only [go_sem, ↓reduceIte, Nat.reduceEqDiff, Nat.reduceAdd, Nat.reduceLeDiff, Nat.reduceBEq, Nat.reduceMul, Nat.reduceLT, Int.reduceLT, Int.reduceLE, Int.reduceToNat, Int.reduceNeg, Int.reduceEq, Int.reduceMul, reduceCtorEq, Int.reduceBEq, Int.reduceBNe, Int.reduceAdd, Int.reduceSub, bne_self_eq_false, beq_self_eq_true, Nat.le_add_right, eqOk, fn36, res36, gc36, grow36, ty3, hq, e4, gt_iff_lt, hk]

/-- What 'truly' keeps. -/
def trulyH (vb vt vw : AV) (s : Stl) (b : Blk) (acc : List Int) (a : Int) : Heap := [.box (.agg [vb, I s.near, I s.last, vt]), .box vw, .grow 1 (acc.map I), .box (I a), .box (.agg [I b.x0, I b.x1, I b.s0, I b.s1, I b.g0, I b.g1])]

theorem draw_at {vw : AV} {ws : List Int} (hw : SlOk H 1 vw (ws.map U16)) (hb : ∀ x ∈ ws, 0 ≤ x ∧ x ≤ 65535) (s : Stl) (b : Blk) (acc : List Int) (G : Heap) (a lo hi : Int) (ha : 0 ≤ a ∧ a ≤ 100000) (h1 : -1000 ≤ lo) (h2 : lo ≤ hi) (h3 : hi ≤ 1000) :
    callFL cfg0 prog0 false 88 [.agg [I lo, I hi], .ptr (H.length + 3) 0, .ptr (H.length + 1) 0] (H ++ (trulyH vb vt vw s b acc a ++ G)) none = some ⟨.ret (I (drawZ ws a lo hi)), H ++ (trulyH vb vt vw s b acc (a + 1) ++ G), none⟩ := by
  have := law_draw (H := H ++ (trulyH vb vt vw s b acc a ++ G)) (H.length + 3) (H.length + 1) vw ws a lo hi (by rw [get_at' 3]; rfl) (by rw [get_at' 1]; rfl) (hw.app _) hb ha h1 h2 h3
  rw [set_at'] at this
  exact this

theorem truly_l11 (R : Option Done) (K : List Item) (s : Stl) (hs : s.Wf) (hvb : SlOk H 6 vb (s.bs.map Blk.av)) (hvt : SlOk H 4 vt (s.ts.map Tch.av)) (b : Blk) {vw : AV} {ws : List Int} (hw : SlOk H 1 vw (ws.map U16)) (hwb : ∀ x ∈ ws, 0 ≤ x ∧ x ≤ 65535) (acc : List Int) (len : Nat) (blk k : Int) (m : Nat) (N : Int) (a1 : Int)
    (hK : ∀ (E : Env), E.get 1 = I blk → E.get 3 = .ptr H.length 0 → E.get 6 = .gsl (H.length + 2) len → E.get 9 = .func (.func 88) [] [.ptr (H.length + 3) 0, .ptr (H.length + 1) 0] → E.get 10 = .ptr (H.length + 4) 0 → E.get 11 = I N → E.get 12 = I k → E.get 13 = I m → E.get 33 = I (s.last + 1) → E.get 34 = I m → Option.map (finishC H.length) (execL cfg0 prog0 ⟨34, none, false, H.length⟩ K ⟨E, [], H ++ trulyH vb vt vw s b acc a1, none⟩) = R) :
    ∀ (q j : Nat) (a n : Int), j + q = s.ts.length → 0 ≤ a → a + q = a1 → a1 ≤ 100000 → heatsF ws blk m (s.ts.drop j) a n = N → -50000 - 100 * j ≤ n ∧ n ≤ 50000 + 100 * j → ∀ (E : Env) (G : Heap), E.get 1 = I blk → E.get 3 = .ptr H.length 0 → E.get 6 = .gsl (H.length + 2) len → E.get 9 = .func (.func 88) [] [.ptr (H.length + 3) 0, .ptr (H.length + 1) 0] → E.get 10 = .ptr (H.length + 4) 0 → E.get 11 = I n → E.get 12 = I k → E.get 13 = I m → E.get 33 = I (s.last + 1) → E.get 34 = I m → E.get 43 = vt → E.get 44 = I s.ts.length → E.get 45 = I j →
    Option.map (finishC H.length) (execL cfg0 prog0 ⟨34, none, false, H.length⟩ (loopIt Try.f34 11 :: .inBlock 2 :: K) ⟨E, [], H ++ (trulyH vb vt vw s b acc a ++ G), none⟩) = R := by
  intro q
  have hlt : ltL 0 (acc.map I) = true := ltL_map (fun _ => rfl) _
  have hlen := hs.len
  induction q with
  | zero =>
    intro j a n hj ha haq hal hN hn E G g1 g3 g6 g9 g10 g11 g12 g13 g33 g34 g43 g44 g45
    have hk' : ¬ (j : Int) < s.ts.length := by omega
    rw [List.drop_eq_nil_of_le (by omega), heatsF] at hN
    have haq' : a = a1 := by omega
    subst hN haq'
    simp only [loopIt, todoPast, todoAt, todoOf, firstReg, ↓reduceIte, Option.some.injEq, Nat.reduceEqDiff, reduceCtorEq, Try.f34]
    rw [execL_inLoop]
    simp only [trulyH] at hK ⊢
    simp only [go_sem, ↓reduceIte, Nat.reduceEqDiff, Nat.reduceAdd, Nat.reduceLeDiff, Nat.reduceBEq, Nat.reduceMul, Nat.reduceLT, Int.reduceLT, Int.reduceLE, Int.reduceToNat, Int.reduceNeg, Int.reduceEq, Int.reduceMul, reduceCtorEq, Int.reduceBEq, Int.reduceBNe, Int.reduceAdd, Int.reduceSub, bne_self_eq_false, beq_self_eq_true, Nat.le_add_right, eqOk, fn34, res34, gc34_0, gc34_1, gc34_2, gc34_3, gc34_4, gc34_5, gc34_6, gc34_7, gc34_8, gc34_9, gc34_10, gc34_11, gc34_12, gc34_13, gc34_14, gc34_15, gc34_16, gc34_17, gc34_18, gc34_19, gcSt, keepEnv, envLt, heapLt, dfrLt, ADefer.lt, grow34_6, grow34_7, grow34_8, grow34_9, grow34_10, grow34_11, grow34_12, grow34_13, grow34_15, grow34_16, ty3, ty22, ty23, ty25, ty29, ty48, ty49, ty56, ty63, ty105, plan34_4, g1, g3, g6, g9, g10, g11, g12, g13, g33, g34, g43, g44, g45, hk', hvb.ltn, hvt.ltn, hw.ltn, hlt]
    exact hK _ (by rfl) (by rfl) (by rfl) (by rfl) (by rfl) (by rfl) (by rfl) (by rfl) (by rfl) (by rfl)
  | succ q ih =>
    intro j a n hj ha haq hal hN hn E G g1 g3 g6 g9 g10 g11 g12 g13 g33 g34 g43 g44 g45
    have hk' : (j : Int) < s.ts.length := by omega
    have hk2 : j < s.ts.length := by omega
    obtain ⟨-, -, b3, b4, b5⟩ := hvt.at (k := (j : Int)) (x := Tch.av s.ts[j]) (by omega) (by simp [hk2])
    have hj1 : IntKind.i64.wrap ((j : Int) + 1) = ((j + 1 : Nat) : Int) := by rw [w64 (by omega) (by omega)]; omega
    have ht := hs.ts s.ts[j] (List.getElem_mem _)
    have hD := fun G => draw_at (vb := vb) (vt := vt) hw hwb s b acc G a s.ts[j].h0 s.ts[j].h1 (by omega) (by omega) ht.2.1 (by omega)
    have hdr := drawZ_in ws a ht.2.1
    have e1 : IntKind.i64.wrap (n + drawZ ws a s.ts[j].h0 s.ts[j].h1) = n + drawZ ws a s.ts[j].h0 s.ts[j].h1 := w64 (by omega) (by omega)
    rw [List.drop_eq_getElem_cons hk2, heatsF] at hN
    simp only [loopIt, todoPast, todoAt, todoOf, firstReg, ↓reduceIte, Option.some.injEq, Nat.reduceEqDiff, reduceCtorEq, Try.f34]
    rw [execL_inLoop]
    by_cases c1 : s.ts[j].b = blk
    · by_cases c2 : s.ts[j].m = m
      · have d1 : (s.ts[j].b == blk) = true := by simp [c1]
        have d2 : (s.ts[j].m == (m : Int)) = true := by simp [c2]
        rw [if_pos ⟨c1, c2⟩] at hN
        have hih := ih (j + 1) (a + 1) (n + drawZ ws a s.ts[j].h0 s.ts[j].h1) (by omega) (by omega) (by omega) hal hN (by omega)
        simp only [trulyH, List.cons_append, List.nil_append] at hih hD ⊢
        simp only [go_sem, ↓reduceIte, Nat.reduceEqDiff, Nat.reduceAdd, Nat.reduceLeDiff, Nat.reduceBEq, Nat.reduceMul, Nat.reduceLT, Int.reduceLT, Int.reduceLE, Int.reduceToNat, Int.reduceNeg, Int.reduceEq, Int.reduceMul, reduceCtorEq, Int.reduceBEq, Int.reduceBNe, Int.reduceAdd, Int.reduceSub, bne_self_eq_false, beq_self_eq_true, Nat.le_add_right, eqOk, fn34, res34, gc34_0, gc34_1, gc34_2, gc34_3, gc34_4, gc34_5, gc34_6, gc34_7, gc34_8, gc34_9, gc34_10, gc34_11, gc34_12, gc34_13, gc34_14, gc34_15, gc34_16, gc34_17, gc34_18, gc34_19, gcSt, keepEnv, envLt, heapLt, dfrLt, ADefer.lt, grow34_6, grow34_7, grow34_8, grow34_9, grow34_10, grow34_11, grow34_12, grow34_13, grow34_15, grow34_16, ty3, ty22, ty23, ty25, ty29, ty48, ty49, ty56, ty63, ty105, plan34_4, g1, g3, g6, g9, g10, g11, g12, g13, g33, g34, g43, g44, g45, hk', hvb.ltn, hvt.ltn, hw.ltn, hlt, b3, b4, b5, Tch.av, hD, d1, d2, e1, hj1]
        exact hih _ _ (by rfl) (by rfl) (by rfl) (by rfl) (by rfl) (by rfl) (by rfl) (by rfl) (by rfl) (by rfl) (by rfl) (by rfl) (by rfl)
      · have d1 : (s.ts[j].b == blk) = true := by simp [c1]
        have d2 : (s.ts[j].m == (m : Int)) = false := by simp [c2]
        rw [if_neg (by simp [c2])] at hN
        have hih := ih (j + 1) (a + 1) n (by omega) (by omega) (by omega) hal hN (by omega)
        simp only [trulyH, List.cons_append, List.nil_append] at hih hD ⊢
        simp only [go_sem, ↓reduceIte, Nat.reduceEqDiff, Nat.reduceAdd, Nat.reduceLeDiff, Nat.reduceBEq, Nat.reduceMul, Nat.reduceLT, Int.reduceLT, Int.reduceLE, Int.reduceToNat, Int.reduceNeg, Int.reduceEq, Int.reduceMul, reduceCtorEq, Int.reduceBEq, Int.reduceBNe, Int.reduceAdd, Int.reduceSub, bne_self_eq_false, beq_self_eq_true, Nat.le_add_right, eqOk, fn34, res34, gc34_0, gc34_1, gc34_2, gc34_3, gc34_4, gc34_5, gc34_6, gc34_7, gc34_8, gc34_9, gc34_10, gc34_11, gc34_12, gc34_13, gc34_14, gc34_15, gc34_16, gc34_17, gc34_18, gc34_19, gcSt, keepEnv, envLt, heapLt, dfrLt, ADefer.lt, grow34_6, grow34_7, grow34_8, grow34_9, grow34_10, grow34_11, grow34_12, grow34_13, grow34_15, grow34_16, ty3, ty22, ty23, ty25, ty29, ty48, ty49, ty56, ty63, ty105, plan34_4, g1, g3, g6, g9, g10, g11, g12, g13, g33, g34, g43, g44, g45, hk', hvb.ltn, hvt.ltn, hw.ltn, hlt, b3, b4, b5, Tch.av, hD, d1, d2, hj1]
        exact hih _ _ (by rfl) (by rfl) (by rfl) (by rfl) (by rfl) (by rfl) (by rfl) (by rfl) (by rfl) (by rfl) (by rfl) (by rfl) (by rfl)
    · have d1 : (s.ts[j].b == blk) = false := by simp [c1]
      rw [if_neg (by simp [c1])] at hN
      have hih := ih (j + 1) (a + 1) n (by omega) (by omega) (by omega) hal hN (by omega)
      simp only [trulyH, List.cons_append, List.nil_append] at hih hD ⊢
      simp only [go_sem, ↓reduceIte, Nat.reduceEqDiff, Nat.reduceAdd, Nat.reduceLeDiff, Nat.reduceBEq, Nat.reduceMul, Nat.reduceLT, Int.reduceLT, Int.reduceLE, Int.reduceToNat, Int.reduceNeg, Int.reduceEq, Int.reduceMul, reduceCtorEq, Int.reduceBEq, Int.reduceBNe, Int.reduceAdd, Int.reduceSub, bne_self_eq_false, beq_self_eq_true, Nat.le_add_right, eqOk, fn34, res34, gc34_0, gc34_1, gc34_2, gc34_3, gc34_4, gc34_5, gc34_6, gc34_7, gc34_8, gc34_9, gc34_10, gc34_11, gc34_12, gc34_13, gc34_14, gc34_15, gc34_16, gc34_17, gc34_18, gc34_19, gcSt, keepEnv, envLt, heapLt, dfrLt, ADefer.lt, grow34_6, grow34_7, grow34_8, grow34_9, grow34_10, grow34_11, grow34_12, grow34_13, grow34_15, grow34_16, ty3, ty22, ty23, ty25, ty29, ty48, ty49, ty56, ty63, ty105, plan34_4, g1, g3, g6, g9, g10, g11, g12, g13, g33, g34, g43, g44, g45, hk', hvb.ltn, hvt.ltn, hw.ltn, hlt, b3, b4, b5, Tch.av, hD, d1, hj1]
      exact hih _ _ (by rfl) (by rfl) (by rfl) (by rfl) (by rfl) (by rfl) (by rfl) (by rfl) (by rfl) (by rfl) (by rfl) (by rfl) (by rfl)

theorem truly_l6 (s : Stl) (hs : s.Wf) (hvb : SlOk H 6 vb (s.bs.map Blk.av)) (hvt : SlOk H 4 vt (s.ts.map Tch.av)) (b : Blk) (hbo : b.Ok) {vw : AV} {ws : List Int} (hw : SlOk H 1 vw (ws.map U16)) (hwb : ∀ x ∈ ws, 0 ≤ x ∧ x ≤ 65535) (blk k : Int) (hk : b.s0 ≤ k ∧ k ≤ b.s1) (L : Nat) (hL : s.last = L) :
    ∀ (q m : Nat) (a n : Int) (acc : List Int) (len : Nat), m + q = L + 1 → acc.length = m → len = m → 0 ≤ a → a + 7 * q ≤ 90000 → InEx s blk k (b.x 0) (b.x 1) acc → (if m = 0 then b.x 0 ≤ n ∧ n ≤ b.x 1 else exc s.ts blk (b.x 0) k 0 (m - 1) ≤ n ∧ n ≤ exc s.ts blk (b.x 1) k 1 (m - 1)) →
    ∀ (E : Env) (G : Heap), E.get 1 = I blk → E.get 3 = .ptr H.length 0 → E.get 6 = .gsl (H.length + 2) len → E.get 9 = .func (.func 88) [] [.ptr (H.length + 3) 0, .ptr (H.length + 1) 0] → E.get 10 = .ptr (H.length + 4) 0 → E.get 11 = I n → E.get 12 = I k → E.get 33 = I (s.last + 1) → E.get 34 = I m →
    Option.map (finishC H.length) (execL cfg0 prog0 ⟨34, none, false, H.length⟩ (todoAt Try.f34 6) ⟨E, [], H ++ (trulyH vb vt vw s b acc a ++ G), none⟩) = some ⟨.ret (.tup [.sl false ((minutesF s ws blk k q m a n acc).map I), I (drawZ ws (a + (q : Int) * (s.ts.length : Int)) b.g0 b.g1)]), H, none⟩ := by
  intro q
  have hlen := hs.len
  have x0 : b.x 0 = b.x0 := rfl
  have x1 : b.x 1 = b.x1 := rfl
  have k1 := hbo.a1; have k2 := hbo.a2; have k3 := hbo.a3; have k4 := hbo.a4; have k6 := hbo.a6; have k7 := hbo.a7; have k8 := hbo.a8; have k9 := hbo.a9
  have hlast := hs.last
  have hle : ∀ t ∈ s.ts, t.h0 ≤ t.h1 := fun t ht => (hs.ts t ht).2.1
  induction q with
  | zero =>
    intro m a n acc len hm hacc hln ha haq hin hn E G g1 g3 g6 g9 g10 g11 g12 g33 g34
    have hk' : ¬ (m : Int) < s.last + 1 := by omega
    have hlt : ltL 0 (acc.map I) = true := ltL_map (fun _ => rfl) _
    have hD := fun G => draw_at (H := H) (vb := vb) (vt := vt) hw hwb s b acc G a b.g0 b.g1 (by omega) (by omega) k8 (by omega)
    subst hln hacc
    rw [Int.natCast_zero, Int.zero_mul, Int.add_zero]
    simp only [loopIt, todoPast, todoAt, todoOf, firstReg, ↓reduceIte, Option.some.injEq, Nat.reduceEqDiff, reduceCtorEq, Try.f34]
    rw [execL_inLoop]
    simp only [trulyH, List.cons_append, List.nil_append] at hD ⊢
    simp only [go_sem, ↓reduceIte, Nat.reduceEqDiff, Nat.reduceAdd, Nat.reduceLeDiff, Nat.reduceBEq, Nat.reduceMul, Nat.reduceLT, Int.reduceLT, Int.reduceLE, Int.reduceToNat, Int.reduceNeg, Int.reduceEq, Int.reduceMul, reduceCtorEq, Int.reduceBEq, Int.reduceBNe, Int.reduceAdd, Int.reduceSub, bne_self_eq_false, beq_self_eq_true, Nat.le_add_right, eqOk, fn34, res34, gc34_0, gc34_1, gc34_2, gc34_3, gc34_4, gc34_5, gc34_6, gc34_7, gc34_8, gc34_9, gc34_10, gc34_11, gc34_12, gc34_13, gc34_14, gc34_15, gc34_16, gc34_17, gc34_18, gc34_19, gcSt, keepEnv, envLt, heapLt, dfrLt, ADefer.lt, grow34_6, grow34_7, grow34_8, grow34_9, grow34_10, grow34_11, grow34_12, grow34_13, grow34_15, grow34_16, ty3, ty22, ty23, ty25, ty29, ty48, ty49, ty56, ty63, ty105, plan34_4, g1, g3, g6, g9, g10, g11, g12, g33, g34, hk', hvb.ltn, hvt.ltn, hw.ltn, hlt, hD, minutesF, List.length_map]
  | succ q ih =>
    intro m a n acc len hm hacc hln ha haq hin hn E G g1 g3 g6 g9 g10 g11 g12 g33 g34
    have hk' : (m : Int) < s.last + 1 := by omega
    have hlt : ltL 0 (acc.map I) = true := ltL_map (fun _ => rfl) _
    have hm1 : IntKind.i64.wrap ((m : Int) + 1) = ((m + 1 : Nat) : Int) := by rw [w64 (by omega) (by omega)]; omega
    have hexc := heatsF_exc hle ws blk (show 1 ≤ k by omega) m a n hn
    have hnext := minutesF_in hle ws blk (k := k) (x0 := b.x 0) (x1 := b.x 1) (by omega) 1 m a n acc hacc hin hn
    simp only [minutesF] at hnext
    have hadd : ∀ c : Int, addElem (H ++ trulyH vb vt vw s b acc (a + s.ts.length)) 1 false (.gsl (H.length + 2) len) [I c] = some (.gsl (H.length + 2) (len + 1), H ++ trulyH vb vt vw s b (acc ++ [c]) (a + s.ts.length)) := by
      intro c
      rw [add_gsl (xs := acc.map I) (by rw [get_at' 2]; rfl) (by rw [List.length_map]; omega) rfl rfl (by simp; omega), set_at']
      simp only [trulyH, List.set_cons_succ, List.set_cons_zero, List.map_append]
      rfl
    have hmul : a + ((q + 1 : Nat) : Int) * (s.ts.length : Int) = a + (s.ts.length : Int) + (q : Int) * (s.ts.length : Int) := by
      rw [Int.natCast_add, Int.add_mul, Int.natCast_one, Int.one_mul]; omega
    rw [hmul, minutesF]
    cases m with
    | zero =>
      rw [if_pos rfl] at hn
      simp only [if_true] at hexc hnext ⊢
      have hih := ih 1 (a + s.ts.length) (heatsF ws blk (0 : Nat) s.ts a n) (acc ++ [heatsF ws blk (0 : Nat) s.ts a n]) (len + 1) (by omega) (by simp [hacc]) (by omega) (by omega) (by omega) hnext.2 (by simp only [if_neg (show ¬ (1 : Nat) = 0 by omega)]; exact hexc)
      have l11 := fun R K hK => truly_l11 (H := H) R K s hs hvb hvt b hw hwb acc len blk k 0 (heatsF ws blk (0 : Nat) s.ts a n) (a + s.ts.length) hK s.ts.length 0 a n (by omega) ha rfl (by omega) (by rw [List.drop_zero]) (by omega)
      have hc0 : (0 : Int) < s.last + 1 := by omega
      simp only [loopIt, todoPast, todoAt, todoOf, firstReg, ↓reduceIte, Option.some.injEq, Nat.reduceEqDiff, reduceCtorEq, Try.f34]
      rw [execL_inLoop]
      simp only [trulyH, List.cons_append, List.nil_append] at hih l11 hadd ⊢
      simp only [go_sem, ↓reduceIte, Nat.reduceEqDiff, Nat.reduceAdd, Nat.reduceLeDiff, Nat.reduceBEq, Nat.reduceMul, Nat.reduceLT, Int.reduceLT, Int.reduceLE, Int.reduceToNat, Int.reduceNeg, Int.reduceEq, Int.reduceMul, reduceCtorEq, Int.reduceBEq, Int.reduceBNe, Int.reduceAdd, Int.reduceSub, bne_self_eq_false, beq_self_eq_true, Nat.le_add_right, eqOk, fn34, res34, gc34_0, gc34_1, gc34_2, gc34_3, gc34_4, gc34_5, gc34_6, gc34_7, gc34_8, gc34_9, gc34_10, gc34_11, gc34_12, gc34_13, gc34_14, gc34_15, gc34_16, gc34_17, gc34_18, gc34_19, gcSt, keepEnv, envLt, heapLt, dfrLt, ADefer.lt, grow34_6, grow34_7, grow34_8, grow34_9, grow34_10, grow34_11, grow34_12, grow34_13, grow34_15, grow34_16, ty3, ty22, ty23, ty25, ty29, ty48, ty49, ty56, ty63, ty105, plan34_4, g1, g3, g6, g9, g10, g11, g12, g33, g34, Int.natCast_zero, hc0, gt_iff_lt, lt_irr, hvb.ltn, hvt.ltn, hw.ltn, hlt, hvt.len, List.length_map]
      refine l11 _ _ (fun E g1 g3 g6 g9 g10 g11 g12 g13 g33 g34 => ?_) _ [] (by rfl) (by rfl) (by rfl) (by rfl) (by rfl) (by rfl) (by rfl) (by rfl) (by rfl) (by rfl) (by rfl) (by rfl) (by rfl)
      simp only [go_sem, ↓reduceIte, Nat.reduceEqDiff, Nat.reduceAdd, Nat.reduceLeDiff, Nat.reduceBEq, Nat.reduceMul, Nat.reduceLT, Int.reduceLT, Int.reduceLE, Int.reduceToNat, Int.reduceNeg, Int.reduceEq, Int.reduceMul, reduceCtorEq, Int.reduceBEq, Int.reduceBNe, Int.reduceAdd, Int.reduceSub, bne_self_eq_false, beq_self_eq_true, Nat.le_add_right, eqOk, fn34, res34, gc34_0, gc34_1, gc34_2, gc34_3, gc34_4, gc34_5, gc34_6, gc34_7, gc34_8, gc34_9, gc34_10, gc34_11, gc34_12, gc34_13, gc34_14, gc34_15, gc34_16, gc34_17, gc34_18, gc34_19, gcSt, keepEnv, envLt, heapLt, dfrLt, ADefer.lt, grow34_6, grow34_7, grow34_8, grow34_9, grow34_10, grow34_11, grow34_12, grow34_13, grow34_15, grow34_16, ty3, ty22, ty23, ty25, ty29, ty48, ty49, ty56, ty63, ty105, plan34_4, g1, g3, g6, g9, g10, g11, g12, g13, g33, g34, Int.natCast_zero, hadd, Int.zero_add]
      exact hih _ [] (by exact g1) (by exact g3) (by rfl) (by exact g9) (by exact g10) (by exact g11) (by exact g12) (by exact g33) (by rfl)
    | succ m =>
      rw [if_neg (by omega), Nat.add_sub_cancel] at hn
      have hB0 := exc_bd (blk := blk) (b0 := b.x 0) (k := k) (e := 0) hs.ts hs.len (by omega) (by omega) m
      have hB1 := exc_bd (blk := blk) (b0 := b.x 1) (k := k) (e := 1) hs.ts hs.len (by omega) (by omega) m
      have hfb := fallsZ_bd (x := n) (show 1 ≤ k by omega)
      have hF := fun G => law_falls (H := G) n k (by omega) (by omega)
      simp only [if_neg (show ¬ m + 1 = 0 by omega), Nat.add_sub_cancel] at hexc hnext ⊢
      have hih := ih (m + 1 + 1) (a + s.ts.length) (heatsF ws blk (m + 1 : Nat) s.ts a (fallsZ n k)) (acc ++ [heatsF ws blk (m + 1 : Nat) s.ts a (fallsZ n k)]) (len + 1) (by omega) (by simp [hacc]) (by omega) (by omega) (by omega) hnext.2 (by simp only [if_neg (show ¬ m + 1 + 1 = 0 by omega), Nat.add_sub_cancel]; exact hexc)
      have l11 := fun R K hK => truly_l11 (H := H) R K s hs hvb hvt b hw hwb acc len blk k (m + 1) (heatsF ws blk (m + 1 : Nat) s.ts a (fallsZ n k)) (a + s.ts.length) hK s.ts.length 0 a (fallsZ n k) (by omega) ha rfl (by omega) (by rw [List.drop_zero]) (by omega)
      have hpos : (0 : Int) < ((m + 1 : Nat) : Int) := by omega
      simp only [loopIt, todoPast, todoAt, todoOf, firstReg, ↓reduceIte, Option.some.injEq, Nat.reduceEqDiff, reduceCtorEq, Try.f34]
      rw [execL_inLoop]
      simp only [trulyH, List.cons_append, List.nil_append] at hih l11 hadd ⊢
      simp only [go_sem, ↓reduceIte, Nat.reduceEqDiff, Nat.reduceAdd, Nat.reduceLeDiff, Nat.reduceBEq, Nat.reduceMul, Nat.reduceLT, Int.reduceLT, Int.reduceLE, Int.reduceToNat, Int.reduceNeg, Int.reduceEq, Int.reduceMul, reduceCtorEq, Int.reduceBEq, Int.reduceBNe, Int.reduceAdd, Int.reduceSub, bne_self_eq_false, beq_self_eq_true, Nat.le_add_right, eqOk, fn34, res34, gc34_0, gc34_1, gc34_2, gc34_3, gc34_4, gc34_5, gc34_6, gc34_7, gc34_8, gc34_9, gc34_10, gc34_11, gc34_12, gc34_13, gc34_14, gc34_15, gc34_16, gc34_17, gc34_18, gc34_19, gcSt, keepEnv, envLt, heapLt, dfrLt, ADefer.lt, grow34_6, grow34_7, grow34_8, grow34_9, grow34_10, grow34_11, grow34_12, grow34_13, grow34_15, grow34_16, ty3, ty22, ty23, ty25, ty29, ty48, ty49, ty56, ty63, ty105, plan34_4, g1, g3, g6, g9, g10, g11, g12, g33, g34, hk', gt_iff_lt, hpos, hF, hvb.ltn, hvt.ltn, hw.ltn, hlt, hvt.len, List.length_map]
      refine l11 _ _ (fun E g1 g3 g6 g9 g10 g11 g12 g13 g33 g34 => ?_) _ [] (by rfl) (by rfl) (by rfl) (by rfl) (by rfl) (by rfl) (by rfl) (by rfl) (by rfl) (by rfl) (by rfl) (by rfl) (by rfl)
      simp only [go_sem, ↓reduceIte, Nat.reduceEqDiff, Nat.reduceAdd, Nat.reduceLeDiff, Nat.reduceBEq, Nat.reduceMul, Nat.reduceLT, Int.reduceLT, Int.reduceLE, Int.reduceToNat, Int.reduceNeg, Int.reduceEq, Int.reduceMul, reduceCtorEq, Int.reduceBEq, Int.reduceBNe, Int.reduceAdd, Int.reduceSub, bne_self_eq_false, beq_self_eq_true, Nat.le_add_right, eqOk, fn34, res34, gc34_0, gc34_1, gc34_2, gc34_3, gc34_4, gc34_5, gc34_6, gc34_7, gc34_8, gc34_9, gc34_10, gc34_11, gc34_12, gc34_13, gc34_14, gc34_15, gc34_16, gc34_17, gc34_18, gc34_19, gcSt, keepEnv, envLt, heapLt, dfrLt, ADefer.lt, grow34_6, grow34_7, grow34_8, grow34_9, grow34_10, grow34_11, grow34_12, grow34_13, grow34_15, grow34_16, ty3, ty22, ty23, ty25, ty29, ty48, ty49, ty56, ty63, ty105, plan34_4, g1, g3, g6, g9, g10, g11, g12, g13, g33, g34, hadd, hm1]
      exact hih _ [] (by exact g1) (by exact g3) (by rfl) (by exact g9) (by exact g10) (by exact g11) (by exact g12) (by exact g33) (by rfl)

/-- A truth: the excess of each minute, how slow, and what it grows. -/
theorem law_truly (s : Stl) (hv : s.valid = true) (hvb : SlOk H 6 vb (s.bs.map Blk.av)) (hvt : SlOk H 4 vt (s.ts.map Tch.av)) (blk : Int) (hb : 0 ≤ blk ∧ blk < s.bs.length) (f : Bool) (ws : List Int) (hwb : ∀ x ∈ ws, 0 ≤ x ∧ x ≤ 65535) (L : Nat) (hL : s.last = L) :
    ∃ (l : List Int) (k g : Int), (s.blk blk).s0 ≤ k ∧ k ≤ (s.blk blk).s1 ∧ (s.blk blk).g0 ≤ g ∧ g ≤ (s.blk blk).g1 ∧ l.length = L + 1 ∧ InEx s blk k ((s.blk blk).x 0) ((s.blk blk).x 1) l ∧
      callFL cfg0 prog0 false 34 [.agg [vb, I s.near, I s.last, vt], I blk, .sl f (ws.map U16)] H none = some ⟨.ret (.tup [.sl false (l.map I), I g]), H, none⟩ := by
  have hw : SlOk H 1 (.sl f (ws.map U16)) (ws.map U16) := ⟨rfl, by simp only [List.mem_map]; rintro _ ⟨p, _, rfl⟩; rfl⟩
  have hwf := Stl.valid_wf hv
  have hn := valid_nums hv
  obtain ⟨h0, hbk⟩ := Stl.inB_blk (inB_of (s := s) hb)
  have hbo := hwf.bs (s.blk blk) (List.mem_of_getElem? hbk)
  obtain ⟨a1, a2, a3, a4, a5⟩ := hvb.at (k := blk) (x := (s.blk blk).av) h0 (by simp [hbk])
  generalize s.blk blk = b at *
  have x0 : b.x 0 = b.x0 := rfl
  have x1 : b.x 1 = b.x1 := rfl
  have k1 := hbo.a1; have k2 := hbo.a2; have k3 := hbo.a3; have k4 := hbo.a4; have k5 := hbo.a5; have k6 := hbo.a6; have k7 := hbo.a7; have k8 := hbo.a8; have k9 := hbo.a9
  have d1 := drawZ_in ws 0 k2
  have d2 := drawZ_in ws 1 k5
  have hin0 : InEx s blk (drawZ ws 1 b.s0 b.s1) (b.x 0) (b.x 1) [] := fun i n hi => by simp at hi
  have hm := minutesF_in (s := s) (fun t ht => (hwf.ts t ht).2.1) ws blk (k := drawZ ws 1 b.s0 b.s1) (x0 := b.x 0) (x1 := b.x 1) (by omega) (L + 1) 0 2 (drawZ ws 0 b.x0 b.x1) [] rfl hin0 (by simp only [if_true]; omega)
  have hg := drawZ_in ws (2 + ((L + 1 : Nat) : Int) * (s.ts.length : Int)) k8
  refine ⟨minutesF s ws blk (drawZ ws 1 b.s0 b.s1) (L + 1) 0 2 (drawZ ws 0 b.x0 b.x1) [], drawZ ws 1 b.s0 b.s1, drawZ ws (2 + ((L + 1 : Nat) : Int) * (s.ts.length : Int)) b.g0 b.g1, d2.1, d2.2, hg.1, hg.2, by rw [hm.1, Nat.zero_add], hm.2, ?_⟩
  have sb := hvb.scal
  have st := hvt.scal
  have sw := hw.scal
  have e1 : IntKind.i64.wrap (s.last + 1) = s.last + 1 := w64 (by omega) (by omega)
  have D1 := fun G => draw_at (H := H) (vb := vb) (vt := vt) hw hwb s b [] G 0 b.x0 b.x1 (by omega) (by omega) k2 (by omega)
  have D2 := fun G => draw_at (H := H) (vb := vb) (vt := vt) hw hwb s b [] G (0 + 1) b.s0 b.s1 (by omega) (by omega) k5 (by omega)
  have hl6 := truly_l6 (H := H) s hwf hvb hvt b hbo hw hwb blk (drawZ ws 1 b.s0 b.s1) ⟨d2.1, d2.2⟩ L hL (L + 1) 0 2 (drawZ ws 0 b.x0 b.x1) [] 0 (by omega) rfl rfl (by omega) (by omega) hin0 (by simp only [if_true]; omega)
  simp only [trulyH, List.cons_append, List.nil_append, List.map_nil, Int.reduceAdd] at D1 D2 hl6
  simp only [Blk.av] at a3 a4 a5
  refine (callFL_eq fn34 rfl (by simp [Try.f34])).trans ?_
  simp only [go_sem, ↓reduceIte, Nat.reduceEqDiff, Nat.reduceAdd, Nat.reduceLeDiff, Nat.reduceBEq, Nat.reduceMul, Nat.reduceLT, Int.reduceLT, Int.reduceLE, Int.reduceToNat, Int.reduceNeg, Int.reduceEq, Int.reduceMul, reduceCtorEq, Int.reduceBEq, Int.reduceBNe, Int.reduceAdd, Int.reduceSub, bne_self_eq_false, beq_self_eq_true, Nat.le_add_right, eqOk, fn34, res34, gc34_0, gc34_1, gc34_2, gc34_3, gc34_4, gc34_5, gc34_6, gc34_7, gc34_8, gc34_9, gc34_10, gc34_11, gc34_12, gc34_13, gc34_14, gc34_15, gc34_16, gc34_17, gc34_18, gc34_19, gcSt, keepEnv, envLt, heapLt, dfrLt, ADefer.lt, grow34_6, grow34_7, grow34_8, grow34_9, grow34_10, grow34_11, grow34_12, grow34_13, grow34_15, grow34_16, ty3, ty22, ty23, ty25, ty29, ty48, ty49, ty56, ty63, ty105, plan34_4, sb, st, sw, a3, a4, a5]
  rw [chkK_of]; rotate_left; kernel_rfl
  simp only [go_sem, ↓reduceIte, Nat.reduceEqDiff, Nat.reduceAdd, Nat.reduceLeDiff, Nat.reduceBEq, Nat.reduceMul, Nat.reduceLT, Int.reduceLT, Int.reduceLE, Int.reduceToNat, Int.reduceNeg, Int.reduceEq, Int.reduceMul, reduceCtorEq, Int.reduceBEq, Int.reduceBNe, Int.reduceAdd, Int.reduceSub, bne_self_eq_false, beq_self_eq_true, Nat.le_add_right, eqOk, fn34, res34, gc34_0, gc34_1, gc34_2, gc34_3, gc34_4, gc34_5, gc34_6, gc34_7, gc34_8, gc34_9, gc34_10, gc34_11, gc34_12, gc34_13, gc34_14, gc34_15, gc34_16, gc34_17, gc34_18, gc34_19, gcSt, keepEnv, envLt, heapLt, dfrLt, ADefer.lt, grow34_6, grow34_7, grow34_8, grow34_9, grow34_10, grow34_11, grow34_12, grow34_13, grow34_15, grow34_16, ty3, ty22, ty23, ty25, ty29, ty48, ty49, ty56, ty63, ty105, plan34_4, sb, st, sw, a3, a4, a5, D1, D2, e1]
  exact hl6 _ [] (by rfl) (by rfl) (by rfl) (by rfl) (by rfl) (by rfl) (by rfl) (by rfl) (by simp [Env.get])

end Go.Ab
