/-
  The law's own helpers: a span, a touch, the sample.
-/
import Derived.Test.YtppmifiahebgfaaKW0
import Derived.Test.YtppmifiahebgfaaKR0
namespace Go.Ab
open Go.Proofs
set_option linter.unusedSimpArgs false
set_option linter.unusedVariables false

theorem f31 (a b : Int) (H : Heap) : callFL cfg0 prog0 false 31 [I a, I b] H none = some ⟨.ret (.agg [I a, I b]), H, none⟩ := by
  refine (callFL_eq fn31 rfl (by simp [Try.f31])).trans ?_
  simp only [go_sem, ↓reduceIte, Nat.reduceEqDiff, Nat.reduceAdd, Nat.reduceLeDiff, Nat.reduceBEq, Nat.reduceMul, Nat.reduceLT, Int.reduceLT, Int.reduceLE, Int.reduceToNat, Int.reduceNeg, Int.reduceEq, Int.reduceMul, reduceCtorEq, fn31, res31, gc31, grow31, ty3, ty29]

theorem f39 (a b x y : Int) (H : Heap) : callFL cfg0 prog0 false 39 [I a, I b, I x, I y] H none = some ⟨.ret (.agg [I a, I b, I x, I y]), H, none⟩ := by
  refine (callFL_eq fn39 rfl (by simp [Try.f39])).trans ?_
  simp only [go_sem, ↓reduceIte, Nat.reduceEqDiff, Nat.reduceAdd, Nat.reduceLeDiff, Nat.reduceBEq, Nat.reduceMul, Nat.reduceLT, Int.reduceLT, Int.reduceLE, Int.reduceToNat, Int.reduceNeg, Int.reduceEq, Int.reduceMul, reduceCtorEq, fn39, res39, gc39, grow39, ty3, ty29, ty63, f31]

theorem f30_loop (H : Heap) {u v : AV} {xs ys : List (Int × Int)} (hu : SlOk H 2 u (xs.map spA)) (hv : SlOk H 2 v (ys.map spA)) (hlen : xs.length = ys.length) (hl : xs.length ≤ 100000) :
    ∀ (n k : Nat) (e : Env), k + n = xs.length → e.get 0 = u → e.get 1 = v → e.get 5 = I k →
    execL cfg0 prog0 ⟨30, none, false, H.length⟩ (todoAt Try.f30 4) ⟨e, [], H, none⟩ = some ⟨.ret (.bool (decide (xs.drop k = ys.drop k))), H, none⟩ := by
  intro n
  induction n with
  | zero =>
    intro k e hk g0 g1 g5
    have hk' : ¬ (k : Int) < xs.length := by omega
    have d1 : xs.drop k = [] := List.drop_eq_nil_of_le (by omega)
    have d2 : ys.drop k = [] := List.drop_eq_nil_of_le (by omega)
    simp only [loopIt, todoPast, todoAt, todoOf, firstReg, ↓reduceIte, Option.some.injEq, Nat.reduceEqDiff, reduceCtorEq, Try.f30]
    rw [execL_inLoop]
    simp only [go_sem, ↓reduceIte, Nat.reduceEqDiff, Nat.reduceAdd, Nat.reduceLeDiff, Nat.reduceBEq, Nat.reduceMul, Nat.reduceLT, Int.reduceLT, Int.reduceLE, Int.reduceToNat, Int.reduceNeg, Int.reduceEq, Int.reduceMul, reduceCtorEq, fn30, res30, gc30, grow30, ty3, ty29, ty38, plan30_6, eqt29, g0, g1, g5, hu.len, List.length_map, hk', d1, d2]
  | succ n ih =>
    intro k e hk g0 g1 g5
    have hk' : (k : Int) < xs.length := by omega
    have hkx : k < xs.length := by omega
    have hky : k < ys.length := by omega
    have ex : (xs.map spA)[(k : Int).toNat]? = some (spA xs[k]) := by simp [hkx]
    have ey : (ys.map spA)[(k : Int).toNat]? = some (spA ys[k]) := by simp [hky]
    obtain ⟨a1, a2, a3, a4, a5⟩ := hu.at (by omega) ex
    obtain ⟨b1, b2, b3, b4, b5⟩ := hv.at (by omega) ey
    have w : IntKind.i64.wrap ((k : Int) + 1) = ((k + 1 : Nat) : Int) := by rw [w64 (by omega) (by omega)]; omega
    have d1 : xs.drop k = xs[k] :: xs.drop (k + 1) := List.drop_eq_getElem_cons hkx
    have d2 : ys.drop k = ys[k] :: ys.drop (k + 1) := List.drop_eq_getElem_cons hky
    simp only [loopIt, todoPast, todoAt, todoOf, firstReg, ↓reduceIte, Option.some.injEq, Nat.reduceEqDiff, reduceCtorEq, Try.f30]
    rw [execL_inLoop]
    simp only [go_sem, ↓reduceIte, Nat.reduceEqDiff, Nat.reduceAdd, Nat.reduceLeDiff, Nat.reduceBEq, Nat.reduceMul, Nat.reduceLT, Int.reduceLT, Int.reduceLE, Int.reduceToNat, Int.reduceNeg, Int.reduceEq, Int.reduceMul, reduceCtorEq, fn30, res30, gc30, grow30, ty3, ty29, ty38, plan30_6, eqt29, g0, g1, g5, hu.len, List.length_map, hk']
    rw [chkK_of]; rotate_left; kernel_rfl
    have hp : ∀ p q : Int × Int, p = q ↔ p.1 = q.1 ∧ p.2 = q.2 := fun p q => Prod.ext_iff
    by_cases h1 : xs[k].1 = ys[k].1
    · by_cases h2 : xs[k].2 = ys[k].2
      · have hd : decide (xs.drop k = ys.drop k) = decide (xs.drop (k + 1) = ys.drop (k + 1)) := by
          rw [d1, d2]; simp only [List.cons.injEq, hp, h1, h2, true_and, and_self]
        rw [hd]
        simp only [go_sem, ↓reduceIte, Nat.reduceEqDiff, Nat.reduceAdd, Nat.reduceLeDiff, Nat.reduceBEq, Nat.reduceMul, Nat.reduceLT, Int.reduceLT, Int.reduceLE, Int.reduceToNat, Int.reduceNeg, Int.reduceEq, Int.reduceMul, reduceCtorEq, fn30, res30, gc30, grow30, ty3, ty29, ty38, plan30_6, eqt29, g0, g1, g5, a1, a2, a3, b1, b2, b3, spA, hu.lt0, hv.lt0, w, sameL, AV.same, eqOk, h1, h2]
        exact ih (k + 1) _ (by omega) (by exact g0) (by exact g1) (by rfl)
      · have hd : decide (xs.drop k = ys.drop k) = false := by
          rw [d1, d2]; simp only [List.cons.injEq, hp, h2, and_false, false_and, decide_false]
        have h2' : (xs[k].2 == ys[k].2) = false := by simpa using h2
        rw [hd]
        simp only [go_sem, ↓reduceIte, Nat.reduceEqDiff, Nat.reduceAdd, Nat.reduceLeDiff, Nat.reduceBEq, Nat.reduceMul, Nat.reduceLT, Int.reduceLT, Int.reduceLE, Int.reduceToNat, Int.reduceNeg, Int.reduceEq, Int.reduceMul, reduceCtorEq, fn30, res30, gc30, grow30, ty3, ty29, ty38, plan30_6, eqt29, g0, g1, g5, a1, a2, a3, b1, b2, b3, spA, hu.lt0, hv.lt0, w, sameL, AV.same, eqOk, h1, h2']
    · have hd : decide (xs.drop k = ys.drop k) = false := by
          rw [d1, d2]; simp only [List.cons.injEq, hp, h1, false_and, decide_false]
      have h1' : (xs[k].1 == ys[k].1) = false := by simpa using h1
      rw [hd]
      simp only [go_sem, ↓reduceIte, Nat.reduceEqDiff, Nat.reduceAdd, Nat.reduceLeDiff, Nat.reduceBEq, Nat.reduceMul, Nat.reduceLT, Int.reduceLT, Int.reduceLE, Int.reduceToNat, Int.reduceNeg, Int.reduceEq, Int.reduceMul, reduceCtorEq, fn30, res30, gc30, grow30, ty3, ty29, ty38, plan30_6, eqt29, g0, g1, g5, a1, a2, a3, b1, b2, b3, spA, hu.lt0, hv.lt0, w, sameL, AV.same, eqOk, h1']

theorem f30 (H : Heap) {u v : AV} {xs ys : List (Int × Int)} (hu : SlOk H 2 u (xs.map spA)) (hv : SlOk H 2 v (ys.map spA)) (hl : xs.length ≤ 100000) (hl' : ys.length ≤ 100000) :
    callFL cfg0 prog0 false 30 [u, v] H none = some ⟨.ret (.bool (decide (xs = ys))), H, none⟩ := by
  have su := hu.scal
  have sv := hv.scal
  refine (callFL_eq fn30 rfl (by simp [Try.f30])).trans ?_
  by_cases hlen : xs.length = ys.length
  · simp only [go_sem, ↓reduceIte, Nat.reduceEqDiff, Nat.reduceAdd, Nat.reduceLeDiff, Nat.reduceBEq, Nat.reduceMul, Nat.reduceLT, Int.reduceLT, Int.reduceLE, Int.reduceToNat, Int.reduceNeg, Int.reduceEq, Int.reduceMul, reduceCtorEq, fn30, res30, gc30, grow30, ty3, ty29, ty38, plan30_6, eqt29, hu.len, hv.len, List.length_map, hlen]
    refine (congrArg (Option.map _) (f30_loop H hu hv hlen hl xs.length 0 _ (by omega) (by rfl) (by rfl) (by rfl))).trans ?_
    simp only [go_sem, ↓reduceIte, Nat.reduceEqDiff, Nat.reduceAdd, Nat.reduceLeDiff, Nat.reduceBEq, Nat.reduceMul, Nat.reduceLT, Int.reduceLT, Int.reduceLE, Int.reduceToNat, Int.reduceNeg, Int.reduceEq, Int.reduceMul, reduceCtorEq]
  · have hi : ((xs.length : Int) == ys.length) = false := by
      have : ¬ (xs.length : Int) = ys.length := by omega
      simpa using this
    have hd : decide (xs = ys) = false := by
      simp only [decide_eq_false_iff_not]
      rintro rfl; exact hlen rfl
    simp only [go_sem, ↓reduceIte, Nat.reduceEqDiff, Nat.reduceAdd, Nat.reduceLeDiff, Nat.reduceBEq, Nat.reduceMul, Nat.reduceLT, Int.reduceLT, Int.reduceLE, Int.reduceToNat, Int.reduceNeg, Int.reduceEq, Int.reduceMul, reduceCtorEq, fn30, res30, gc30, grow30, ty3, ty29, ty38, plan30_6, eqt29, hu.len, hv.len, List.length_map, hi, hd, bne]

def smp : Stl := ⟨[⟨40, 44, 4, 4, 10, 12⟩, ⟨-6, -5, 2, 3, 0, 0⟩], 5, 12, [⟨1, 4, 8, 10⟩]⟩

/-- The sample as the program holds it. -/
def smpA : AV := .agg [.sl true (smp.bs.map Blk.av), I 5, I 12, .sl true (smp.ts.map Tch.av)]

theorem f32 (H : Heap) : callFL cfg0 prog0 false 32 [] H none = some ⟨.ret smpA, H, none⟩ := by
  refine (callFL_eq fn32 rfl (by simp [Try.f32])).trans ?_
  simp only [go_sem, ↓reduceIte, Nat.reduceEqDiff, Nat.reduceAdd, Nat.reduceLeDiff, Nat.reduceBEq, Nat.reduceMul, Nat.reduceLT, Int.reduceLT, Int.reduceLE, Int.reduceToNat, Int.reduceNeg, Int.reduceEq, Int.reduceMul, reduceCtorEq, fn32, res32, gc32, grow32, ty3, ty22, ty23, ty25, ty29, ty56, ty63, f31, f39]
  rfl

theorem smp_b (H : Heap) : SlOk H 6 (.sl true (smp.bs.map Blk.av)) (smp.bs.map Blk.av) := ⟨rfl, by simp [smp, Blk.av, AV.cells]⟩
theorem smp_t (H : Heap) : SlOk H 4 (.sl true (smp.ts.map Tch.av)) (smp.ts.map Tch.av) := ⟨rfl, by simp [smp, Tch.av, AV.cells]⟩

theorem smp14a_e : smp.excess 0 4 = (12, 13, 0) := by kernel_rfl
theorem smp14a (H : Heap) : callFL cfg0 prog0 false 14 [smpA, I 0, I 4] H none = some ⟨.ret (.tup [.agg [I 12, I 13], I 0]), H, none⟩ := by
  refine (f14 smp (smp_b H) (smp_t H) (by decide) (by decide) 0 4).trans ?_
  rw [smp14a_e]

theorem smp14b_e : smp.excess 0 7 = (4, 4, 0) := by kernel_rfl
theorem smp14b (H : Heap) : callFL cfg0 prog0 false 14 [smpA, I 0, I 7] H none = some ⟨.ret (.tup [.agg [I 4, I 4], I 0]), H, none⟩ := by
  refine (f14 smp (smp_b H) (smp_t H) (by decide) (by decide) 0 7).trans ?_
  rw [smp14b_e]

theorem smp14c_e : smp.excess 1 1 = (-4, -2, 0) := by kernel_rfl
theorem smp14c (H : Heap) : callFL cfg0 prog0 false 14 [smpA, I 1, I 1] H none = some ⟨.ret (.tup [.agg [I (-4), I (-2)], I 0]), H, none⟩ := by
  refine (f14 smp (smp_b H) (smp_t H) (by decide) (by decide) 1 1).trans ?_
  rw [smp14c_e]

theorem smp14d_e : smp.excess 1 4 = (8, 10, 0) := by kernel_rfl
theorem smp14d (H : Heap) : callFL cfg0 prog0 false 14 [smpA, I 1, I 4] H none = some ⟨.ret (.tup [.agg [I 8, I 10], I 0]), H, none⟩ := by
  refine (f14 smp (smp_b H) (smp_t H) (by decide) (by decide) 1 4).trans ?_
  rw [smp14d_e]

theorem smp14e_e : smp.excess 1 5 = (4, 6, 0) := by kernel_rfl
theorem smp14e (H : Heap) : callFL cfg0 prog0 false 14 [smpA, I 1, I 5] H none = some ⟨.ret (.tup [.agg [I 4, I 6], I 0]), H, none⟩ := by
  refine (f14 smp (smp_b H) (smp_t H) (by decide) (by decide) 1 5).trans ?_
  rw [smp14e_e]

theorem smp16a_e : smp.longer 1 4 = (0, 0, 0) := by kernel_rfl
theorem smp16a (H : Heap) : callFL cfg0 prog0 false 16 [smpA, I 1, I 4] H none = some ⟨.ret (.tup [.agg [I 0, I 0], I 0]), H, none⟩ := by
  refine (f16 smp (smp_b H) (smp_t H) (by decide) (by decide) 1 4).trans ?_
  rw [smp16a_e]

theorem smp16b_e : smp.longer 0 0 = (40, 52, 0) := by kernel_rfl
theorem smp16b (H : Heap) : callFL cfg0 prog0 false 16 [smpA, I 0, I 0] H none = some ⟨.ret (.tup [.agg [I 40, I 52], I 0]), H, none⟩ := by
  refine (f16 smp (smp_b H) (smp_t H) (by decide) (by decide) 0 0).trans ?_
  rw [smp16b_e]

theorem smp18a_e : smp.settled 0 7 = (2, 0) := by kernel_rfl
theorem smp18a (H : Heap) : callFL cfg0 prog0 false 18 [smpA, I 0, I 7] H none = some ⟨.ret (.tup [I 2, I 0]), H, none⟩ := by
  refine (f18 smp (smp_b H) (smp_t H) (by decide) (by decide) 0 7).trans ?_
  rw [smp18a_e]

theorem smp18b_e : smp.settled 1 0 = (1, 0) := by kernel_rfl
theorem smp18b (H : Heap) : callFL cfg0 prog0 false 18 [smpA, I 1, I 0] H none = some ⟨.ret (.tup [I 1, I 0]), H, none⟩ := by
  refine (f18 smp (smp_b H) (smp_t H) (by decide) (by decide) 1 0).trans ?_
  rw [smp18b_e]

theorem smp18c_e : smp.settled 1 5 = (1, 0) := by kernel_rfl
theorem smp18c (H : Heap) : callFL cfg0 prog0 false 18 [smpA, I 1, I 5] H none = some ⟨.ret (.tup [I 1, I 0]), H, none⟩ := by
  refine (f18 smp (smp_b H) (smp_t H) (by decide) (by decide) 1 5).trans ?_
  rw [smp18c_e]

theorem smp18d_e : smp.settled 0 6 = (0, 0) := by kernel_rfl
theorem smp18d (H : Heap) : callFL cfg0 prog0 false 18 [smpA, I 0, I 6] H none = some ⟨.ret (.tup [I 0, I 0]), H, none⟩ := by
  refine (f18 smp (smp_b H) (smp_t H) (by decide) (by decide) 0 6).trans ?_
  rw [smp18d_e]

theorem smp20a_e : smp.when 0 = (7, 0) := by kernel_rfl
theorem smp20a (H : Heap) : callFL cfg0 prog0 false 20 [smpA, I 0] H none = some ⟨.ret (.tup [I 7, I 0]), H, none⟩ := by
  refine (f20 smp (smp_b H) (smp_t H) (by decide) (by decide) 0).trans ?_
  rw [smp20a_e]

theorem smp20b_e : smp.when 1 = (6, 0) := by kernel_rfl
theorem smp20b (H : Heap) : callFL cfg0 prog0 false 20 [smpA, I 1] H none = some ⟨.ret (.tup [I 6, I 0]), H, none⟩ := by
  refine (f20 smp (smp_b H) (smp_t H) (by decide) (by decide) 1).trans ?_
  rw [smp20b_e]

theorem smp22a_e : smp.allS = (7, 0) := by kernel_rfl
theorem smp22a (H : Heap) : callFL cfg0 prog0 false 22 [smpA] H none = some ⟨.ret (.tup [I 7, I 0]), H, none⟩ := by
  refine (f22 smp (smp_b H) (smp_t H) (by decide) (by decide)).trans ?_
  rw [smp22a_e]

theorem smp26a_e : smp.wait 0 44 = (7, 0) := by kernel_rfl
theorem smp26a (H : Heap) : callFL cfg0 prog0 false 26 [smpA, I 0, I 44] H none = some ⟨.ret (.tup [I 7, I 0]), H, none⟩ := by
  refine (f26 smp (smp_b H) (smp_t H) (by decide) (by decide) 0 44).trans ?_
  rw [smp26a_e]

theorem smp26b_e : smp.wait 0 5 = (0, 0) := by kernel_rfl
theorem smp26b (H : Heap) : callFL cfg0 prog0 false 26 [smpA, I 0, I 5] H none = some ⟨.ret (.tup [I 0, I 0]), H, none⟩ := by
  refine (f26 smp (smp_b H) (smp_t H) (by decide) (by decide) 0 5).trans ?_
  rw [smp26b_e]

theorem smp26c_e : smp.wait 1 (-9) = (2, 0) := by kernel_rfl
theorem smp26c (H : Heap) : callFL cfg0 prog0 false 26 [smpA, I 1, I (-9)] H none = some ⟨.ret (.tup [I 2, I 0]), H, none⟩ := by
  refine (f26 smp (smp_b H) (smp_t H) (by decide) (by decide) 1 (-9)).trans ?_
  rw [smp26c_e]

theorem smp28a_e : smp.latest 0 100 7 = (0, 4) := by kernel_rfl
theorem smp28a (H : Heap) : callFL cfg0 prog0 false 28 [smpA, I 0, I 100, I 7] H none = some ⟨.ret (.tup [I 0, I 4]), H, none⟩ := by
  refine (f28 smp (smp_b H) (smp_t H) (by decide) (by decide) 0 100 7).trans ?_
  rw [smp28a_e]

theorem smp28b_e : smp.latest 0 20 12 = (7, 0) := by kernel_rfl
theorem smp28b (H : Heap) : callFL cfg0 prog0 false 28 [smpA, I 0, I 20, I 12] H none = some ⟨.ret (.tup [I 7, I 0]), H, none⟩ := by
  refine (f28 smp (smp_b H) (smp_t H) (by decide) (by decide) 0 20 12).trans ?_
  rw [smp28b_e]

theorem smp24_e (n : Int) (l : List (Int × Int)) (h1 : smp.valid = true) (h2 : smp.inB n = true) (h3 : smp.restsL n = l) (H : Heap) : callFL cfg0 prog0 false 24 [smpA, I n] H none = some ⟨.ret (.tup [.sl false (l.map spA), I 0]), H, none⟩ := by
  refine (f24 smp (smp_b H) (smp_t H) (by decide) (by decide) n).trans ?_
  rw [h1, h2, h3]; rfl

theorem smp24a (H : Heap) : callFL cfg0 prog0 false 24 [smpA, I 0] H none = some ⟨.ret (.tup [.sl false [.agg [I 7, I 12]], I 0]), H, none⟩ := smp24_e 0 [(7, 12)] (by kernel_rfl) (by kernel_rfl) (by kernel_rfl) H
theorem smp24b (H : Heap) : callFL cfg0 prog0 false 24 [smpA, I 1] H none = some ⟨.ret (.tup [.sl false [.agg [I 1, I 3], .agg [I 6, I 12]], I 0]), H, none⟩ := smp24_e 1 [(1, 3), (6, 12)] (by kernel_rfl) (by kernel_rfl) (by kernel_rfl) H

end Go.Ab
/-
  The sample is alive; the names that the statement gives are true of it.
-/
namespace Go.Ab
open Go.Proofs
set_option linter.unusedSimpArgs false
set_option linter.unusedVariables false
set_option maxRecDepth 100000

theorem spans_a (H : Heap) (u v : Bool) : callFL cfg0 prog0 false 30 [.sl u [.agg [I 1, I 3], .agg [I 6, I 12]], .sl v [.agg [I 1, I 3], .agg [I 6, I 12]]] H none = some ⟨.ret (.bool true), H, none⟩ :=
  (f30 H (xs := [(1, 3), (6, 12)]) (ys := [(1, 3), (6, 12)]) ⟨rfl, by simp [spA, AV.cells]⟩ ⟨rfl, by simp [spA, AV.cells]⟩ (by simp) (by simp)).trans (by simp)

theorem spans_b (H : Heap) (u v : Bool) : callFL cfg0 prog0 false 30 [.sl u [.agg [I 7, I 12]], .sl v [.agg [I 7, I 12]]] H none = some ⟨.ret (.bool true), H, none⟩ :=
  (f30 H (xs := [(7, 12)]) (ys := [(7, 12)]) ⟨rfl, by simp [spA, AV.cells]⟩ ⟨rfl, by simp [spA, AV.cells]⟩ (by simp) (by simp)).trans (by simp)

theorem smpA_c : smpA.cells = [.sl true (smp.bs.map Blk.av), I 5, I 12, .sl true (smp.ts.map Tch.av)] := rfl

theorem f13 (H : Heap) : callFL cfg0 prog0 false 13 [] H none = some ⟨.ret (.bool true), H, none⟩ := by
  refine (callFL_eq fn13 rfl (by simp [Try.f13])).trans ?_
  simp only [go_sem, ↓reduceIte, Nat.reduceEqDiff, Nat.reduceAdd, Nat.reduceLeDiff, Nat.reduceBEq, Nat.reduceMul, Nat.reduceLT, Int.reduceLT, Int.reduceLE, Int.reduceToNat, Int.reduceNeg, Int.reduceEq, Int.reduceMul, reduceCtorEq, fn13, res13, gc13, grow13, ty3, ty22, ty23, ty25, ty29, ty30, ty38, ty56, ty63, plan13_10, eqt29, List.append_eq, f32, f31, smp14e, smp16b, smp18c, smp20b, smp22a, smp24b, smp26c, smp28b, smp18d]
  rw [chkK_of]; rotate_left; kernel_rfl
  simp only [go_sem, ↓reduceIte, Nat.reduceEqDiff, Nat.reduceAdd, Nat.reduceLeDiff, Nat.reduceBEq, Nat.reduceMul, Nat.reduceLT, Int.reduceLT, Int.reduceLE, Int.reduceToNat, Int.reduceNeg, Int.reduceEq, Int.reduceMul, reduceCtorEq, fn13, res13, gc13, grow13, ty3, ty22, ty23, ty25, ty29, ty30, ty38, ty56, ty63, plan13_10, eqt29, List.append_eq, f32, f31, smp14e, smp16b, smp18c, smp20b, smp22a, smp24b, smp26c, smp28b, smp18d, eqOk, sameL, AV.same, spans_a]
  done

end Go.Ab
/-
  SettleLatest, walked.
-/
namespace Go.Ab
open Go.Proofs
set_option linter.unusedSimpArgs false
set_option linter.unusedVariables false
set_option maxRecDepth 100000

variable {H : Heap} {vb vt : AV}

abbrev U8 (n : Int) : AV := .int .u8 n

theorem law_long (s : Stl) (hvb : SlOk H 6 vb (s.bs.map Blk.av)) (hvt : SlOk H 4 vt (s.ts.map Tch.av)) (G : Heap) :
    callFL cfg0 prog0 false 12 [.agg [vb, I s.near, I s.last, vt]] G none = some ⟨.ret (.bool (decide (40 < (if (s.bs.length : Int) < s.ts.length then (s.ts.length : Int) else s.bs.length)))), G, none⟩ :=
  f12 s.near s.last vb vt s.bs.length s.ts.length G (by rw [hvb.len, List.length_map]) (by rw [hvt.len, List.length_map]) hvb.scal hvt.scal

theorem long_cases (s : Stl) : decide (40 < (if (s.bs.length : Int) < s.ts.length then (s.ts.length : Int) else s.bs.length)) = true ∨ (decide (40 < (if (s.bs.length : Int) < s.ts.length then (s.ts.length : Int) else s.bs.length)) = false ∧ s.bs.length ≤ 40 ∧ s.ts.length ≤ 40) := by
  by_cases h : 40 < (if (s.bs.length : Int) < s.ts.length then (s.ts.length : Int) else s.bs.length)
  · exact .inl (by simpa using h)
  · refine .inr ⟨by simpa using h, ?_⟩
    split at h <;> omega

theorem tmod_nn {a b : Int} (h : 0 ≤ a) : a.tmod b = a % b := Int.tmod_eq_emod_of_nonneg h

theorem mod_lt {a b : Int} (hb : 0 < b) : 0 ≤ a % b ∧ a % b < b := ⟨Int.emod_nonneg _ (by omega), Int.emod_lt_of_pos _ hb⟩

/-- What validity says in numbers. -/
theorem valid_nums {s : Stl} (hv : s.valid = true) : 1 ≤ s.bs.length ∧ s.bs.length ≤ 4 ∧ 1 ≤ s.last ∧ s.last ≤ 60 ∧ 0 ≤ s.near ∧ s.near ≤ 20 ∧ s.ts.length ≤ 6 := by
  simp only [Stl.valid, Stl.nums, wi, Bool.and_eq_true, decide_eq_true_eq] at hv
  omega

theorem inB_of {s : Stl} {b : Int} (h : 0 ≤ b ∧ b < s.bs.length) : s.inB b = true := by
  simp only [Stl.inB, wi, Bool.and_eq_true, decide_eq_true_eq]; omega
theorem inM_of {s : Stl} {m : Int} (h : 0 ≤ m ∧ m ≤ s.last) : s.inM m = true := by
  simp only [Stl.inM, wi, Bool.and_eq_true, decide_eq_true_eq]; omega
theorem inW_of {m : Int} (h : -100 ≤ m ∧ m ≤ 100) : inW m = true := by
  simp only [inW, wi, Bool.and_eq_true, decide_eq_true_eq]; omega

theorem touch_valid {s : Stl} (hv : s.valid = true) (hl : s.ts.length ≤ 5) {b m x : Int} (hb : 0 ≤ b ∧ b < s.bs.length) (hm : 0 ≤ m ∧ m ≤ s.last) (hx : -100 ≤ x ∧ x ≤ 100) : (s.touch b m x).valid = true := by
  simp only [Stl.valid, Stl.nums, Stl.touch, Bool.and_eq_true, decide_eq_true_eq, List.all_append, List.all_cons, List.all_nil, List.length_append, List.length_cons, List.length_nil] at hv ⊢
  refine ⟨⟨hv.1.1, hv.1.2.1, hv.1.2.2.1, by omega⟩, hv.2.1, hv.2.2, ?_, trivial⟩
  simp only [Tch.okb, wi, spn, Bool.and_eq_true, decide_eq_true_eq]
  omega

theorem law_with (s : Stl) (hvb : SlOk H 6 vb (s.bs.map Blk.av)) (hvt : SlOk H 4 vt (s.ts.map Tch.av)) (hl2 : s.ts.length ≤ 1000) (n m x : Int) :
    callFL cfg0 prog0 false 38 [.agg [vb, I s.near, I s.last, vt], .agg [I n, I m, I x, I x]] H none = some ⟨.ret (.agg [vb, I s.near, I s.last, .sl false ((s.touch n m x).ts.map Tch.av)]), H, none⟩ := by
  have sb := hvb.scal
  have st := hvt.scal
  have h1 : addElem (H ++ [.box (.agg [vb, I s.near, I s.last, vt]), .box (.agg [I n, I m, I x, I x]), .box (.agg [.sl true [], I 0, I 0, .sl true []])]) 4 true (.sl true []) (s.ts.map Tch.av) = some (.gsl (H.length + 3) s.ts.length, H ++ [.box (.agg [vb, I s.near, I s.last, vt]), .box (.agg [I n, I m, I x, I x]), .box (.agg [.sl true [], I 0, I 0, .sl true []]), .grow 4 (s.ts.map Tch.av)]) := by
    rw [add_full rfl rfl (elemsOk_map (fun _ => rfl) _) (ltL_map (fun _ => rfl) _) (by simp; omega) rfl]
    simp
  have h2 : addElem (H ++ [.box (.agg [vb, I s.near, I s.last, vt]), .box (.agg [I n, I m, I x, I x]), .box (.agg [.sl true [], I 0, I 0, .sl true []]), .grow 4 (s.ts.map Tch.av)]) 4 true (.gsl (H.length + 3) s.ts.length) [.agg [I n, I m, I x, I x]] = some (.gsl (H.length + 3) (s.ts.length + 1), H ++ [.box (.agg [vb, I s.near, I s.last, vt]), .box (.agg [I n, I m, I x, I x]), .box (.agg [.sl true [], I 0, I 0, .sl true []]), .grow 4 ((s.touch n m x).ts.map Tch.av)]) := by
    rw [add_gsl (xs := s.ts.map Tch.av) (by simp [get_at']) (by simp) rfl rfl (by simp; omega), set_at']
    simp only [Stl.touch, List.map_append]
    rfl
  have he := fun G => (hvt.app G).elems
  have hs1 := hvb.seal
  have hlt := hvb.lt0
  refine (callFL_eq fn38 rfl (by simp [Try.f38])).trans ?_
  simp only [go_sem, ↓reduceIte, Nat.reduceEqDiff, Nat.reduceAdd, Nat.reduceLeDiff, Nat.reduceBEq, Nat.reduceMul, Nat.reduceLT, Int.reduceLT, Int.reduceLE, Int.reduceToNat, Int.reduceNeg, Int.reduceEq, Int.reduceMul, reduceCtorEq, Int.reduceBEq, Int.reduceBNe, Int.reduceAdd, Int.reduceSub, bne_self_eq_false, beq_self_eq_true, Nat.le_add_right, eqOk, fn38, res38, gc38, grow38, ty3, ty22, ty23, ty25, ty29, ty56, ty63, plan38_1, sb, st]
  rw [chkK_of]; rotate_left; kernel_rfl
  simp only [go_sem, ↓reduceIte, Nat.reduceEqDiff, Nat.reduceAdd, Nat.reduceLeDiff, Nat.reduceBEq, Nat.reduceMul, Nat.reduceLT, Int.reduceLT, Int.reduceLE, Int.reduceToNat, Int.reduceNeg, Int.reduceEq, Int.reduceMul, reduceCtorEq, Int.reduceBEq, Int.reduceBNe, Int.reduceAdd, Int.reduceSub, bne_self_eq_false, beq_self_eq_true, Nat.le_add_right, eqOk, fn38, res38, gc38, grow38, ty3, ty22, ty23, ty25, ty29, ty56, ty63, plan38_1, sb, st, he, h1, h2, ↓hs1, hlt, List.length_map, touch_len]

theorem Latest_loop (s : Stl) (hv : s.valid = true) (hl5 : s.ts.length ≤ 5) (hvb : SlOk H 6 vb (s.bs.map Blk.av)) (hvt : SlOk H 4 vt (s.ts.map Tch.av)) (b x : Int) (hb : 0 ≤ b ∧ b < s.bs.length) (hx : -100 ≤ x ∧ x ≤ 100) (y : Nat) (hy : (y : Int) ≤ s.last) :
    ∀ (q i : Nat) (n e : Int), i + q = y + 1 → (n, e) = (match findN (fun j => settl (s.touch b ((y : Int) - j) x) b (s.blk b) y) i q with | some i => ((y : Int) - i, 0) | none => (0, 4)) → ∀ E : Env, E.get 4 = .ptr H.length 0 → E.get 9 = I b → E.get 10 = I x → E.get 11 = I y → E.get 12 = I n → E.get 13 = I e → E.get 14 = I ((y : Int) - i) →
    Option.map (finishC H.length) (execL cfg0 prog0 ⟨10, none, false, H.length⟩ (todoAt Try.f10 8) ⟨E, [], H ++ [.box (.agg [vb, I s.near, I s.last, vt])], none⟩) = some ⟨.ret (.bool true), H, none⟩ := by
  intro q
  have hn := valid_nums hv
  induction q with
  | zero =>
    intro i n e hi hne E g4 g9 g10 g11 g12 g13 g14
    have hk' : ¬ 0 ≤ (y : Int) - i := by omega
    simp only [findN, Prod.mk.injEq] at hne
    obtain ⟨rfl, rfl⟩ := hne
    simp only [loopIt, todoPast, todoAt, todoOf, firstReg, ↓reduceIte, Option.some.injEq, Nat.reduceEqDiff, reduceCtorEq, Try.f10]
    rw [execL_inLoop]
    simp only [go_sem, ↓reduceIte, Nat.reduceEqDiff, Nat.reduceAdd, Nat.reduceLeDiff, Nat.reduceBEq, Nat.reduceMul, Nat.reduceLT, Int.reduceLT, Int.reduceLE, Int.reduceToNat, Int.reduceNeg, Int.reduceEq, Int.reduceMul, reduceCtorEq, Int.reduceBEq, Int.reduceBNe, Int.reduceAdd, Int.reduceSub, bne_self_eq_false, beq_self_eq_true, Nat.le_add_right, eqOk, fn10, res10, gc10, grow10, ty3, ty5, ty22, ty23, ty25, ty29, ty30, ty56, ty63, plan10_3, plan10_10, g4, g9, g10, g11, g12, g13, g14, ge_iff_le, hk', f13]
  | succ q ih =>
    intro i n e hi hne E g4 g9 g10 g11 g12 g13 g14
    have hk' : 0 ≤ (y : Int) - i := by omega
    have e1 : IntKind.i64.wrap ((y : Int) - i - 1) = (y : Int) - (i + 1 : Nat) := by rw [w64 (by omega) (by omega)]; omega
    have hW := fun (G : Heap) => law_with (H := H ++ G) s (hvb.app G) (hvt.app G) (by omega) b ((y : Int) - i) x
    have htv := touch_valid (s := s) hv hl5 hb (m := (y : Int) - i) (by omega) hx
    have hS := fun (G : Heap) => f18 (H := H ++ G) (vt := .sl false ((s.touch b ((y : Int) - i) x).ts.map Tch.av)) (s.touch b ((y : Int) - i) x) (hvb.app G) ⟨rfl, by simp only [List.mem_map]; rintro _ ⟨t, _, rfl⟩; rfl⟩ (show s.bs.length ≤ 1000 by omega) (by rw [touch_len]; omega) b y
    have hn1 : (s.touch b ((y : Int) - i) x).near = s.near := rfl
    have hn2 : (s.touch b ((y : Int) - i) x).last = s.last := rfl
    have hn3 : (s.touch b ((y : Int) - i) x).blk b = s.blk b := rfl
    have hib : (s.touch b ((y : Int) - i) x).inB b = true := inB_of hb
    have him : (s.touch b ((y : Int) - i) x).inM y = true := inM_of (by rw [hn2]; omega)
    rw [hn1, hn2] at hS
    simp only [Stl.settled, htv, hib, him, hn3, Bool.and_self, if_true, Int.toNat_natCast] at hS
    simp only [findN] at hne
    simp only [loopIt, todoPast, todoAt, todoOf, firstReg, ↓reduceIte, Option.some.injEq, Nat.reduceEqDiff, reduceCtorEq, Try.f10]
    rw [execL_inLoop]
    simp only [go_sem, ↓reduceIte, Nat.reduceEqDiff, Nat.reduceAdd, Nat.reduceLeDiff, Nat.reduceBEq, Nat.reduceMul, Nat.reduceLT, Int.reduceLT, Int.reduceLE, Int.reduceToNat, Int.reduceNeg, Int.reduceEq, Int.reduceMul, reduceCtorEq, Int.reduceBEq, Int.reduceBNe, Int.reduceAdd, Int.reduceSub, bne_self_eq_false, beq_self_eq_true, Nat.le_add_right, eqOk, fn10, res10, gc10, grow10, ty3, ty5, ty22, ty23, ty25, ty29, ty30, ty56, ty63, plan10_3, plan10_10, g4, g9, g10, g11, g12, g13, g14, ge_iff_le, hk']
    rw [chkK_of]; rotate_left; kernel_rfl
    rcases Bool.eq_false_or_eq_true (settl (s.touch b ((y : Int) - i) x) b (s.blk b) y) with hc | hc
    · simp only [hc, if_true, Prod.mk.injEq] at hne
      obtain ⟨rfl, rfl⟩ := hne
      simp only [hc, if_true] at hS
      simp only [go_sem, ↓reduceIte, Nat.reduceEqDiff, Nat.reduceAdd, Nat.reduceLeDiff, Nat.reduceBEq, Nat.reduceMul, Nat.reduceLT, Int.reduceLT, Int.reduceLE, Int.reduceToNat, Int.reduceNeg, Int.reduceEq, Int.reduceMul, reduceCtorEq, Int.reduceBEq, Int.reduceBNe, Int.reduceAdd, Int.reduceSub, bne_self_eq_false, beq_self_eq_true, Nat.le_add_right, eqOk, fn10, res10, gc10, grow10, ty3, ty5, ty22, ty23, ty25, ty29, ty30, ty56, ty63, plan10_3, plan10_10, g4, g9, g10, g11, g12, g13, g14, f39, hW, hS, f13]
    · simp only [hc, Bool.false_eq_true, if_false] at hne hS
      have hih := ih (i + 1) n e (by omega) hne
      rcases Bool.eq_false_or_eq_true (someS (s.touch b ((y : Int) - i) x) b (s.blk b) y) with hd | hd
      · simp only [hd, if_true] at hS
        simp only [go_sem, ↓reduceIte, Nat.reduceEqDiff, Nat.reduceAdd, Nat.reduceLeDiff, Nat.reduceBEq, Nat.reduceMul, Nat.reduceLT, Int.reduceLT, Int.reduceLE, Int.reduceToNat, Int.reduceNeg, Int.reduceEq, Int.reduceMul, reduceCtorEq, Int.reduceBEq, Int.reduceBNe, Int.reduceAdd, Int.reduceSub, bne_self_eq_false, beq_self_eq_true, Nat.le_add_right, eqOk, fn10, res10, gc10, grow10, ty3, ty5, ty22, ty23, ty25, ty29, ty30, ty56, ty63, plan10_3, plan10_10, g4, g9, g10, g11, g12, g13, g14, f39, hW, hS, e1]
        exact hih _ (by exact g4) (by exact g9) (by exact g10) (by exact g11) (by exact g12) (by exact g13) (by rfl)
      · simp only [hd, Bool.false_eq_true, if_false] at hS
        simp only [go_sem, ↓reduceIte, Nat.reduceEqDiff, Nat.reduceAdd, Nat.reduceLeDiff, Nat.reduceBEq, Nat.reduceMul, Nat.reduceLT, Int.reduceLT, Int.reduceLE, Int.reduceToNat, Int.reduceNeg, Int.reduceEq, Int.reduceMul, reduceCtorEq, Int.reduceBEq, Int.reduceBNe, Int.reduceAdd, Int.reduceSub, bne_self_eq_false, beq_self_eq_true, Nat.le_add_right, eqOk, fn10, res10, gc10, grow10, ty3, ty5, ty22, ty23, ty25, ty29, ty30, ty56, ty63, plan10_3, plan10_10, g4, g9, g10, g11, g12, g13, g14, f39, hW, hS, e1]
        exact hih _ (by exact g4) (by exact g9) (by exact g10) (by exact g11) (by exact g12) (by exact g13) (by rfl)

theorem find_lt {d : Nat → Bool} : ∀ {m j i : Nat}, findN d j m = some i → j ≤ i ∧ i < j + m
  | 0, j, i, h => by simp [findN] at h
  | m + 1, j, i, h => by
    simp only [findN] at h
    split at h
    · injection h with h; omega
    · have := find_lt h; omega

theorem law_SettleLatest (s : Stl) (hvb : SlOk H 6 vb (s.bs.map Blk.av)) (hvt : SlOk H 4 vt (s.ts.map Tch.av)) (w u a : Int) (hw : 0 ≤ w ∧ w ≤ 255) (hu : 0 ≤ u ∧ u ≤ 255) (ha : 0 ≤ a ∧ a ≤ 255) :
    callFL cfg0 prog0 false 10 [.agg [vb, I s.near, I s.last, vt], U8 w, U8 u, U8 a] H none = some ⟨.ret (.bool true), H, none⟩ := by
  have sb := hvb.scal
  have st := hvt.scal
  have hL := law_long s hvb hvt
  refine (callFL_eq fn10 rfl (by simp [Try.f10])).trans ?_
  rcases long_cases s with hl | ⟨hl, hl1, hl2⟩
  · simp only [go_sem, ↓reduceIte, Nat.reduceEqDiff, Nat.reduceAdd, Nat.reduceLeDiff, Nat.reduceBEq, Nat.reduceMul, Nat.reduceLT, Int.reduceLT, Int.reduceLE, Int.reduceToNat, Int.reduceNeg, Int.reduceEq, Int.reduceMul, reduceCtorEq, Int.reduceBEq, Int.reduceBNe, Int.reduceAdd, Int.reduceSub, bne_self_eq_false, beq_self_eq_true, Nat.le_add_right, eqOk, fn10, res10, gc10, grow10, ty3, ty5, ty22, ty23, ty25, ty29, ty30, ty56, ty63, plan10_3, plan10_10, sb, st, hL, hl, f13]
  · have hV := fun (G : Heap) => ref_Settle (H := H ++ G) s (hvb.app G) (hvt.app G) (by omega) (by omega)
    cases hv : s.valid with
    | false => simp only [go_sem, ↓reduceIte, Nat.reduceEqDiff, Nat.reduceAdd, Nat.reduceLeDiff, Nat.reduceBEq, Nat.reduceMul, Nat.reduceLT, Int.reduceLT, Int.reduceLE, Int.reduceToNat, Int.reduceNeg, Int.reduceEq, Int.reduceMul, reduceCtorEq, Int.reduceBEq, Int.reduceBNe, Int.reduceAdd, Int.reduceSub, bne_self_eq_false, beq_self_eq_true, Nat.le_add_right, eqOk, fn10, res10, gc10, grow10, ty3, ty5, ty22, ty23, ty25, ty29, ty30, ty56, ty63, plan10_3, plan10_10, sb, st, hL, hl, hV, hv, f13]
    | true =>
      have hn := valid_nums hv
      by_cases h5 : 6 ≤ (s.ts.length : Int)
      · simp only [go_sem, ↓reduceIte, Nat.reduceEqDiff, Nat.reduceAdd, Nat.reduceLeDiff, Nat.reduceBEq, Nat.reduceMul, Nat.reduceLT, Int.reduceLT, Int.reduceLE, Int.reduceToNat, Int.reduceNeg, Int.reduceEq, Int.reduceMul, reduceCtorEq, Int.reduceBEq, Int.reduceBNe, Int.reduceAdd, Int.reduceSub, bne_self_eq_false, beq_self_eq_true, Nat.le_add_right, eqOk, fn10, res10, gc10, grow10, ty3, ty5, ty22, ty23, ty25, ty29, ty30, ty56, ty63, plan10_3, plan10_10, sb, st, hL, hl, hV, hv, hvt.len, List.length_map, ge_iff_le, h5, decide_true, f13]
      · have c1 : IntKind.i64.wrap w = w := w64 (by omega) (by omega)
        have c2 : IntKind.i64.wrap u = u := w64 (by omega) (by omega)
        have c3 : IntKind.i64.wrap a = a := w64 (by omega) (by omega)
        have m1 := mod_lt (a := w) (b := (s.bs.length : Int)) (by omega)
        have m2 := mod_lt (a := u) (b := 201) (by omega)
        have m3 := mod_lt (a := a) (b := s.last + 1) (by omega)
        have z1 : ¬ (s.bs.length : Int) = 0 := by omega
        have z3 : ¬ s.last + 1 = 0 := by omega
        have c4 : IntKind.i64.wrap (s.last + 1) = s.last + 1 := w64 (by omega) (by omega)
        have c5 : IntKind.i64.wrap (u % 201 - 100) = u % 201 - 100 := w64 (by omega) (by omega)
        have t1 : w.tmod (s.bs.length : Int) = w % (s.bs.length : Int) := tmod_nn hw.1
        have t2 : u.tmod 201 = u % 201 := tmod_nn hu.1
        have t3 : a.tmod (s.last + 1) = a % (s.last + 1) := tmod_nn ha.1
        generalize w % (s.bs.length : Int) = b at *
        generalize u % 201 = x1 at *
        generalize a % (s.last + 1) = y at *
        obtain ⟨y, rfl⟩ : ∃ k : Nat, y = k := ⟨y.toNat, by omega⟩
        obtain ⟨x, hx1⟩ : ∃ x, x1 - 100 = x := ⟨_, rfl⟩
        have hLt := fun (G : Heap) => f28 (H := H ++ G) s (hvb.app G) (hvt.app G) (by omega) (by omega) b x y
        simp only [Stl.latest, hv, inB_of m1, inW_of (show -100 ≤ x ∧ x ≤ 100 by omega), inM_of (show 0 ≤ (y : Int) ∧ (y : Int) ≤ s.last by omega), Bool.and_self, if_true, Int.toNat_natCast] at hLt
        rw [hx1] at c5
        simp only [go_sem, ↓reduceIte, Nat.reduceEqDiff, Nat.reduceAdd, Nat.reduceLeDiff, Nat.reduceBEq, Nat.reduceMul, Nat.reduceLT, Int.reduceLT, Int.reduceLE, Int.reduceToNat, Int.reduceNeg, Int.reduceEq, Int.reduceMul, reduceCtorEq, Int.reduceBEq, Int.reduceBNe, Int.reduceAdd, Int.reduceSub, bne_self_eq_false, beq_self_eq_true, Nat.le_add_right, eqOk, fn10, res10, gc10, grow10, ty3, ty5, ty22, ty23, ty25, ty29, ty30, ty56, ty63, plan10_3, plan10_10, sb, st, hL, hl, hV, hv, hvt.len, List.length_map, ge_iff_le, h5, decide_false]
        rw [chkK_of]; rotate_left; kernel_rfl
        have hloop := fun n e h => Latest_loop (H := H) s hv (by omega) hvb hvt b x m1 (by omega) y (by omega) (y + 1) 0 n e (by omega) h
        cases hf : findN (fun j => settl (s.touch b ((y : Int) - j) x) b (s.blk b) y) 0 (y + 1) with
        | none =>
          simp only [hf] at hLt hloop
          have r1 : ¬ (y : Int) < 0 := by omega
          simp only [go_sem, ↓reduceIte, Nat.reduceEqDiff, Nat.reduceAdd, Nat.reduceLeDiff, Nat.reduceBEq, Nat.reduceMul, Nat.reduceLT, Int.reduceLT, Int.reduceLE, Int.reduceToNat, Int.reduceNeg, Int.reduceEq, Int.reduceMul, reduceCtorEq, Int.reduceBEq, Int.reduceBNe, Int.reduceAdd, Int.reduceSub, bne_self_eq_false, beq_self_eq_true, Nat.le_add_right, eqOk, fn10, res10, gc10, grow10, ty3, ty5, ty22, ty23, ty25, ty29, ty30, ty56, ty63, plan10_3, plan10_10, sb, st, hvb.len, List.length_map, c1, c2, c3, c4, z1, z3, t1, t2, t3, hx1, c5, hLt, gt_iff_lt, r1, decide_false]
          exact hloop 0 4 rfl _ (by rfl) (by rfl) (by rfl) (by rfl) (by rfl) (by rfl) (by simp [Env.get])
        | some i =>
          have hlt := find_lt hf
          simp only [hf] at hLt hloop
          have r1 : ¬ (y : Int) - i < 0 := by omega
          have r2 : ¬ (y : Int) < (y : Int) - i := by omega
          simp only [go_sem, ↓reduceIte, Nat.reduceEqDiff, Nat.reduceAdd, Nat.reduceLeDiff, Nat.reduceBEq, Nat.reduceMul, Nat.reduceLT, Int.reduceLT, Int.reduceLE, Int.reduceToNat, Int.reduceNeg, Int.reduceEq, Int.reduceMul, reduceCtorEq, Int.reduceBEq, Int.reduceBNe, Int.reduceAdd, Int.reduceSub, bne_self_eq_false, beq_self_eq_true, Nat.le_add_right, eqOk, fn10, res10, gc10, grow10, ty3, ty5, ty22, ty23, ty25, ty29, ty30, ty56, ty63, plan10_3, plan10_10, sb, st, hvb.len, List.length_map, c1, c2, c3, c4, z1, z3, t1, t2, t3, hx1, c5, hLt, gt_iff_lt, r1, r2, decide_false]
          exact hloop _ _ rfl _ (by rfl) (by rfl) (by rfl) (by rfl) (by rfl) (by rfl) (by simp [Env.get])

end Go.Ab
