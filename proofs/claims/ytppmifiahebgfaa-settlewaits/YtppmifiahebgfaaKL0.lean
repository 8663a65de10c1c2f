/-
  The law's own helpers: a span, a touch, the sample.
-/
import Derived.Test.YtppmifiahebgfaaKW0
import Derived.Test.YtppmifiahebgfaaKR0
namespace Go.Ab
open Go.Proofs
set_option linter.unusedSimpArgs false
set_option linter.unusedVariables false

theorem f31 (a b : Int) (H : Heap) : callFL cfg0 prog0 false 31 [I a, I b] H none = some ⟨.ret (.agg [I a, I b]), H, none⟩ := by
  refine (callFL_eq fn31 rfl (by simp [Try.f31])).trans ?_
  simp only [go_sem, ↓reduceIte, Nat.reduceEqDiff, Nat.reduceAdd, Nat.reduceLeDiff, Nat.reduceBEq, Nat.reduceMul, Nat.reduceLT, Int.reduceLT, Int.reduceLE, Int.reduceToNat, Int.reduceNeg, Int.reduceEq, Int.reduceMul, reduceCtorEq, fn31, res31, gc31, grow31, ty3, ty29]

theorem f39 (a b x y : Int) (H : Heap) : callFL cfg0 prog0 false 39 [I a, I b, I x, I y] H none = some ⟨.ret (.agg [I a, I b, I x, I y]), H, none⟩ := by
  refine (callFL_eq fn39 rfl (by simp [Try.f39])).trans ?_
  simp only [go_sem, ↓reduceIte, Nat.reduceEqDiff, Nat.reduceAdd, Nat.reduceLeDiff, Nat.reduceBEq, Nat.reduceMul, Nat.reduceLT, Int.reduceLT, Int.reduceLE, Int.reduceToNat, Int.reduceNeg, Int.reduceEq, Int.reduceMul, reduceCtorEq, fn39, res39, gc39, grow39, ty3, ty29, ty63, f31]

theorem f30_loop (H : Heap) {u v : AV} {xs ys : List (Int × Int)} (hu : SlOk H 2 u (xs.map spA)) (hv : SlOk H 2 v (ys.map spA)) (hlen : xs.length = ys.length) (hl : xs.length ≤ 100000) :
    ∀ (n k : Nat) (e : Env), k + n = xs.length → e.get 0 = u → e.get 1 = v → e.get 5 = I k →
    execL cfg0 prog0 ⟨30, none, false, H.length⟩ (todoAt Try.f30 4) ⟨e, [], H, none⟩ = some ⟨.ret (.bool (decide (xs.drop k = ys.drop k))), H, none⟩ := by
  intro n
  induction n with
  | zero =>
    intro k e hk g0 g1 g5
    have hk' : ¬ (k : Int) < xs.length := by omega
    have d1 : xs.drop k = [] := List.drop_eq_nil_of_le (by omega)
    have d2 : ys.drop k = [] := List.drop_eq_nil_of_le (by omega)
    simp only [loopIt, todoPast, todoAt, todoOf, firstReg, ↓reduceIte, Option.some.injEq, Nat.reduceEqDiff, reduceCtorEq, Try.f30]
    rw [execL_inLoop]
    simp only [go_sem, ↓reduceIte, Nat.reduceEqDiff, Nat.reduceAdd, Nat.reduceLeDiff, Nat.reduceBEq, Nat.reduceMul, Nat.reduceLT, Int.reduceLT, Int.reduceLE, Int.reduceToNat, Int.reduceNeg, Int.reduceEq, Int.reduceMul, reduceCtorEq, fn30, res30, gc30, grow30, ty3, ty29, ty38, plan30_6, eqt29, g0, g1, g5, hu.len, List.length_map, hk', d1, d2]
  | succ n ih =>
    intro k e hk g0 g1 g5
    have hk' : (k : Int) < xs.length := by omega
    have hkx : k < xs.length := by omega
    have hky : k < ys.length := by omega
    have ex : (xs.map spA)[(k : Int).toNat]? = some (spA xs[k]) := by simp [hkx]
    have ey : (ys.map spA)[(k : Int).toNat]? = some (spA ys[k]) := by simp [hky]
    obtain ⟨a1, a2, a3, a4, a5⟩ := hu.at (by omega) ex
    obtain ⟨b1, b2, b3, b4, b5⟩ := hv.at (by omega) ey
    have w : IntKind.i64.wrap ((k : Int) + 1) = ((k + 1 : Nat) : Int) := by rw [w64 (by omega) (by omega)]; omega
    have d1 : xs.drop k = xs[k] :: xs.drop (k + 1) := List.drop_eq_getElem_cons hkx
    have d2 : ys.drop k = ys[k] :: ys.drop (k + 1) := List.drop_eq_getElem_cons hky
    simp only [loopIt, todoPast, todoAt, todoOf, firstReg, ↓reduceIte, Option.some.injEq, Nat.reduceEqDiff, reduceCtorEq, Try.f30]
    rw [execL_inLoop]
    simp only [go_sem, ↓reduceIte, Nat.reduceEqDiff, Nat.reduceAdd, Nat.reduceLeDiff, Nat.reduceBEq, Nat.reduceMul, Nat.reduceLT, Int.reduceLT, Int.reduceLE, Int.reduceToNat, Int.reduceNeg, Int.reduceEq, Int.reduceMul, reduceCtorEq, fn30, res30, gc30, grow30, ty3, ty29, ty38, plan30_6, eqt29, g0, g1, g5, hu.len, List.length_map, hk']
    rw [chkK_of]; rotate_left; kernel_rfl
    have hp : ∀ p q : Int × Int, p = q ↔ p.1 = q.1 ∧ p.2 = q.2 := fun p q => Prod.ext_iff
    by_cases h1 : xs[k].1 = ys[k].1
    · by_cases h2 : xs[k].2 = ys[k].2
      · have hd : decide (xs.drop k = ys.drop k) = decide (xs.drop (k + 1) = ys.drop (k + 1)) := by
          rw [d1, d2]; simp only [List.cons.injEq, hp, h1, h2, true_and, and_self]
        rw [hd]
        simp only [go_sem, ↓reduceIte, Nat.reduceEqDiff, Nat.reduceAdd, Nat.reduceLeDiff, Nat.reduceBEq, Nat.reduceMul, Nat.reduceLT, Int.reduceLT, Int.reduceLE, Int.reduceToNat, Int.reduceNeg, Int.reduceEq, Int.reduceMul, reduceCtorEq, fn30, res30, gc30, grow30, ty3, ty29, ty38, plan30_6, eqt29, g0, g1, g5, a1, a2, a3, b1, b2, b3, spA, hu.lt0, hv.lt0, w, sameL, AV.same, eqOk, h1, h2]
        exact ih (k + 1) _ (by omega) (by exact g0) (by exact g1) (by rfl)
      · have hd : decide (xs.drop k = ys.drop k) = false := by
          rw [d1, d2]; simp only [List.cons.injEq, hp, h2, and_false, false_and, decide_false]
        have h2' : (xs[k].2 == ys[k].2) = false := by simpa using h2
        rw [hd]
        simp only [go_sem, ↓reduceIte, Nat.reduceEqDiff, Nat.reduceAdd, Nat.reduceLeDiff, Nat.reduceBEq, Nat.reduceMul, Nat.reduceLT, Int.reduceLT, Int.reduceLE, Int.reduceToNat, Int.reduceNeg, Int.reduceEq, Int.reduceMul, reduceCtorEq, fn30, res30, gc30, grow30, ty3, ty29, ty38, plan30_6, eqt29, g0, g1, g5, a1, a2, a3, b1, b2, b3, spA, hu.lt0, hv.lt0, w, sameL, AV.same, eqOk, h1, h2']
    · have hd : decide (xs.drop k = ys.drop k) = false := by
          rw [d1, d2]; simp only [List.cons.injEq, hp, h1, false_and, decide_false]
      have h1' : (xs[k].1 == ys[k].1) = false := by simpa using h1
      rw [hd]
      simp only [go_sem, ↓reduceIte, Nat.reduceEqDiff, Nat.reduceAdd, Nat.reduceLeDiff, Nat.reduceBEq, Nat.reduceMul, Nat.reduceLT, Int.reduceLT, Int.reduceLE, Int.reduceToNat, Int.reduceNeg, Int.reduceEq, Int.reduceMul, reduceCtorEq, fn30, res30, gc30, grow30, ty3, ty29, ty38, plan30_6, eqt29, g0, g1, g5, a1, a2, a3, b1, b2, b3, spA, hu.lt0, hv.lt0, w, sameL, AV.same, eqOk, h1']

theorem f30 (H : Heap) {u v : AV} {xs ys : List (Int × Int)} (hu : SlOk H 2 u (xs.map spA)) (hv : SlOk H 2 v (ys.map spA)) (hl : xs.length ≤ 100000) (hl' : ys.length ≤ 100000) :
    callFL cfg0 prog0 false 30 [u, v] H none = some ⟨.ret (.bool (decide (xs = ys))), H, none⟩ := by
  have su := hu.scal
  have sv := hv.scal
  refine (callFL_eq fn30 rfl (by simp [Try.f30])).trans ?_
  by_cases hlen : xs.length = ys.length
  · simp only [go_sem, ↓reduceIte, Nat.reduceEqDiff, Nat.reduceAdd, Nat.reduceLeDiff, Nat.reduceBEq, Nat.reduceMul, Nat.reduceLT, Int.reduceLT, Int.reduceLE, Int.reduceToNat, Int.reduceNeg, Int.reduceEq, Int.reduceMul, reduceCtorEq, fn30, res30, gc30, grow30, ty3, ty29, ty38, plan30_6, eqt29, hu.len, hv.len, List.length_map, hlen]
    refine (congrArg (Option.map _) (f30_loop H hu hv hlen hl xs.length 0 _ (by omega) (by rfl) (by rfl) (by rfl))).trans ?_
    simp only [go_sem, ↓reduceIte, Nat.reduceEqDiff, Nat.reduceAdd, Nat.reduceLeDiff, Nat.reduceBEq, Nat.reduceMul, Nat.reduceLT, Int.reduceLT, Int.reduceLE, Int.reduceToNat, Int.reduceNeg, Int.reduceEq, Int.reduceMul, reduceCtorEq]
  · have hi : ((xs.length : Int) == ys.length) = false := by
      have : ¬ (xs.length : Int) = ys.length := by omega
      simpa using this
    have hd : decide (xs = ys) = false := by
      simp only [decide_eq_false_iff_not]
      rintro rfl; exact hlen rfl
    simp only [go_sem, ↓reduceIte, Nat.reduceEqDiff, Nat.reduceAdd, Nat.reduceLeDiff, Nat.reduceBEq, Nat.reduceMul, Nat.reduceLT, Int.reduceLT, Int.reduceLE, Int.reduceToNat, Int.reduceNeg, Int.reduceEq, Int.reduceMul, reduceCtorEq, fn30, res30, gc30, grow30, ty3, ty29, ty38, plan30_6, eqt29, hu.len, hv.len, List.length_map, hi, hd, bne]

def smp : Stl := ⟨[⟨40, 44, 4, 4, 10, 12⟩, ⟨-6, -5, 2, 3, 0, 0⟩], 5, 12, [⟨1, 4, 8, 10⟩]⟩

/-- The sample as the program holds it. -/
def smpA : AV := .agg [.sl true (smp.bs.map Blk.av), I 5, I 12, .sl true (smp.ts.map Tch.av)]

theorem f32 (H : Heap) : callFL cfg0 prog0 false 32 [] H none = some ⟨.ret smpA, H, none⟩ := by
  refine (callFL_eq fn32 rfl (by simp [Try.f32])).trans ?_
  simp only [go_sem, ↓reduceIte, Nat.reduceEqDiff, Nat.reduceAdd, Nat.reduceLeDiff, Nat.reduceBEq, Nat.reduceMul, Nat.reduceLT, Int.reduceLT, Int.reduceLE, Int.reduceToNat, Int.reduceNeg, Int.reduceEq, Int.reduceMul, reduceCtorEq, fn32, res32, gc32, grow32, ty3, ty22, ty23, ty25, ty29, ty56, ty63, f31, f39]
  rfl

theorem smp_b (H : Heap) : SlOk H 6 (.sl true (smp.bs.map Blk.av)) (smp.bs.map Blk.av) := ⟨rfl, by simp [smp, Blk.av, AV.cells]⟩
theorem smp_t (H : Heap) : SlOk H 4 (.sl true (smp.ts.map Tch.av)) (smp.ts.map Tch.av) := ⟨rfl, by simp [smp, Tch.av, AV.cells]⟩

theorem smp14a_e : smp.excess 0 4 = (12, 13, 0) := by kernel_rfl
theorem smp14a (H : Heap) : callFL cfg0 prog0 false 14 [smpA, I 0, I 4] H none = some ⟨.ret (.tup [.agg [I 12, I 13], I 0]), H, none⟩ := by
  refine (f14 smp (smp_b H) (smp_t H) (by decide) (by decide) 0 4).trans ?_
  rw [smp14a_e]

theorem smp14b_e : smp.excess 0 7 = (4, 4, 0) := by kernel_rfl
theorem smp14b (H : Heap) : callFL cfg0 prog0 false 14 [smpA, I 0, I 7] H none = some ⟨.ret (.tup [.agg [I 4, I 4], I 0]), H, none⟩ := by
  refine (f14 smp (smp_b H) (smp_t H) (by decide) (by decide) 0 7).trans ?_
  rw [smp14b_e]

theorem smp14c_e : smp.excess 1 1 = (-4, -2, 0) := by kernel_rfl
theorem smp14c (H : Heap) : callFL cfg0 prog0 false 14 [smpA, I 1, I 1] H none = some ⟨.ret (.tup [.agg [I (-4), I (-2)], I 0]), H, none⟩ := by
  refine (f14 smp (smp_b H) (smp_t H) (by decide) (by decide) 1 1).trans ?_
  rw [smp14c_e]

theorem smp14d_e : smp.excess 1 4 = (8, 10, 0) := by kernel_rfl
theorem smp14d (H : Heap) : callFL cfg0 prog0 false 14 [smpA, I 1, I 4] H none = some ⟨.ret (.tup [.agg [I 8, I 10], I 0]), H, none⟩ := by
  refine (f14 smp (smp_b H) (smp_t H) (by decide) (by decide) 1 4).trans ?_
  rw [smp14d_e]

theorem smp14e_e : smp.excess 1 5 = (4, 6, 0) := by kernel_rfl
theorem smp14e (H : Heap) : callFL cfg0 prog0 false 14 [smpA, I 1, I 5] H none = some ⟨.ret (.tup [.agg [I 4, I 6], I 0]), H, none⟩ := by
  refine (f14 smp (smp_b H) (smp_t H) (by decide) (by decide) 1 5).trans ?_
  rw [smp14e_e]

theorem smp16a_e : smp.longer 1 4 = (0, 0, 0) := by kernel_rfl
theorem smp16a (H : Heap) : callFL cfg0 prog0 false 16 [smpA, I 1, I 4] H none = some ⟨.ret (.tup [.agg [I 0, I 0], I 0]), H, none⟩ := by
  refine (f16 smp (smp_b H) (smp_t H) (by decide) (by decide) 1 4).trans ?_
  rw [smp16a_e]

theorem smp16b_e : smp.longer 0 0 = (40, 52, 0) := by kernel_rfl
theorem smp16b (H : Heap) : callFL cfg0 prog0 false 16 [smpA, I 0, I 0] H none = some ⟨.ret (.tup [.agg [I 40, I 52], I 0]), H, none⟩ := by
  refine (f16 smp (smp_b H) (smp_t H) (by decide) (by decide) 0 0).trans ?_
  rw [smp16b_e]

theorem smp18a_e : smp.settled 0 7 = (2, 0) := by kernel_rfl
theorem smp18a (H : Heap) : callFL cfg0 prog0 false 18 [smpA, I 0, I 7] H none = some ⟨.ret (.tup [I 2, I 0]), H, none⟩ := by
  refine (f18 smp (smp_b H) (smp_t H) (by decide) (by decide) 0 7).trans ?_
  rw [smp18a_e]

theorem smp18b_e : smp.settled 1 0 = (1, 0) := by kernel_rfl
theorem smp18b (H : Heap) : callFL cfg0 prog0 false 18 [smpA, I 1, I 0] H none = some ⟨.ret (.tup [I 1, I 0]), H, none⟩ := by
  refine (f18 smp (smp_b H) (smp_t H) (by decide) (by decide) 1 0).trans ?_
  rw [smp18b_e]

theorem smp18c_e : smp.settled 1 5 = (1, 0) := by kernel_rfl
theorem smp18c (H : Heap) : callFL cfg0 prog0 false 18 [smpA, I 1, I 5] H none = some ⟨.ret (.tup [I 1, I 0]), H, none⟩ := by
  refine (f18 smp (smp_b H) (smp_t H) (by decide) (by decide) 1 5).trans ?_
  rw [smp18c_e]

theorem smp18d_e : smp.settled 0 6 = (0, 0) := by kernel_rfl
theorem smp18d (H : Heap) : callFL cfg0 prog0 false 18 [smpA, I 0, I 6] H none = some ⟨.ret (.tup [I 0, I 0]), H, none⟩ := by
  refine (f18 smp (smp_b H) (smp_t H) (by decide) (by decide) 0 6).trans ?_
  rw [smp18d_e]

theorem smp20a_e : smp.when 0 = (7, 0) := by kernel_rfl
theorem smp20a (H : Heap) : callFL cfg0 prog0 false 20 [smpA, I 0] H none = some ⟨.ret (.tup [I 7, I 0]), H, none⟩ := by
  refine (f20 smp (smp_b H) (smp_t H) (by decide) (by decide) 0).trans ?_
  rw [smp20a_e]

theorem smp20b_e : smp.when 1 = (6, 0) := by kernel_rfl
theorem smp20b (H : Heap) : callFL cfg0 prog0 false 20 [smpA, I 1] H none = some ⟨.ret (.tup [I 6, I 0]), H, none⟩ := by
  refine (f20 smp (smp_b H) (smp_t H) (by decide) (by decide) 1).trans ?_
  rw [smp20b_e]

theorem smp22a_e : smp.allS = (7, 0) := by kernel_rfl
theorem smp22a (H : Heap) : callFL cfg0 prog0 false 22 [smpA] H none = some ⟨.ret (.tup [I 7, I 0]), H, none⟩ := by
  refine (f22 smp (smp_b H) (smp_t H) (by decide) (by decide)).trans ?_
  rw [smp22a_e]

theorem smp26a_e : smp.wait 0 44 = (7, 0) := by kernel_rfl
theorem smp26a (H : Heap) : callFL cfg0 prog0 false 26 [smpA, I 0, I 44] H none = some ⟨.ret (.tup [I 7, I 0]), H, none⟩ := by
  refine (f26 smp (smp_b H) (smp_t H) (by decide) (by decide) 0 44).trans ?_
  rw [smp26a_e]

theorem smp26b_e : smp.wait 0 5 = (0, 0) := by kernel_rfl
theorem smp26b (H : Heap) : callFL cfg0 prog0 false 26 [smpA, I 0, I 5] H none = some ⟨.ret (.tup [I 0, I 0]), H, none⟩ := by
  refine (f26 smp (smp_b H) (smp_t H) (by decide) (by decide) 0 5).trans ?_
  rw [smp26b_e]

theorem smp26c_e : smp.wait 1 (-9) = (2, 0) := by kernel_rfl
theorem smp26c (H : Heap) : callFL cfg0 prog0 false 26 [smpA, I 1, I (-9)] H none = some ⟨.ret (.tup [I 2, I 0]), H, none⟩ := by
  refine (f26 smp (smp_b H) (smp_t H) (by decide) (by decide) 1 (-9)).trans ?_
  rw [smp26c_e]

theorem smp28a_e : smp.latest 0 100 7 = (0, 4) := by kernel_rfl
theorem smp28a (H : Heap) : callFL cfg0 prog0 false 28 [smpA, I 0, I 100, I 7] H none = some ⟨.ret (.tup [I 0, I 4]), H, none⟩ := by
  refine (f28 smp (smp_b H) (smp_t H) (by decide) (by decide) 0 100 7).trans ?_
  rw [smp28a_e]

theorem smp28b_e : smp.latest 0 20 12 = (7, 0) := by kernel_rfl
theorem smp28b (H : Heap) : callFL cfg0 prog0 false 28 [smpA, I 0, I 20, I 12] H none = some ⟨.ret (.tup [I 7, I 0]), H, none⟩ := by
  refine (f28 smp (smp_b H) (smp_t H) (by decide) (by decide) 0 20 12).trans ?_
  rw [smp28b_e]

theorem smp24_e (n : Int) (l : List (Int × Int)) (h1 : smp.valid = true) (h2 : smp.inB n = true) (h3 : smp.restsL n = l) (H : Heap) : callFL cfg0 prog0 false 24 [smpA, I n] H none = some ⟨.ret (.tup [.sl false (l.map spA), I 0]), H, none⟩ := by
  refine (f24 smp (smp_b H) (smp_t H) (by decide) (by decide) n).trans ?_
  rw [h1, h2, h3]; rfl

theorem smp24a (H : Heap) : callFL cfg0 prog0 false 24 [smpA, I 0] H none = some ⟨.ret (.tup [.sl false [.agg [I 7, I 12]], I 0]), H, none⟩ := smp24_e 0 [(7, 12)] (by kernel_rfl) (by kernel_rfl) (by kernel_rfl) H
theorem smp24b (H : Heap) : callFL cfg0 prog0 false 24 [smpA, I 1] H none = some ⟨.ret (.tup [.sl false [.agg [I 1, I 3], .agg [I 6, I 12]], I 0]), H, none⟩ := smp24_e 1 [(1, 3), (6, 12)] (by kernel_rfl) (by kernel_rfl) (by kernel_rfl) H

end Go.Ab
/-
  The sample is alive; the names that the statement gives are true of it.
-/
namespace Go.Ab
open Go.Proofs
set_option linter.unusedSimpArgs false
set_option linter.unusedVariables false
set_option maxRecDepth 100000

theorem spans_a (H : Heap) (u v : Bool) : callFL cfg0 prog0 false 30 [.sl u [.agg [I 1, I 3], .agg [I 6, I 12]], .sl v [.agg [I 1, I 3], .agg [I 6, I 12]]] H none = some ⟨.ret (.bool true), H, none⟩ :=
  (f30 H (xs := [(1, 3), (6, 12)]) (ys := [(1, 3), (6, 12)]) ⟨rfl, by simp [spA, AV.cells]⟩ ⟨rfl, by simp [spA, AV.cells]⟩ (by simp) (by simp)).trans (by simp)

theorem spans_b (H : Heap) (u v : Bool) : callFL cfg0 prog0 false 30 [.sl u [.agg [I 7, I 12]], .sl v [.agg [I 7, I 12]]] H none = some ⟨.ret (.bool true), H, none⟩ :=
  (f30 H (xs := [(7, 12)]) (ys := [(7, 12)]) ⟨rfl, by simp [spA, AV.cells]⟩ ⟨rfl, by simp [spA, AV.cells]⟩ (by simp) (by simp)).trans (by simp)

theorem smpA_c : smpA.cells = [.sl true (smp.bs.map Blk.av), I 5, I 12, .sl true (smp.ts.map Tch.av)] := rfl

theorem f13 (H : Heap) : callFL cfg0 prog0 false 13 [] H none = some ⟨.ret (.bool true), H, none⟩ := by
  refine (callFL_eq fn13 rfl (by simp [Try.f13])).trans ?_
  simp only [go_sem, ↓reduceIte, Nat.reduceEqDiff, Nat.reduceAdd, Nat.reduceLeDiff, Nat.reduceBEq, Nat.reduceMul, Nat.reduceLT, Int.reduceLT, Int.reduceLE, Int.reduceToNat, Int.reduceNeg, Int.reduceEq, Int.reduceMul, reduceCtorEq, fn13, res13, gc13, grow13, ty3, ty22, ty23, ty25, ty29, ty30, ty38, ty56, ty63, plan13_10, eqt29, List.append_eq, f32, f31, smp14e, smp16b, smp18c, smp20b, smp22a, smp24b, smp26c, smp28b, smp18d]
  rw [chkK_of]; rotate_left; kernel_rfl
  simp only [go_sem, ↓reduceIte, Nat.reduceEqDiff, Nat.reduceAdd, Nat.reduceLeDiff, Nat.reduceBEq, Nat.reduceMul, Nat.reduceLT, Int.reduceLT, Int.reduceLE, Int.reduceToNat, Int.reduceNeg, Int.reduceEq, Int.reduceMul, reduceCtorEq, fn13, res13, gc13, grow13, ty3, ty22, ty23, ty25, ty29, ty30, ty38, ty56, ty63, plan13_10, eqt29, List.append_eq, f32, f31, smp14e, smp16b, smp18c, smp20b, smp22a, smp24b, smp26c, smp28b, smp18d, eqOk, sameL, AV.same, spans_a]
  done

end Go.Ab
/-
  The laws that compare with the document's results, walked.
-/
namespace Go.Ab
open Go.Proofs
set_option linter.unusedSimpArgs false
set_option linter.unusedVariables false
set_option maxRecDepth 100000

variable {H : Heap} {vb vt : AV}

theorem law_long (s : Stl) (hvb : SlOk H 6 vb (s.bs.map Blk.av)) (hvt : SlOk H 4 vt (s.ts.map Tch.av)) (G : Heap) :
    callFL cfg0 prog0 false 12 [.agg [vb, I s.near, I s.last, vt]] G none = some ⟨.ret (.bool (decide (40 < (if (s.bs.length : Int) < s.ts.length then (s.ts.length : Int) else s.bs.length)))), G, none⟩ :=
  f12 s.near s.last vb vt s.bs.length s.ts.length G (by rw [hvb.len, List.length_map]) (by rw [hvt.len, List.length_map]) hvb.scal hvt.scal

theorem long_cases (s : Stl) : decide (40 < (if (s.bs.length : Int) < s.ts.length then (s.ts.length : Int) else s.bs.length)) = true ∨ (decide (40 < (if (s.bs.length : Int) < s.ts.length then (s.ts.length : Int) else s.bs.length)) = false ∧ s.bs.length ≤ 40 ∧ s.ts.length ≤ 40) := by
  by_cases h : 40 < (if (s.bs.length : Int) < s.ts.length then (s.ts.length : Int) else s.bs.length)
  · exact .inl (by simpa using h)
  · refine .inr ⟨by simpa using h, ?_⟩
    split at h <;> omega

theorem same_int (n : Int) : AV.same (I n) (I n) = true := by simp [AV.same]

theorem law_SettleTells (s : Stl) (hvb : SlOk H 6 vb (s.bs.map Blk.av)) (hvt : SlOk H 4 vt (s.ts.map Tch.av)) (n m : Int) :
    callFL cfg0 prog0 false 3 [.agg [vb, I s.near, I s.last, vt], I n, I m] H none = some ⟨.ret (.bool true), H, none⟩ := by
  have sb := hvb.scal
  have st := hvt.scal
  have hL := law_long s hvb hvt
  refine (callFL_eq fn3 rfl (by simp [Try.f3])).trans ?_
  rcases long_cases s with hl | ⟨hl, hl1, hl2⟩
  · simp only [go_sem, ↓reduceIte, Nat.reduceEqDiff, Nat.reduceAdd, Nat.reduceLeDiff, Nat.reduceBEq, Nat.reduceMul, Nat.reduceLT, Int.reduceLT, Int.reduceLE, Int.reduceToNat, Int.reduceNeg, Int.reduceEq, Int.reduceMul, reduceCtorEq, Int.reduceBEq, Int.reduceBNe, Int.reduceAdd, Int.reduceSub, bne_self_eq_false, beq_self_eq_true, Nat.le_add_right, fn3, res3, gc3, grow3, ty3, ty22, ty23, ty25, ty29, ty30, ty56, ty63, eqt29, sb, st, hL, hl, f13]
  · have h1 := fun (G : Heap) => f14 (H := H ++ G) s (hvb.app G) (hvt.app G) (by omega) (by omega) n m
    have h2 := fun (G : Heap) => ref_Excess (H := H ++ G) s (hvb.app G) (hvt.app G) (by omega) (by omega) n m
    have h3 := fun (G : Heap) => f16 (H := H ++ G) s (hvb.app G) (hvt.app G) (by omega) (by omega) n m
    have h4 := fun (G : Heap) => ref_Longer (H := H ++ G) s (hvb.app G) (hvt.app G) (by omega) (by omega) n m
    have h5 := fun (G : Heap) => f18 (H := H ++ G) s (hvb.app G) (hvt.app G) (by omega) (by omega) n m
    have h6 := fun (G : Heap) => ref_Settled (H := H ++ G) s (hvb.app G) (hvt.app G) (by omega) (by omega) n m
    simp only [go_sem, ↓reduceIte, Nat.reduceEqDiff, Nat.reduceAdd, Nat.reduceLeDiff, Nat.reduceBEq, Nat.reduceMul, Nat.reduceLT, Int.reduceLT, Int.reduceLE, Int.reduceToNat, Int.reduceNeg, Int.reduceEq, Int.reduceMul, reduceCtorEq, Int.reduceBEq, Int.reduceBNe, Int.reduceAdd, Int.reduceSub, bne_self_eq_false, beq_self_eq_true, Nat.le_add_right, fn3, res3, gc3, grow3, ty3, ty22, ty23, ty25, ty29, ty30, ty56, ty63, eqt29, sb, st, hL, hl, h1, h2, h3, h4, h5, h6, f13, eqOk, sameL, same_int, Bool.and_self]

theorem law_SettleWaits (s : Stl) (hvb : SlOk H 6 vb (s.bs.map Blk.av)) (hvt : SlOk H 4 vt (s.ts.map Tch.av)) (n x y : Int) :
    callFL cfg0 prog0 false 4 [.agg [vb, I s.near, I s.last, vt], I n, I x, I y] H none = some ⟨.ret (.bool true), H, none⟩ := by
  have sb := hvb.scal
  have st := hvt.scal
  have hL := law_long s hvb hvt
  refine (callFL_eq fn4 rfl (by simp [Try.f4])).trans ?_
  rcases long_cases s with hl | ⟨hl, hl1, hl2⟩
  · simp only [go_sem, ↓reduceIte, Nat.reduceEqDiff, Nat.reduceAdd, Nat.reduceLeDiff, Nat.reduceBEq, Nat.reduceMul, Nat.reduceLT, Int.reduceLT, Int.reduceLE, Int.reduceToNat, Int.reduceNeg, Int.reduceEq, Int.reduceMul, reduceCtorEq, Int.reduceBEq, Int.reduceBNe, Int.reduceAdd, Int.reduceSub, bne_self_eq_false, beq_self_eq_true, Nat.le_add_right, fn4, res4, gc4, grow4, ty3, ty22, ty23, ty25, ty29, ty30, ty38, ty56, ty63, sb, st, hL, hl, f13]
  · have h1 := fun (G : Heap) => f20 (H := H ++ G) s (hvb.app G) (hvt.app G) (by omega) (by omega) n
    have h2 := fun (G : Heap) => ref_When (H := H ++ G) s (hvb.app G) (hvt.app G) (by omega) (by omega) n
    have h3 := fun (G : Heap) => f22 (H := H ++ G) s (hvb.app G) (hvt.app G) (by omega) (by omega)
    have h4 := fun (G : Heap) => ref_All (H := H ++ G) s (hvb.app G) (hvt.app G) (by omega) (by omega)
    have h5 := fun (G : Heap) => f24 (H := H ++ G) s (hvb.app G) (hvt.app G) (by omega) (by omega) n
    have h6 := fun (G : Heap) => ref_Rests (H := H ++ G) s (hvb.app G) (hvt.app G) (by omega) (by omega) n
    have h7 := fun (G : Heap) => f26 (H := H ++ G) s (hvb.app G) (hvt.app G) (by omega) (by omega) n x
    have h8 := fun (G : Heap) => ref_Wait (H := H ++ G) s (hvb.app G) (hvt.app G) (by omega) (by omega) n x
    have h9 := fun (G : Heap) => f28 (H := H ++ G) s (hvb.app G) (hvt.app G) (by omega) (by omega) n x y
    have h10 := fun (G : Heap) => ref_Latest (H := H ++ G) s (hvb.app G) (hvt.app G) (by omega) (by omega) n x y
    have hnil := fun (G : Heap) => f30 G (u := .sl true []) (v := .sl true []) (xs := []) (ys := []) ⟨rfl, by simp⟩ ⟨rfl, by simp⟩ (by simp) (by simp)
    cases hv : s.valid with
    | false =>
      simp only [hv, Bool.false_eq_true, if_false] at h5 h6
      simp only [go_sem, ↓reduceIte, Nat.reduceEqDiff, Nat.reduceAdd, Nat.reduceLeDiff, Nat.reduceBEq, Nat.reduceMul, Nat.reduceLT, Int.reduceLT, Int.reduceLE, Int.reduceToNat, Int.reduceNeg, Int.reduceEq, Int.reduceMul, reduceCtorEq, Int.reduceBEq, Int.reduceBNe, Int.reduceAdd, Int.reduceSub, bne_self_eq_false, beq_self_eq_true, Nat.le_add_right, fn4, res4, gc4, grow4, ty3, ty22, ty23, ty25, ty29, ty30, ty38, ty56, ty63, sb, st, hL, hl, h1, h2, h3, h4, h5, h6, h7, h8, h9, h10, hnil, f13, decide_true]
    | true =>
      cases hb : s.inB n with
      | false =>
        simp only [hv, hb, Bool.false_eq_true, if_false, if_true] at h5 h6
        simp only [go_sem, ↓reduceIte, Nat.reduceEqDiff, Nat.reduceAdd, Nat.reduceLeDiff, Nat.reduceBEq, Nat.reduceMul, Nat.reduceLT, Int.reduceLT, Int.reduceLE, Int.reduceToNat, Int.reduceNeg, Int.reduceEq, Int.reduceMul, reduceCtorEq, Int.reduceBEq, Int.reduceBNe, Int.reduceAdd, Int.reduceSub, bne_self_eq_false, beq_self_eq_true, Nat.le_add_right, fn4, res4, gc4, grow4, ty3, ty22, ty23, ty25, ty29, ty30, ty38, ty56, ty63, sb, st, hL, hl, h1, h2, h3, h4, h5, h6, h7, h8, h9, h10, hnil, f13, decide_true]
      | true =>
        have hw := Stl.valid_wf hv
        have hlen : (s.restsL n).length ≤ 100 := by
          have := (restsR_bd (settl s n (s.blk n)) (s.last.toNat + 1)).1
          have := hw.last
          simp only [Stl.restsL]; omega
        have hsp := fun (G : Heap) => f30 G (u := .sl false ((s.restsL n).map spA)) (v := .sl false ((s.restsL n).map spA)) (xs := s.restsL n) (ys := s.restsL n) ⟨rfl, by simp only [List.mem_map]; rintro _ ⟨p, _, rfl⟩; rfl⟩ ⟨rfl, by simp only [List.mem_map]; rintro _ ⟨p, _, rfl⟩; rfl⟩ (by omega) (by omega)
        simp only [hv, hb, if_true] at h5 h6
        simp only [go_sem, ↓reduceIte, Nat.reduceEqDiff, Nat.reduceAdd, Nat.reduceLeDiff, Nat.reduceBEq, Nat.reduceMul, Nat.reduceLT, Int.reduceLT, Int.reduceLE, Int.reduceToNat, Int.reduceNeg, Int.reduceEq, Int.reduceMul, reduceCtorEq, Int.reduceBEq, Int.reduceBNe, Int.reduceAdd, Int.reduceSub, bne_self_eq_false, beq_self_eq_true, Nat.le_add_right, fn4, res4, gc4, grow4, ty3, ty22, ty23, ty25, ty29, ty30, ty38, ty56, ty63, sb, st, hL, hl, h1, h2, h3, h4, h5, h6, h7, h8, h9, h10, hsp, f13, decide_true]

end Go.Ab
