/-
  ColourNames, walked.
-/
import Derived.Test.YtlhnmpclnbpnhaaKK4
namespace Go.Ab
open Go.Proofs
set_option linter.unusedSimpArgs false
set_option linter.unusedVariables false
set_option maxRecDepth 100000
set_option maxHeartbeats 2000000

variable {H : Heap}

structure Row4 where
  (a b c d : Int)
def Row4.av (r : Row4) : AV := .agg [I r.a, I r.b, I r.c, I r.d]
def rows4 : List Row4 := [⟨2, 3, 2, 115⟩, ⟨0, 21, 7, 100⟩, ⟨3, 0, 1, 130⟩, ⟨1, 2, 2, 120⟩]
def rowsV : AV := .sl true (rows4.map Row4.av)
theorem rows_ok (H : Heap) : SlOk H 4 rowsV (rows4.map Row4.av) := ⟨rfl, by simp [Row4.av, AV.cells]⟩
theorem rows_so : ∀ r ∈ rows4, smp.pairsR r.a = (r.b, r.c, 0) ∧ smp.reachR r.a = (r.d, 0) := by
  simp only [rows4, List.forall_mem_cons]
  exact ⟨⟨by decide +kernel, by decide +kernel⟩, ⟨by decide +kernel, by decide +kernel⟩, ⟨by decide +kernel, by decide +kernel⟩, ⟨by decide +kernel, by decide +kernel⟩, by simp⟩

theorem names_loop  (K : List Item) (R : Option Done) (hK : ∀ E : Env, E.get 113 = rowsV → E.get 114 = I rows4.length → Option.map (finishC H.length) (execL cfg0 prog0 ⟨5, none, false, H.length⟩ K ⟨E, [], H, none⟩) = R)  :
    ∀ (q j : Nat), j + q = rows4.length → ∀ (G : Heap), ∀ E : Env, E.get 113 = rowsV → E.get 114 = I rows4.length → E.get 115 = I j →
    Option.map (finishC H.length) (execL cfg0 prog0 ⟨5, none, false, H.length⟩ (loopIt Try.f5 10 :: .inBlock 0 :: K) ⟨E, [], H ++ G, none⟩) = R := by
  intro q
  have hS := law_sample
  have hP := fun (n : Int) (G : Heap) => co_Pairs (smp_at G) smp_len n
  have hR := fun (n : Int) (G : Heap) => co_Reach (smp_at G) smp_len n
  generalize smp.av smpW smpP = sv at hS hP hR
  induction q with
  | zero =>
    intro j hj G E g113 g114 g115
    have hk' : ¬ (j : Int) < ((rows4.length : Nat) : Int) := by omega
    simp only [loopIt, todoPast, todoAt, todoOf, firstReg, ↓reduceIte, Option.some.injEq, Nat.reduceEqDiff, reduceCtorEq, Try.f5]
    rw [execL_inLoop]
    have hlt := (rows_ok H).lt0
    simp (maxSteps := 1000000) (disch := first | rfl | omega | assumption) only [go_sem, ↓reduceIte, Nat.reduceEqDiff, Nat.reduceAdd, Nat.reduceLeDiff, Nat.reduceBEq, Nat.reduceMul, Nat.reduceLT, Int.reduceLT, Int.reduceLE, Int.reduceToNat, Int.reduceNeg, Int.reduceEq, Int.reduceMul, reduceCtorEq, Int.reduceBEq, Int.reduceBNe, Int.reduceAdd, Int.reduceSub, g113, g114, g115, ltT, ltF, leT, leF, hk', hlt]
    exact hK _ (by rfl) (by rfl)
  | succ q ih =>
    intro j hj G E g113 g114 g115
    have hk' : (j : Int) < ((rows4.length : Nat) : Int) := by omega
    have hk2 : j < rows4.length := by omega
    obtain ⟨a1, a2, a3, a4, a5⟩ := (rows_ok H).at (k := (j : Int)) (x := Row4.av rows4[j]) (by omega) (by simp [hk2])
    obtain ⟨e1, e2⟩ := rows_so rows4[j] (List.getElem_mem hk2)
    have hlt := (rows_ok H).lt0
    have hP1 := fun G : Heap => hP rows4[j].a G
    have hR1 := fun G : Heap => hR rows4[j].a G
    simp only [e1] at hP1
    simp only [e2] at hR1
    have hj4 : (j : Int) < 4 := by have : rows4.length = 4 := rfl; omega
    generalize rows4[j] = r at *
    clear hP hR e1 e2
    simp only [loopIt, todoPast, todoAt, todoOf, firstReg, ↓reduceIte, Option.some.injEq, Nat.reduceEqDiff, reduceCtorEq, Try.f5]
    rw [execL_inLoop]
    simp (maxSteps := 1000000) (disch := first | rfl | omega | assumption) only [go_sem, ↓reduceIte, Nat.reduceEqDiff, Nat.reduceAdd, Nat.reduceLeDiff, Nat.reduceBEq, Nat.reduceMul, Nat.reduceLT, Int.reduceLT, Int.reduceLE, Int.reduceToNat, Int.reduceNeg, Int.reduceEq, Int.reduceMul, reduceCtorEq, Int.reduceBEq, Int.reduceBNe, Int.reduceAdd, Int.reduceSub, g113, g114, g115, ltT, ltF, leT, leF, hk', a1, a2, a3, a4, a5, Row4.av, hlt]
    rw [chkK_of]; rotate_left; kernel_rfl
    simp (maxSteps := 1000000) (disch := first | rfl | omega | assumption) only [go_sem, ↓reduceIte, Nat.reduceEqDiff, Nat.reduceAdd, Nat.reduceLeDiff, Nat.reduceBEq, Nat.reduceMul, Nat.reduceLT, Int.reduceLT, Int.reduceLE, Int.reduceToNat, Int.reduceNeg, Int.reduceEq, Int.reduceMul, reduceCtorEq, Int.reduceBEq, Int.reduceBNe, Int.reduceAdd, Int.reduceSub, g113, g114, g115, ltT, ltF, leT, leF, hk', hS, hP1]
    rw [chkK_of]; rotate_left; kernel_rfl
    simp (maxSteps := 1000000) (disch := first | rfl | omega | assumption) only [go_sem, ↓reduceIte, Nat.reduceEqDiff, Nat.reduceAdd, Nat.reduceLeDiff, Nat.reduceBEq, Nat.reduceMul, Nat.reduceLT, Int.reduceLT, Int.reduceLE, Int.reduceToNat, Int.reduceNeg, Int.reduceEq, Int.reduceMul, reduceCtorEq, Int.reduceBEq, Int.reduceBNe, Int.reduceAdd, Int.reduceSub, g113, g114, g115, ltT, ltF, leT, leF, hk', hS, hR1]
    exact ih (j + 1) (by omega) _ _ (by rfl) (by rfl) (by rfl)

theorem law_ColourNames (H : Heap) : callFL cfg0 prog0 false 5 [] H none = some ⟨.ret (.bool true), H, none⟩ := by
  have h1 := fun G : Heap => co_Apart (smp_at G) smp_len 0 105 130
  have h2 := fun G : Heap => co_Apart (smp_at G) smp_len 0 100 125
  have h3 := fun G : Heap => co_Parts (smp_at G) smp_len 3 100 125
  have h4 := fun G : Heap => co_Parts (smp_at G) smp_len 0 100 105
  have h5 := fun G : Heap => co_Alike (smp_at G) smp_len 1
  have h6 := fun G : Heap => co_Alike (smp_at G) smp_len 3
  have h7 := fun G : Heap => co_Spare (smp_at G) smp_len 3
  have h8 := fun G : Heap => co_Spare (smp_at G) smp_len 1
  have h9 := fun G : Heap => co_Next (smp_at G) smp_len 0
  have h10 := fun G : Heap => co_Next (smp_at G) smp_len 7
  simp only [show smp.apart 0 105 130 = (1, 0) by decide +kernel] at h1
  simp only [show smp.apart 0 100 125 = (2, 0) by decide +kernel] at h2
  simp only [show smp.parts 3 100 125 = (true, 0) by decide +kernel] at h3
  simp only [show smp.parts 0 100 105 = (false, 0) by decide +kernel] at h4
  simp only [show smp.alikeR 1 = (100, 125, 0) by decide +kernel] at h5
  simp only [show smp.alikeR 3 = (0, 0, 4) by decide +kernel] at h6
  simp only [Col.spare_eq, show smp.spareR 3 = (0, 0) by decide +kernel] at h7
  simp only [Col.spare_eq, show smp.spareR 1 = (0, 11) by decide +kernel] at h8
  simp only [Col.next_eq, show smp.nextR 0 = (0, 2, 0) by decide +kernel] at h9
  simp only [Col.next_eq, show smp.nextR 7 = (0, 0, 4) by decide +kernel] at h10
  have hS := law_sample
  generalize smp.av smpW smpP = sv at hS h1 h2 h3 h4 h5 h6 h7 h8 h9 h10
  refine (callFL_eq fn5 rfl (by simp [Try.f5])).trans ?_
  simp (maxSteps := 1000000) (disch := first | rfl | omega | assumption) only [go_sem, ↓reduceIte, Nat.reduceEqDiff, Nat.reduceAdd, Nat.reduceLeDiff, Nat.reduceBEq, Nat.reduceMul, Nat.reduceLT, Int.reduceLT, Int.reduceLE, Int.reduceToNat, Int.reduceNeg, Int.reduceEq, Int.reduceMul, reduceCtorEq, Int.reduceBEq, Int.reduceBNe, Int.reduceAdd, Int.reduceSub, hS, h1, h2, h3, h4, h5, h6]
  have hl := fun R hR => names_loop (H := H) (todoPast Try.f5 10) R hR 4 0 rfl []
  rw [List.append_nil] at hl
  refine hl _ (fun E g113 g114 => ?_) _ (by rfl) (by rfl) (by rfl)
  simp only [loopIt, todoPast, todoAt, todoOf, firstReg, ↓reduceIte, Option.some.injEq, Nat.reduceEqDiff, reduceCtorEq, Try.f5]
  simp (maxSteps := 1000000) (disch := first | rfl | omega | assumption) only [go_sem, ↓reduceIte, Nat.reduceEqDiff, Nat.reduceAdd, Nat.reduceLeDiff, Nat.reduceBEq, Nat.reduceMul, Nat.reduceLT, Int.reduceLT, Int.reduceLE, Int.reduceToNat, Int.reduceNeg, Int.reduceEq, Int.reduceMul, reduceCtorEq, Int.reduceBEq, Int.reduceBNe, Int.reduceAdd, Int.reduceSub, hS, h7, h8, h9, h10, law_alive]

end Go.Ab
