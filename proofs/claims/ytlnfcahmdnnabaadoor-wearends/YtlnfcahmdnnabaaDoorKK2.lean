/-
  The answers after an event.
-/
import Derived.Test.YtlnfcahmdnnabaaDoorKK1
namespace Go.Ab
open Go.Proofs
set_option linter.unusedSimpArgs false
set_option linter.unusedVariables false
set_option maxRecDepth 100000

variable {H : Heap}

theorem we_ansn (l : Nat) (H : Heap) : callFL cfg0 prog0 true 41 [.ptr l 0] H none = some ⟨.ret (.tup []), H, none⟩ := by
  refine (callFL_eq fn41 rfl (by simp [Tryd.f41])).trans ?_
  simp (implicitDefEqProofs := false) only [go_sem, ↓reduceIte, Nat.reduceEqDiff, Nat.reduceAdd, Nat.reduceLeDiff, Nat.reduceBEq, Nat.reduceMul, Nat.reduceLT, Int.reduceLT, Int.reduceLE, Int.reduceToNat, Int.reduceNeg, Int.reduceEq, Int.reduceMul, reduceCtorEq, Int.reduceBEq, Int.reduceBNe, Int.reduceAdd, Int.reduceSub]

theorem we_anss (l : Nat) (e x : Int) (H : Heap) (h : H[l]? = some (.box (I x))) : callFL cfg0 prog0 true 41 [.ptr l 0] H (some (.iface 117 (I e), false)) = some ⟨.ret (.tup []), H.set l (.box (I e)), some (.iface 117 (I e), true)⟩ := by
  have hl : l < H.length := (List.getElem?_eq_some_iff.1 h).1
  refine (callFL_eq fn41 rfl (by simp [Tryd.f41])).trans ?_
  simp (implicitDefEqProofs := false) only [go_sem, ↓reduceIte, Nat.reduceEqDiff, Nat.reduceAdd, Nat.reduceLeDiff, Nat.reduceBEq, Nat.reduceMul, Nat.reduceLT, Int.reduceLT, Int.reduceLE, Int.reduceToNat, Int.reduceNeg, Int.reduceEq, Int.reduceMul, reduceCtorEq, Int.reduceBEq, Int.reduceBNe, Int.reduceAdd, Int.reduceSub, get_lt hl, set_lt hl, h]

/-- Which error, if any. -/
def Wea.gate (w : Wea) (days : Int) (is : Bool) : Int := if w.valid then (if days ≤ 10 then (if is then (if w.can then 0 else 10) else 2) else 3) else 1

theorem made_bl (w : Wea) (B : Heap) (es : List (AV × AV)) (G : Heap) : BlAt (B ++ (w.made B.length es ++ G)) (B.length + 3) (B.length + 1) (B.length + 2) w where
  box := by simp only [Wea.made, get_at', List.cons_append, List.getElem?_cons_succ, List.getElem?_cons_zero]
  own := by
    refine ⟨⟨?_, by simp⟩, by simp [Ev.av, AV.cells]⟩
    simp only [Wea.made, get_at', List.cons_append, List.getElem?_cons_succ, List.getElem?_cons_zero]

theorem made_m (w : Wea) (B : Heap) (es : List (AV × AV)) (G : Heap) : (B ++ (w.made B.length es ++ G))[B.length + 2]? = some (.map 88 es) := by
  simp only [Wea.made, get_at', List.cons_append, List.getElem?_cons_succ, List.getElem?_cons_zero]

def Wea.afterP (w : Wea) (n : Int) : Int × Int := if w.gate 0 (wi n 0 (w.es.length - 1)) = 0 then w.at w.rd w.L (n.toNat + 1) else (0, 0)

theorem we_After {w : Wea} {ve : AV} (h : WeaAt H w ve) (hl : w.es.length ≤ 1000) (n : Int) :
    callFL cfg0 prog0 false 14 [w.av ve, I n] H none = some ⟨.ret (.tup [KV (w.afterP n), I (w.gate 0 (wi n 0 (w.es.length - 1)))]), H, none⟩ := by
  have s1 := h.es.scal
  have hO := fun (a b c : AO) => we_open (H := H ++ [a, b, c]) (h.app _) hl 0 (wi n 0 (w.es.length - 1))
  have hS := fun (e : Int) (x0 : AO) (x1 : AO) (G : Heap) => we_anss (H.length + 2) e 0 (H ++ (x0 :: x1 :: .box (I 0) :: G)) (by rw [get_at' 2]; rfl)
  have hN := fun (G : Heap) => we_ansn (H.length + 2) G
  simp only [Wea.afterP, Wea.gate]
  rcases Bool.eq_false_or_eq_true w.valid with hv | hv
  rotate_left
  · skip
    simp only [hv, if_true, if_false, Bool.false_eq_true, Wea.made, Wea.av, List.length_append, List.length_cons, List.length_nil, List.append_assoc, List.cons_append, List.nil_append, List.append_nil, List.length_append, Nat.add_assoc, Nat.reduceAdd, Nat.zero_add, (show (0 : Int) ≤ 10 by decide), (show ¬ (1 : Int) = 0 by decide), (show ¬ (2 : Int) = 0 by decide), (show ¬ (10 : Int) = 0 by decide)] at hO ⊢
    refine (callFL_eq fn14 rfl (by simp [Tryd.f14])).trans ?_
    simp (maxSteps := 1000000) (implicitDefEqProofs := false) (disch := first | rfl | omega | assumption) only [go_sem, ↓reduceIte, Nat.reduceEqDiff, Nat.reduceAdd, Nat.reduceLeDiff, Nat.reduceBEq, Nat.reduceMul, Nat.reduceLT, Int.reduceLT, Int.reduceLE, Int.reduceToNat, Int.reduceNeg, Int.reduceEq, Int.reduceMul, reduceCtorEq, Int.reduceBEq, Int.reduceBNe, Int.reduceAdd, Int.reduceSub, ltT, ltF, leT, leF, s1]
    rw [chkK_of]; rotate_left; kernel_rfl
    simp (maxSteps := 1000000) (implicitDefEqProofs := false) (disch := first | rfl | omega | assumption) only [go_sem, ↓reduceIte, Nat.reduceEqDiff, Nat.reduceAdd, Nat.reduceLeDiff, Nat.reduceBEq, Nat.reduceMul, Nat.reduceLT, Int.reduceLT, Int.reduceLE, Int.reduceToNat, Int.reduceNeg, Int.reduceEq, Int.reduceMul, reduceCtorEq, Int.reduceBEq, Int.reduceBNe, Int.reduceAdd, Int.reduceSub, ltT, ltF, leT, leF, s1, h.es.len, hO, hS, we_within]
  · have ho := w.valid_iff.1 hv
    have h8 := ho.many
    rcases Bool.eq_false_or_eq_true (wi n 0 (w.es.length - 1)) with hi | hi
    rotate_left
    · skip
      simp only [hv, hi, if_true, if_false, Bool.false_eq_true, Wea.made, Wea.av, List.length_append, List.length_cons, List.length_nil, List.append_assoc, List.cons_append, List.nil_append, List.append_nil, List.length_append, Nat.add_assoc, Nat.reduceAdd, Nat.zero_add, (show (0 : Int) ≤ 10 by decide), (show ¬ (1 : Int) = 0 by decide), (show ¬ (2 : Int) = 0 by decide), (show ¬ (10 : Int) = 0 by decide)] at hO ⊢
      refine (callFL_eq fn14 rfl (by simp [Tryd.f14])).trans ?_
      simp (maxSteps := 1000000) (implicitDefEqProofs := false) (disch := first | rfl | omega | assumption) only [go_sem, ↓reduceIte, Nat.reduceEqDiff, Nat.reduceAdd, Nat.reduceLeDiff, Nat.reduceBEq, Nat.reduceMul, Nat.reduceLT, Int.reduceLT, Int.reduceLE, Int.reduceToNat, Int.reduceNeg, Int.reduceEq, Int.reduceMul, reduceCtorEq, Int.reduceBEq, Int.reduceBNe, Int.reduceAdd, Int.reduceSub, ltT, ltF, leT, leF, s1]
      rw [chkK_of]; rotate_left; kernel_rfl
      simp (maxSteps := 1000000) (implicitDefEqProofs := false) (disch := first | rfl | omega | assumption) only [go_sem, ↓reduceIte, Nat.reduceEqDiff, Nat.reduceAdd, Nat.reduceLeDiff, Nat.reduceBEq, Nat.reduceMul, Nat.reduceLT, Int.reduceLT, Int.reduceLE, Int.reduceToNat, Int.reduceNeg, Int.reduceEq, Int.reduceMul, reduceCtorEq, Int.reduceBEq, Int.reduceBNe, Int.reduceAdd, Int.reduceSub, ltT, ltF, leT, leF, s1, h.es.len, hO, hS, we_within, hi]
    · have hT := fun (a b c : AO) => we_told (H := H ++ [a, b, c] ++ (w.made (H ++ [a, b, c]).length [] ++ [])) (made_bl w _ _ _) ho (made_m w _ _ _) (GoodM.nil w)
      have hi' := wi_iff.1 hi
      have hpl : (pc (w.at w.rd w.L) 0 9).length = 18 := pc_len _ 9 0
      have hrd := pc_read2 (w.at w.rd w.L) (i := n.toNat + 1) (by omega)
      have b1 : (n.toNat + 1) * 2 ≤ 16 := by omega
      have e1 : (n + 1).toNat = n.toNat + 1 := by omega
      simp only [hv, hi, if_true, Wea.made, Wea.av, Wea.logV, List.length_append, List.length_cons, List.length_nil, List.append_assoc, List.cons_append, List.nil_append, List.append_nil, List.length_append, Nat.add_assoc, Nat.reduceAdd, Nat.zero_add, (show (0 : Int) ≤ 10 by decide)] at hO hT ⊢
      rcases Bool.eq_false_or_eq_true w.can with hc | hc
      rotate_left
      · simp only [hc, if_true, Bool.false_eq_true, if_false, (show ¬ (10 : Int) = 0 by decide)] at hT ⊢
        refine (callFL_eq fn14 rfl (by simp [Tryd.f14])).trans ?_
        simp (maxSteps := 1000000) (implicitDefEqProofs := false) (disch := first | rfl | omega | assumption) only [go_sem, ↓reduceIte, Nat.reduceEqDiff, Nat.reduceAdd, Nat.reduceLeDiff, Nat.reduceBEq, Nat.reduceMul, Nat.reduceLT, Int.reduceLT, Int.reduceLE, Int.reduceToNat, Int.reduceNeg, Int.reduceEq, Int.reduceMul, reduceCtorEq, Int.reduceBEq, Int.reduceBNe, Int.reduceAdd, Int.reduceSub, ltT, ltF, leT, leF, s1]
        rw [chkK_of]; rotate_left; kernel_rfl
        simp (maxSteps := 1000000) (implicitDefEqProofs := false) (disch := first | rfl | omega | assumption) only [go_sem, ↓reduceIte, Nat.reduceEqDiff, Nat.reduceAdd, Nat.reduceLeDiff, Nat.reduceBEq, Nat.reduceMul, Nat.reduceLT, Int.reduceLT, Int.reduceLE, Int.reduceToNat, Int.reduceNeg, Int.reduceEq, Int.reduceMul, reduceCtorEq, Int.reduceBEq, Int.reduceBNe, Int.reduceAdd, Int.reduceSub, ltT, ltF, leT, leF, s1, h.es.len, hO, hT, hS, we_within, hi]
      · simp only [hc, if_true, Bool.false_eq_true, if_false] at hT ⊢
        refine (callFL_eq fn14 rfl (by simp [Tryd.f14])).trans ?_
        simp (maxSteps := 1000000) (implicitDefEqProofs := false) (disch := first | rfl | omega | assumption) only [go_sem, ↓reduceIte, Nat.reduceEqDiff, Nat.reduceAdd, Nat.reduceLeDiff, Nat.reduceBEq, Nat.reduceMul, Nat.reduceLT, Int.reduceLT, Int.reduceLE, Int.reduceToNat, Int.reduceNeg, Int.reduceEq, Int.reduceMul, reduceCtorEq, Int.reduceBEq, Int.reduceBNe, Int.reduceAdd, Int.reduceSub, ltT, ltF, leT, leF, s1]
        rw [chkK_of]; rotate_left; kernel_rfl
        simp (maxSteps := 1000000) (implicitDefEqProofs := false) (disch := first | rfl | omega | assumption) only [go_sem, ↓reduceIte, Nat.reduceEqDiff, Nat.reduceAdd, Nat.reduceLeDiff, Nat.reduceBEq, Nat.reduceMul, Nat.reduceLT, Int.reduceLT, Int.reduceLE, Int.reduceToNat, Int.reduceNeg, Int.reduceEq, Int.reduceMul, reduceCtorEq, Int.reduceBEq, Int.reduceBNe, Int.reduceAdd, Int.reduceSub, ltT, ltF, leT, leF, s1, h.es.len, we_within, hi, hO, hT, hN, hpl, hrd, b1, e1]

def Wea.lastP (w : Wea) : Int × Int := w.at w.rd w.L w.es.length

def Wea.untilP (w : Wea) (limit : Int) : Int × Int := if w.gate 0 (wi limit (-1000) 1000) = 0 then (if limit ≤ w.lastP.1 then (if w.uhi = 0 then 100 else mn 100 ((w.lastP.1 - limit).tdiv w.uhi), 0) else (0, 4)) else (0, w.gate 0 (wi limit (-1000) 1000))

theorem at_bd {w : Wea} (ho : w.Ok) {i : Nat} (hi : i ≤ w.es.length) : bd 2000000 (w.at w.rd w.L i) := by
  have h8 := ho.many
  simp only [Wea.at, if_pos hi]
  exact bd_mono (by omega) (bk_bd ho w.rd (L_bd ho) (w.es.length - i) (by omega))

theorem we_Until {w : Wea} {ve : AV} (h : WeaAt H w ve) (hl : w.es.length ≤ 1000) (n : Int) :
    callFL cfg0 prog0 false 22 [w.av ve, I n] H none = some ⟨.ret (.tup [I (w.untilP n).1, I (w.untilP n).2]), H, none⟩ := by
  have s1 := h.es.scal
  have hO := fun (a b : AO) => we_open (H := H ++ [a, b]) (h.app _) hl 0 (wi n (-1000) 1000)
  have hS := fun (e : Int) (x0 : AO) (G : Heap) => we_anss (H.length + 1) e 0 (H ++ (x0 :: .box (I 0) :: G)) (by rw [get_at' 1]; rfl)
  have hN := fun (G : Heap) => we_ansn (H.length + 1) G
  simp only [Wea.untilP, Wea.lastP, Wea.gate]
  rcases Bool.eq_false_or_eq_true w.valid with hv | hv
  rotate_left
  · skip
    simp only [hv, if_true, if_false, Bool.false_eq_true, Wea.made, Wea.av, List.length_append, List.length_cons, List.length_nil, List.append_assoc, List.cons_append, List.nil_append, List.append_nil, List.length_append, Nat.add_assoc, Nat.reduceAdd, Nat.zero_add, (show (0 : Int) ≤ 10 by decide), (show ¬ (1 : Int) = 0 by decide), (show ¬ (2 : Int) = 0 by decide), (show ¬ (10 : Int) = 0 by decide)] at hO ⊢
    refine (callFL_eq fn22 rfl (by simp [Tryd.f22])).trans ?_
    simp (maxSteps := 1000000) (implicitDefEqProofs := false) (disch := first | rfl | omega | assumption) only [go_sem, ↓reduceIte, Nat.reduceEqDiff, Nat.reduceAdd, Nat.reduceLeDiff, Nat.reduceBEq, Nat.reduceMul, Nat.reduceLT, Int.reduceLT, Int.reduceLE, Int.reduceToNat, Int.reduceNeg, Int.reduceEq, Int.reduceMul, reduceCtorEq, Int.reduceBEq, Int.reduceBNe, Int.reduceAdd, Int.reduceSub, ltT, ltF, leT, leF, s1]
    rw [chkK_of]; rotate_left; kernel_rfl
    simp (maxSteps := 1000000) (implicitDefEqProofs := false) (disch := first | rfl | omega | assumption) only [go_sem, ↓reduceIte, Nat.reduceEqDiff, Nat.reduceAdd, Nat.reduceLeDiff, Nat.reduceBEq, Nat.reduceMul, Nat.reduceLT, Int.reduceLT, Int.reduceLE, Int.reduceToNat, Int.reduceNeg, Int.reduceEq, Int.reduceMul, reduceCtorEq, Int.reduceBEq, Int.reduceBNe, Int.reduceAdd, Int.reduceSub, ltT, ltF, leT, leF, s1, h.es.len, hO, hS, we_isLimit]
  · have ho := w.valid_iff.1 hv
    have h8 := ho.many
    rcases Bool.eq_false_or_eq_true (wi n (-1000) 1000) with hi | hi
    rotate_left
    · skip
      simp only [hv, hi, if_true, if_false, Bool.false_eq_true, Wea.made, Wea.av, List.length_append, List.length_cons, List.length_nil, List.append_assoc, List.cons_append, List.nil_append, List.append_nil, List.length_append, Nat.add_assoc, Nat.reduceAdd, Nat.zero_add, (show (0 : Int) ≤ 10 by decide), (show ¬ (1 : Int) = 0 by decide), (show ¬ (2 : Int) = 0 by decide), (show ¬ (10 : Int) = 0 by decide)] at hO ⊢
      refine (callFL_eq fn22 rfl (by simp [Tryd.f22])).trans ?_
      simp (maxSteps := 1000000) (implicitDefEqProofs := false) (disch := first | rfl | omega | assumption) only [go_sem, ↓reduceIte, Nat.reduceEqDiff, Nat.reduceAdd, Nat.reduceLeDiff, Nat.reduceBEq, Nat.reduceMul, Nat.reduceLT, Int.reduceLT, Int.reduceLE, Int.reduceToNat, Int.reduceNeg, Int.reduceEq, Int.reduceMul, reduceCtorEq, Int.reduceBEq, Int.reduceBNe, Int.reduceAdd, Int.reduceSub, ltT, ltF, leT, leF, s1]
      rw [chkK_of]; rotate_left; kernel_rfl
      simp (maxSteps := 1000000) (implicitDefEqProofs := false) (disch := first | rfl | omega | assumption) only [go_sem, ↓reduceIte, Nat.reduceEqDiff, Nat.reduceAdd, Nat.reduceLeDiff, Nat.reduceBEq, Nat.reduceMul, Nat.reduceLT, Int.reduceLT, Int.reduceLE, Int.reduceToNat, Int.reduceNeg, Int.reduceEq, Int.reduceMul, reduceCtorEq, Int.reduceBEq, Int.reduceBNe, Int.reduceAdd, Int.reduceSub, ltT, ltF, leT, leF, s1, h.es.len, hO, hS, we_isLimit, hi]
    · have hT := fun (a b : AO) => we_last (H := H ++ [a, b] ++ (w.made (H ++ [a, b]).length [] ++ [])) (made_bl w _ _ _) ho (made_m w _ _ _) (GoodM.nil w)
      have hi' := wi_iff.1 hi
      have hab := at_bd ho (Nat.le_refl _)
      simp only [bd] at hab
      have hu := ho.use
      simp only [hv, hi, if_true, Wea.made, Wea.av, Wea.logV, List.length_append, List.length_cons, List.length_nil, List.append_assoc, List.cons_append, List.nil_append, List.append_nil, List.length_append, Nat.add_assoc, Nat.reduceAdd, Nat.zero_add, (show (0 : Int) ≤ 10 by decide)] at hO hT ⊢
      rcases Bool.eq_false_or_eq_true w.can with hc | hc
      rotate_left
      · simp only [hc, if_true, Bool.false_eq_true, if_false, (show ¬ (10 : Int) = 0 by decide)] at hT ⊢
        refine (callFL_eq fn22 rfl (by simp [Tryd.f22])).trans ?_
        simp (maxSteps := 1000000) (implicitDefEqProofs := false) (disch := first | rfl | omega | assumption) only [go_sem, ↓reduceIte, Nat.reduceEqDiff, Nat.reduceAdd, Nat.reduceLeDiff, Nat.reduceBEq, Nat.reduceMul, Nat.reduceLT, Int.reduceLT, Int.reduceLE, Int.reduceToNat, Int.reduceNeg, Int.reduceEq, Int.reduceMul, reduceCtorEq, Int.reduceBEq, Int.reduceBNe, Int.reduceAdd, Int.reduceSub, ltT, ltF, leT, leF, s1]
        rw [chkK_of]; rotate_left; kernel_rfl
        simp (maxSteps := 1000000) (implicitDefEqProofs := false) (disch := first | rfl | omega | assumption) only [go_sem, ↓reduceIte, Nat.reduceEqDiff, Nat.reduceAdd, Nat.reduceLeDiff, Nat.reduceBEq, Nat.reduceMul, Nat.reduceLT, Int.reduceLT, Int.reduceLE, Int.reduceToNat, Int.reduceNeg, Int.reduceEq, Int.reduceMul, reduceCtorEq, Int.reduceBEq, Int.reduceBNe, Int.reduceAdd, Int.reduceSub, ltT, ltF, leT, leF, s1, h.es.len, hO, hT, hS, we_isLimit, hi]
      · simp only [hc, if_true, Bool.false_eq_true, if_false] at hT ⊢
        obtain ⟨p, hk⟩ : ∃ p, w.at w.rd w.L w.es.length = p := ⟨_, rfl⟩
        simp only [hk] at hab hT ⊢
        by_cases hp : n ≤ p.1
        · by_cases hz : w.uhi = 0
          · have hz' : (w.uhi == 0) = true := by simpa using hz
            simp only [if_pos hp, if_pos hz]
            refine (callFL_eq fn22 rfl (by simp [Tryd.f22])).trans ?_
            simp (maxSteps := 1000000) (implicitDefEqProofs := false) (disch := first | rfl | omega | assumption) only [go_sem, ↓reduceIte, Nat.reduceEqDiff, Nat.reduceAdd, Nat.reduceLeDiff, Nat.reduceBEq, Nat.reduceMul, Nat.reduceLT, Int.reduceLT, Int.reduceLE, Int.reduceToNat, Int.reduceNeg, Int.reduceEq, Int.reduceMul, reduceCtorEq, Int.reduceBEq, Int.reduceBNe, Int.reduceAdd, Int.reduceSub, ltT, ltF, leT, leF, s1]
            rw [chkK_of]; rotate_left; kernel_rfl
            simp (maxSteps := 1000000) (implicitDefEqProofs := false) (disch := first | rfl | omega | assumption) only [go_sem, ↓reduceIte, Nat.reduceEqDiff, Nat.reduceAdd, Nat.reduceLeDiff, Nat.reduceBEq, Nat.reduceMul, Nat.reduceLT, Int.reduceLT, Int.reduceLE, Int.reduceToNat, Int.reduceNeg, Int.reduceEq, Int.reduceMul, reduceCtorEq, Int.reduceBEq, Int.reduceBNe, Int.reduceAdd, Int.reduceSub, ltT, ltF, leT, leF, s1, h.es.len, we_isLimit, hi, hO, hT, hN, hp, we_ask, hz', mn]
          · have hz' : (w.uhi == 0) = false := by simpa using hz
            have e1 : (p.1 - n).tdiv w.uhi = (p.1 - n) / w.uhi := Int.tdiv_eq_ediv_of_nonneg (by omega)
            have e2 : 0 ≤ (p.1 - n) / w.uhi := Int.ediv_nonneg (by omega) (by omega)
            have e3 : (p.1 - n) / w.uhi ≤ p.1 - n := Int.ediv_le_self _ (by omega)
            simp only [if_pos hp, if_neg hz, if_true, e1]
            refine (callFL_eq fn22 rfl (by simp [Tryd.f22])).trans ?_
            simp (maxSteps := 1000000) (implicitDefEqProofs := false) (disch := first | rfl | omega | assumption) only [go_sem, ↓reduceIte, Nat.reduceEqDiff, Nat.reduceAdd, Nat.reduceLeDiff, Nat.reduceBEq, Nat.reduceMul, Nat.reduceLT, Int.reduceLT, Int.reduceLE, Int.reduceToNat, Int.reduceNeg, Int.reduceEq, Int.reduceMul, reduceCtorEq, Int.reduceBEq, Int.reduceBNe, Int.reduceAdd, Int.reduceSub, ltT, ltF, leT, leF, s1]
            rw [chkK_of]; rotate_left; kernel_rfl
            simp (maxSteps := 1000000) (implicitDefEqProofs := false) (disch := first | rfl | omega | assumption) only [go_sem, ↓reduceIte, Nat.reduceEqDiff, Nat.reduceAdd, Nat.reduceLeDiff, Nat.reduceBEq, Nat.reduceMul, Nat.reduceLT, Int.reduceLT, Int.reduceLE, Int.reduceToNat, Int.reduceNeg, Int.reduceEq, Int.reduceMul, reduceCtorEq, Int.reduceBEq, Int.reduceBNe, Int.reduceAdd, Int.reduceSub, ltT, ltF, leT, leF, s1, h.es.len, we_isLimit, hi, hO, hT, hN, hp, we_ask, hz, hz', e1, mn]
        · simp only [if_neg hp, if_true]
          refine (callFL_eq fn22 rfl (by simp [Tryd.f22])).trans ?_
          simp (maxSteps := 1000000) (implicitDefEqProofs := false) (disch := first | rfl | omega | assumption) only [go_sem, ↓reduceIte, Nat.reduceEqDiff, Nat.reduceAdd, Nat.reduceLeDiff, Nat.reduceBEq, Nat.reduceMul, Nat.reduceLT, Int.reduceLT, Int.reduceLE, Int.reduceToNat, Int.reduceNeg, Int.reduceEq, Int.reduceMul, reduceCtorEq, Int.reduceBEq, Int.reduceBNe, Int.reduceAdd, Int.reduceSub, ltT, ltF, leT, leF, s1]
          rw [chkK_of]; rotate_left; kernel_rfl
          simp (maxSteps := 1000000) (implicitDefEqProofs := false) (disch := first | rfl | omega | assumption) only [go_sem, ↓reduceIte, Nat.reduceEqDiff, Nat.reduceAdd, Nat.reduceLeDiff, Nat.reduceBEq, Nat.reduceMul, Nat.reduceLT, Int.reduceLT, Int.reduceLE, Int.reduceToNat, Int.reduceNeg, Int.reduceEq, Int.reduceMul, reduceCtorEq, Int.reduceBEq, Int.reduceBNe, Int.reduceAdd, Int.reduceSub, ltT, ltF, leT, leF, s1, h.es.len, we_isLimit, hi, hO, hT, hS, hp, we_ask]

def Wea.fitsP (w : Wea) (p : Int × Int) : Int := if w.gate 0 (spB p (-1000) 1000) = 0 then (if bothP w.lastP p = w.lastP then 2 else if (bothP w.lastP p).1 ≤ (bothP w.lastP p).2 then 1 else 0) else 0

theorem we_Fits {w : Wea} {ve : AV} (h : WeaAt H w ve) (hl : w.es.length ≤ 1000) (p : Int × Int) :
    callFL cfg0 prog0 false 20 [w.av ve, KV p] H none = some ⟨.ret (.tup [I (w.fitsP p), I (w.gate 0 (spB p (-1000) 1000))]), H, none⟩ := by
  have s1 := h.es.scal
  have hO := fun (a b c d : AO) => we_open (H := H ++ [a, b, c, d]) (h.app _) hl 0 (spB p (-1000) 1000)
  have hS := fun (e : Int) (x0 : AO) (x1 : AO) (G : Heap) => we_anss (H.length + 2) e 0 (H ++ (x0 :: x1 :: .box (I 0) :: G)) (by rw [get_at' 2]; rfl)
  have hN := fun (G : Heap) => we_ansn (H.length + 2) G
  have hsp := fun G => we_isSpan p.1 p.2 (-1000) 1000 G
  simp only [Prod.eta] at hsp
  simp only [Wea.fitsP, Wea.lastP, Wea.gate]
  rcases Bool.eq_false_or_eq_true w.valid with hv | hv
  rotate_left
  · skip
    simp only [hv, if_true, if_false, Bool.false_eq_true, Wea.made, Wea.av, List.length_append, List.length_cons, List.length_nil, List.append_assoc, List.cons_append, List.nil_append, List.append_nil, List.length_append, Nat.add_assoc, Nat.reduceAdd, Nat.zero_add, (show (0 : Int) ≤ 10 by decide), (show ¬ (1 : Int) = 0 by decide), (show ¬ (2 : Int) = 0 by decide), (show ¬ (10 : Int) = 0 by decide)] at hO ⊢
    refine (callFL_eq fn20 rfl (by simp [Tryd.f20])).trans ?_
    simp (maxSteps := 1000000) (implicitDefEqProofs := false) (disch := first | rfl | omega | assumption) only [go_sem, ↓reduceIte, Nat.reduceEqDiff, Nat.reduceAdd, Nat.reduceLeDiff, Nat.reduceBEq, Nat.reduceMul, Nat.reduceLT, Int.reduceLT, Int.reduceLE, Int.reduceToNat, Int.reduceNeg, Int.reduceEq, Int.reduceMul, reduceCtorEq, Int.reduceBEq, Int.reduceBNe, Int.reduceAdd, Int.reduceSub, ltT, ltF, leT, leF, s1]
    rw [chkK_of]; rotate_left; kernel_rfl
    simp (maxSteps := 1000000) (implicitDefEqProofs := false) (disch := first | rfl | omega | assumption) only [go_sem, ↓reduceIte, Nat.reduceEqDiff, Nat.reduceAdd, Nat.reduceLeDiff, Nat.reduceBEq, Nat.reduceMul, Nat.reduceLT, Int.reduceLT, Int.reduceLE, Int.reduceToNat, Int.reduceNeg, Int.reduceEq, Int.reduceMul, reduceCtorEq, Int.reduceBEq, Int.reduceBNe, Int.reduceAdd, Int.reduceSub, ltT, ltF, leT, leF, s1, h.es.len, hO, hS, hsp]
  · have ho := w.valid_iff.1 hv
    have h8 := ho.many
    rcases Bool.eq_false_or_eq_true (spB p (-1000) 1000) with hi | hi
    rotate_left
    · skip
      simp only [hv, hi, if_true, if_false, Bool.false_eq_true, Wea.made, Wea.av, List.length_append, List.length_cons, List.length_nil, List.append_assoc, List.cons_append, List.nil_append, List.append_nil, List.length_append, Nat.add_assoc, Nat.reduceAdd, Nat.zero_add, (show (0 : Int) ≤ 10 by decide), (show ¬ (1 : Int) = 0 by decide), (show ¬ (2 : Int) = 0 by decide), (show ¬ (10 : Int) = 0 by decide)] at hO ⊢
      refine (callFL_eq fn20 rfl (by simp [Tryd.f20])).trans ?_
      simp (maxSteps := 1000000) (implicitDefEqProofs := false) (disch := first | rfl | omega | assumption) only [go_sem, ↓reduceIte, Nat.reduceEqDiff, Nat.reduceAdd, Nat.reduceLeDiff, Nat.reduceBEq, Nat.reduceMul, Nat.reduceLT, Int.reduceLT, Int.reduceLE, Int.reduceToNat, Int.reduceNeg, Int.reduceEq, Int.reduceMul, reduceCtorEq, Int.reduceBEq, Int.reduceBNe, Int.reduceAdd, Int.reduceSub, ltT, ltF, leT, leF, s1]
      rw [chkK_of]; rotate_left; kernel_rfl
      simp (maxSteps := 1000000) (implicitDefEqProofs := false) (disch := first | rfl | omega | assumption) only [go_sem, ↓reduceIte, Nat.reduceEqDiff, Nat.reduceAdd, Nat.reduceLeDiff, Nat.reduceBEq, Nat.reduceMul, Nat.reduceLT, Int.reduceLT, Int.reduceLE, Int.reduceToNat, Int.reduceNeg, Int.reduceEq, Int.reduceMul, reduceCtorEq, Int.reduceBEq, Int.reduceBNe, Int.reduceAdd, Int.reduceSub, ltT, ltF, leT, leF, s1, h.es.len, hO, hS, hsp, hi]
    · have hT := fun (a b c d : AO) => we_last (H := H ++ [a, b, c, d] ++ (w.made (H ++ [a, b, c, d]).length [] ++ [])) (made_bl w _ _ _) ho (made_m w _ _ _) (GoodM.nil w)
      have hbo := fun G => we_both (w.at w.rd w.L w.es.length).1 (w.at w.rd w.L w.es.length).2 p.1 p.2 G
      simp only [Prod.eta] at hbo
      simp only [hv, hi, if_true, Wea.made, Wea.av, Wea.logV, List.length_append, List.length_cons, List.length_nil, List.append_assoc, List.cons_append, List.nil_append, List.append_nil, List.length_append, Nat.add_assoc, Nat.reduceAdd, Nat.zero_add, (show (0 : Int) ≤ 10 by decide)] at hO hT ⊢
      rcases Bool.eq_false_or_eq_true w.can with hc | hc
      rotate_left
      · simp only [hc, if_true, Bool.false_eq_true, if_false, (show ¬ (10 : Int) = 0 by decide)] at hT ⊢
        refine (callFL_eq fn20 rfl (by simp [Tryd.f20])).trans ?_
        simp (maxSteps := 1000000) (implicitDefEqProofs := false) (disch := first | rfl | omega | assumption) only [go_sem, ↓reduceIte, Nat.reduceEqDiff, Nat.reduceAdd, Nat.reduceLeDiff, Nat.reduceBEq, Nat.reduceMul, Nat.reduceLT, Int.reduceLT, Int.reduceLE, Int.reduceToNat, Int.reduceNeg, Int.reduceEq, Int.reduceMul, reduceCtorEq, Int.reduceBEq, Int.reduceBNe, Int.reduceAdd, Int.reduceSub, ltT, ltF, leT, leF, s1]
        rw [chkK_of]; rotate_left; kernel_rfl
        simp (maxSteps := 1000000) (implicitDefEqProofs := false) (disch := first | rfl | omega | assumption) only [go_sem, ↓reduceIte, Nat.reduceEqDiff, Nat.reduceAdd, Nat.reduceLeDiff, Nat.reduceBEq, Nat.reduceMul, Nat.reduceLT, Int.reduceLT, Int.reduceLE, Int.reduceToNat, Int.reduceNeg, Int.reduceEq, Int.reduceMul, reduceCtorEq, Int.reduceBEq, Int.reduceBNe, Int.reduceAdd, Int.reduceSub, ltT, ltF, leT, leF, s1, h.es.len, hO, hT, hS, hsp, hi]
      · simp only [hc, if_true, Bool.false_eq_true, if_false] at hT ⊢
        obtain ⟨k, hk⟩ : ∃ k, w.at w.rd w.L w.es.length = k := ⟨_, rfl⟩
        simp only [hk] at hbo hT ⊢
        obtain ⟨x, hx⟩ : ∃ x, bothP k p = x := ⟨_, rfl⟩
        simp only [hx] at hbo ⊢
        clear hk hx
        by_cases h1 : x = k
        · subst h1
          simp only [if_true]
          refine (callFL_eq fn20 rfl (by simp [Tryd.f20])).trans ?_
          simp (maxSteps := 1000000) (implicitDefEqProofs := false) (disch := first | rfl | omega | assumption) only [go_sem, ↓reduceIte, Nat.reduceEqDiff, Nat.reduceAdd, Nat.reduceLeDiff, Nat.reduceBEq, Nat.reduceMul, Nat.reduceLT, Int.reduceLT, Int.reduceLE, Int.reduceToNat, Int.reduceNeg, Int.reduceEq, Int.reduceMul, reduceCtorEq, Int.reduceBEq, Int.reduceBNe, Int.reduceAdd, Int.reduceSub, ltT, ltF, leT, leF, s1]
          rw [chkK_of]; rotate_left; kernel_rfl
          simp (maxSteps := 1000000) (implicitDefEqProofs := false) (disch := first | rfl | omega | assumption) only [go_sem, ↓reduceIte, Nat.reduceEqDiff, Nat.reduceAdd, Nat.reduceLeDiff, Nat.reduceBEq, Nat.reduceMul, Nat.reduceLT, Int.reduceLT, Int.reduceLE, Int.reduceToNat, Int.reduceNeg, Int.reduceEq, Int.reduceMul, reduceCtorEq, Int.reduceBEq, Int.reduceBNe, Int.reduceAdd, Int.reduceSub, ltT, ltF, leT, leF, s1, h.es.len, hsp, hi, hO, hT, hN, hbo]
        · have h2 : sameL [I x.1, I x.2] [I k.1, I k.2] = false := by
            rw [← Bool.not_eq_true]
            intro hh
            simp [sameL, AV.same, I] at hh
            exact h1 (Prod.ext hh.1 hh.2)
          by_cases h3 : x.1 ≤ x.2
          · simp only [if_neg h1, if_pos h3, if_true]
            refine (callFL_eq fn20 rfl (by simp [Tryd.f20])).trans ?_
            simp (maxSteps := 1000000) (implicitDefEqProofs := false) (disch := first | rfl | omega | assumption) only [go_sem, ↓reduceIte, Nat.reduceEqDiff, Nat.reduceAdd, Nat.reduceLeDiff, Nat.reduceBEq, Nat.reduceMul, Nat.reduceLT, Int.reduceLT, Int.reduceLE, Int.reduceToNat, Int.reduceNeg, Int.reduceEq, Int.reduceMul, reduceCtorEq, Int.reduceBEq, Int.reduceBNe, Int.reduceAdd, Int.reduceSub, ltT, ltF, leT, leF, s1]
            rw [chkK_of]; rotate_left; kernel_rfl
            simp (maxSteps := 1000000) (implicitDefEqProofs := false) (disch := first | rfl | omega | assumption) only [go_sem, ↓reduceIte, Nat.reduceEqDiff, Nat.reduceAdd, Nat.reduceLeDiff, Nat.reduceBEq, Nat.reduceMul, Nat.reduceLT, Int.reduceLT, Int.reduceLE, Int.reduceToNat, Int.reduceNeg, Int.reduceEq, Int.reduceMul, reduceCtorEq, Int.reduceBEq, Int.reduceBNe, Int.reduceAdd, Int.reduceSub, ltT, ltF, leT, leF, s1, h.es.len, hsp, hi, hO, hT, hN, hbo, h2, h3, we_some]
          · simp only [if_neg h1, if_neg h3, if_true]
            refine (callFL_eq fn20 rfl (by simp [Tryd.f20])).trans ?_
            simp (maxSteps := 1000000) (implicitDefEqProofs := false) (disch := first | rfl | omega | assumption) only [go_sem, ↓reduceIte, Nat.reduceEqDiff, Nat.reduceAdd, Nat.reduceLeDiff, Nat.reduceBEq, Nat.reduceMul, Nat.reduceLT, Int.reduceLT, Int.reduceLE, Int.reduceToNat, Int.reduceNeg, Int.reduceEq, Int.reduceMul, reduceCtorEq, Int.reduceBEq, Int.reduceBNe, Int.reduceAdd, Int.reduceSub, ltT, ltF, leT, leF, s1]
            rw [chkK_of]; rotate_left; kernel_rfl
            simp (maxSteps := 1000000) (implicitDefEqProofs := false) (disch := first | rfl | omega | assumption) only [go_sem, ↓reduceIte, Nat.reduceEqDiff, Nat.reduceAdd, Nat.reduceLeDiff, Nat.reduceBEq, Nat.reduceMul, Nat.reduceLT, Int.reduceLT, Int.reduceLE, Int.reduceToNat, Int.reduceNeg, Int.reduceEq, Int.reduceMul, reduceCtorEq, Int.reduceBEq, Int.reduceBNe, Int.reduceAdd, Int.reduceSub, ltT, ltF, leT, leF, s1, h.es.len, hsp, hi, hO, hT, hN, hbo, h2, h3, we_some]

end Go.Ab
/-
  When a block was too short; the first of a list.
-/
namespace Go.Ab
open Go.Proofs
set_option linter.unusedSimpArgs false
set_option linter.unusedVariables false
set_option maxRecDepth 100000

variable {H : Heap}

theorem maskN_succ (f : Nat → Bool) (j : Nat) : maskN f (j + 1) = if f j then maskN f j ||| 2 ^ j else maskN f j := by
  simp only [maskN]
  split <;> simp

theorem pc_get1 (f : Nat → Int × Int) {i : Nat} (h : i < 9) : (pc f 0 9)[i * 2]? = some (I (f i).1) := by
  have := pc_read2 f h
  have h2 : (List.take 2 (List.drop (i * 2) (pc f 0 9)))[0]? = some (I (f i).1) := by rw [this]; rfl
  rw [List.getElem?_take_of_lt (by omega), List.getElem?_drop, Nat.add_zero] at h2
  exact h2

theorem pc_get2 (f : Nat → Int × Int) {i : Nat} (h : i < 9) : (pc f 0 9)[i * 2 + 1]? = some (I (f i).2) := by
  have := pc_read2 f h
  have h2 : (List.take 2 (List.drop (i * 2) (pc f 0 9)))[1]? = some (I (f i).2) := by rw [this]; rfl
  rw [List.getElem?_take_of_lt (by omega), List.getElem?_drop] at h2
  exact h2

def sureF (f : Nat → Int × Int) (lim : Int) (i : Nat) : Bool := decide ((f (i + 1)).2 < lim)
def perF (f : Nat → Int × Int) (lim : Int) (i : Nat) : Bool := decide ((f (i + 1)).1 < lim)

theorem below_loop (f : Nat → Int × Int) (n : Nat) (hn : n ≤ 8) (lim : Int) (o : AO) (G : Heap) :
    ∀ (q j : Nat), j + q = n → ∀ E : Env, E.get 1 = I lim → E.get 6 = .ptr (H.length + 1) 0 → E.get 7 = .ptr (H.length + 2) 0 → E.get 8 = I (maskN (sureF f lim) j) → E.get 9 = I (maskN (perF f lim) j) → E.get 18 = I n → E.get 19 = I j →
    Option.map (finishC H.length) (execL cfg0 prog0 ⟨18, none, false, H.length⟩ (todoAt Tryd.f18 5) ⟨E, [.fn (.func 41) [.ptr (H.length + 1) 0] []], H ++ (o :: .box (I 0) :: .box (.agg (pc f 0 9)) :: G), none⟩) = some ⟨.ret (.tup [I (maskN (sureF f lim) n), I (maskN (perF f lim) n), I 0]), H, none⟩ := by
  intro q
  have hN := fun (G : Heap) => we_ansn (H.length + 1) G
  induction q with
  | zero =>
    intro j hj  E g1 g6 g7 g8 g9 g18 g19
    have hk' : ¬ (j : Int) < ((n : Nat) : Int) := by omega
    have ej : j = n := by omega
    subst ej
    simp only [loopIt, todoPast, todoAt, todoOf, firstReg, ↓reduceIte, Option.some.injEq, Nat.reduceEqDiff, reduceCtorEq, Tryd.f18]
    rw [execL_inLoop]
    simp (maxSteps := 1000000) (implicitDefEqProofs := false) (disch := first | rfl | omega | assumption) only [go_sem, ↓reduceIte, Nat.reduceEqDiff, Nat.reduceAdd, Nat.reduceLeDiff, Nat.reduceBEq, Nat.reduceMul, Nat.reduceLT, Int.reduceLT, Int.reduceLE, Int.reduceToNat, Int.reduceNeg, Int.reduceEq, Int.reduceMul, reduceCtorEq, Int.reduceBEq, Int.reduceBNe, Int.reduceAdd, Int.reduceSub, g1, g6, g7, g8, g9, g18, g19, ltT, ltF, leT, leF, hk', hN]
  | succ q ih =>
    intro j hj  E g1 g6 g7 g8 g9 g18 g19
    have hk' : (j : Int) < ((n : Nat) : Int) := by omega
    have hk2 : j < n := by omega
    have e1 : ((j : Int) + 1).toNat = j + 1 := by omega
    have p1 := pc_get1 f (i := j + 1) (by omega)
    have p2 := pc_get2 f (i := j + 1) (by omega)
    have l1 := maskN_lt (sureF f lim) j
    have l2 := maskN_lt (perF f lim) j
    have hp := two_pow_lt (show j < 60 by omega)
    have o1 := bitsOrI (a := maskN (sureF f lim) j) (b := 2 ^ j) (by omega) (by omega)
    have o2 := bitsOrI (a := maskN (perF f lim) j) (b := 2 ^ j) (by omega) (by omega)
    have sh := shlI (k := j) (by omega)
    have z : ¬ (j : Int) < 0 := by omega
    have m1 := maskN_succ (sureF f lim) j
    have m2 := maskN_succ (perF f lim) j
    by_cases c1 : (f (j + 1)).2 < lim <;> by_cases c2 : (f (j + 1)).1 < lim
    all_goals
      simp only [sureF, perF, c1, c2, decide_true, decide_false, if_true, if_false, Bool.false_eq_true] at m1 m2
    · skip
      simp only [loopIt, todoPast, todoAt, todoOf, firstReg, ↓reduceIte, Option.some.injEq, Nat.reduceEqDiff, reduceCtorEq, Tryd.f18]
      rw [execL_inLoop]
      simp (maxSteps := 1000000) (implicitDefEqProofs := false) (disch := first | rfl | omega | assumption) only [go_sem, ↓reduceIte, Nat.reduceEqDiff, Nat.reduceAdd, Nat.reduceLeDiff, Nat.reduceBEq, Nat.reduceMul, Nat.reduceLT, Int.reduceLT, Int.reduceLE, Int.reduceToNat, Int.reduceNeg, Int.reduceEq, Int.reduceMul, reduceCtorEq, Int.reduceBEq, Int.reduceBNe, Int.reduceAdd, Int.reduceSub, g1, g6, g7, g8, g9, g18, g19, ltT, ltF, leT, leF, hk', e1, p1, p2, o1, o2, sh, z, c1, c2]
      exact ih (j + 1) (by omega) _ (by exact g1) (by exact g6) (by exact g7) (by rw [show maskN (sureF f lim) (j + 1) = _ from m1]; rfl) (by rw [show maskN (perF f lim) (j + 1) = _ from m2]; rfl) (by exact g18) (by rfl)
    · skip
      simp only [loopIt, todoPast, todoAt, todoOf, firstReg, ↓reduceIte, Option.some.injEq, Nat.reduceEqDiff, reduceCtorEq, Tryd.f18]
      rw [execL_inLoop]
      simp (maxSteps := 1000000) (implicitDefEqProofs := false) (disch := first | rfl | omega | assumption) only [go_sem, ↓reduceIte, Nat.reduceEqDiff, Nat.reduceAdd, Nat.reduceLeDiff, Nat.reduceBEq, Nat.reduceMul, Nat.reduceLT, Int.reduceLT, Int.reduceLE, Int.reduceToNat, Int.reduceNeg, Int.reduceEq, Int.reduceMul, reduceCtorEq, Int.reduceBEq, Int.reduceBNe, Int.reduceAdd, Int.reduceSub, g1, g6, g7, g8, g9, g18, g19, ltT, ltF, leT, leF, hk', e1, p1, p2, o1, o2, sh, z, c1, c2]
      exact ih (j + 1) (by omega) _ (by exact g1) (by exact g6) (by exact g7) (by rw [show maskN (sureF f lim) (j + 1) = _ from m1]; rfl) (by rw [show maskN (perF f lim) (j + 1) = _ from m2]; exact g9) (by exact g18) (by rfl)
    · skip
      simp only [loopIt, todoPast, todoAt, todoOf, firstReg, ↓reduceIte, Option.some.injEq, Nat.reduceEqDiff, reduceCtorEq, Tryd.f18]
      rw [execL_inLoop]
      simp (maxSteps := 1000000) (implicitDefEqProofs := false) (disch := first | rfl | omega | assumption) only [go_sem, ↓reduceIte, Nat.reduceEqDiff, Nat.reduceAdd, Nat.reduceLeDiff, Nat.reduceBEq, Nat.reduceMul, Nat.reduceLT, Int.reduceLT, Int.reduceLE, Int.reduceToNat, Int.reduceNeg, Int.reduceEq, Int.reduceMul, reduceCtorEq, Int.reduceBEq, Int.reduceBNe, Int.reduceAdd, Int.reduceSub, g1, g6, g7, g8, g9, g18, g19, ltT, ltF, leT, leF, hk', e1, p1, p2, o1, o2, sh, z, c1, c2]
      exact ih (j + 1) (by omega) _ (by exact g1) (by exact g6) (by exact g7) (by rw [show maskN (sureF f lim) (j + 1) = _ from m1]; exact g8) (by rw [show maskN (perF f lim) (j + 1) = _ from m2]; rfl) (by exact g18) (by rfl)
    · skip
      simp only [loopIt, todoPast, todoAt, todoOf, firstReg, ↓reduceIte, Option.some.injEq, Nat.reduceEqDiff, reduceCtorEq, Tryd.f18]
      rw [execL_inLoop]
      simp (maxSteps := 1000000) (implicitDefEqProofs := false) (disch := first | rfl | omega | assumption) only [go_sem, ↓reduceIte, Nat.reduceEqDiff, Nat.reduceAdd, Nat.reduceLeDiff, Nat.reduceBEq, Nat.reduceMul, Nat.reduceLT, Int.reduceLT, Int.reduceLE, Int.reduceToNat, Int.reduceNeg, Int.reduceEq, Int.reduceMul, reduceCtorEq, Int.reduceBEq, Int.reduceBNe, Int.reduceAdd, Int.reduceSub, g1, g6, g7, g8, g9, g18, g19, ltT, ltF, leT, leF, hk', e1, p1, p2, o1, o2, sh, z, c1, c2]
      exact ih (j + 1) (by omega) _ (by exact g1) (by exact g6) (by exact g7) (by rw [show maskN (sureF f lim) (j + 1) = _ from m1]; exact g8) (by rw [show maskN (perF f lim) (j + 1) = _ from m2]; exact g9) (by exact g18) (by rfl)

/-- The first number from j on that b holds of, of q numbers; else the one behind them. -/
def firstN (b : Nat → Bool) : Nat → Nat → Nat
  | j, 0 => j
  | j, q + 1 => if b j then j else firstN b (j + 1) q

def stepN (b : Nat → Bool) : Nat → Nat → Nat
  | j, 0 => j
  | j, q + 1 => if b j then j + 1 else stepN b (j + 1) q

theorem first_loop {v : AV} {xs : List Int} (h : SlOk H 1 v (xs.map I)) (hl : xs.length ≤ 1000000) (fn : Fn) (cap : List AV) (b : Nat → Bool) (Hs : Nat → Heap) (N : Nat) (hsl : ∀ j, (Hs j).length = N) (hp : ∀ j, ∃ G, Hs j = H ++ G) (hc : ∀ (j : Nat) (G : Heap), j < xs.length → callVL cfg0 prog0 false fn [I (xs.getD j 0)] cap (Hs j ++ G) none = some ⟨.ret (.bool (b j)), Hs (j + 1) ++ G, none⟩) :
    ∀ (q j : Nat), j + q = xs.length → ∀ E : Env, E.get 0 = v → E.get 3 = .ptr N 0 → E.get 7 = v → E.get 8 = I xs.length → E.get 9 = I j →
    Option.map (finishC N) (execL cfg0 prog0 ⟨63, none, false, N⟩ (todoAt Tryd.f63 2) ⟨E, [], Hs j ++ [.box (.agg [.func fn [] cap])], none⟩) = some ⟨.ret (I (firstN b j q)), Hs (stepN b j q), none⟩ := by
  intro q
  obtain ⟨a1, a2, a3, a4⟩ := h.fI
  have hln := h.len
  induction q with
  | zero =>
    intro j hj  E g0 g3 g7 g8 g9
    have hk' : ¬ (j : Int) < ((xs.length : Nat) : Int) := by omega
    have ej : j = xs.length := by omega
    subst ej
    simp only [loopIt, todoPast, todoAt, todoOf, firstReg, ↓reduceIte, Option.some.injEq, Nat.reduceEqDiff, reduceCtorEq, Tryd.f63]
    rw [execL_inLoop]
    have ht : ∀ G : Heap, (Hs xs.length ++ G).take N = Hs xs.length := fun G => by rw [← hsl xs.length, List.take_left]
    simp (maxSteps := 1000000) (implicitDefEqProofs := false) (disch := first | rfl | omega | assumption) only [go_sem, ↓reduceIte, Nat.reduceEqDiff, Nat.reduceAdd, Nat.reduceLeDiff, Nat.reduceBEq, Nat.reduceMul, Nat.reduceLT, Int.reduceLT, Int.reduceLE, Int.reduceToNat, Int.reduceNeg, Int.reduceEq, Int.reduceMul, reduceCtorEq, Int.reduceBEq, Int.reduceBNe, Int.reduceAdd, Int.reduceSub, g0, g3, g7, g8, g9, ltT, ltF, leT, leF, hk', hln, firstN, stepN, ht, List.length_map]
  | succ q ih =>
    intro j hj  E g0 g3 g7 g8 g9
    have hk' : (j : Int) < ((xs.length : Nat) : Int) := by omega
    have hk2 : j < xs.length := by omega
    obtain ⟨G, hG⟩ := hp j
    have hx := hc j [.box (.agg [.func fn [] cap])] hk2
    have hgt : (Hs j ++ [.box (.agg [.func fn [] cap])])[N]? = some (.box (.agg [.func fn [] cap])) := by rw [← hsl j, get_at]; rfl
    have ht : ∀ G : Heap, (Hs (j + 1) ++ G).take N = Hs (j + 1) := fun G => by rw [← hsl (j + 1), List.take_left]
    have i1 : ∀ (te : Ty) (k : Int), te.size = 1 → (0 ≤ k ∧ k < xs.length) → idxAddr (Hs j ++ [.box (.agg [.func fn [] cap])]) te v k = some (elA v k 0) := by
      intro te k h1 h2
      rw [hG, List.append_assoc]; exact a1 _ te k h1 h2
    have i2 : ∀ (te : Ty) (k : Int), (0 ≤ k ∧ k < xs.length) → evLoad (Hs j ++ [.box (.agg [.func fn [] cap])]) te (elA v k 0) = readPart [I (xs.getD k.toNat 0)] 0 te := by
      intro te k h2
      rw [hG, List.append_assoc]; exact a3 _ te k h2
    simp only [firstN, stepN]
    rcases Bool.eq_false_or_eq_true (b j) with hb | hb
    · rw [hb] at hx ⊢
      simp only [loopIt, todoPast, todoAt, todoOf, firstReg, ↓reduceIte, Option.some.injEq, Nat.reduceEqDiff, reduceCtorEq, Tryd.f63]
      rw [execL_inLoop]
      simp (maxSteps := 1000000) (implicitDefEqProofs := false) (disch := first | rfl | omega | assumption) only [go_sem, ↓reduceIte, Nat.reduceEqDiff, Nat.reduceAdd, Nat.reduceLeDiff, Nat.reduceBEq, Nat.reduceMul, Nat.reduceLT, Int.reduceLT, Int.reduceLE, Int.reduceToNat, Int.reduceNeg, Int.reduceEq, Int.reduceMul, reduceCtorEq, Int.reduceBEq, Int.reduceBNe, Int.reduceAdd, Int.reduceSub, g0, g3, g7, g8, g9, ltT, ltF, leT, leF, hk', i1, i2, hgt, hx, ht]
    · rw [hb] at hx ⊢
      simp only [loopIt, todoPast, todoAt, todoOf, firstReg, ↓reduceIte, Option.some.injEq, Nat.reduceEqDiff, reduceCtorEq, Tryd.f63]
      rw [execL_inLoop]
      simp (maxSteps := 1000000) (implicitDefEqProofs := false) (disch := first | rfl | omega | assumption) only [go_sem, ↓reduceIte, Nat.reduceEqDiff, Nat.reduceAdd, Nat.reduceLeDiff, Nat.reduceBEq, Nat.reduceMul, Nat.reduceLT, Int.reduceLT, Int.reduceLE, Int.reduceToNat, Int.reduceNeg, Int.reduceEq, Int.reduceMul, reduceCtorEq, Int.reduceBEq, Int.reduceBNe, Int.reduceAdd, Int.reduceSub, g0, g3, g7, g8, g9, ltT, ltF, leT, leF, hk', i1, i2, hgt, hx]
      exact ih (j + 1) (by omega) _ (by exact g0) (by exact g3) (by exact g7) (by exact g8) (by rfl)

end Go.Ab
/-
  When a block was too short; on which day it can be.
-/
namespace Go.Ab
open Go.Proofs
set_option linter.unusedSimpArgs false
set_option linter.unusedVariables false
set_option maxRecDepth 100000

variable {H : Heap}

def Wea.sureP (w : Wea) (n : Int) : Nat := if w.gate 0 (wi n (-1000) 1000) = 0 then maskN (sureF (w.at w.rd w.L) n) w.es.length else 0
def Wea.perP (w : Wea) (n : Int) : Nat := if w.gate 0 (wi n (-1000) 1000) = 0 then maskN (perF (w.at w.rd w.L) n) w.es.length else 0

theorem we_Below {w : Wea} {ve : AV} (h : WeaAt H w ve) (hl : w.es.length ≤ 1000) (n : Int) :
    callFL cfg0 prog0 false 18 [w.av ve, I n] H none = some ⟨.ret (.tup [I (w.sureP n), I (w.perP n), I (w.gate 0 (wi n (-1000) 1000))]), H, none⟩ := by
  have s1 := h.es.scal
  have hO := fun (a b c : AO) => we_open (H := H ++ [a, b, c]) (h.app _) hl 0 (wi n (-1000) 1000)
  have hS := fun (e : Int) (x0 : AO) (G : Heap) => we_anss (H.length + 1) e 0 (H ++ (x0 :: .box (I 0) :: G)) (by rw [get_at' 1]; rfl)
  simp only [Wea.sureP, Wea.perP, Wea.gate]
  rcases Bool.eq_false_or_eq_true w.valid with hv | hv
  rotate_left
  · simp only [hv, if_true, if_false, Bool.false_eq_true, Wea.made, Wea.av, List.length_append, List.length_cons, List.length_nil, List.append_assoc, List.cons_append, List.nil_append, List.append_nil, List.length_append, Nat.add_assoc, Nat.reduceAdd, Nat.zero_add, (show (0 : Int) ≤ 10 by decide), (show ¬ (1 : Int) = 0 by decide)] at hO ⊢
    refine (callFL_eq fn18 rfl (by simp [Tryd.f18])).trans ?_
    simp (maxSteps := 1000000) (implicitDefEqProofs := false) (disch := first | rfl | omega | assumption) only [go_sem, ↓reduceIte, Nat.reduceEqDiff, Nat.reduceAdd, Nat.reduceLeDiff, Nat.reduceBEq, Nat.reduceMul, Nat.reduceLT, Int.reduceLT, Int.reduceLE, Int.reduceToNat, Int.reduceNeg, Int.reduceEq, Int.reduceMul, reduceCtorEq, Int.reduceBEq, Int.reduceBNe, Int.reduceAdd, Int.reduceSub, ltT, ltF, leT, leF, s1]
    rw [chkK_of]; rotate_left; kernel_rfl
    simp (maxSteps := 1000000) (implicitDefEqProofs := false) (disch := first | rfl | omega | assumption) only [go_sem, ↓reduceIte, Nat.reduceEqDiff, Nat.reduceAdd, Nat.reduceLeDiff, Nat.reduceBEq, Nat.reduceMul, Nat.reduceLT, Int.reduceLT, Int.reduceLE, Int.reduceToNat, Int.reduceNeg, Int.reduceEq, Int.reduceMul, reduceCtorEq, Int.reduceBEq, Int.reduceBNe, Int.reduceAdd, Int.reduceSub, ltT, ltF, leT, leF, s1, h.es.len, hO, hS, we_isLimit]
  · have ho := w.valid_iff.1 hv
    have h8 := ho.many
    rcases Bool.eq_false_or_eq_true (wi n (-1000) 1000) with hi | hi
    rotate_left
    · simp only [hv, hi, if_true, if_false, Bool.false_eq_true, Wea.made, Wea.av, List.length_append, List.length_cons, List.length_nil, List.append_assoc, List.cons_append, List.nil_append, List.append_nil, List.length_append, Nat.add_assoc, Nat.reduceAdd, Nat.zero_add, (show (0 : Int) ≤ 10 by decide), (show ¬ (2 : Int) = 0 by decide)] at hO ⊢
      refine (callFL_eq fn18 rfl (by simp [Tryd.f18])).trans ?_
      simp (maxSteps := 1000000) (implicitDefEqProofs := false) (disch := first | rfl | omega | assumption) only [go_sem, ↓reduceIte, Nat.reduceEqDiff, Nat.reduceAdd, Nat.reduceLeDiff, Nat.reduceBEq, Nat.reduceMul, Nat.reduceLT, Int.reduceLT, Int.reduceLE, Int.reduceToNat, Int.reduceNeg, Int.reduceEq, Int.reduceMul, reduceCtorEq, Int.reduceBEq, Int.reduceBNe, Int.reduceAdd, Int.reduceSub, ltT, ltF, leT, leF, s1]
      rw [chkK_of]; rotate_left; kernel_rfl
      simp (maxSteps := 1000000) (implicitDefEqProofs := false) (disch := first | rfl | omega | assumption) only [go_sem, ↓reduceIte, Nat.reduceEqDiff, Nat.reduceAdd, Nat.reduceLeDiff, Nat.reduceBEq, Nat.reduceMul, Nat.reduceLT, Int.reduceLT, Int.reduceLE, Int.reduceToNat, Int.reduceNeg, Int.reduceEq, Int.reduceMul, reduceCtorEq, Int.reduceBEq, Int.reduceBNe, Int.reduceAdd, Int.reduceSub, ltT, ltF, leT, leF, s1, h.es.len, hO, hS, we_isLimit, hi]
    · have hT := fun (a b c : AO) => we_told (H := H ++ [a, b, c] ++ (w.made (H ++ [a, b, c]).length [] ++ [])) (made_bl w _ _ _) ho (made_m w _ _ _) (GoodM.nil w)
      have hpl : (pc (w.at w.rd w.L) 0 9).length = 18 := pc_len _ 9 0
      have hps := pc_scal (w.at w.rd w.L) 9 0
      have htk : List.take 18 (pc (w.at w.rd w.L) 0 9) = pc (w.at w.rd w.L) 0 9 := List.take_of_length_le (by rw [hpl]; exact Nat.le_refl _)
      have hpd : List.drop 18 (List.replicate 18 (I 0)) = [] := rfl
      simp only [hv, hi, if_true, Wea.made, Wea.av, Wea.logV, List.length_append, List.length_cons, List.length_nil, List.append_assoc, List.cons_append, List.nil_append, List.append_nil, List.length_append, Nat.add_assoc, Nat.reduceAdd, Nat.zero_add, (show (0 : Int) ≤ 10 by decide)] at hO hT ⊢
      rcases Bool.eq_false_or_eq_true w.can with hc | hc
      rotate_left
      · simp only [hc, if_true, Bool.false_eq_true, if_false, (show ¬ (10 : Int) = 0 by decide)] at hT ⊢
        refine (callFL_eq fn18 rfl (by simp [Tryd.f18])).trans ?_
        simp (maxSteps := 1000000) (implicitDefEqProofs := false) (disch := first | rfl | omega | assumption) only [go_sem, ↓reduceIte, Nat.reduceEqDiff, Nat.reduceAdd, Nat.reduceLeDiff, Nat.reduceBEq, Nat.reduceMul, Nat.reduceLT, Int.reduceLT, Int.reduceLE, Int.reduceToNat, Int.reduceNeg, Int.reduceEq, Int.reduceMul, reduceCtorEq, Int.reduceBEq, Int.reduceBNe, Int.reduceAdd, Int.reduceSub, ltT, ltF, leT, leF, s1]
        rw [chkK_of]; rotate_left; kernel_rfl
        simp (maxSteps := 1000000) (implicitDefEqProofs := false) (disch := first | rfl | omega | assumption) only [go_sem, ↓reduceIte, Nat.reduceEqDiff, Nat.reduceAdd, Nat.reduceLeDiff, Nat.reduceBEq, Nat.reduceMul, Nat.reduceLT, Int.reduceLT, Int.reduceLE, Int.reduceToNat, Int.reduceNeg, Int.reduceEq, Int.reduceMul, reduceCtorEq, Int.reduceBEq, Int.reduceBNe, Int.reduceAdd, Int.reduceSub, ltT, ltF, leT, leF, s1, h.es.len, hO, hT, hS, we_isLimit, hi]
      · simp only [hc, if_true, Bool.false_eq_true, if_false] at hT ⊢
        refine (callFL_eq fn18 rfl (by simp [Tryd.f18])).trans ?_
        simp (maxSteps := 1000000) (implicitDefEqProofs := false) (disch := first | rfl | omega | assumption) only [go_sem, ↓reduceIte, Nat.reduceEqDiff, Nat.reduceAdd, Nat.reduceLeDiff, Nat.reduceBEq, Nat.reduceMul, Nat.reduceLT, Int.reduceLT, Int.reduceLE, Int.reduceToNat, Int.reduceNeg, Int.reduceEq, Int.reduceMul, reduceCtorEq, Int.reduceBEq, Int.reduceBNe, Int.reduceAdd, Int.reduceSub, ltT, ltF, leT, leF, s1]
        rw [chkK_of]; rotate_left; kernel_rfl
        simp (maxSteps := 1000000) (implicitDefEqProofs := false) (disch := first | rfl | omega | assumption) only [go_sem, ↓reduceIte, Nat.reduceEqDiff, Nat.reduceAdd, Nat.reduceLeDiff, Nat.reduceBEq, Nat.reduceMul, Nat.reduceLT, Int.reduceLT, Int.reduceLE, Int.reduceToNat, Int.reduceNeg, Int.reduceEq, Int.reduceMul, reduceCtorEq, Int.reduceBEq, Int.reduceBNe, Int.reduceAdd, Int.reduceSub, ltT, ltF, leT, leF, s1, h.es.len, hO, hT, we_isLimit, hi, hpl, hps, htk]
        exact below_loop (w.at w.rd w.L) w.es.length h8 n _ _ w.es.length 0 (by omega) _ (by rfl) (by rfl) (by rfl) (by rfl) (by rfl) (by rfl) (by rfl)

theorem day_bad (n : Int) (H : Heap) : callFL cfg0 prog0 false 61 [I n] H none = some ⟨.ret (.bool !wi n 0 20), H, none⟩ := by
  refine (callFL_eq fn61 rfl (by simp [Tryd.f61])).trans ?_
  simp (maxSteps := 1000000) (implicitDefEqProofs := false) (disch := first | rfl | omega | assumption) only [go_sem, ↓reduceIte, Nat.reduceEqDiff, Nat.reduceAdd, Nat.reduceLeDiff, Nat.reduceBEq, Nat.reduceMul, Nat.reduceLT, Int.reduceLT, Int.reduceLE, Int.reduceToNat, Int.reduceNeg, Int.reduceEq, Int.reduceMul, reduceCtorEq, Int.reduceBEq, Int.reduceBNe, Int.reduceAdd, Int.reduceSub, ltT, ltF, leT, leF, we_within]

def firstOff (l : List Int) (j q : Nat) : Int := (findF (fun i => if wi (l.getD i 0) 0 20 then none else some (i : Int)) j q).getD (-1)

theorem firstOff_any (l : List Int) : ∀ (q j : Nat), decide (0 ≤ firstOff l j q) = anyF (fun i => !wi (l.getD i 0) 0 20) j q
  | 0, j => rfl
  | q + 1, j => by
    have ih := firstOff_any l q (j + 1)
    have e : firstOff l j (q + 1) = if wi (l.getD j 0) 0 20 then firstOff l (j + 1) q else (j : Int) := by
      simp only [firstOff, findF]
      cases wi (l.getD j 0) 0 20 <;> rfl
    rw [e]
    simp only [anyF]
    cases h : wi (l.getD j 0) 0 20
    · simp
    · simpa using ih

theorem idxI_loop {l : List Int} {v : AV} (h : SlOk H 1 v (l.map I)) (hl : l.length ≤ 1000000) :
    ∀ (q j : Nat), j + q = l.length → ∀ E : Env, E.get 0 = v → E.get 1 = .func (.func 61) [] [] → E.get 7 = I l.length → E.get 8 = I j →
    Option.map (finishC H.length) (execL cfg0 prog0 ⟨85, none, false, H.length⟩ (todoAt Tryd.f85 2) ⟨E, [], H, none⟩) = some ⟨.ret (I (firstOff l j q)), H, none⟩ := by
  intro q
  obtain ⟨a1, a2, a3, a4⟩ := h.fI
  induction q with
  | zero =>
    intro j hj  E g0 g1 g7 g8
    have hk' : ¬ (j : Int) < ((l.length : Nat) : Int) := by omega
    simp only [loopIt, todoPast, todoAt, todoOf, firstReg, ↓reduceIte, Option.some.injEq, Nat.reduceEqDiff, reduceCtorEq, Tryd.f85]
    rw [execL_inLoop]
    simp (maxSteps := 1000000) (implicitDefEqProofs := false) (disch := first | rfl | omega | assumption) only [go_sem, ↓reduceIte, Nat.reduceEqDiff, Nat.reduceAdd, Nat.reduceLeDiff, Nat.reduceBEq, Nat.reduceMul, Nat.reduceLT, Int.reduceLT, Int.reduceLE, Int.reduceToNat, Int.reduceNeg, Int.reduceEq, Int.reduceMul, reduceCtorEq, Int.reduceBEq, Int.reduceBNe, Int.reduceAdd, Int.reduceSub, g0, g1, g7, g8, ltT, ltF, leT, leF, hk', firstOff, findF]
  | succ q ih =>
    intro j hj  E g0 g1 g7 g8
    have hk' : (j : Int) < ((l.length : Nat) : Int) := by omega
    have hk2 : j < l.length := by omega
    have hb := fun G => day_bad (l.getD j 0) G
    simp only [firstOff, findF]
    simp only [loopIt, todoPast, todoAt, todoOf, firstReg, ↓reduceIte, Option.some.injEq, Nat.reduceEqDiff, reduceCtorEq, Tryd.f85]
    rw [execL_inLoop]
    rcases Bool.eq_false_or_eq_true (wi (l.getD j 0) 0 20) with hc | hc
    · simp (maxSteps := 1000000) (implicitDefEqProofs := false) (disch := first | rfl | omega | assumption) only [go_sem, ↓reduceIte, Nat.reduceEqDiff, Nat.reduceAdd, Nat.reduceLeDiff, Nat.reduceBEq, Nat.reduceMul, Nat.reduceLT, Int.reduceLT, Int.reduceLE, Int.reduceToNat, Int.reduceNeg, Int.reduceEq, Int.reduceMul, reduceCtorEq, Int.reduceBEq, Int.reduceBNe, Int.reduceAdd, Int.reduceSub, g0, g1, g7, g8, ltT, ltF, leT, leF, hk', a1, a2, a3, a4, hb, hc]
      exact ih (j + 1) (by omega) _ (by exact g0) (by exact g1) (by exact g7) (by rfl)
    · simp (maxSteps := 1000000) (implicitDefEqProofs := false) (disch := first | rfl | omega | assumption) only [go_sem, ↓reduceIte, Nat.reduceEqDiff, Nat.reduceAdd, Nat.reduceLeDiff, Nat.reduceBEq, Nat.reduceMul, Nat.reduceLT, Int.reduceLT, Int.reduceLE, Int.reduceToNat, Int.reduceNeg, Int.reduceEq, Int.reduceMul, reduceCtorEq, Int.reduceBEq, Int.reduceBNe, Int.reduceAdd, Int.reduceSub, g0, g1, g7, g8, ltT, ltF, leT, leF, hk', a1, a2, a3, a4, hb, hc]

def offB (l : List Int) : Bool := anyF (fun i => !wi (l.getD i 0) 0 20) 0 l.length

theorem day_contains {l : List Int} {v : AV} (h : SlOk H 1 v (l.map I)) (hl : l.length ≤ 1000000) : callFL cfg0 prog0 false 62 [v, .func (.func 61) [] []] H none = some ⟨.ret (.bool (offB l)), H, none⟩ := by
  have hx : callFL cfg0 prog0 false 85 [v, .func (.func 61) [] []] H none = some ⟨.ret (I (firstOff l 0 l.length)), H, none⟩ := by
    refine (callFL_eq fn85 rfl (by simp [Tryd.f85])).trans ?_
    simp (maxSteps := 1000000) (implicitDefEqProofs := false) (disch := first | rfl | omega | assumption) only [go_sem, ↓reduceIte, Nat.reduceEqDiff, Nat.reduceAdd, Nat.reduceLeDiff, Nat.reduceBEq, Nat.reduceMul, Nat.reduceLT, Int.reduceLT, Int.reduceLE, Int.reduceToNat, Int.reduceNeg, Int.reduceEq, Int.reduceMul, reduceCtorEq, Int.reduceBEq, Int.reduceBNe, Int.reduceAdd, Int.reduceSub, ltT, ltF, leT, leF, h.len]
    exact idxI_loop h hl l.length 0 (by omega) _ (by rfl) (by rfl) (by rfl) (by rfl)
  rw [offB, ← firstOff_any]
  refine (callFL_eq fn62 rfl (by simp [Tryd.f62])).trans ?_
  simp (maxSteps := 1000000) (implicitDefEqProofs := false) (disch := first | rfl | omega | assumption) only [go_sem, ↓reduceIte, Nat.reduceEqDiff, Nat.reduceAdd, Nat.reduceLeDiff, Nat.reduceBEq, Nat.reduceMul, Nat.reduceLT, Int.reduceLT, Int.reduceLE, Int.reduceToNat, Int.reduceNeg, Int.reduceEq, Int.reduceMul, reduceCtorEq, Int.reduceBEq, Int.reduceBNe, Int.reduceAdd, Int.reduceSub, hx]

/-- What is left after so many days. -/
def leftD (u : Int) (l : List Int) (x : Int) : Nat → Int
  | 0 => x
  | j + 1 => leftD u l x j - l.getD j 0 * u

theorem day_use {w : Wea} {ve : AV} (n lim x : Int) (p1 p2 p3 : Nat) (h1 : H[p1]? = some (.box (I x))) (h2 : H[p2]? = some (.box (w.av ve))) (h3 : H[p3]? = some (.box (I lim))) (hd : p1 ≠ p3) (hn : 0 ≤ n ∧ n ≤ 20) (hu : 0 ≤ w.uhi ∧ w.uhi ≤ 3) (hx : -4000000 ≤ x ∧ x ≤ 4000000) :
    callFL cfg0 prog0 false 64 [I n, .ptr p1 0, .ptr p2 0, .ptr p3 0] H none = some ⟨.ret (.bool (decide (x - n * w.uhi < lim))), H.set p1 (.box (I (x - n * w.uhi))), none⟩ := by
  have l1 : p1 < H.length := (List.getElem?_eq_some_iff.1 h1).1
  have b := mul_bd hn hu
  simp only [Wea.av] at h2
  have e1 : (H.set p1 (.box (I (x - n * w.uhi))))[p1]? = some (.box (I (x - n * w.uhi))) := List.getElem?_set_self l1
  have e2 : ∀ o, (H.set p1 o)[p3]? = some (.box (I lim)) := fun o => by rw [List.getElem?_set_ne hd]; exact h3
  refine (callFL_eq fn64 rfl (by simp [Tryd.f64])).trans ?_
  simp (maxSteps := 1000000) (implicitDefEqProofs := false) (disch := first | rfl | omega | assumption) only [go_sem, ↓reduceIte, Nat.reduceEqDiff, Nat.reduceAdd, Nat.reduceLeDiff, Nat.reduceBEq, Nat.reduceMul, Nat.reduceLT, Int.reduceLT, Int.reduceLE, Int.reduceToNat, Int.reduceNeg, Int.reduceEq, Int.reduceMul, reduceCtorEq, Int.reduceBEq, Int.reduceBNe, Int.reduceAdd, Int.reduceSub, h1, h2, h3, e1, e2, List.getElem?_set_self l1]
  done

end Go.Ab
/-
  On which day a block can be too short; what it has lost.
-/
namespace Go.Ab
open Go.Proofs
set_option linter.unusedSimpArgs false
set_option linter.unusedVariables false
set_option maxRecDepth 100000

variable {H : Heap}

theorem we_first {v : AV} {xs : List Int} (h : SlOk H 1 v (xs.map I)) (hl : xs.length ≤ 1000000) (fn : Fn) (cap : List AV) (b : Nat → Bool) (Hs : Nat → Heap) (N : Nat) (hsl : ∀ j, (Hs j).length = N) (hp : ∀ j, ∃ G, Hs j = H ++ G) (hf : (AV.func fn [] cap).lt N = true ∧ (AV.func fn [] cap).stored = true)
    (hc : ∀ (j : Nat) (G : Heap), j < xs.length → callVL cfg0 prog0 false fn [I (xs.getD j 0)] cap (Hs j ++ G) none = some ⟨.ret (.bool (b j)), Hs (j + 1) ++ G, none⟩) :
    callFL cfg0 prog0 false 63 [v, .agg [.func fn [] cap]] (Hs 0) none = some ⟨.ret (I (firstN b 0 xs.length)), Hs (stepN b 0 xs.length), none⟩ := by
  have h1 := first_loop h hl fn cap b Hs N hsl hp hc xs.length 0 (by omega)
  obtain ⟨G, hG⟩ := hp 0
  have hln := h.len
  have h0 := hsl 0
  have s1 := h.scal
  refine (callFL_eq fn63 rfl (by simp [Tryd.f63])).trans ?_
  simp (maxSteps := 1000000) (implicitDefEqProofs := false) (disch := first | rfl | omega | assumption) only [go_sem, ↓reduceIte, Nat.reduceEqDiff, Nat.reduceAdd, Nat.reduceLeDiff, Nat.reduceBEq, Nat.reduceMul, Nat.reduceLT, Int.reduceLT, Int.reduceLE, Int.reduceToNat, Int.reduceNeg, Int.reduceEq, Int.reduceMul, reduceCtorEq, Int.reduceBEq, Int.reduceBNe, Int.reduceAdd, Int.reduceSub, ltT, ltF, leT, leF, h0, hln, s1, List.length_map]
  exact h1 _ (by rfl) (by rfl) (by rfl) (by rfl) (by rfl)

def Wea.dayB (w : Wea) (lim : Int) (l : List Int) (j : Nat) : Bool := decide (leftD w.uhi l w.lastP.1 (j + 1) < lim)
def dayOk (lim : Int) (l : List Int) : Bool := wi lim (-1000) 1000 && !offB l

def Wea.dayP (w : Wea) (lim : Int) (l : List Int) : Int × Int := if w.gate l.length (dayOk lim l) = 0 then (if firstN (w.dayB lim l) 0 l.length < l.length then ((firstN (w.dayB lim l) 0 l.length : Nat), 0) else (0, 4)) else (0, w.gate l.length (dayOk lim l))

theorem firstN_le (b : Nat → Bool) : ∀ q j, firstN b j q ≤ j + q
  | 0, j => Nat.le_refl _
  | q + 1, j => by
    simp only [firstN]
    split
    · omega
    · have := firstN_le b q (j + 1)
      omega

theorem leftD_bd {u : Int} (hu : 0 ≤ u ∧ u ≤ 3) {l : List Int} (hl : ∀ i, i < l.length → 0 ≤ l.getD i 0 ∧ l.getD i 0 ≤ 20) (x : Int) : ∀ j, j ≤ l.length → x - 60 * j ≤ leftD u l x j ∧ leftD u l x j ≤ x
  | 0, _ => by simp [leftD]
  | j + 1, h => by
    have ih := leftD_bd hu hl x j (by omega)
    have b := mul_bd (hl j (by omega)) hu
    simp only [leftD]
    omega

theorem offB_false {l : List Int} (h : offB l = false) : ∀ i, i < l.length → 0 ≤ l.getD i 0 ∧ l.getD i 0 ≤ 20 := by
  intro i hi
  have := (anyF_false _ _ _).1 h i (by omega) (by omega)
  rw [Bool.not_eq_false', wi_iff] at this
  exact this

theorem we_Day {w : Wea} {ve v : AV} (h : WeaAt H w ve) (hl : w.es.length ≤ 1000) {l : List Int} (hv' : SlOk H 1 v (l.map I)) (hl' : l.length ≤ 1000000) (n : Int) :
    callFL cfg0 prog0 false 24 [w.av ve, I n, v] H none = some ⟨.ret (.tup [I (w.dayP n l).1, I (w.dayP n l).2]), H, none⟩ := by
  have s1 := h.es.scal
  have s2 := hv'.scal
  have s3 := hv'.len
  rw [List.length_map] at s3
  have hO := fun (a b c d : AO) => we_open (H := H ++ [a, b, c, d]) (h.app _) hl l.length (dayOk n l)
  have hS := fun (e : Int) (x0 x1 : AO) (G : Heap) => we_anss (H.length + 2) e 0 (H ++ (x0 :: x1 :: .box (I 0) :: G)) (by rw [get_at' 2]; rfl)
  have hN := fun (G : Heap) => we_ansn (H.length + 2) G
  have hC := fun (G : Heap) => day_contains (hv'.app G) hl'
  have hgate : ∀ x : Bool, (if wi n (-1000) 1000 = true then !offB l else false) = dayOk n l := by
    intro _; simp only [dayOk]; cases wi n (-1000) 1000 <;> rfl
  simp only [Wea.dayP, Wea.gate]
  rcases Bool.eq_false_or_eq_true w.valid with hv | hv
  rotate_left
  · simp only [hv, if_true, if_false, Bool.false_eq_true, Wea.made, Wea.av, List.length_append, List.length_cons, List.length_nil, List.append_assoc, List.cons_append, List.nil_append, List.append_nil, Nat.add_assoc, Nat.reduceAdd, Nat.zero_add, (show ¬ (1 : Int) = 0 by decide)] at hO ⊢
    simp only [dayOk] at hO
    cases hi : wi n (-1000) 1000
    · simp only [hi, Bool.false_and] at hO
      refine (callFL_eq fn24 rfl (by simp [Tryd.f24])).trans ?_
      simp (maxSteps := 1000000) (implicitDefEqProofs := false) (disch := first | rfl | omega | assumption) only [go_sem, ↓reduceIte, Nat.reduceEqDiff, Nat.reduceAdd, Nat.reduceLeDiff, Nat.reduceBEq, Nat.reduceMul, Nat.reduceLT, Int.reduceLT, Int.reduceLE, Int.reduceToNat, Int.reduceNeg, Int.reduceEq, Int.reduceMul, reduceCtorEq, Int.reduceBEq, Int.reduceBNe, Int.reduceAdd, Int.reduceSub, ltT, ltF, leT, leF, s1, s2, s3]
      rw [chkK_of]; rotate_left; kernel_rfl
      simp (maxSteps := 1000000) (implicitDefEqProofs := false) (disch := first | rfl | omega | assumption) only [go_sem, ↓reduceIte, Nat.reduceEqDiff, Nat.reduceAdd, Nat.reduceLeDiff, Nat.reduceBEq, Nat.reduceMul, Nat.reduceLT, Int.reduceLT, Int.reduceLE, Int.reduceToNat, Int.reduceNeg, Int.reduceEq, Int.reduceMul, reduceCtorEq, Int.reduceBEq, Int.reduceBNe, Int.reduceAdd, Int.reduceSub, ltT, ltF, leT, leF, s1, s2, s3, h.es.len, hO, hS, we_isLimit, hC, hi]
    · simp only [hi, Bool.true_and] at hO
      refine (callFL_eq fn24 rfl (by simp [Tryd.f24])).trans ?_
      simp (maxSteps := 1000000) (implicitDefEqProofs := false) (disch := first | rfl | omega | assumption) only [go_sem, ↓reduceIte, Nat.reduceEqDiff, Nat.reduceAdd, Nat.reduceLeDiff, Nat.reduceBEq, Nat.reduceMul, Nat.reduceLT, Int.reduceLT, Int.reduceLE, Int.reduceToNat, Int.reduceNeg, Int.reduceEq, Int.reduceMul, reduceCtorEq, Int.reduceBEq, Int.reduceBNe, Int.reduceAdd, Int.reduceSub, ltT, ltF, leT, leF, s1, s2, s3]
      rw [chkK_of]; rotate_left; kernel_rfl
      simp (maxSteps := 1000000) (implicitDefEqProofs := false) (disch := first | rfl | omega | assumption) only [go_sem, ↓reduceIte, Nat.reduceEqDiff, Nat.reduceAdd, Nat.reduceLeDiff, Nat.reduceBEq, Nat.reduceMul, Nat.reduceLT, Int.reduceLT, Int.reduceLE, Int.reduceToNat, Int.reduceNeg, Int.reduceEq, Int.reduceMul, reduceCtorEq, Int.reduceBEq, Int.reduceBNe, Int.reduceAdd, Int.reduceSub, ltT, ltF, leT, leF, s1, s2, s3, h.es.len, hO, hS, we_isLimit, hC, hi]
  · by_cases hd : (l.length : Int) ≤ 10
    rotate_left
    · simp only [hv, hd, if_true, if_false, Bool.false_eq_true, Wea.made, Wea.av, List.length_append, List.length_cons, List.length_nil, List.append_assoc, List.cons_append, List.nil_append, List.append_nil, Nat.add_assoc, Nat.reduceAdd, Nat.zero_add, (show ¬ (3 : Int) = 0 by decide)] at hO ⊢
      simp only [dayOk] at hO
      cases hi : wi n (-1000) 1000
      · simp only [hi, Bool.false_and] at hO
        refine (callFL_eq fn24 rfl (by simp [Tryd.f24])).trans ?_
        simp (maxSteps := 1000000) (implicitDefEqProofs := false) (disch := first | rfl | omega | assumption) only [go_sem, ↓reduceIte, Nat.reduceEqDiff, Nat.reduceAdd, Nat.reduceLeDiff, Nat.reduceBEq, Nat.reduceMul, Nat.reduceLT, Int.reduceLT, Int.reduceLE, Int.reduceToNat, Int.reduceNeg, Int.reduceEq, Int.reduceMul, reduceCtorEq, Int.reduceBEq, Int.reduceBNe, Int.reduceAdd, Int.reduceSub, ltT, ltF, leT, leF, s1, s2, s3]
        rw [chkK_of]; rotate_left; kernel_rfl
        simp (maxSteps := 1000000) (implicitDefEqProofs := false) (disch := first | rfl | omega | assumption) only [go_sem, ↓reduceIte, Nat.reduceEqDiff, Nat.reduceAdd, Nat.reduceLeDiff, Nat.reduceBEq, Nat.reduceMul, Nat.reduceLT, Int.reduceLT, Int.reduceLE, Int.reduceToNat, Int.reduceNeg, Int.reduceEq, Int.reduceMul, reduceCtorEq, Int.reduceBEq, Int.reduceBNe, Int.reduceAdd, Int.reduceSub, ltT, ltF, leT, leF, s1, s2, s3, h.es.len, hO, hS, we_isLimit, hC, hi]
      · simp only [hi, Bool.true_and] at hO
        refine (callFL_eq fn24 rfl (by simp [Tryd.f24])).trans ?_
        simp (maxSteps := 1000000) (implicitDefEqProofs := false) (disch := first | rfl | omega | assumption) only [go_sem, ↓reduceIte, Nat.reduceEqDiff, Nat.reduceAdd, Nat.reduceLeDiff, Nat.reduceBEq, Nat.reduceMul, Nat.reduceLT, Int.reduceLT, Int.reduceLE, Int.reduceToNat, Int.reduceNeg, Int.reduceEq, Int.reduceMul, reduceCtorEq, Int.reduceBEq, Int.reduceBNe, Int.reduceAdd, Int.reduceSub, ltT, ltF, leT, leF, s1, s2, s3]
        rw [chkK_of]; rotate_left; kernel_rfl
        simp (maxSteps := 1000000) (implicitDefEqProofs := false) (disch := first | rfl | omega | assumption) only [go_sem, ↓reduceIte, Nat.reduceEqDiff, Nat.reduceAdd, Nat.reduceLeDiff, Nat.reduceBEq, Nat.reduceMul, Nat.reduceLT, Int.reduceLT, Int.reduceLE, Int.reduceToNat, Int.reduceNeg, Int.reduceEq, Int.reduceMul, reduceCtorEq, Int.reduceBEq, Int.reduceBNe, Int.reduceAdd, Int.reduceSub, ltT, ltF, leT, leF, s1, s2, s3, h.es.len, hO, hS, we_isLimit, hC, hi]
    · rcases Bool.eq_false_or_eq_true (dayOk n l) with hk | hk
      rotate_left
      · simp only [hv, hd, hk, if_true, if_false, Bool.false_eq_true, Wea.made, Wea.av, List.length_append, List.length_cons, List.length_nil, List.append_assoc, List.cons_append, List.nil_append, List.append_nil, Nat.add_assoc, Nat.reduceAdd, Nat.zero_add, (show ¬ (2 : Int) = 0 by decide)] at hO ⊢
        simp only [dayOk] at hk
        cases hi : wi n (-1000) 1000
        · refine (callFL_eq fn24 rfl (by simp [Tryd.f24])).trans ?_
          simp (maxSteps := 1000000) (implicitDefEqProofs := false) (disch := first | rfl | omega | assumption) only [go_sem, ↓reduceIte, Nat.reduceEqDiff, Nat.reduceAdd, Nat.reduceLeDiff, Nat.reduceBEq, Nat.reduceMul, Nat.reduceLT, Int.reduceLT, Int.reduceLE, Int.reduceToNat, Int.reduceNeg, Int.reduceEq, Int.reduceMul, reduceCtorEq, Int.reduceBEq, Int.reduceBNe, Int.reduceAdd, Int.reduceSub, ltT, ltF, leT, leF, s1, s2, s3]
          rw [chkK_of]; rotate_left; kernel_rfl
          simp (maxSteps := 1000000) (implicitDefEqProofs := false) (disch := first | rfl | omega | assumption) only [go_sem, ↓reduceIte, Nat.reduceEqDiff, Nat.reduceAdd, Nat.reduceLeDiff, Nat.reduceBEq, Nat.reduceMul, Nat.reduceLT, Int.reduceLT, Int.reduceLE, Int.reduceToNat, Int.reduceNeg, Int.reduceEq, Int.reduceMul, reduceCtorEq, Int.reduceBEq, Int.reduceBNe, Int.reduceAdd, Int.reduceSub, ltT, ltF, leT, leF, s1, s2, s3, h.es.len, hO, hS, we_isLimit, hC, hi]
        · simp only [hi, Bool.true_and] at hk
          refine (callFL_eq fn24 rfl (by simp [Tryd.f24])).trans ?_
          simp (maxSteps := 1000000) (implicitDefEqProofs := false) (disch := first | rfl | omega | assumption) only [go_sem, ↓reduceIte, Nat.reduceEqDiff, Nat.reduceAdd, Nat.reduceLeDiff, Nat.reduceBEq, Nat.reduceMul, Nat.reduceLT, Int.reduceLT, Int.reduceLE, Int.reduceToNat, Int.reduceNeg, Int.reduceEq, Int.reduceMul, reduceCtorEq, Int.reduceBEq, Int.reduceBNe, Int.reduceAdd, Int.reduceSub, ltT, ltF, leT, leF, s1, s2, s3]
          rw [chkK_of]; rotate_left; kernel_rfl
          simp (maxSteps := 1000000) (implicitDefEqProofs := false) (disch := first | rfl | omega | assumption) only [go_sem, ↓reduceIte, Nat.reduceEqDiff, Nat.reduceAdd, Nat.reduceLeDiff, Nat.reduceBEq, Nat.reduceMul, Nat.reduceLT, Int.reduceLT, Int.reduceLE, Int.reduceToNat, Int.reduceNeg, Int.reduceEq, Int.reduceMul, reduceCtorEq, Int.reduceBEq, Int.reduceBNe, Int.reduceAdd, Int.reduceSub, ltT, ltF, leT, leF, s1, s2, s3, h.es.len, hO, hS, we_isLimit, hC, hi, hk]
      · have ho := w.valid_iff.1 hv
        have h8 := ho.many
        have hT := fun (a b c d : AO) => we_last (H := H ++ [a, b, c, d] ++ (w.made (H ++ [a, b, c, d]).length [] ++ [])) (made_bl w _ _ _) ho (made_m w _ _ _) (GoodM.nil w)
        have hk2 := hk
        simp only [dayOk, Bool.and_eq_true, Bool.not_eq_true'] at hk2
        obtain ⟨hi, hoff⟩ := hk2
        have hab := at_bd ho (Nat.le_refl _)
        simp only [bd] at hab
        have hu : 0 ≤ w.uhi ∧ w.uhi ≤ 3 := by have := ho.use; omega
        have hle := leftD_bd hu (offB_false hoff) w.lastP.1
        simp only [hv, hd, hk, if_true, Wea.made, Wea.av, List.length_append, List.length_cons, List.length_nil, List.append_assoc, List.cons_append, List.nil_append, List.append_nil, Nat.add_assoc, Nat.reduceAdd, Nat.zero_add] at hO hT ⊢
        rcases Bool.eq_false_or_eq_true w.can with hc | hc
        rotate_left
        · simp only [hc, if_true, Bool.false_eq_true, if_false, (show ¬ (10 : Int) = 0 by decide)] at hT ⊢
          refine (callFL_eq fn24 rfl (by simp [Tryd.f24])).trans ?_
          simp (maxSteps := 1000000) (implicitDefEqProofs := false) (disch := first | rfl | omega | assumption) only [go_sem, ↓reduceIte, Nat.reduceEqDiff, Nat.reduceAdd, Nat.reduceLeDiff, Nat.reduceBEq, Nat.reduceMul, Nat.reduceLT, Int.reduceLT, Int.reduceLE, Int.reduceToNat, Int.reduceNeg, Int.reduceEq, Int.reduceMul, reduceCtorEq, Int.reduceBEq, Int.reduceBNe, Int.reduceAdd, Int.reduceSub, ltT, ltF, leT, leF, s1, s2, s3]
          rw [chkK_of]; rotate_left; kernel_rfl
          simp (maxSteps := 1000000) (implicitDefEqProofs := false) (disch := first | rfl | omega | assumption) only [go_sem, ↓reduceIte, Nat.reduceEqDiff, Nat.reduceAdd, Nat.reduceLeDiff, Nat.reduceBEq, Nat.reduceMul, Nat.reduceLT, Int.reduceLT, Int.reduceLE, Int.reduceToNat, Int.reduceNeg, Int.reduceEq, Int.reduceMul, reduceCtorEq, Int.reduceBEq, Int.reduceBNe, Int.reduceAdd, Int.reduceSub, ltT, ltF, leT, leF, s1, s2, s3, h.es.len, hO, hT, hS, we_isLimit, hC, hi, hoff]
        · simp only [hc, if_true, Bool.false_eq_true, if_false] at hT ⊢
          refine (callFL_eq fn24 rfl (by simp [Tryd.f24])).trans ?_
          simp (maxSteps := 1000000) (implicitDefEqProofs := false) (disch := first | rfl | omega | assumption) only [go_sem, ↓reduceIte, Nat.reduceEqDiff, Nat.reduceAdd, Nat.reduceLeDiff, Nat.reduceBEq, Nat.reduceMul, Nat.reduceLT, Int.reduceLT, Int.reduceLE, Int.reduceToNat, Int.reduceNeg, Int.reduceEq, Int.reduceMul, reduceCtorEq, Int.reduceBEq, Int.reduceBNe, Int.reduceAdd, Int.reduceSub, ltT, ltF, leT, leF, s1, s2, s3]
          rw [chkK_of]; rotate_left; kernel_rfl
          simp (maxSteps := 1000000) (implicitDefEqProofs := false) (disch := first | rfl | omega | assumption) only [go_sem, ↓reduceIte, Nat.reduceEqDiff, Nat.reduceAdd, Nat.reduceLeDiff, Nat.reduceBEq, Nat.reduceMul, Nat.reduceLT, Int.reduceLT, Int.reduceLE, Int.reduceToNat, Int.reduceNeg, Int.reduceEq, Int.reduceMul, reduceCtorEq, Int.reduceBEq, Int.reduceBNe, Int.reduceAdd, Int.reduceSub, ltT, ltF, leT, leF, s1, s2, s3, h.es.len, hO, hT, we_isLimit, hC, hi, hoff]
          have hF := we_first hv' hl' (.func 64) [.ptr (H.length + 3) 0, .ptr H.length 0, .ptr (H.length + 1) 0] (w.dayB n l)
            (fun j => H ++ [.box (.agg [I w.llo, I w.lhi, I w.ulo, I w.uhi, ve]), .box (I n), .box (I 0), .box (I (leftD w.uhi l w.lastP.1 j)), .box (.agg [I w.llo, I w.lhi, I w.ulo, I w.uhi, .gsl (H.length + 5) w.es.length]), .grow 4 (w.es.map Ev.av), .map 88 (w.folM w.rd w.L []), .box (.agg [I w.llo, I w.lhi, I w.ulo, I w.uhi, .gsl (H.length + 5) w.es.length, .map (H.length + 6)])])
            (H.length + 8) (fun j => by simp) (fun j => ⟨_, rfl⟩) ⟨by simp [AV.lt, ltL, fnLt], rfl⟩ (fun j G hj => by
              have hb := offB_false hoff j hj
              have hj1 := hle j (by omega)
              have hx : -4000000 ≤ leftD w.uhi l w.lastP.1 j ∧ leftD w.uhi l w.lastP.1 j ≤ 4000000 := by
                simp only [Wea.lastP] at hj1 ⊢
                omega
              have hd := day_use (w := w) (ve := ve) (H := H ++ [.box (.agg [I w.llo, I w.lhi, I w.ulo, I w.uhi, ve]), .box (I n), .box (I 0), .box (I (leftD w.uhi l w.lastP.1 j)), .box (.agg [I w.llo, I w.lhi, I w.ulo, I w.uhi, .gsl (H.length + 5) w.es.length]), .grow 4 (w.es.map Ev.av), .map 88 (w.folM w.rd w.L []), .box (.agg [I w.llo, I w.lhi, I w.ulo, I w.uhi, .gsl (H.length + 5) w.es.length, .map (H.length + 6)])] ++ G)
                (l.getD j 0) n (leftD w.uhi l w.lastP.1 j) (H.length + 3) H.length (H.length + 1) (by simp [get_at']) (by simp [get_at, Wea.av]) (by simp [get_at']) (by omega) hb hu hx
              simp only [callVL_func, List.append_assoc, List.cons_append, List.nil_append, set_at', List.set_cons_succ, List.set_cons_zero] at hd ⊢
              exact hd)
          simp only [leftD, Wea.lastP] at hF
          rw [hF]
          have hfl' := firstN_le (w.dayB n l) l.length 0
          generalize stepN (w.dayB n l) 0 l.length = sN
          generalize firstN (w.dayB n l) 0 l.length = fN at *
          by_cases hc2 : fN < l.length
          · have hc3 : (fN : Int) < l.length := by omega
            simp only [if_pos hc2]
            simp (maxSteps := 1000000) (implicitDefEqProofs := false) (disch := first | rfl | omega | assumption) only [go_sem, ↓reduceIte, Nat.reduceEqDiff, Nat.reduceAdd, Nat.reduceLeDiff, Nat.reduceBEq, Nat.reduceMul, Nat.reduceLT, Int.reduceLT, Int.reduceLE, Int.reduceToNat, Int.reduceNeg, Int.reduceEq, Int.reduceMul, reduceCtorEq, Int.reduceBEq, Int.reduceBNe, Int.reduceAdd, Int.reduceSub, ltT, ltF, leT, leF, s1, s2, s3, hN, hc3, we_ask]
          · have hc3 : ¬ (fN : Int) < l.length := by omega
            simp only [if_neg hc2]
            simp (maxSteps := 1000000) (implicitDefEqProofs := false) (disch := first | rfl | omega | assumption) only [go_sem, ↓reduceIte, Nat.reduceEqDiff, Nat.reduceAdd, Nat.reduceLeDiff, Nat.reduceBEq, Nat.reduceMul, Nat.reduceLT, Int.reduceLT, Int.reduceLE, Int.reduceToNat, Int.reduceNeg, Int.reduceEq, Int.reduceMul, reduceCtorEq, Int.reduceBEq, Int.reduceBNe, Int.reduceAdd, Int.reduceSub, ltT, ltF, leT, leF, s1, s2, s3, hS, hc3, we_ask]

end Go.Ab
/-
  What a block has lost.
-/
namespace Go.Ab
open Go.Proofs
set_option linter.unusedSimpArgs false
set_option linter.unusedVariables false
set_option maxRecDepth 100000

variable {H : Heap}

theorem at_bd' {w : Wea} (ho : w.Ok) {q : Int × Int} (hq : bd 1048576 q) {i : Nat} (hi : i ≤ w.es.length) : bd 2000000 (w.at w.rd q i) := by
  have h8 := ho.many
  simp only [Wea.at, if_pos hi]
  exact bd_mono (by omega) (bk_bd ho w.rd hq (w.es.length - i) (by omega))

theorem at0_in {w : Wea} (r : Nat) (q : Int × Int) (hc : w.canB r q = true) : q.1 ≤ (w.at r q 0).1 ∧ (w.at r q 0).1 ≤ (w.at r q 0).2 ∧ (w.at r q 0).2 ≤ q.2 := by
  simp only [Wea.canB, decide_eq_true_eq] at hc
  refine ⟨?_, hc, ?_⟩
  all_goals
    simp only [Wea.at, Nat.zero_le, if_true, Nat.sub_zero] at hc ⊢
    cases hn : w.es.length with
    | zero => simp only [Wea.bk, hn, Wea.fwd]; exact Int.le_refl _
    | succ n =>
      rw [hn] at hc
      simp only [Wea.bk, hn, Nat.add_sub_cancel, Nat.sub_self, Wea.fwd] at hc ⊢
      simp only [bothP] at hc ⊢
      split at hc
      · rename_i h
        rw [if_pos h]
        simp only [mx, mn]
        split <;> omega
      · simp at hc

def Wea.lostF (w : Wea) (st : Int × Int) (n : Int) : Int × Int := (mn st.1 (n - (w.at w.rd (n, n) w.es.length).2), mx st.2 (n - (w.at w.rd (n, n) w.es.length).1))

def Wea.outK (w : Wea) (f : Int) : Nat → Int × Int
  | 0 => (1073741824, -1073741824)
  | k + 1 => w.lostF (w.outK f k) (f + k)

def Wea.esK (w : Wea) (f : Int) : Nat → List (AV × AV)
  | 0 => w.folM w.rd w.L []
  | k + 1 => w.folM w.rd (f + k, f + k) (w.esK f k)

theorem mapLt_put {N : Nat} {k v : AV} (hk : k.lt N = true) (hv : v.lt N = true) : ∀ es : List (AV × AV), mapLt N es = true → mapLt N (putM k v es) = true
  | [], _ => by simp [putM, mapLt, hk, hv]
  | (k1, v1) :: r, h => by
    simp only [mapLt, Bool.and_eq_true] at h
    simp only [putM]
    split
    · simp [mapLt, hk, hv, h]
    · simp [mapLt, h, mapLt_put hk hv r h.2.2]

theorem mapLt_fol {N : Nat} (w : Wea) (r : Nat) (q : Int × Int) {es : List (AV × AV)} (h : mapLt N es = true) : mapLt N (w.folM r q es) = true := by
  unfold Wea.folM
  split
  · exact h
  · exact mapLt_put (by simp [qkey, AV.lt, ltL]) (by simp [Wea.logV, AV.lt, pc_lt]) es h

theorem mapLt_esK (N : Nat) (w : Wea) (f : Int) : ∀ k, mapLt N (w.esK f k) = true
  | 0 => mapLt_fol w _ _ rfl
  | k + 1 => mapLt_fol w _ _ (mapLt_esK N w f k)

theorem esK_good (w : Wea) (f : Int) : ∀ k, GoodM w (w.esK f k)
  | 0 => (GoodM.nil w).fol _ _
  | k + 1 => (esK_good w f k).fol _ _

theorem outK_bd {w : Wea} (ho : w.Ok) {f : Int} (hf : 0 ≤ f ∧ f ≤ 300) : ∀ k : Nat, k ≤ 400 → bd 1073741824 (w.outK f k)
  | 0, _ => by simp only [bd, Wea.outK]; omega
  | k + 1, h => by
    have ih := outK_bd ho hf k (by omega)
    have ha := at_bd' ho (q := (f + k, f + k)) (by simp only [bd]; omega) (Nat.le_refl _)
    simp only [bd, Wea.outK, Wea.lostF, mn, mx] at ih ha ⊢
    refine ⟨?_, ?_, ?_, ?_⟩ <;> split <;> omega

/-- What a block has lost. -/
def Wea.lostP (w : Wea) : Int × Int := if w.gate 0 true = 0 then w.outK (w.at w.rd w.L 0).1 ((w.at w.rd w.L 0).2 - (w.at w.rd w.L 0).1 + 1).toNat else (0, 0)

theorem lost_loop {w : Wea} (ho : w.Ok) (f : Int × Int) (hf : 0 ≤ f.1 ∧ f.1 ≤ f.2 ∧ f.2 ≤ 300) (o1 : AO) (ho1 : o1.lt (H.length + 9) = true) (m : Nat) (hm : f.1 + m = f.2 + 1) (hbl : ∀ (a b c : AO) (es : List (AV × AV)) (G : Heap), BlAt (H ++ (a :: b :: c :: .box (.agg [I w.llo, I w.lhi, I w.ulo, I w.uhi, .gsl (H.length + 4) w.es.length]) :: .grow 4 (w.es.map Ev.av) :: .map 88 es :: .box (.agg [I w.llo, I w.lhi, I w.ulo, I w.uhi, .gsl (H.length + 4) w.es.length, .map (H.length + 5)]) :: G)) (H.length + 6) (H.length + 4) (H.length + 5) w) :
    ∀ (q j : Nat), j + q = m → ∀ (G : Heap), ∀ E : Env, E.get 2 = .ptr (H.length + 1) 0 → E.get 3 = .ptr (H.length + 2) 0 → E.get 4 = .ptr (H.length + 6) 0 → E.get 5 = .ptr (H.length + 7) 0 → E.get 6 = .ptr (H.length + 8) 0 → E.get 7 = I (f.1 + j) →
    Option.map (finishC H.length) (execL cfg0 prog0 ⟨16, none, false, H.length⟩ (todoAt Tryd.f16 6) ⟨E, [.fn (.func 41) [.ptr (H.length + 2) 0] []], H ++ (o1 :: .box (.agg [I 0, I 0]) :: .box (I 0) :: .box (.agg [I w.llo, I w.lhi, I w.ulo, I w.uhi, .gsl (H.length + 4) w.es.length]) :: .grow 4 (w.es.map Ev.av) :: .map 88 (w.esK f.1 j) :: .box (.agg [I w.llo, I w.lhi, I w.ulo, I w.uhi, .gsl (H.length + 4) w.es.length, .map (H.length + 5)]) :: .box (KV f) :: .box (KV (w.outK f.1 j)) :: G), none⟩) = some ⟨.ret (.tup [KV (w.outK f.1 m), I 0]), H, none⟩ := by
  intro q
  have hN := fun (G : Heap) => we_ansn (H.length + 2) G
  have h8 := ho.many
  have t1 := evz_lt 0 w.es
  have t2 := fun j => mapLt_esK (H.length + 9) w f.1 j
  induction q with
  | zero =>
    intro j hj G E g2 g3 g4 g5 g6 g7
    have hk' : ¬ (j : Int) < ((m : Nat) : Int) := by omega
    have ej : j = m := by omega
    subst ej
    simp only [loopIt, todoPast, todoAt, todoOf, firstReg, ↓reduceIte, Option.some.injEq, Nat.reduceEqDiff, reduceCtorEq, Tryd.f16]
    rw [execL_inLoop]
    have hle : ¬ f.1 + (j : Int) ≤ f.2 := by omega
    simp (maxSteps := 1000000) (implicitDefEqProofs := false) (disch := first | rfl | omega | assumption) only [go_sem, ↓reduceIte, Nat.reduceEqDiff, Nat.reduceAdd, Nat.reduceLeDiff, Nat.reduceBEq, Nat.reduceMul, Nat.reduceLT, Int.reduceLT, Int.reduceLE, Int.reduceToNat, Int.reduceNeg, Int.reduceEq, Int.reduceMul, reduceCtorEq, Int.reduceBEq, Int.reduceBNe, Int.reduceAdd, Int.reduceSub, g2, g3, g4, g5, g6, g7, ltT, ltF, leT, leF, hk', hN, hle, ho1, t1, t2]
  | succ q ih =>
    intro j hj G E g2 g3 g4 g5 g6 g7
    have hk' : (j : Int) < ((m : Nat) : Int) := by omega
    have hk2 : j < m := by omega
    have hle : f.1 + (j : Int) ≤ f.2 := by omega
    have hR := fun (a b c : AO) (es : List (AV × AV)) (G : Heap) => we_reads (hbl a b c es G) ho
    have hq : bd 1048576 (f.1 + (j : Int), f.1 + (j : Int)) := by simp only [bd]; omega
    have hF := fun (a b c : AO) (G : Heap) => we_follow (hbl a b c (w.esK f.1 j) G) ho (rd_lt ho) hq (by simp [get_at']) (esK_good w f.1 j)
    have hab := at_bd' ho hq (Nat.le_refl _)
    have hob := outK_bd ho (f := f.1) (by omega) j (by omega)
    have hpl : (pc (w.at w.rd (f.1 + (j : Int), f.1 + (j : Int))) 0 9).length = 18 := pc_len _ 9 0
    have hrd := pc_read2 (w.at w.rd (f.1 + (j : Int), f.1 + (j : Int))) (i := w.es.length) (by omega)
    have b1 : w.es.length * 2 ≤ 16 := by omega
    have e1 : w.outK f.1 (j + 1) = w.lostF (w.outK f.1 j) (f.1 + j) := rfl
    have e2 : w.esK f.1 (j + 1) = w.folM w.rd (f.1 + j, f.1 + j) (w.esK f.1 j) := rfl
    have e3 : f.1 + (j : Int) + 1 = f.1 + ((j + 1 : Nat) : Int) := by omega
    simp only [Wea.lostF] at e1
    simp only [bd] at hab hob
    simp only [qkey, Wea.logV] at hF
    simp only [loopIt, todoPast, todoAt, todoOf, firstReg, ↓reduceIte, Option.some.injEq, Nat.reduceEqDiff, reduceCtorEq, Tryd.f16]
    rw [execL_inLoop]
    simp (maxSteps := 1000000) (implicitDefEqProofs := false) (disch := first | rfl | omega | assumption) only [go_sem, ↓reduceIte, Nat.reduceEqDiff, Nat.reduceAdd, Nat.reduceLeDiff, Nat.reduceBEq, Nat.reduceMul, Nat.reduceLT, Int.reduceLT, Int.reduceLE, Int.reduceToNat, Int.reduceNeg, Int.reduceEq, Int.reduceMul, reduceCtorEq, Int.reduceBEq, Int.reduceBNe, Int.reduceAdd, Int.reduceSub, g2, g3, g4, g5, g6, g7, ltT, ltF, leT, leF, hk', hle, ho1, t1, t2]
    rw [chkK_of]; rotate_left; kernel_rfl
    simp (maxSteps := 1000000) (implicitDefEqProofs := false) (disch := first | rfl | omega | assumption) only [go_sem, ↓reduceIte, Nat.reduceEqDiff, Nat.reduceAdd, Nat.reduceLeDiff, Nat.reduceBEq, Nat.reduceMul, Nat.reduceLT, Int.reduceLT, Int.reduceLE, Int.reduceToNat, Int.reduceNeg, Int.reduceEq, Int.reduceMul, reduceCtorEq, Int.reduceBEq, Int.reduceBNe, Int.reduceAdd, Int.reduceSub, g2, g3, g4, g5, g6, g7, ltT, ltF, leT, leF, hk', hle, hR, hF, hpl, hrd, b1, mn, mx]
    exact ih (j + 1) (by omega) _ _ (by rfl) (by rfl) (by rfl) (by rfl) (by rfl) (by rw [← e3]; rfl)

theorem we_Lost {w : Wea} {ve : AV} (h : WeaAt H w ve) (hl : w.es.length ≤ 1000) :
    callFL cfg0 prog0 false 16 [w.av ve] H none = some ⟨.ret (.tup [KV w.lostP, I (w.gate 0 true)]), H, none⟩ := by
  have s1 := h.es.scal
  have hO := fun (a b c : AO) => we_open (H := H ++ [a, b, c]) (h.app _) hl 0 true
  have hS := fun (e : Int) (x0 x1 : AO) (G : Heap) => we_anss (H.length + 2) e 0 (H ++ (x0 :: x1 :: .box (I 0) :: G)) (by rw [get_at' 2]; rfl)
  simp only [Wea.lostP, Wea.gate]
  rcases Bool.eq_false_or_eq_true w.valid with hv | hv
  rotate_left
  · simp only [hv, if_true, if_false, Bool.false_eq_true, Wea.made, Wea.av, List.length_append, List.length_cons, List.length_nil, List.append_assoc, List.cons_append, List.nil_append, List.append_nil, Nat.add_assoc, Nat.reduceAdd, Nat.zero_add, (show (0 : Int) ≤ 10 by decide), (show ¬ (1 : Int) = 0 by decide)] at hO ⊢
    refine (callFL_eq fn16 rfl (by simp [Tryd.f16])).trans ?_
    simp (maxSteps := 1000000) (implicitDefEqProofs := false) (disch := first | rfl | omega | assumption) only [go_sem, ↓reduceIte, Nat.reduceEqDiff, Nat.reduceAdd, Nat.reduceLeDiff, Nat.reduceBEq, Nat.reduceMul, Nat.reduceLT, Int.reduceLT, Int.reduceLE, Int.reduceToNat, Int.reduceNeg, Int.reduceEq, Int.reduceMul, reduceCtorEq, Int.reduceBEq, Int.reduceBNe, Int.reduceAdd, Int.reduceSub, ltT, ltF, leT, leF, s1, hO, hS]
  · have ho := w.valid_iff.1 hv
    have h8 := ho.many
    have hT := fun (a b c : AO) => we_told (H := H ++ [a, b, c] ++ (w.made (H ++ [a, b, c]).length [] ++ [])) (made_bl w _ _ _) ho (made_m w _ _ _) (GoodM.nil w)
    have hbl : ∀ (a b c : AO) (es : List (AV × AV)) (G : Heap), BlAt (H ++ (a :: b :: c :: .box (.agg [I w.llo, I w.lhi, I w.ulo, I w.uhi, .gsl (H.length + 4) w.es.length]) :: .grow 4 (w.es.map Ev.av) :: .map 88 es :: .box (.agg [I w.llo, I w.lhi, I w.ulo, I w.uhi, .gsl (H.length + 4) w.es.length, .map (H.length + 5)]) :: G)) (H.length + 6) (H.length + 4) (H.length + 5) w := by
      intro a b c es G
      have := made_bl w (H ++ [a, b, c]) es G
      simp only [Wea.made, Wea.av, List.length_append, List.length_cons, List.length_nil, List.append_assoc, List.cons_append, List.nil_append, List.append_nil, Nat.add_assoc, Nat.reduceAdd, Nat.zero_add] at this
      exact this
    simp only [hv, if_true, Wea.made, Wea.av, Wea.logV, List.length_append, List.length_cons, List.length_nil, List.append_assoc, List.cons_append, List.nil_append, List.append_nil, Nat.add_assoc, Nat.reduceAdd, Nat.zero_add, (show (0 : Int) ≤ 10 by decide)] at hO hT ⊢
    rcases Bool.eq_false_or_eq_true w.can with hc | hc
    rotate_left
    · simp only [hc, if_true, Bool.false_eq_true, if_false, (show ¬ (10 : Int) = 0 by decide)] at hT ⊢
      refine (callFL_eq fn16 rfl (by simp [Tryd.f16])).trans ?_
      simp (maxSteps := 1000000) (implicitDefEqProofs := false) (disch := first | rfl | omega | assumption) only [go_sem, ↓reduceIte, Nat.reduceEqDiff, Nat.reduceAdd, Nat.reduceLeDiff, Nat.reduceBEq, Nat.reduceMul, Nat.reduceLT, Int.reduceLT, Int.reduceLE, Int.reduceToNat, Int.reduceNeg, Int.reduceEq, Int.reduceMul, reduceCtorEq, Int.reduceBEq, Int.reduceBNe, Int.reduceAdd, Int.reduceSub, ltT, ltF, leT, leF, s1, hO, hT, hS]
    · have h0 : w.llo ≤ (w.at w.rd w.L 0).1 ∧ (w.at w.rd w.L 0).1 ≤ (w.at w.rd w.L 0).2 ∧ (w.at w.rd w.L 0).2 ≤ w.lhi := at0_in w.rd w.L hc
      have hL := ho.len
      simp only [hc, if_true, Bool.false_eq_true, if_false] at hT ⊢
      have hpl : (pc (w.at w.rd w.L) 0 9).length = 18 := pc_len _ 9 0
      have hrd : List.take 2 (pc (w.at w.rd w.L) 0 9) = [I (w.at w.rd w.L 0).1, I (w.at w.rd w.L 0).2] := rfl
      have h1 := lost_loop (H := H) ho (w.at w.rd w.L 0) (by omega) (.box (.agg [I w.llo, I w.lhi, I w.ulo, I w.uhi, ve])) (by simp [AO.lt, AV.lt, ltL, h.es.ltn 9]) ((w.at w.rd w.L 0).2 - (w.at w.rd w.L 0).1 + 1).toNat (by omega) hbl _ 0 (Nat.zero_add _) []
      simp only [Wea.esK, Wea.outK, Int.natCast_zero, Int.add_zero] at h1
      refine (callFL_eq fn16 rfl (by simp [Tryd.f16])).trans ?_
      simp (maxSteps := 1000000) (implicitDefEqProofs := false) (disch := first | rfl | omega | assumption) only [go_sem, ↓reduceIte, Nat.reduceEqDiff, Nat.reduceAdd, Nat.reduceLeDiff, Nat.reduceBEq, Nat.reduceMul, Nat.reduceLT, Int.reduceLT, Int.reduceLE, Int.reduceToNat, Int.reduceNeg, Int.reduceEq, Int.reduceMul, reduceCtorEq, Int.reduceBEq, Int.reduceBNe, Int.reduceAdd, Int.reduceSub, ltT, ltF, leT, leF, s1, hO, hT, hpl, hrd]
      exact h1 _ (by rfl) (by rfl) (by rfl) (by rfl) (by rfl) (by rfl)

end Go.Ab
/-
  The sort of a list of sets: plain; by insertion, walked.
-/
namespace Go.Ab
open Go.Proofs
set_option linter.unusedSimpArgs false
set_option linter.unusedVariables false
set_option maxRecDepth 100000

variable {H : Heap}

/-- Two elements change places. -/
def swp (L : List Nat) (i j : Nat) : List Nat := (L.set i (L.getD j 0)).set j (L.getD i 0)

theorem swp_len (L : List Nat) (i j : Nat) : (swp L i j).length = L.length := by simp [swp]

section
variable (key : Nat → Int)

/-- The element at a + q goes down to its place. -/
def insIn (a : Nat) : List Nat → Nat → List Nat
  | L, 0 => L
  | L, q + 1 => if key (L.getD (a + q + 1) 0) - key (L.getD (a + q) 0) < 0 then insIn a (swp L (a + q + 1) (a + q)) q else L

def insOut (a : Nat) : List Nat → Nat → Nat → List Nat
  | L, _, 0 => L
  | L, i, q + 1 => insOut a (insIn key a L (i - a)) (i + 1) q

def insS (L : List Nat) (a b : Nat) : List Nat := insOut key a L (a + 1) (b - (a + 1))

theorem insIn_len (a : Nat) : ∀ (q : Nat) (L : List Nat), (insIn key a L q).length = L.length
  | 0, _ => rfl
  | q + 1, L => by
    rw [insIn]
    split
    · rw [insIn_len a q, swp_len]
    · rfl

theorem insOut_len (a : Nat) : ∀ (q i : Nat) (L : List Nat), (insOut key a L i q).length = L.length
  | 0, _, _ => rfl
  | q + 1, i, L => by rw [insOut, insOut_len a q, insIn_len]
end

/-- A heap in which a slice has these elements. -/
abbrev GH (H : Heap) (p : Nat) (L : List Nat) : Heap := H.set p (.grow 1 (L.map U))

theorem GH_sl {p : Nat} (hp : p < H.length) (L : List Nat) : SlOk (GH H p L) 1 (.gsl p L.length) (L.map U) :=
  ⟨⟨List.getElem?_set_self hp, by simp⟩, by simp [U, AV.cells]⟩

theorem GH_set {p : Nat} {L M : List Nat} : (GH H p L).set p (.grow 1 (M.map U)) = GH H p M := by simp [GH]

theorem GH_idx {p n : Nat} (hp : p < H.length) {M : List Nat} (te : Ty) (k : Int) (hM : M.length = n) (hs : te.size = 1) (hk : 0 ≤ k ∧ k < n) : idxAddr (GH H p M) te (.gsl p n) k = some (elA (.gsl p n) k 0) := by
  subst hM
  exact (GH_sl hp M).fA (d := 0) |>.2.1 te k hs hk

theorem GH_load {p n : Nat} (hp : p < H.length) {M : List Nat} (te : Ty) (k : Nat) (hM : M.length = n) (hk : k < n) : evLoad (GH H p M) te (elA (.gsl p n) (k : Int) 0) = readPart [U (M.getD k 0)] 0 te := by
  subst hM
  have := (GH_sl hp M).fA (d := 0) |>.2.2.2.1 te (k : Int) 0 (by omega)
  rw [Int.toNat_natCast] at this
  exact this

theorem GH_store {p n b : Nat} (hp : p < H.length) {M : List Nat} {z : Option Value} (k x : Nat) (hM : M.length = n) (hk : k < n) : evStore b (GH H p M) ⟨.int .u64, 1, 8, z⟩ (elA (.gsl p n) (k : Int) 0) (U x) = some (GH H p (M.set k x)) := by
  subst hM
  have h1 : (M.map U)[k]? = some (U (M.getD k 0)) := by simp [hk]
  simp only [elA, Int.toNat_natCast, evStore, GH, List.getElem?_set_self hp, List.length_map, h1]
  simp [AV.lt, writePart, allScalar, AV.cells, AV.scalar, splice, AV.withCells]

/-- What compares: keys. -/
structure Cmp (fn : Fn) (cap : List AV) (key : Nat → Int) (B : Nat) : Prop where
  call : ∀ (x y : Nat) (G : Heap), x < B → y < B → callVL cfg0 prog0 false fn [U x, U y] cap G none = some ⟨.ret (I (key x - key y)), G, none⟩
  bd : ∀ x, -100 ≤ key x ∧ key x ≤ 100

/-- All elements are small. -/
def Small (B : Nat) (L : List Nat) : Prop := ∀ k, k < L.length → L.getD k 0 < B

theorem swp_mem {B : Nat} {L : List Nat} (h : Small B L) {i j : Nat} (hi : i < L.length) (hj : j < L.length) : Small B (swp L i j) := by
  intro k hk
  rw [swp_len] at hk
  have h1 := h i hi
  have h2 := h j hj
  have h3 := h k hk
  have e : (swp L i j).getD k 0 = if j = k then L.getD i 0 else if i = k then L.getD j 0 else L.getD k 0 := by
    simp only [swp, List.getD, List.getElem?_set, List.length_set]
    by_cases h4 : j = k
    · subst h4; simp [hj]
    · by_cases h5 : i = k
      · subst h5; simp [h4, hi]
      · simp [h4, h5]
  rw [e]
  split
  · exact h1
  · split
    · exact h2
    · exact h3

theorem insIn_loop {fn : Fn} {cap : List AV} {key : Nat → Int} {B : Nat} (hc : Cmp fn cap key B) {p : Nat} (hp : p < H.length) (a b i : Nat) (n : Nat) (hn : n ≤ 100000) (hab : i < n) (R0 : List Nat) (K : List Item) (R : Option Done) (hK : ∀ E : Env, E.get 0 = .gsl p n → E.get 1 = I a → E.get 2 = I b → E.get 3 = .func fn [] cap → E.get 8 = I i → Option.map (finishC H.length) (execL cfg0 prog0 ⟨93, none, false, H.length⟩ K ⟨E, [], GH H p R0, none⟩) = R)  :
    ∀ (q j : Nat), j + q = i - a → ∀ (L : List Nat), L.length = n → insIn key a L q = R0 → Small B L → a ≤ i → ∀ E : Env, E.get 0 = .gsl p n → E.get 1 = I a → E.get 2 = I b → E.get 3 = .func fn [] cap → E.get 8 = I i → E.get 9 = I ((a + q : Nat) : Int) →
    Option.map (finishC H.length) (execL cfg0 prog0 ⟨93, none, false, H.length⟩ (loopIt Tryd.f93 4 :: .inBlock 2 :: K) ⟨E, [], GH H p L, none⟩) = R := by
  intro q
  skip
  induction q with
  | zero =>
    intro j hj L hL hr hB hai E g0 g1 g2 g3 g8 g9
    have hk' : ¬ (j : Int) < ((i - a : Nat) : Int) := by omega
    simp only [insIn] at hr
    subst hr
    simp only [loopIt, todoPast, todoAt, todoOf, firstReg, ↓reduceIte, Option.some.injEq, Nat.reduceEqDiff, reduceCtorEq, Tryd.f93]
    rw [execL_inLoop]
    have hz : ¬ (a : Int) < ((a + 0 : Nat) : Int) := by omega
    simp (maxSteps := 1000000) (implicitDefEqProofs := false) (disch := first | rfl | omega | assumption) only [go_sem, ↓reduceIte, Nat.reduceEqDiff, Nat.reduceAdd, Nat.reduceLeDiff, Nat.reduceBEq, Nat.reduceMul, Nat.reduceLT, Int.reduceLT, Int.reduceLE, Int.reduceToNat, Int.reduceNeg, Int.reduceEq, Int.reduceMul, reduceCtorEq, Int.reduceBEq, Int.reduceBNe, Int.reduceAdd, Int.reduceSub, g0, g1, g2, g3, g8, g9, ltT, ltF, leT, leF, hk', hz]
    rw [chkK_of]; rotate_left; kernel_rfl
    simp (maxSteps := 1000000) (implicitDefEqProofs := false) (disch := first | rfl | omega | assumption) only [go_sem, ↓reduceIte, Nat.reduceEqDiff, Nat.reduceAdd, Nat.reduceLeDiff, Nat.reduceBEq, Nat.reduceMul, Nat.reduceLT, Int.reduceLT, Int.reduceLE, Int.reduceToNat, Int.reduceNeg, Int.reduceEq, Int.reduceMul, reduceCtorEq, Int.reduceBEq, Int.reduceBNe, Int.reduceAdd, Int.reduceSub, g0, g1, g2, g3, g8, g9, ltT, ltF, leT, leF, hk', hz]
    exact hK _ (by exact g0) (by exact g1) (by exact g2) (by exact g3) (by exact g8)
  | succ q ih =>
    intro j hj L hL hr hB hai E g0 g1 g2 g3 g8 g9
    have hk' : (j : Int) < ((i - a : Nat) : Int) := by omega
    have hk2 : j < i - a := by omega
    have hz : (a : Int) < ((a + (q + 1) : Nat) : Int) := by omega
    have f1 := @GH_idx H p n hp
    have f2 := @GH_load H p n hp
    have f3 := @GH_store H p n H.length hp
    have hL2 : (L.set (a + (q + 1)) (L.getD (a + q) 0)).length = n := by rw [List.length_set]; exact hL
    have e1 : ((a + (q + 1) : Nat) : Int) - 1 = ((a + q : Nat) : Int) := by omega
    have x1 := hB (a + (q + 1)) (by omega)
    have x2 := hB (a + q) (by omega)
    have hcc := fun G => hc.call _ _ G x1 x2
    have k1 := hc.bd (L.getD (a + (q + 1)) 0)
    have k2 := hc.bd (L.getD (a + q) 0)
    rw [show insIn key a L (q + 1) = if key (L.getD (a + (q + 1)) 0) - key (L.getD (a + q) 0) < 0 then insIn key a (swp L (a + (q + 1)) (a + q)) q else L from rfl] at hr
    by_cases hlt : key (L.getD (a + (q + 1)) 0) - key (L.getD (a + q) 0) < 0
    · rw [if_pos hlt] at hr
      have hsm := swp_mem hB (i := a + (q + 1)) (j := a + q) (by omega) (by omega)
      simp only [loopIt, todoPast, todoAt, todoOf, firstReg, ↓reduceIte, Option.some.injEq, Nat.reduceEqDiff, reduceCtorEq, Tryd.f93]
      rw [execL_inLoop]
      simp (maxSteps := 1000000) (implicitDefEqProofs := false) (disch := first | rfl | omega | assumption) only [go_sem, ↓reduceIte, Nat.reduceEqDiff, Nat.reduceAdd, Nat.reduceLeDiff, Nat.reduceBEq, Nat.reduceMul, Nat.reduceLT, Int.reduceLT, Int.reduceLE, Int.reduceToNat, Int.reduceNeg, Int.reduceEq, Int.reduceMul, reduceCtorEq, Int.reduceBEq, Int.reduceBNe, Int.reduceAdd, Int.reduceSub, g0, g1, g2, g3, g8, g9, ltT, ltF, leT, leF, hk', hz]
      rw [chkK_of]; rotate_left; kernel_rfl
      simp (maxSteps := 1000000) (implicitDefEqProofs := false) (disch := first | rfl | omega | assumption) only [go_sem, ↓reduceIte, Nat.reduceEqDiff, Nat.reduceAdd, Nat.reduceLeDiff, Nat.reduceBEq, Nat.reduceMul, Nat.reduceLT, Int.reduceLT, Int.reduceLE, Int.reduceToNat, Int.reduceNeg, Int.reduceEq, Int.reduceMul, reduceCtorEq, Int.reduceBEq, Int.reduceBNe, Int.reduceAdd, Int.reduceSub, g0, g1, g2, g3, g8, g9, ltT, ltF, leT, leF, hk', hz, f1, f2, f3, e1, hcc, hlt]
      rw [chkK_of]; rotate_left; kernel_rfl
      simp (maxSteps := 1000000) (implicitDefEqProofs := false) (disch := first | rfl | omega | assumption) only [go_sem, ↓reduceIte, Nat.reduceEqDiff, Nat.reduceAdd, Nat.reduceLeDiff, Nat.reduceBEq, Nat.reduceMul, Nat.reduceLT, Int.reduceLT, Int.reduceLE, Int.reduceToNat, Int.reduceNeg, Int.reduceEq, Int.reduceMul, reduceCtorEq, Int.reduceBEq, Int.reduceBNe, Int.reduceAdd, Int.reduceSub, g0, g1, g2, g3, g8, g9, ltT, ltF, leT, leF, hk', hz, f1, f2, f3, e1, hcc, hlt]
      exact ih (j + 1) (by omega) (swp L (a + (q + 1)) (a + q)) (by rw [swp_len]; exact hL) hr hsm hai _ (by exact g0) (by exact g1) (by exact g2) (by exact g3) (by exact g8) (by rfl)
    · rw [if_neg hlt] at hr
      subst hr
      simp only [loopIt, todoPast, todoAt, todoOf, firstReg, ↓reduceIte, Option.some.injEq, Nat.reduceEqDiff, reduceCtorEq, Tryd.f93]
      rw [execL_inLoop]
      simp (maxSteps := 1000000) (implicitDefEqProofs := false) (disch := first | rfl | omega | assumption) only [go_sem, ↓reduceIte, Nat.reduceEqDiff, Nat.reduceAdd, Nat.reduceLeDiff, Nat.reduceBEq, Nat.reduceMul, Nat.reduceLT, Int.reduceLT, Int.reduceLE, Int.reduceToNat, Int.reduceNeg, Int.reduceEq, Int.reduceMul, reduceCtorEq, Int.reduceBEq, Int.reduceBNe, Int.reduceAdd, Int.reduceSub, g0, g1, g2, g3, g8, g9, ltT, ltF, leT, leF, hk', hz]
      rw [chkK_of]; rotate_left; kernel_rfl
      simp (maxSteps := 1000000) (implicitDefEqProofs := false) (disch := first | rfl | omega | assumption) only [go_sem, ↓reduceIte, Nat.reduceEqDiff, Nat.reduceAdd, Nat.reduceLeDiff, Nat.reduceBEq, Nat.reduceMul, Nat.reduceLT, Int.reduceLT, Int.reduceLE, Int.reduceToNat, Int.reduceNeg, Int.reduceEq, Int.reduceMul, reduceCtorEq, Int.reduceBEq, Int.reduceBNe, Int.reduceAdd, Int.reduceSub, g0, g1, g2, g3, g8, g9, ltT, ltF, leT, leF, hk', hz, f1, f2, f3, e1, hcc, hlt]
      exact hK _ (by exact g0) (by exact g1) (by exact g2) (by exact g3) (by exact g8)

theorem insIn_small {B : Nat} (key : Nat → Int) (a : Nat) : ∀ (q : Nat) (L : List Nat), Small B L → a + q < L.length → Small B (insIn key a L q)
  | 0, _, h, _ => h
  | q + 1, L, h, hq => by
    rw [insIn]
    split
    · exact insIn_small key a q _ (swp_mem h (by omega) (by omega)) (by rw [swp_len]; omega)
    · exact h

theorem insOut_loop {fn : Fn} {cap : List AV} {key : Nat → Int} {B : Nat} (hc : Cmp fn cap key B) {p : Nat} (hp : p < H.length) (a b : Nat) (n : Nat) (hn : n ≤ 100000) (hab : a ≤ b ∧ b ≤ n) (R0 : List Nat) :
    ∀ (q j : Nat), j + q = b → ∀ (L : List Nat), L.length = n → insOut key a L j q = R0 → Small B L → a < j → ∀ E : Env, E.get 0 = .gsl p n → E.get 1 = I a → E.get 2 = I b → E.get 3 = .func fn [] cap → E.get 8 = I j →
    Option.map (finishC H.length) (execL cfg0 prog0 ⟨93, none, false, H.length⟩ (todoAt Tryd.f93 1) ⟨E, [], GH H p L, none⟩) = some ⟨.ret (.tup []), GH H p R0, none⟩ := by
  intro q
  skip
  induction q with
  | zero =>
    intro j hj L hL hr hB hai E g0 g1 g2 g3 g8
    have hk' : ¬ (j : Int) < ((b : Nat) : Int) := by omega
    simp only [insOut] at hr
    subst hr
    simp only [loopIt, todoPast, todoAt, todoOf, firstReg, ↓reduceIte, Option.some.injEq, Nat.reduceEqDiff, reduceCtorEq, Tryd.f93]
    rw [execL_inLoop]
    simp (maxSteps := 1000000) (implicitDefEqProofs := false) (disch := first | rfl | omega | assumption) only [go_sem, ↓reduceIte, Nat.reduceEqDiff, Nat.reduceAdd, Nat.reduceLeDiff, Nat.reduceBEq, Nat.reduceMul, Nat.reduceLT, Int.reduceLT, Int.reduceLE, Int.reduceToNat, Int.reduceNeg, Int.reduceEq, Int.reduceMul, reduceCtorEq, Int.reduceBEq, Int.reduceBNe, Int.reduceAdd, Int.reduceSub, g0, g1, g2, g3, g8, ltT, ltF, leT, leF, hk']
  | succ q ih =>
    intro j hj L hL hr hB hai E g0 g1 g2 g3 g8
    have hk' : (j : Int) < ((b : Nat) : Int) := by omega
    have hk2 : j < b := by omega
    simp only [insOut] at hr
    simp only [loopIt, todoPast, todoAt, todoOf, firstReg, ↓reduceIte, Option.some.injEq, Nat.reduceEqDiff, reduceCtorEq, Tryd.f93]
    rw [execL_inLoop]
    simp (maxSteps := 1000000) (implicitDefEqProofs := false) (disch := first | rfl | omega | assumption) only [go_sem, ↓reduceIte, Nat.reduceEqDiff, Nat.reduceAdd, Nat.reduceLeDiff, Nat.reduceBEq, Nat.reduceMul, Nat.reduceLT, Int.reduceLT, Int.reduceLE, Int.reduceToNat, Int.reduceNeg, Int.reduceEq, Int.reduceMul, reduceCtorEq, Int.reduceBEq, Int.reduceBNe, Int.reduceAdd, Int.reduceSub, g0, g1, g2, g3, g8, ltT, ltF, leT, leF, hk']
    refine insIn_loop hc hp a b j n hn (by omega) (insIn key a L (j - a)) _ _ (fun E g0 g1 g2 g3 g8 => ?_) (j - a) 0 (by omega) L hL rfl hB (by omega) _ (by exact g0) (by exact g1) (by exact g2) (by exact g3) (by exact g8) (by rw [show a + (j - a) = j by omega]; rfl)
    simp (maxSteps := 1000000) (implicitDefEqProofs := false) (disch := first | rfl | omega | assumption) only [go_sem, ↓reduceIte, Nat.reduceEqDiff, Nat.reduceAdd, Nat.reduceLeDiff, Nat.reduceBEq, Nat.reduceMul, Nat.reduceLT, Int.reduceLT, Int.reduceLE, Int.reduceToNat, Int.reduceNeg, Int.reduceEq, Int.reduceMul, reduceCtorEq, Int.reduceBEq, Int.reduceBNe, Int.reduceAdd, Int.reduceSub, g0, g1, g2, g3, g8, ltT, ltF, leT, leF, hk']
    exact ih (j + 1) (by omega) _ (by rw [insIn_len]; exact hL) hr (insIn_small key a _ _ hB (by omega)) (by omega) _ (by exact g0) (by exact g1) (by exact g2) (by exact g3) (by rfl)

theorem so_ins {fn : Fn} {cap : List AV} {key : Nat → Int} {B : Nat} (hc : Cmp fn cap key B) {p : Nat} (hp : p < H.length) {a b n : Nat} (hn : n ≤ 100000) (hab : a ≤ b ∧ b ≤ n) {L : List Nat} (hL : L.length = n) (hB : Small B L) :
    callFL cfg0 prog0 false 93 [.gsl p n, I a, I b, .func fn [] cap] (GH H p L) none = some ⟨.ret (.tup []), GH H p (insS key L a b), none⟩ := by
  have hlen : (GH H p L).length = H.length := by simp [GH]
  by_cases h : a + 1 ≤ b
  · have h1 := insOut_loop hc hp a b n hn hab (insS key L a b) (b - (a + 1)) (a + 1) (by omega) L hL rfl hB (by omega)
    refine (callFL_eq fn93 rfl (by simp [Tryd.f93])).trans ?_
    simp (maxSteps := 1000000) (implicitDefEqProofs := false) (disch := first | rfl | omega | assumption) only [go_sem, ↓reduceIte, Nat.reduceEqDiff, Nat.reduceAdd, Nat.reduceLeDiff, Nat.reduceBEq, Nat.reduceMul, Nat.reduceLT, Int.reduceLT, Int.reduceLE, Int.reduceToNat, Int.reduceNeg, Int.reduceEq, Int.reduceMul, reduceCtorEq, Int.reduceBEq, Int.reduceBNe, Int.reduceAdd, Int.reduceSub, ltT, ltF, leT, leF, hlen]
    exact h1 _ (by rfl) (by rfl) (by rfl) (by rfl) (by rfl)
  · have e : insS key L a b = L := by simp only [insS, show b - (a + 1) = 0 by omega, insOut]
    rw [e]
    have hz : ¬ (a : Int) + 1 < b := by omega
    refine (callFL_eq fn93 rfl (by simp [Tryd.f93])).trans ?_
    simp (maxSteps := 1000000) (implicitDefEqProofs := false) (disch := first | rfl | omega | assumption) only [go_sem, ↓reduceIte, Nat.reduceEqDiff, Nat.reduceAdd, Nat.reduceLeDiff, Nat.reduceBEq, Nat.reduceMul, Nat.reduceLT, Int.reduceLT, Int.reduceLE, Int.reduceToNat, Int.reduceNeg, Int.reduceEq, Int.reduceMul, reduceCtorEq, Int.reduceBEq, Int.reduceBNe, Int.reduceAdd, Int.reduceSub, ltT, ltF, leT, leF, hlen]
    rw [execL_inLoop]
    simp (maxSteps := 1000000) (implicitDefEqProofs := false) (disch := first | rfl | omega | assumption) only [go_sem, ↓reduceIte, Nat.reduceEqDiff, Nat.reduceAdd, Nat.reduceLeDiff, Nat.reduceBEq, Nat.reduceMul, Nat.reduceLT, Int.reduceLT, Int.reduceLE, Int.reduceToNat, Int.reduceNeg, Int.reduceEq, Int.reduceMul, reduceCtorEq, Int.reduceBEq, Int.reduceBNe, Int.reduceAdd, Int.reduceSub, ltT, ltF, leT, leF, hz, hlen]

theorem so_short {fn : Fn} {cap : List AV} {key : Nat → Int} {B : Nat} (hc : Cmp fn cap key B) {p : Nat} (hp : p < H.length) {n : Nat} (hn : n < 20) {L : List Nat} (hL : L.length = n) (hB : Small B L) :
    callFL cfg0 prog0 false 86 [.gsl p n, I n, .func fn [] cap] (GH H p L) none = some ⟨.ret (.tup []), GH H p (insS key L 0 n), none⟩ := by
  have hlen : ∀ M, (GH H p M).length = H.length := fun M => by simp [GH]
  have h1 := so_ins hc hp (a := 0) (b := n) (by omega) (by omega) hL hB
  have z1 : ¬ (20 : Int) ≤ n := by omega
  have z2 : ¬ (20 : Int) < n := by omega
  simp only [Int.natCast_zero] at h1
  refine (callFL_eq fn86 rfl (by simp [Tryd.f86])).trans ?_
  simp (maxSteps := 1000000) (implicitDefEqProofs := false) (disch := first | rfl | omega | assumption) only [go_sem, ↓reduceIte, Nat.reduceEqDiff, Nat.reduceAdd, Nat.reduceLeDiff, Nat.reduceBEq, Nat.reduceMul, Nat.reduceLT, Int.reduceLT, Int.reduceLE, Int.reduceToNat, Int.reduceNeg, Int.reduceEq, Int.reduceMul, reduceCtorEq, Int.reduceBEq, Int.reduceBNe, Int.reduceAdd, Int.reduceSub, ltT, ltF, leT, leF, hlen]
  rw [execL_inLoop]
  simp (maxSteps := 1000000) (implicitDefEqProofs := false) (disch := first | rfl | omega | assumption) only [go_sem, ↓reduceIte, Nat.reduceEqDiff, Nat.reduceAdd, Nat.reduceLeDiff, Nat.reduceBEq, Nat.reduceMul, Nat.reduceLT, Int.reduceLT, Int.reduceLE, Int.reduceToNat, Int.reduceNeg, Int.reduceEq, Int.reduceMul, reduceCtorEq, Int.reduceBEq, Int.reduceBNe, Int.reduceAdd, Int.reduceSub, ltT, ltF, leT, leF, z1, h1, hlen]
  rw [execL_inLoop]
  simp (maxSteps := 1000000) (implicitDefEqProofs := false) (disch := first | rfl | omega | assumption) only [go_sem, ↓reduceIte, Nat.reduceEqDiff, Nat.reduceAdd, Nat.reduceLeDiff, Nat.reduceBEq, Nat.reduceMul, Nat.reduceLT, Int.reduceLT, Int.reduceLE, Int.reduceToNat, Int.reduceNeg, Int.reduceEq, Int.reduceMul, reduceCtorEq, Int.reduceBEq, Int.reduceBNe, Int.reduceAdd, Int.reduceSub, ltT, ltF, leT, leF, z2, hlen]

theorem so_sort_short {fn : Fn} {cap : List AV} {key : Nat → Int} {B : Nat} (hc : Cmp fn cap key B) {p : Nat} (hp : p < H.length) {n : Nat} (hn : n < 20) {L : List Nat} (hL : L.length = n) (hB : Small B L) :
    callFL cfg0 prog0 false 68 [.gsl p n, .func fn [] cap] (GH H p L) none = some ⟨.ret (.tup []), GH H p (insS key L 0 n), none⟩ := by
  have hlen : ∀ M, (GH H p M).length = H.length := fun M => by simp [GH]
  have h1 := so_short hc hp hn hL hB
  have hg : (GH H p L)[p]? = some (.grow 1 (L.map U)) := List.getElem?_set_self hp
  refine (callFL_eq fn68 rfl (by simp [Tryd.f68])).trans ?_
  simp (maxSteps := 1000000) (implicitDefEqProofs := false) (disch := first | rfl | omega | assumption) only [go_sem, ↓reduceIte, Nat.reduceEqDiff, Nat.reduceAdd, Nat.reduceLeDiff, Nat.reduceBEq, Nat.reduceMul, Nat.reduceLT, Int.reduceLT, Int.reduceLE, Int.reduceToNat, Int.reduceNeg, Int.reduceEq, Int.reduceMul, reduceCtorEq, Int.reduceBEq, Int.reduceBNe, Int.reduceAdd, Int.reduceSub, ltT, ltF, leT, leF, hg, h1, hlen, hL, List.length_map]

end Go.Ab
/-
  Which readings clash: walked.
-/
namespace Go.Ab
open Go.Proofs
set_option linter.unusedSimpArgs false
set_option linter.unusedVariables false
set_option maxRecDepth 100000

variable {H : Heap}

/-- How many are in a set. -/
def popF : Nat → Nat → Nat
  | 0, _ => 0
  | f + 1, n => n % 2 + popF f (n / 2)
def pop (n : Nat) : Nat := popF 20 n

theorem popF_zero : ∀ f, popF f 0 = 0
  | 0 => rfl
  | f + 1 => by simp [popF, popF_zero f]

theorem popF_le : ∀ f n, popF f n ≤ f
  | 0, _ => Nat.le_refl _
  | f + 1, n => by have := popF_le f (n / 2); simp only [popF]; omega

def M0 : Nat := 6148914691236517205
def M1 : Nat := 3689348814741910323
def M2 : Nat := 1085102592571150095
def y1 (x : Nat) : Nat := (x / 2 &&& M0) + (x &&& M0)
def y2 (x : Nat) : Nat := (y1 x / 4 &&& M1) + (y1 x &&& M1)
def y3 (x : Nat) : Nat := (y2 x / 16 + y2 x) &&& M2
def y4 (x : Nat) : Nat := y3 x + y3 x / 256
def y5 (x : Nat) : Nat := y4 x + y4 x / 65536
def y6 (x : Nat) : Nat := y5 x + y5 x / 4294967296

theorem y_bd : ∀ x < 256, y1 x < 256 ∧ y2 x < 256 ∧ y3 x < 256 ∧ y4 x < 256 ∧ y5 x < 256 ∧ y6 x < 256 ∧ (y6 x &&& 127) = pop x := by decide +kernel

theorem ones64 {x : Nat} (hx : x < 256) : callFL cfg0 prog0 false 88 [U x] H none = some ⟨.ret (I (pop x)), H, none⟩ := by
  obtain ⟨b1, b2, b3, b4, b5, b6, b7⟩ := y_bd x hx
  have f1 : (x : Int).fdiv (2 ^ min 1 64) = ((x / 2 : Nat) : Int) := fdivN x 2
  have f2 : (y1 x : Int).fdiv (2 ^ min 2 64) = ((y1 x / 4 : Nat) : Int) := fdivN (y1 x) 4
  have f3 : (y2 x : Int).fdiv (2 ^ min 4 64) = ((y2 x / 16 : Nat) : Int) := fdivN (y2 x) 16
  have f4 : (y3 x : Int).fdiv (2 ^ min 8 64) = ((y3 x / 256 : Nat) : Int) := fdivN (y3 x) 256
  have f5 : (y4 x : Int).fdiv (2 ^ min 16 64) = ((y4 x / 65536 : Nat) : Int) := fdivN (y4 x) 65536
  have f6 : (y5 x : Int).fdiv (2 ^ min 32 64) = ((y5 x / 4294967296 : Nat) : Int) := fdivN (y5 x) 4294967296
  have g1 : bitsOp .and .u64 ((x / 2 : Nat) : Int) 6148914691236517205 = some ((x / 2 &&& M0 : Nat) : Int) := bitsAnd (b := M0) (by omega) (by decide)
  have g2 : bitsOp .and .u64 (x : Int) 6148914691236517205 = some ((x &&& M0 : Nat) : Int) := bitsAnd (b := M0) (by omega) (by decide)
  have g3 : bitsOp .and .u64 ((y1 x / 4 : Nat) : Int) 3689348814741910323 = some ((y1 x / 4 &&& M1 : Nat) : Int) := bitsAnd (b := M1) (by omega) (by decide)
  have g4 : bitsOp .and .u64 (y1 x : Int) 3689348814741910323 = some ((y1 x &&& M1 : Nat) : Int) := bitsAnd (b := M1) (by omega) (by decide)
  have g5 : bitsOp .and .u64 ((y2 x / 16 + y2 x : Nat) : Int) 1085102592571150095 = some (y3 x : Int) := bitsAnd (b := M2) (by omega) (by decide)
  have g6 : bitsOp .and .i64 (y6 x : Int) 127 = some (pop x : Int) := by rw [← b7]; exact bitsAndI (b := 127) (by omega) (by decide)
  have k1 : IntKind.u64.wrap (((x / 2 &&& M0 : Nat) : Int) + ((x &&& M0 : Nat) : Int)) = (y1 x : Int) := wrapU (n := y1 x) (by omega)
  have k2 : IntKind.u64.wrap (((y1 x / 4 &&& M1 : Nat) : Int) + ((y1 x &&& M1 : Nat) : Int)) = (y2 x : Int) := wrapU (n := y2 x) (by omega)
  have k3 : IntKind.u64.wrap (((y2 x / 16 : Nat) : Int) + (y2 x : Int)) = ((y2 x / 16 + y2 x : Nat) : Int) := wrapU (n := y2 x / 16 + y2 x) (by omega)
  have k4 : IntKind.u64.wrap ((y3 x : Int) + ((y3 x / 256 : Nat) : Int)) = (y4 x : Int) := wrapU (n := y4 x) (by omega)
  have k5 : IntKind.u64.wrap ((y4 x : Int) + ((y4 x / 65536 : Nat) : Int)) = (y5 x : Int) := wrapU (n := y5 x) (by omega)
  have k6 : IntKind.u64.wrap ((y5 x : Int) + ((y5 x / 4294967296 : Nat) : Int)) = (y6 x : Int) := wrapU (n := y6 x) (by omega)
  have k7 : IntKind.i64.wrap (y6 x : Int) = (y6 x : Int) := w64 (by omega) (by omega)
  refine (callFL_eq fn88 rfl (by simp [Tryd.f88])).trans ?_
  simp (maxSteps := 1000000) (implicitDefEqProofs := false) (disch := first | rfl | omega | assumption) only [go_sem, ↓reduceIte, Nat.reduceEqDiff, Nat.reduceAdd, Nat.reduceLeDiff, Nat.reduceBEq, Nat.reduceMul, Nat.reduceLT, Int.reduceLT, Int.reduceLE, Int.reduceToNat, Int.reduceNeg, Int.reduceEq, Int.reduceMul, reduceCtorEq, Int.reduceBEq, Int.reduceBNe, Int.reduceAdd, Int.reduceSub, f1, f2, f3, f4, f5, f6, g1, g2, g3, g4, g5, g6, k1, k2, k3, k4, k5, k6, k7]

theorem ones {x : Nat} (hx : x < 256) : callFL cfg0 prog0 false 70 [U x] H none = some ⟨.ret (I (pop x)), H, none⟩ := by
  have h1 := fun G : Heap => ones64 (H := G) hx
  have h2 : IntKind.u64.wrap (x : Int) = x := wrapU (by omega)
  refine (callFL_eq fn70 rfl (by simp [Tryd.f70])).trans ?_
  simp (maxSteps := 1000000) (implicitDefEqProofs := false) (disch := first | rfl | omega | assumption) only [go_sem, ↓reduceIte, Nat.reduceEqDiff, Nat.reduceAdd, Nat.reduceLeDiff, Nat.reduceBEq, Nat.reduceMul, Nat.reduceLT, Int.reduceLT, Int.reduceLE, Int.reduceToNat, Int.reduceNeg, Int.reduceEq, Int.reduceMul, reduceCtorEq, Int.reduceBEq, Int.reduceBNe, Int.reduceAdd, Int.reduceSub, h1, h2]

def popK (n : Nat) : Int := pop n

theorem cl_cmp : Cmp (.func 69) [] popK 256 where
  call x y G hx hy := by
    have h1 := fun G : Heap => ones (H := G) hx
    have h2 := fun G : Heap => ones (H := G) hy
    have b1 := popF_le 20 x
    have b2 := popF_le 20 y
    have e : IntKind.i64.wrap ((pop x : Int) - (pop y : Int)) = (pop x : Int) - (pop y : Int) := w64 (by simp only [pop]; omega) (by simp only [pop]; omega)
    simp only [callVL_func, List.append_nil, popK]
    refine (callFL_eq fn69 rfl (by simp [Tryd.f69])).trans ?_
    simp (maxSteps := 1000000) (implicitDefEqProofs := false) (disch := first | rfl | omega | assumption) only [go_sem, ↓reduceIte, Nat.reduceEqDiff, Nat.reduceAdd, Nat.reduceLeDiff, Nat.reduceBEq, Nat.reduceMul, Nat.reduceLT, Int.reduceLT, Int.reduceLE, Int.reduceToNat, Int.reduceNeg, Int.reduceEq, Int.reduceMul, reduceCtorEq, Int.reduceBEq, Int.reduceBNe, Int.reduceAdd, Int.reduceSub, h1, h2, e]
  bd x := by have := popF_le 20 x; simp only [popK, pop]; omega

theorem cl_can {l lo lm p : Nat} {w : Wea} (h : BlAt H l lo lm w) (ho : w.Ok) {r : Nat} (hr : r < 256) {es : List (AV × AV)} (hm : H[lm]? = some (.map 88 es)) (hg : GoodM w es) (hp : H[p]? = some (.box (.ptr l 0))) :
    callVL cfg0 prog0 false (.func 72) [U r] [.ptr p 0] H none = some ⟨.ret (.bool !w.canB r w.L), H.set lm (.map 88 (w.folM r w.L es)), none⟩ := by
  have hb := h.box
  have hC := we_can h ho hr (L_bd ho) hm hg
  simp only [qkey, Wea.L] at hC
  simp only [callVL_func, List.cons_append, List.nil_append]
  refine (callFL_eq fn72 rfl (by simp [Tryd.f72])).trans ?_
  simp (maxSteps := 1000000) (implicitDefEqProofs := false) (disch := first | rfl | omega | assumption) only [go_sem, ↓reduceIte, Nat.reduceEqDiff, Nat.reduceAdd, Nat.reduceLeDiff, Nat.reduceBEq, Nat.reduceMul, Nat.reduceLT, Int.reduceLT, Int.reduceLE, Int.reduceToNat, Int.reduceNeg, Int.reduceEq, Int.reduceMul, reduceCtorEq, Int.reduceBEq, Int.reduceBNe, Int.reduceAdd, Int.reduceSub, ltT, ltF, leT, leF, hp]
  rw [chkK_of]; rotate_left; kernel_rfl
  simp (maxSteps := 1000000) (implicitDefEqProofs := false) (disch := first | rfl | omega | assumption) only [go_sem, ↓reduceIte, Nat.reduceEqDiff, Nat.reduceAdd, Nat.reduceLeDiff, Nat.reduceBEq, Nat.reduceMul, Nat.reduceLT, Int.reduceLT, Int.reduceLE, Int.reduceToNat, Int.reduceNeg, Int.reduceEq, Int.reduceMul, reduceCtorEq, Int.reduceBEq, Int.reduceBNe, Int.reduceAdd, Int.reduceSub, ltT, ltF, leT, leF, hp, hb, hC]
  done

theorem firstU_loop {p : Nat} {L : List Nat} (hl : L.length ≤ 1000000) (fn : Fn) (cap : List AV) (b : Nat → Bool) (Hs : Nat → Heap) (N : Nat) (hsl : ∀ j, (Hs j).length = N) (hp : ∀ j, SlOk (Hs j) 1 (.gsl p L.length) (L.map U)) (hc : ∀ (j : Nat) (G : Heap), j < L.length → callVL cfg0 prog0 false fn [U (L.getD j 0)] cap (Hs j ++ G) none = some ⟨.ret (.bool (b j)), Hs (j + 1) ++ G, none⟩) :
    ∀ (q j : Nat), j + q = L.length → ∀ E : Env, E.get 0 = .gsl p L.length → E.get 3 = .ptr N 0 → E.get 7 = .gsl p L.length → E.get 8 = I L.length → E.get 9 = I j →
    Option.map (finishC N) (execL cfg0 prog0 ⟨71, none, false, N⟩ (todoAt Tryd.f71 2) ⟨E, [], Hs j ++ [.box (.agg [.func fn [] cap])], none⟩) = some ⟨.ret (I (firstN b j q)), Hs (stepN b j q), none⟩ := by
  intro q
  skip
  induction q with
  | zero =>
    intro j hj  E g0 g3 g7 g8 g9
    have hk' : ¬ (j : Int) < ((L.length : Nat) : Int) := by omega
    have ej : j = L.length := by omega
    subst ej
    simp only [loopIt, todoPast, todoAt, todoOf, firstReg, ↓reduceIte, Option.some.injEq, Nat.reduceEqDiff, reduceCtorEq, Tryd.f71]
    rw [execL_inLoop]
    have ht : ∀ G : Heap, (Hs L.length ++ G).take N = Hs L.length := fun G => by rw [← hsl L.length, List.take_left]
    have hln := ((hp L.length).app [.box (.agg [.func fn [] cap])]).len
    simp (maxSteps := 1000000) (implicitDefEqProofs := false) (disch := first | rfl | omega | assumption) only [go_sem, ↓reduceIte, Nat.reduceEqDiff, Nat.reduceAdd, Nat.reduceLeDiff, Nat.reduceBEq, Nat.reduceMul, Nat.reduceLT, Int.reduceLT, Int.reduceLE, Int.reduceToNat, Int.reduceNeg, Int.reduceEq, Int.reduceMul, reduceCtorEq, Int.reduceBEq, Int.reduceBNe, Int.reduceAdd, Int.reduceSub, g0, g3, g7, g8, g9, ltT, ltF, leT, leF, hk', hln, firstN, stepN, ht, List.length_map]
  | succ q ih =>
    intro j hj  E g0 g3 g7 g8 g9
    have hk' : (j : Int) < ((L.length : Nat) : Int) := by omega
    have hk2 : j < L.length := by omega
    obtain ⟨a1, a2, a3, a4, a5⟩ := (hp j).fA (d := 0)
    have hx := hc j [.box (.agg [.func fn [] cap])] hk2
    have hgt : (Hs j ++ [.box (.agg [.func fn [] cap])])[N]? = some (.box (.agg [.func fn [] cap])) := by rw [← hsl j, get_at]; rfl
    have ht : ∀ G : Heap, (Hs (j + 1) ++ G).take N = Hs (j + 1) := fun G => by rw [← hsl (j + 1), List.take_left]
    simp only [firstN, stepN]
    rcases Bool.eq_false_or_eq_true (b j) with hb | hb
    · rw [hb] at hx ⊢
      simp only [loopIt, todoPast, todoAt, todoOf, firstReg, ↓reduceIte, Option.some.injEq, Nat.reduceEqDiff, reduceCtorEq, Tryd.f71]
      rw [execL_inLoop]
      simp (maxSteps := 1000000) (implicitDefEqProofs := false) (disch := first | rfl | omega | assumption) only [go_sem, ↓reduceIte, Nat.reduceEqDiff, Nat.reduceAdd, Nat.reduceLeDiff, Nat.reduceBEq, Nat.reduceMul, Nat.reduceLT, Int.reduceLT, Int.reduceLE, Int.reduceToNat, Int.reduceNeg, Int.reduceEq, Int.reduceMul, reduceCtorEq, Int.reduceBEq, Int.reduceBNe, Int.reduceAdd, Int.reduceSub, g0, g3, g7, g8, g9, ltT, ltF, leT, leF, hk', a1, a3, hgt, hx, ht]
    · rw [hb] at hx ⊢
      simp only [loopIt, todoPast, todoAt, todoOf, firstReg, ↓reduceIte, Option.some.injEq, Nat.reduceEqDiff, reduceCtorEq, Tryd.f71]
      rw [execL_inLoop]
      simp (maxSteps := 1000000) (implicitDefEqProofs := false) (disch := first | rfl | omega | assumption) only [go_sem, ↓reduceIte, Nat.reduceEqDiff, Nat.reduceAdd, Nat.reduceLeDiff, Nat.reduceBEq, Nat.reduceMul, Nat.reduceLT, Int.reduceLT, Int.reduceLE, Int.reduceToNat, Int.reduceNeg, Int.reduceEq, Int.reduceMul, reduceCtorEq, Int.reduceBEq, Int.reduceBNe, Int.reduceAdd, Int.reduceSub, g0, g3, g7, g8, g9, ltT, ltF, leT, leF, hk', a1, a3, hgt, hx]
      exact ih (j + 1) (by omega) _ (by exact g0) (by exact g3) (by exact g7) (by exact g8) (by rfl)

theorem we_firstU {p : Nat} {L : List Nat} (hl : L.length ≤ 1000000) (fn : Fn) (cap : List AV) (b : Nat → Bool) (Hs : Nat → Heap) (N : Nat) (hsl : ∀ j, (Hs j).length = N) (hp : ∀ j, SlOk (Hs j) 1 (.gsl p L.length) (L.map U)) (hf : (AV.func fn [] cap).lt N = true ∧ (AV.func fn [] cap).stored = true)
    (hc : ∀ (j : Nat) (G : Heap), j < L.length → callVL cfg0 prog0 false fn [U (L.getD j 0)] cap (Hs j ++ G) none = some ⟨.ret (.bool (b j)), Hs (j + 1) ++ G, none⟩) :
    callFL cfg0 prog0 false 71 [.gsl p L.length, .agg [.func fn [] cap]] (Hs 0) none = some ⟨.ret (I (firstN b 0 L.length)), Hs (stepN b 0 L.length), none⟩ := by
  have h1 := firstU_loop hl fn cap b Hs N hsl hp hc L.length 0 (by omega)
  have h0 := hsl 0
  have hln := ((hp 0).app [.box (.agg [.func fn [] cap])]).len
  refine (callFL_eq fn71 rfl (by simp [Tryd.f71])).trans ?_
  simp (maxSteps := 1000000) (implicitDefEqProofs := false) (disch := first | rfl | omega | assumption) only [go_sem, ↓reduceIte, Nat.reduceEqDiff, Nat.reduceAdd, Nat.reduceLeDiff, Nat.reduceBEq, Nat.reduceMul, Nat.reduceLT, Int.reduceLT, Int.reduceLE, Int.reduceToNat, Int.reduceNeg, Int.reduceEq, Int.reduceMul, reduceCtorEq, Int.reduceBEq, Int.reduceBNe, Int.reduceAdd, Int.reduceSub, ltT, ltF, leT, leF, h0, hln, List.length_map]
  exact h1 _ (by rfl) (by rfl) (by rfl) (by rfl) (by rfl)

end Go.Ab
