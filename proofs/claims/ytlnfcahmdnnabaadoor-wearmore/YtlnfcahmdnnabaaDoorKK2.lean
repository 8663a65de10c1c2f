/-
  The answers after an event.
-/
import Derived.Test.YtlnfcahmdnnabaaDoorKK1
namespace Go.Ab
open Go.Proofs
set_option linter.unusedSimpArgs false
set_option linter.unusedVariables false
set_option maxRecDepth 100000

variable {H : Heap}

theorem we_ansn (l : Nat) (H : Heap) : callFL cfg0 prog0 true 41 [.ptr l 0] H none = some ⟨.ret (.tup []), H, none⟩ := by
  refine (callFL_eq fn41 rfl (by simp [Tryd.f41])).trans ?_
  simp (implicitDefEqProofs := false) only [go_sem]

theorem we_anss (l : Nat) (e x : Int) (H : Heap) (h : H[l]? = some (.box (I x))) : callFL cfg0 prog0 true 41 [.ptr l 0] H (some (.iface 117 (I e), false)) = some ⟨.ret (.tup []), H.set l (.box (I e)), some (.iface 117 (I e), true)⟩ := by
  have hl : l < H.length := (List.getElem?_eq_some_iff.1 h).1
  refine (callFL_eq fn41 rfl (by simp [Tryd.f41])).trans ?_
  simp (implicitDefEqProofs := false) only [go_sem, get_lt hl, set_lt hl, h]

/-- Which error, if any. -/
def Wea.gate (w : Wea) (days : Int) (is : Bool) : Int := if w.valid then (if days ≤ 10 then (if is then (if w.can then 0 else 10) else 2) else 3) else 1

theorem made_bl (w : Wea) (B : Heap) (es : List (AV × AV)) (G : Heap) : BlAt (B ++ (w.made B.length es ++ G)) (B.length + 3) (B.length + 1) (B.length + 2) w where
  box := by simp only [Wea.made, get_at', List.cons_append, List.getElem?_cons_succ, List.getElem?_cons_zero]
  own := by
    refine ⟨⟨?_, by simp⟩, by simp [Ev.av, AV.cells]⟩
    simp only [Wea.made, get_at', List.cons_append, List.getElem?_cons_succ, List.getElem?_cons_zero]

theorem made_m (w : Wea) (B : Heap) (es : List (AV × AV)) (G : Heap) : (B ++ (w.made B.length es ++ G))[B.length + 2]? = some (.map 88 es) := by
  simp only [Wea.made, get_at', List.cons_append, List.getElem?_cons_succ, List.getElem?_cons_zero]

def Wea.afterP (w : Wea) (n : Int) : Int × Int := if w.gate 0 (wi n 0 (w.es.length - 1)) = 0 then w.at w.rd w.L (n.toNat + 1) else (0, 0)

theorem we_After {w : Wea} {ve : AV} (h : WeaAt H w ve) (hl : w.es.length ≤ 1000) (n : Int) :
    callFL cfg0 prog0 false 14 [w.av ve, I n] H none = some ⟨.ret (.tup [KV (w.afterP n), I (w.gate 0 (wi n 0 (w.es.length - 1)))]), H, none⟩ := by
  have s1 := h.es.scal
  have hO := fun (a b c : AO) => we_open (H := H ++ [a, b, c]) (h.app _) hl 0 (wi n 0 (w.es.length - 1))
  have hS := fun (e : Int) (x0 : AO) (x1 : AO) (G : Heap) => we_anss (H.length + 2) e 0 (H ++ (x0 :: x1 :: .box (I 0) :: G)) (by rw [get_at' 2]; rfl)
  have hN := fun (G : Heap) => we_ansn (H.length + 2) G
  simp only [Wea.afterP, Wea.gate]
  rcases Bool.eq_false_or_eq_true w.valid with hv | hv
  rotate_left
  · skip
    simp only [hv, if_true, if_false, Bool.false_eq_true, Wea.made, Wea.av, List.length_append, List.length_cons, List.length_nil, List.append_assoc, List.cons_append, List.nil_append, List.append_nil, List.length_append, Nat.add_assoc, Nat.reduceAdd, Nat.zero_add, (show (0 : Int) ≤ 10 by decide), (show ¬ (1 : Int) = 0 by decide), (show ¬ (2 : Int) = 0 by decide), (show ¬ (10 : Int) = 0 by decide)] at hO ⊢
    refine (callFL_eq fn14 rfl (by simp [Tryd.f14])).trans ?_
    simp (maxSteps := 1000000) (implicitDefEqProofs := false) (disch := first | rfl | omega | assumption) only [go_sem, ltT, ltF, leT, leF, s1]
    rw [chkK_of]; rotate_left; kernel_rfl
    simp (maxSteps := 1000000) (implicitDefEqProofs := false) (disch := first | rfl | omega | assumption) only [go_sem, ltT, ltF, leT, leF, s1, h.es.len, hO, hS, we_within]
  · have ho := w.valid_iff.1 hv
    have h8 := ho.many
    rcases Bool.eq_false_or_eq_true (wi n 0 (w.es.length - 1)) with hi | hi
    rotate_left
    · skip
      simp only [hv, hi, if_true, if_false, Bool.false_eq_true, Wea.made, Wea.av, List.length_append, List.length_cons, List.length_nil, List.append_assoc, List.cons_append, List.nil_append, List.append_nil, List.length_append, Nat.add_assoc, Nat.reduceAdd, Nat.zero_add, (show (0 : Int) ≤ 10 by decide), (show ¬ (1 : Int) = 0 by decide), (show ¬ (2 : Int) = 0 by decide), (show ¬ (10 : Int) = 0 by decide)] at hO ⊢
      refine (callFL_eq fn14 rfl (by simp [Tryd.f14])).trans ?_
      simp (maxSteps := 1000000) (implicitDefEqProofs := false) (disch := first | rfl | omega | assumption) only [go_sem, ltT, ltF, leT, leF, s1]
      rw [chkK_of]; rotate_left; kernel_rfl
      simp (maxSteps := 1000000) (implicitDefEqProofs := false) (disch := first | rfl | omega | assumption) only [go_sem, ltT, ltF, leT, leF, s1, h.es.len, hO, hS, we_within, hi]
    · have hT := fun (a b c : AO) => we_told (H := H ++ [a, b, c] ++ (w.made (H ++ [a, b, c]).length [] ++ [])) (made_bl w _ _ _) ho (made_m w _ _ _) (GoodM.nil w)
      have hi' := wi_iff.1 hi
      have hpl : (pc (w.at w.rd w.L) 0 9).length = 18 := pc_len _ 9 0
      have hrd := pc_read2 (w.at w.rd w.L) (i := n.toNat + 1) (by omega)
      have b1 : (n.toNat + 1) * 2 ≤ 16 := by omega
      have e1 : (n + 1).toNat = n.toNat + 1 := by omega
      simp only [hv, hi, if_true, Wea.made, Wea.av, Wea.logV, List.length_append, List.length_cons, List.length_nil, List.append_assoc, List.cons_append, List.nil_append, List.append_nil, List.length_append, Nat.add_assoc, Nat.reduceAdd, Nat.zero_add, (show (0 : Int) ≤ 10 by decide)] at hO hT ⊢
      rcases Bool.eq_false_or_eq_true w.can with hc | hc
      rotate_left
      · simp only [hc, if_true, Bool.false_eq_true, if_false, (show ¬ (10 : Int) = 0 by decide)] at hT ⊢
        refine (callFL_eq fn14 rfl (by simp [Tryd.f14])).trans ?_
        simp (maxSteps := 1000000) (implicitDefEqProofs := false) (disch := first | rfl | omega | assumption) only [go_sem, ltT, ltF, leT, leF, s1]
        rw [chkK_of]; rotate_left; kernel_rfl
        simp (maxSteps := 1000000) (implicitDefEqProofs := false) (disch := first | rfl | omega | assumption) only [go_sem, ltT, ltF, leT, leF, s1, h.es.len, hO, hT, hS, we_within, hi]
      · simp only [hc, if_true, Bool.false_eq_true, if_false] at hT ⊢
        refine (callFL_eq fn14 rfl (by simp [Tryd.f14])).trans ?_
        simp (maxSteps := 1000000) (implicitDefEqProofs := false) (disch := first | rfl | omega | assumption) only [go_sem, ltT, ltF, leT, leF, s1]
        rw [chkK_of]; rotate_left; kernel_rfl
        simp (maxSteps := 1000000) (implicitDefEqProofs := false) (disch := first | rfl | omega | assumption) only [go_sem, ltT, ltF, leT, leF, s1, h.es.len, we_within, hi, hO, hT, hN, hpl, hrd, b1, e1]

def Wea.lastP (w : Wea) : Int × Int := w.at w.rd w.L w.es.length

def Wea.untilP (w : Wea) (limit : Int) : Int × Int := if w.gate 0 (wi limit (-1000) 1000) = 0 then (if limit ≤ w.lastP.1 then (if w.uhi = 0 then 100 else mn 100 ((w.lastP.1 - limit).tdiv w.uhi), 0) else (0, 4)) else (0, w.gate 0 (wi limit (-1000) 1000))

theorem at_bd {w : Wea} (ho : w.Ok) {i : Nat} (hi : i ≤ w.es.length) : bd 2000000 (w.at w.rd w.L i) := by
  have h8 := ho.many
  simp only [Wea.at, if_pos hi]
  exact bd_mono (by omega) (bk_bd ho w.rd (L_bd ho) (w.es.length - i) (by omega))

theorem we_Until {w : Wea} {ve : AV} (h : WeaAt H w ve) (hl : w.es.length ≤ 1000) (n : Int) :
    callFL cfg0 prog0 false 22 [w.av ve, I n] H none = some ⟨.ret (.tup [I (w.untilP n).1, I (w.untilP n).2]), H, none⟩ := by
  have s1 := h.es.scal
  have hO := fun (a b : AO) => we_open (H := H ++ [a, b]) (h.app _) hl 0 (wi n (-1000) 1000)
  have hS := fun (e : Int) (x0 : AO) (G : Heap) => we_anss (H.length + 1) e 0 (H ++ (x0 :: .box (I 0) :: G)) (by rw [get_at' 1]; rfl)
  have hN := fun (G : Heap) => we_ansn (H.length + 1) G
  simp only [Wea.untilP, Wea.lastP, Wea.gate]
  rcases Bool.eq_false_or_eq_true w.valid with hv | hv
  rotate_left
  · skip
    simp only [hv, if_true, if_false, Bool.false_eq_true, Wea.made, Wea.av, List.length_append, List.length_cons, List.length_nil, List.append_assoc, List.cons_append, List.nil_append, List.append_nil, List.length_append, Nat.add_assoc, Nat.reduceAdd, Nat.zero_add, (show (0 : Int) ≤ 10 by decide), (show ¬ (1 : Int) = 0 by decide), (show ¬ (2 : Int) = 0 by decide), (show ¬ (10 : Int) = 0 by decide)] at hO ⊢
    refine (callFL_eq fn22 rfl (by simp [Tryd.f22])).trans ?_
    simp (maxSteps := 1000000) (implicitDefEqProofs := false) (disch := first | rfl | omega | assumption) only [go_sem, ltT, ltF, leT, leF, s1]
    rw [chkK_of]; rotate_left; kernel_rfl
    simp (maxSteps := 1000000) (implicitDefEqProofs := false) (disch := first | rfl | omega | assumption) only [go_sem, ltT, ltF, leT, leF, s1, h.es.len, hO, hS, we_isLimit]
  · have ho := w.valid_iff.1 hv
    have h8 := ho.many
    rcases Bool.eq_false_or_eq_true (wi n (-1000) 1000) with hi | hi
    rotate_left
    · skip
      simp only [hv, hi, if_true, if_false, Bool.false_eq_true, Wea.made, Wea.av, List.length_append, List.length_cons, List.length_nil, List.append_assoc, List.cons_append, List.nil_append, List.append_nil, List.length_append, Nat.add_assoc, Nat.reduceAdd, Nat.zero_add, (show (0 : Int) ≤ 10 by decide), (show ¬ (1 : Int) = 0 by decide), (show ¬ (2 : Int) = 0 by decide), (show ¬ (10 : Int) = 0 by decide)] at hO ⊢
      refine (callFL_eq fn22 rfl (by simp [Tryd.f22])).trans ?_
      simp (maxSteps := 1000000) (implicitDefEqProofs := false) (disch := first | rfl | omega | assumption) only [go_sem, ltT, ltF, leT, leF, s1]
      rw [chkK_of]; rotate_left; kernel_rfl
      simp (maxSteps := 1000000) (implicitDefEqProofs := false) (disch := first | rfl | omega | assumption) only [go_sem, ltT, ltF, leT, leF, s1, h.es.len, hO, hS, we_isLimit, hi]
    · have hT := fun (a b : AO) => we_last (H := H ++ [a, b] ++ (w.made (H ++ [a, b]).length [] ++ [])) (made_bl w _ _ _) ho (made_m w _ _ _) (GoodM.nil w)
      have hi' := wi_iff.1 hi
      have hab := at_bd ho (Nat.le_refl _)
      simp only [bd] at hab
      have hu := ho.use
      simp only [hv, hi, if_true, Wea.made, Wea.av, Wea.logV, List.length_append, List.length_cons, List.length_nil, List.append_assoc, List.cons_append, List.nil_append, List.append_nil, List.length_append, Nat.add_assoc, Nat.reduceAdd, Nat.zero_add, (show (0 : Int) ≤ 10 by decide)] at hO hT ⊢
      rcases Bool.eq_false_or_eq_true w.can with hc | hc
      rotate_left
      · simp only [hc, if_true, Bool.false_eq_true, if_false, (show ¬ (10 : Int) = 0 by decide)] at hT ⊢
        refine (callFL_eq fn22 rfl (by simp [Tryd.f22])).trans ?_
        simp (maxSteps := 1000000) (implicitDefEqProofs := false) (disch := first | rfl | omega | assumption) only [go_sem, ltT, ltF, leT, leF, s1]
        rw [chkK_of]; rotate_left; kernel_rfl
        simp (maxSteps := 1000000) (implicitDefEqProofs := false) (disch := first | rfl | omega | assumption) only [go_sem, ltT, ltF, leT, leF, s1, h.es.len, hO, hT, hS, we_isLimit, hi]
      · simp only [hc, if_true, Bool.false_eq_true, if_false] at hT ⊢
        obtain ⟨p, hk⟩ : ∃ p, w.at w.rd w.L w.es.length = p := ⟨_, rfl⟩
        simp only [hk] at hab hT ⊢
        by_cases hp : n ≤ p.1
        · by_cases hz : w.uhi = 0
          · have hz' : (w.uhi == 0) = true := by simpa using hz
            simp only [if_pos hp, if_pos hz]
            refine (callFL_eq fn22 rfl (by simp [Tryd.f22])).trans ?_
            simp (maxSteps := 1000000) (implicitDefEqProofs := false) (disch := first | rfl | omega | assumption) only [go_sem, ltT, ltF, leT, leF, s1]
            rw [chkK_of]; rotate_left; kernel_rfl
            simp (maxSteps := 1000000) (implicitDefEqProofs := false) (disch := first | rfl | omega | assumption) only [go_sem, ltT, ltF, leT, leF, s1, h.es.len, we_isLimit, hi, hO, hT, hN, hp, we_ask, hz', mn]
          · have hz' : (w.uhi == 0) = false := by simpa using hz
            have e1 : (p.1 - n).tdiv w.uhi = (p.1 - n) / w.uhi := Int.tdiv_eq_ediv_of_nonneg (by omega)
            have e2 : 0 ≤ (p.1 - n) / w.uhi := Int.ediv_nonneg (by omega) (by omega)
            have e3 : (p.1 - n) / w.uhi ≤ p.1 - n := Int.ediv_le_self _ (by omega)
            simp only [if_pos hp, if_neg hz, if_true, e1]
            refine (callFL_eq fn22 rfl (by simp [Tryd.f22])).trans ?_
            simp (maxSteps := 1000000) (implicitDefEqProofs := false) (disch := first | rfl | omega | assumption) only [go_sem, ltT, ltF, leT, leF, s1]
            rw [chkK_of]; rotate_left; kernel_rfl
            simp (maxSteps := 1000000) (implicitDefEqProofs := false) (disch := first | rfl | omega | assumption) only [go_sem, ltT, ltF, leT, leF, s1, h.es.len, we_isLimit, hi, hO, hT, hN, hp, we_ask, hz, hz', e1, mn]
        · simp only [if_neg hp, if_true]
          refine (callFL_eq fn22 rfl (by simp [Tryd.f22])).trans ?_
          simp (maxSteps := 1000000) (implicitDefEqProofs := false) (disch := first | rfl | omega | assumption) only [go_sem, ltT, ltF, leT, leF, s1]
          rw [chkK_of]; rotate_left; kernel_rfl
          simp (maxSteps := 1000000) (implicitDefEqProofs := false) (disch := first | rfl | omega | assumption) only [go_sem, ltT, ltF, leT, leF, s1, h.es.len, we_isLimit, hi, hO, hT, hS, hp, we_ask]

def Wea.fitsP (w : Wea) (p : Int × Int) : Int := if w.gate 0 (spB p (-1000) 1000) = 0 then (if bothP w.lastP p = w.lastP then 2 else if (bothP w.lastP p).1 ≤ (bothP w.lastP p).2 then 1 else 0) else 0

theorem we_Fits {w : Wea} {ve : AV} (h : WeaAt H w ve) (hl : w.es.length ≤ 1000) (p : Int × Int) :
    callFL cfg0 prog0 false 20 [w.av ve, KV p] H none = some ⟨.ret (.tup [I (w.fitsP p), I (w.gate 0 (spB p (-1000) 1000))]), H, none⟩ := by
  have s1 := h.es.scal
  have hO := fun (a b c d : AO) => we_open (H := H ++ [a, b, c, d]) (h.app _) hl 0 (spB p (-1000) 1000)
  have hS := fun (e : Int) (x0 : AO) (x1 : AO) (G : Heap) => we_anss (H.length + 2) e 0 (H ++ (x0 :: x1 :: .box (I 0) :: G)) (by rw [get_at' 2]; rfl)
  have hN := fun (G : Heap) => we_ansn (H.length + 2) G
  have hsp := fun G => we_isSpan p.1 p.2 (-1000) 1000 G
  simp only [Prod.eta] at hsp
  simp only [Wea.fitsP, Wea.lastP, Wea.gate]
  rcases Bool.eq_false_or_eq_true w.valid with hv | hv
  rotate_left
  · skip
    simp only [hv, if_true, if_false, Bool.false_eq_true, Wea.made, Wea.av, List.length_append, List.length_cons, List.length_nil, List.append_assoc, List.cons_append, List.nil_append, List.append_nil, List.length_append, Nat.add_assoc, Nat.reduceAdd, Nat.zero_add, (show (0 : Int) ≤ 10 by decide), (show ¬ (1 : Int) = 0 by decide), (show ¬ (2 : Int) = 0 by decide), (show ¬ (10 : Int) = 0 by decide)] at hO ⊢
    refine (callFL_eq fn20 rfl (by simp [Tryd.f20])).trans ?_
    simp (maxSteps := 1000000) (implicitDefEqProofs := false) (disch := first | rfl | omega | assumption) only [go_sem, ltT, ltF, leT, leF, s1]
    rw [chkK_of]; rotate_left; kernel_rfl
    simp (maxSteps := 1000000) (implicitDefEqProofs := false) (disch := first | rfl | omega | assumption) only [go_sem, ltT, ltF, leT, leF, s1, h.es.len, hO, hS, hsp]
  · have ho := w.valid_iff.1 hv
    have h8 := ho.many
    rcases Bool.eq_false_or_eq_true (spB p (-1000) 1000) with hi | hi
    rotate_left
    · skip
      simp only [hv, hi, if_true, if_false, Bool.false_eq_true, Wea.made, Wea.av, List.length_append, List.length_cons, List.length_nil, List.append_assoc, List.cons_append, List.nil_append, List.append_nil, List.length_append, Nat.add_assoc, Nat.reduceAdd, Nat.zero_add, (show (0 : Int) ≤ 10 by decide), (show ¬ (1 : Int) = 0 by decide), (show ¬ (2 : Int) = 0 by decide), (show ¬ (10 : Int) = 0 by decide)] at hO ⊢
      refine (callFL_eq fn20 rfl (by simp [Tryd.f20])).trans ?_
      simp (maxSteps := 1000000) (implicitDefEqProofs := false) (disch := first | rfl | omega | assumption) only [go_sem, ltT, ltF, leT, leF, s1]
      rw [chkK_of]; rotate_left; kernel_rfl
      simp (maxSteps := 1000000) (implicitDefEqProofs := false) (disch := first | rfl | omega | assumption) only [go_sem, ltT, ltF, leT, leF, s1, h.es.len, hO, hS, hsp, hi]
    · have hT := fun (a b c d : AO) => we_last (H := H ++ [a, b, c, d] ++ (w.made (H ++ [a, b, c, d]).length [] ++ [])) (made_bl w _ _ _) ho (made_m w _ _ _) (GoodM.nil w)
      have hbo := fun G => we_both (w.at w.rd w.L w.es.length).1 (w.at w.rd w.L w.es.length).2 p.1 p.2 G
      simp only [Prod.eta] at hbo
      simp only [hv, hi, if_true, Wea.made, Wea.av, Wea.logV, List.length_append, List.length_cons, List.length_nil, List.append_assoc, List.cons_append, List.nil_append, List.append_nil, List.length_append, Nat.add_assoc, Nat.reduceAdd, Nat.zero_add, (show (0 : Int) ≤ 10 by decide)] at hO hT ⊢
      rcases Bool.eq_false_or_eq_true w.can with hc | hc
      rotate_left
      · simp only [hc, if_true, Bool.false_eq_true, if_false, (show ¬ (10 : Int) = 0 by decide)] at hT ⊢
        refine (callFL_eq fn20 rfl (by simp [Tryd.f20])).trans ?_
        simp (maxSteps := 1000000) (implicitDefEqProofs := false) (disch := first | rfl | omega | assumption) only [go_sem, ltT, ltF, leT, leF, s1]
        rw [chkK_of]; rotate_left; kernel_rfl
        simp (maxSteps := 1000000) (implicitDefEqProofs := false) (disch := first | rfl | omega | assumption) only [go_sem, ltT, ltF, leT, leF, s1, h.es.len, hO, hT, hS, hsp, hi]
      · simp only [hc, if_true, Bool.false_eq_true, if_false] at hT ⊢
        obtain ⟨k, hk⟩ : ∃ k, w.at w.rd w.L w.es.length = k := ⟨_, rfl⟩
        simp only [hk] at hbo hT ⊢
        obtain ⟨x, hx⟩ : ∃ x, bothP k p = x := ⟨_, rfl⟩
        simp only [hx] at hbo ⊢
        clear hk hx
        by_cases h1 : x = k
        · subst h1
          simp only [if_true]
          refine (callFL_eq fn20 rfl (by simp [Tryd.f20])).trans ?_
          simp (maxSteps := 1000000) (implicitDefEqProofs := false) (disch := first | rfl | omega | assumption) only [go_sem, ltT, ltF, leT, leF, s1]
          rw [chkK_of]; rotate_left; kernel_rfl
          simp (maxSteps := 1000000) (implicitDefEqProofs := false) (disch := first | rfl | omega | assumption) only [go_sem, ltT, ltF, leT, leF, s1, h.es.len, hsp, hi, hO, hT, hN, hbo]
        · have h2 : sameL [I x.1, I x.2] [I k.1, I k.2] = false := by
            rw [← Bool.not_eq_true]
            intro hh
            simp [sameL, AV.same, I] at hh
            exact h1 (Prod.ext hh.1 hh.2)
          by_cases h3 : x.1 ≤ x.2
          · simp only [if_neg h1, if_pos h3, if_true]
            refine (callFL_eq fn20 rfl (by simp [Tryd.f20])).trans ?_
            simp (maxSteps := 1000000) (implicitDefEqProofs := false) (disch := first | rfl | omega | assumption) only [go_sem, ltT, ltF, leT, leF, s1]
            rw [chkK_of]; rotate_left; kernel_rfl
            simp (maxSteps := 1000000) (implicitDefEqProofs := false) (disch := first | rfl | omega | assumption) only [go_sem, ltT, ltF, leT, leF, s1, h.es.len, hsp, hi, hO, hT, hN, hbo, h2, h3, we_some]
          · simp only [if_neg h1, if_neg h3, if_true]
            refine (callFL_eq fn20 rfl (by simp [Tryd.f20])).trans ?_
            simp (maxSteps := 1000000) (implicitDefEqProofs := false) (disch := first | rfl | omega | assumption) only [go_sem, ltT, ltF, leT, leF, s1]
            rw [chkK_of]; rotate_left; kernel_rfl
            simp (maxSteps := 1000000) (implicitDefEqProofs := false) (disch := first | rfl | omega | assumption) only [go_sem, ltT, ltF, leT, leF, s1, h.es.len, hsp, hi, hO, hT, hN, hbo, h2, h3, we_some]

end Go.Ab
/-
  When a block was too short; the first of a list.
-/
namespace Go.Ab
open Go.Proofs
set_option linter.unusedSimpArgs false
set_option linter.unusedVariables false
set_option maxRecDepth 100000

variable {H : Heap}

theorem maskN_succ (f : Nat → Bool) (j : Nat) : maskN f (j + 1) = if f j then maskN f j ||| 2 ^ j else maskN f j := by
  simp only [maskN]
  split <;> simp

theorem pc_get1 (f : Nat → Int × Int) {i : Nat} (h : i < 9) : (pc f 0 9)[i * 2]? = some (I (f i).1) := by
  have := pc_read2 f h
  have h2 : (List.take 2 (List.drop (i * 2) (pc f 0 9)))[0]? = some (I (f i).1) := by rw [this]; rfl
  rw [List.getElem?_take_of_lt (by omega), List.getElem?_drop, Nat.add_zero] at h2
  exact h2

theorem pc_get2 (f : Nat → Int × Int) {i : Nat} (h : i < 9) : (pc f 0 9)[i * 2 + 1]? = some (I (f i).2) := by
  have := pc_read2 f h
  have h2 : (List.take 2 (List.drop (i * 2) (pc f 0 9)))[1]? = some (I (f i).2) := by rw [this]; rfl
  rw [List.getElem?_take_of_lt (by omega), List.getElem?_drop] at h2
  exact h2

def sureF (f : Nat → Int × Int) (lim : Int) (i : Nat) : Bool := decide ((f (i + 1)).2 < lim)
def perF (f : Nat → Int × Int) (lim : Int) (i : Nat) : Bool := decide ((f (i + 1)).1 < lim)

theorem below_loop (f : Nat → Int × Int) (n : Nat) (hn : n ≤ 8) (lim : Int) (o : AO) (G : Heap) :
    ∀ (q j : Nat), j + q = n → ∀ E : Env, E.get 1 = I lim → E.get 6 = .ptr (H.length + 1) 0 → E.get 7 = .ptr (H.length + 2) 0 → E.get 8 = I (maskN (sureF f lim) j) → E.get 9 = I (maskN (perF f lim) j) → E.get 18 = I n → E.get 19 = I j →
    Option.map (finishC H.length) (execL cfg0 prog0 ⟨18, none, false, H.length⟩ (todoAt Tryd.f18 5) ⟨E, [.fn (.func 41) [.ptr (H.length + 1) 0] []], H ++ (o :: .box (I 0) :: .box (.agg (pc f 0 9)) :: G), none⟩) = some ⟨.ret (.tup [I (maskN (sureF f lim) n), I (maskN (perF f lim) n), I 0]), H, none⟩ := by
  intro q
  have hN := fun (G : Heap) => we_ansn (H.length + 1) G
  induction q with
  | zero =>
    intro j hj  E g1 g6 g7 g8 g9 g18 g19
    have hk' : ¬ (j : Int) < ((n : Nat) : Int) := by omega
    have ej : j = n := by omega
    subst ej
    simp only [loopIt, todoPast, todoAt, todoOf, firstReg, ↓reduceIte, Option.some.injEq, Nat.reduceEqDiff, reduceCtorEq, Tryd.f18]
    rw [execL_inLoop]
    simp (maxSteps := 1000000) (implicitDefEqProofs := false) (disch := first | rfl | omega | assumption) only [go_sem, g1, g6, g7, g8, g9, g18, g19, ltT, ltF, leT, leF, hk', hN]
  | succ q ih =>
    intro j hj  E g1 g6 g7 g8 g9 g18 g19
    have hk' : (j : Int) < ((n : Nat) : Int) := by omega
    have hk2 : j < n := by omega
    have e1 : ((j : Int) + 1).toNat = j + 1 := by omega
    have p1 := pc_get1 f (i := j + 1) (by omega)
    have p2 := pc_get2 f (i := j + 1) (by omega)
    have l1 := maskN_lt (sureF f lim) j
    have l2 := maskN_lt (perF f lim) j
    have hp := two_pow_lt (show j < 60 by omega)
    have o1 := bitsOrI (a := maskN (sureF f lim) j) (b := 2 ^ j) (by omega) (by omega)
    have o2 := bitsOrI (a := maskN (perF f lim) j) (b := 2 ^ j) (by omega) (by omega)
    have sh := shlI (k := j) (by omega)
    have z : ¬ (j : Int) < 0 := by omega
    have m1 := maskN_succ (sureF f lim) j
    have m2 := maskN_succ (perF f lim) j
    by_cases c1 : (f (j + 1)).2 < lim <;> by_cases c2 : (f (j + 1)).1 < lim
    all_goals
      simp only [sureF, perF, c1, c2, decide_true, decide_false, if_true, if_false, Bool.false_eq_true] at m1 m2
    · skip
      simp only [loopIt, todoPast, todoAt, todoOf, firstReg, ↓reduceIte, Option.some.injEq, Nat.reduceEqDiff, reduceCtorEq, Tryd.f18]
      rw [execL_inLoop]
      simp (maxSteps := 1000000) (implicitDefEqProofs := false) (disch := first | rfl | omega | assumption) only [go_sem, g1, g6, g7, g8, g9, g18, g19, ltT, ltF, leT, leF, hk', e1, p1, p2, o1, o2, sh, z, c1, c2]
      exact ih (j + 1) (by omega) _ (by exact g1) (by exact g6) (by exact g7) (by rw [show maskN (sureF f lim) (j + 1) = _ from m1]; rfl) (by rw [show maskN (perF f lim) (j + 1) = _ from m2]; rfl) (by exact g18) (by rfl)
    · skip
      simp only [loopIt, todoPast, todoAt, todoOf, firstReg, ↓reduceIte, Option.some.injEq, Nat.reduceEqDiff, reduceCtorEq, Tryd.f18]
      rw [execL_inLoop]
      simp (maxSteps := 1000000) (implicitDefEqProofs := false) (disch := first | rfl | omega | assumption) only [go_sem, g1, g6, g7, g8, g9, g18, g19, ltT, ltF, leT, leF, hk', e1, p1, p2, o1, o2, sh, z, c1, c2]
      exact ih (j + 1) (by omega) _ (by exact g1) (by exact g6) (by exact g7) (by rw [show maskN (sureF f lim) (j + 1) = _ from m1]; rfl) (by rw [show maskN (perF f lim) (j + 1) = _ from m2]; exact g9) (by exact g18) (by rfl)
    · skip
      simp only [loopIt, todoPast, todoAt, todoOf, firstReg, ↓reduceIte, Option.some.injEq, Nat.reduceEqDiff, reduceCtorEq, Tryd.f18]
      rw [execL_inLoop]
      simp (maxSteps := 1000000) (implicitDefEqProofs := false) (disch := first | rfl | omega | assumption) only [go_sem, g1, g6, g7, g8, g9, g18, g19, ltT, ltF, leT, leF, hk', e1, p1, p2, o1, o2, sh, z, c1, c2]
      exact ih (j + 1) (by omega) _ (by exact g1) (by exact g6) (by exact g7) (by rw [show maskN (sureF f lim) (j + 1) = _ from m1]; exact g8) (by rw [show maskN (perF f lim) (j + 1) = _ from m2]; rfl) (by exact g18) (by rfl)
    · skip
      simp only [loopIt, todoPast, todoAt, todoOf, firstReg, ↓reduceIte, Option.some.injEq, Nat.reduceEqDiff, reduceCtorEq, Tryd.f18]
      rw [execL_inLoop]
      simp (maxSteps := 1000000) (implicitDefEqProofs := false) (disch := first | rfl | omega | assumption) only [go_sem, g1, g6, g7, g8, g9, g18, g19, ltT, ltF, leT, leF, hk', e1, p1, p2, o1, o2, sh, z, c1, c2]
      exact ih (j + 1) (by omega) _ (by exact g1) (by exact g6) (by exact g7) (by rw [show maskN (sureF f lim) (j + 1) = _ from m1]; exact g8) (by rw [show maskN (perF f lim) (j + 1) = _ from m2]; exact g9) (by exact g18) (by rfl)

/-- The first number from j on that b holds of, of q numbers; else the one behind them. -/
def firstN (b : Nat → Bool) : Nat → Nat → Nat
  | j, 0 => j
  | j, q + 1 => if b j then j else firstN b (j + 1) q

def stepN (b : Nat → Bool) : Nat → Nat → Nat
  | j, 0 => j
  | j, q + 1 => if b j then j + 1 else stepN b (j + 1) q

theorem first_loop {v : AV} {xs : List Int} (h : SlOk H 1 v (xs.map I)) (hl : xs.length ≤ 1000000) (fn : Fn) (cap : List AV) (b : Nat → Bool) (Hs : Nat → Heap) (N : Nat) (hsl : ∀ j, (Hs j).length = N) (hp : ∀ j, ∃ G, Hs j = H ++ G) (hc : ∀ (j : Nat) (G : Heap), j < xs.length → callVL cfg0 prog0 false fn [I (xs.getD j 0)] cap (Hs j ++ G) none = some ⟨.ret (.bool (b j)), Hs (j + 1) ++ G, none⟩) :
    ∀ (q j : Nat), j + q = xs.length → ∀ E : Env, E.get 0 = v → E.get 3 = .ptr N 0 → E.get 7 = v → E.get 8 = I xs.length → E.get 9 = I j →
    Option.map (finishC N) (execL cfg0 prog0 ⟨63, none, false, N⟩ (todoAt Tryd.f63 2) ⟨E, [], Hs j ++ [.box (.agg [.func fn [] cap])], none⟩) = some ⟨.ret (I (firstN b j q)), Hs (stepN b j q), none⟩ := by
  intro q
  obtain ⟨a1, a2, a3, a4⟩ := h.fI
  have hln := h.len
  induction q with
  | zero =>
    intro j hj  E g0 g3 g7 g8 g9
    have hk' : ¬ (j : Int) < ((xs.length : Nat) : Int) := by omega
    have ej : j = xs.length := by omega
    subst ej
    simp only [loopIt, todoPast, todoAt, todoOf, firstReg, ↓reduceIte, Option.some.injEq, Nat.reduceEqDiff, reduceCtorEq, Tryd.f63]
    rw [execL_inLoop]
    have ht : ∀ G : Heap, (Hs xs.length ++ G).take N = Hs xs.length := fun G => by rw [← hsl xs.length, List.take_left]
    simp (maxSteps := 1000000) (implicitDefEqProofs := false) (disch := first | rfl | omega | assumption) only [go_sem, g0, g3, g7, g8, g9, ltT, ltF, leT, leF, hk', hln, firstN, stepN, ht, List.length_map]
  | succ q ih =>
    intro j hj  E g0 g3 g7 g8 g9
    have hk' : (j : Int) < ((xs.length : Nat) : Int) := by omega
    have hk2 : j < xs.length := by omega
    obtain ⟨G, hG⟩ := hp j
    have hx := hc j [.box (.agg [.func fn [] cap])] hk2
    have hgt : (Hs j ++ [.box (.agg [.func fn [] cap])])[N]? = some (.box (.agg [.func fn [] cap])) := by rw [← hsl j, get_at]; rfl
    have ht : ∀ G : Heap, (Hs (j + 1) ++ G).take N = Hs (j + 1) := fun G => by rw [← hsl (j + 1), List.take_left]
    have i1 : ∀ (te : Ty) (k : Int), te.size = 1 → (0 ≤ k ∧ k < xs.length) → idxAddr (Hs j ++ [.box (.agg [.func fn [] cap])]) te v k = some (elA v k 0) := by
      intro te k h1 h2
      rw [hG, List.append_assoc]; exact a1 _ te k h1 h2
    have i2 : ∀ (te : Ty) (k : Int), (0 ≤ k ∧ k < xs.length) → evLoad (Hs j ++ [.box (.agg [.func fn [] cap])]) te (elA v k 0) = readPart [I (xs.getD k.toNat 0)] 0 te := by
      intro te k h2
      rw [hG, List.append_assoc]; exact a3 _ te k h2
    simp only [firstN, stepN]
    rcases Bool.eq_false_or_eq_true (b j) with hb | hb
    · rw [hb] at hx ⊢
      simp only [loopIt, todoPast, todoAt, todoOf, firstReg, ↓reduceIte, Option.some.injEq, Nat.reduceEqDiff, reduceCtorEq, Tryd.f63]
      rw [execL_inLoop]
      simp (maxSteps := 1000000) (implicitDefEqProofs := false) (disch := first | rfl | omega | assumption) only [go_sem, g0, g3, g7, g8, g9, ltT, ltF, leT, leF, hk', i1, i2, hgt, hx, ht]
    · rw [hb] at hx ⊢
      simp only [loopIt, todoPast, todoAt, todoOf, firstReg, ↓reduceIte, Option.some.injEq, Nat.reduceEqDiff, reduceCtorEq, Tryd.f63]
      rw [execL_inLoop]
      simp (maxSteps := 1000000) (implicitDefEqProofs := false) (disch := first | rfl | omega | assumption) only [go_sem, g0, g3, g7, g8, g9, ltT, ltF, leT, leF, hk', i1, i2, hgt, hx]
      exact ih (j + 1) (by omega) _ (by exact g0) (by exact g3) (by exact g7) (by exact g8) (by rfl)

end Go.Ab
/-
  When a block was too short; on which day it can be.
-/
namespace Go.Ab
open Go.Proofs
set_option linter.unusedSimpArgs false
set_option linter.unusedVariables false
set_option maxRecDepth 100000

variable {H : Heap}

def Wea.sureP (w : Wea) (n : Int) : Nat := if w.gate 0 (wi n (-1000) 1000) = 0 then maskN (sureF (w.at w.rd w.L) n) w.es.length else 0
def Wea.perP (w : Wea) (n : Int) : Nat := if w.gate 0 (wi n (-1000) 1000) = 0 then maskN (perF (w.at w.rd w.L) n) w.es.length else 0

theorem we_Below {w : Wea} {ve : AV} (h : WeaAt H w ve) (hl : w.es.length ≤ 1000) (n : Int) :
    callFL cfg0 prog0 false 18 [w.av ve, I n] H none = some ⟨.ret (.tup [I (w.sureP n), I (w.perP n), I (w.gate 0 (wi n (-1000) 1000))]), H, none⟩ := by
  have s1 := h.es.scal
  have hO := fun (a b c : AO) => we_open (H := H ++ [a, b, c]) (h.app _) hl 0 (wi n (-1000) 1000)
  have hS := fun (e : Int) (x0 : AO) (G : Heap) => we_anss (H.length + 1) e 0 (H ++ (x0 :: .box (I 0) :: G)) (by rw [get_at' 1]; rfl)
  simp only [Wea.sureP, Wea.perP, Wea.gate]
  rcases Bool.eq_false_or_eq_true w.valid with hv | hv
  rotate_left
  · simp only [hv, if_true, if_false, Bool.false_eq_true, Wea.made, Wea.av, List.length_append, List.length_cons, List.length_nil, List.append_assoc, List.cons_append, List.nil_append, List.append_nil, List.length_append, Nat.add_assoc, Nat.reduceAdd, Nat.zero_add, (show (0 : Int) ≤ 10 by decide), (show ¬ (1 : Int) = 0 by decide)] at hO ⊢
    refine (callFL_eq fn18 rfl (by simp [Tryd.f18])).trans ?_
    simp (maxSteps := 1000000) (implicitDefEqProofs := false) (disch := first | rfl | omega | assumption) only [go_sem, ltT, ltF, leT, leF, s1]
    rw [chkK_of]; rotate_left; kernel_rfl
    simp (maxSteps := 1000000) (implicitDefEqProofs := false) (disch := first | rfl | omega | assumption) only [go_sem, ltT, ltF, leT, leF, s1, h.es.len, hO, hS, we_isLimit]
  · have ho := w.valid_iff.1 hv
    have h8 := ho.many
    rcases Bool.eq_false_or_eq_true (wi n (-1000) 1000) with hi | hi
    rotate_left
    · simp only [hv, hi, if_true, if_false, Bool.false_eq_true, Wea.made, Wea.av, List.length_append, List.length_cons, List.length_nil, List.append_assoc, List.cons_append, List.nil_append, List.append_nil, List.length_append, Nat.add_assoc, Nat.reduceAdd, Nat.zero_add, (show (0 : Int) ≤ 10 by decide), (show ¬ (2 : Int) = 0 by decide)] at hO ⊢
      refine (callFL_eq fn18 rfl (by simp [Tryd.f18])).trans ?_
      simp (maxSteps := 1000000) (implicitDefEqProofs := false) (disch := first | rfl | omega | assumption) only [go_sem, ltT, ltF, leT, leF, s1]
      rw [chkK_of]; rotate_left; kernel_rfl
      simp (maxSteps := 1000000) (implicitDefEqProofs := false) (disch := first | rfl | omega | assumption) only [go_sem, ltT, ltF, leT, leF, s1, h.es.len, hO, hS, we_isLimit, hi]
    · have hT := fun (a b c : AO) => we_told (H := H ++ [a, b, c] ++ (w.made (H ++ [a, b, c]).length [] ++ [])) (made_bl w _ _ _) ho (made_m w _ _ _) (GoodM.nil w)
      have hpl : (pc (w.at w.rd w.L) 0 9).length = 18 := pc_len _ 9 0
      have hps := pc_scal (w.at w.rd w.L) 9 0
      have htk : List.take 18 (pc (w.at w.rd w.L) 0 9) = pc (w.at w.rd w.L) 0 9 := List.take_of_length_le (by rw [hpl]; exact Nat.le_refl _)
      have hpd : List.drop 18 (List.replicate 18 (I 0)) = [] := rfl
      simp only [hv, hi, if_true, Wea.made, Wea.av, Wea.logV, List.length_append, List.length_cons, List.length_nil, List.append_assoc, List.cons_append, List.nil_append, List.append_nil, List.length_append, Nat.add_assoc, Nat.reduceAdd, Nat.zero_add, (show (0 : Int) ≤ 10 by decide)] at hO hT ⊢
      rcases Bool.eq_false_or_eq_true w.can with hc | hc
      rotate_left
      · simp only [hc, if_true, Bool.false_eq_true, if_false, (show ¬ (10 : Int) = 0 by decide)] at hT ⊢
        refine (callFL_eq fn18 rfl (by simp [Tryd.f18])).trans ?_
        simp (maxSteps := 1000000) (implicitDefEqProofs := false) (disch := first | rfl | omega | assumption) only [go_sem, ltT, ltF, leT, leF, s1]
        rw [chkK_of]; rotate_left; kernel_rfl
        simp (maxSteps := 1000000) (implicitDefEqProofs := false) (disch := first | rfl | omega | assumption) only [go_sem, ltT, ltF, leT, leF, s1, h.es.len, hO, hT, hS, we_isLimit, hi]
      · simp only [hc, if_true, Bool.false_eq_true, if_false] at hT ⊢
        refine (callFL_eq fn18 rfl (by simp [Tryd.f18])).trans ?_
        simp (maxSteps := 1000000) (implicitDefEqProofs := false) (disch := first | rfl | omega | assumption) only [go_sem, ltT, ltF, leT, leF, s1]
        rw [chkK_of]; rotate_left; kernel_rfl
        simp (maxSteps := 1000000) (implicitDefEqProofs := false) (disch := first | rfl | omega | assumption) only [go_sem, ltT, ltF, leT, leF, s1, h.es.len, hO, hT, we_isLimit, hi, hpl, hps, htk]
        exact below_loop (w.at w.rd w.L) w.es.length h8 n _ _ w.es.length 0 (by omega) _ (by rfl) (by rfl) (by rfl) (by rfl) (by rfl) (by rfl) (by rfl)

theorem day_bad (n : Int) (H : Heap) : callFL cfg0 prog0 false 61 [I n] H none = some ⟨.ret (.bool !wi n 0 20), H, none⟩ := by
  refine (callFL_eq fn61 rfl (by simp [Tryd.f61])).trans ?_
  simp (maxSteps := 1000000) (implicitDefEqProofs := false) (disch := first | rfl | omega | assumption) only [go_sem, ltT, ltF, leT, leF, we_within]

def firstOff (l : List Int) (j q : Nat) : Int := (findF (fun i => if wi (l.getD i 0) 0 20 then none else some (i : Int)) j q).getD (-1)

theorem firstOff_any (l : List Int) : ∀ (q j : Nat), decide (0 ≤ firstOff l j q) = anyF (fun i => !wi (l.getD i 0) 0 20) j q
  | 0, j => rfl
  | q + 1, j => by
    have ih := firstOff_any l q (j + 1)
    have e : firstOff l j (q + 1) = if wi (l.getD j 0) 0 20 then firstOff l (j + 1) q else (j : Int) := by
      simp only [firstOff, findF]
      cases wi (l.getD j 0) 0 20 <;> rfl
    rw [e]
    simp only [anyF]
    cases h : wi (l.getD j 0) 0 20
    · simp
    · simpa using ih

theorem idxI_loop {l : List Int} {v : AV} (h : SlOk H 1 v (l.map I)) (hl : l.length ≤ 1000000) :
    ∀ (q j : Nat), j + q = l.length → ∀ E : Env, E.get 0 = v → E.get 1 = .func (.func 61) [] [] → E.get 7 = I l.length → E.get 8 = I j →
    Option.map (finishC H.length) (execL cfg0 prog0 ⟨85, none, false, H.length⟩ (todoAt Tryd.f85 2) ⟨E, [], H, none⟩) = some ⟨.ret (I (firstOff l j q)), H, none⟩ := by
  intro q
  obtain ⟨a1, a2, a3, a4⟩ := h.fI
  induction q with
  | zero =>
    intro j hj  E g0 g1 g7 g8
    have hk' : ¬ (j : Int) < ((l.length : Nat) : Int) := by omega
    simp only [loopIt, todoPast, todoAt, todoOf, firstReg, ↓reduceIte, Option.some.injEq, Nat.reduceEqDiff, reduceCtorEq, Tryd.f85]
    rw [execL_inLoop]
    simp (maxSteps := 1000000) (implicitDefEqProofs := false) (disch := first | rfl | omega | assumption) only [go_sem, g0, g1, g7, g8, ltT, ltF, leT, leF, hk', firstOff, findF]
  | succ q ih =>
    intro j hj  E g0 g1 g7 g8
    have hk' : (j : Int) < ((l.length : Nat) : Int) := by omega
    have hk2 : j < l.length := by omega
    have hb := fun G => day_bad (l.getD j 0) G
    simp only [firstOff, findF]
    simp only [loopIt, todoPast, todoAt, todoOf, firstReg, ↓reduceIte, Option.some.injEq, Nat.reduceEqDiff, reduceCtorEq, Tryd.f85]
    rw [execL_inLoop]
    rcases Bool.eq_false_or_eq_true (wi (l.getD j 0) 0 20) with hc | hc
    · simp (maxSteps := 1000000) (implicitDefEqProofs := false) (disch := first | rfl | omega | assumption) only [go_sem, g0, g1, g7, g8, ltT, ltF, leT, leF, hk', a1, a2, a3, a4, hb, hc]
      exact ih (j + 1) (by omega) _ (by exact g0) (by exact g1) (by exact g7) (by rfl)
    · simp (maxSteps := 1000000) (implicitDefEqProofs := false) (disch := first | rfl | omega | assumption) only [go_sem, g0, g1, g7, g8, ltT, ltF, leT, leF, hk', a1, a2, a3, a4, hb, hc]

def offB (l : List Int) : Bool := anyF (fun i => !wi (l.getD i 0) 0 20) 0 l.length

theorem day_contains {l : List Int} {v : AV} (h : SlOk H 1 v (l.map I)) (hl : l.length ≤ 1000000) : callFL cfg0 prog0 false 62 [v, .func (.func 61) [] []] H none = some ⟨.ret (.bool (offB l)), H, none⟩ := by
  have hx : callFL cfg0 prog0 false 85 [v, .func (.func 61) [] []] H none = some ⟨.ret (I (firstOff l 0 l.length)), H, none⟩ := by
    refine (callFL_eq fn85 rfl (by simp [Tryd.f85])).trans ?_
    simp (maxSteps := 1000000) (implicitDefEqProofs := false) (disch := first | rfl | omega | assumption) only [go_sem, ltT, ltF, leT, leF, h.len]
    exact idxI_loop h hl l.length 0 (by omega) _ (by rfl) (by rfl) (by rfl) (by rfl)
  rw [offB, ← firstOff_any]
  refine (callFL_eq fn62 rfl (by simp [Tryd.f62])).trans ?_
  simp (maxSteps := 1000000) (implicitDefEqProofs := false) (disch := first | rfl | omega | assumption) only [go_sem, hx]

/-- What is left after so many days. -/
def leftD (u : Int) (l : List Int) (x : Int) : Nat → Int
  | 0 => x
  | j + 1 => leftD u l x j - l.getD j 0 * u

theorem day_use {w : Wea} {ve : AV} (n lim x : Int) (p1 p2 p3 : Nat) (h1 : H[p1]? = some (.box (I x))) (h2 : H[p2]? = some (.box (w.av ve))) (h3 : H[p3]? = some (.box (I lim))) (hd : p1 ≠ p3) (hn : 0 ≤ n ∧ n ≤ 20) (hu : 0 ≤ w.uhi ∧ w.uhi ≤ 3) (hx : -4000000 ≤ x ∧ x ≤ 4000000) :
    callFL cfg0 prog0 false 64 [I n, .ptr p1 0, .ptr p2 0, .ptr p3 0] H none = some ⟨.ret (.bool (decide (x - n * w.uhi < lim))), H.set p1 (.box (I (x - n * w.uhi))), none⟩ := by
  have l1 : p1 < H.length := (List.getElem?_eq_some_iff.1 h1).1
  have b := mul_bd hn hu
  simp only [Wea.av] at h2
  have e1 : (H.set p1 (.box (I (x - n * w.uhi))))[p1]? = some (.box (I (x - n * w.uhi))) := List.getElem?_set_self l1
  have e2 : ∀ o, (H.set p1 o)[p3]? = some (.box (I lim)) := fun o => by rw [List.getElem?_set_ne hd]; exact h3
  refine (callFL_eq fn64 rfl (by simp [Tryd.f64])).trans ?_
  simp (maxSteps := 1000000) (implicitDefEqProofs := false) (disch := first | rfl | omega | assumption) only [go_sem, h1, h2, h3, e1, e2, List.getElem?_set_self l1]
  done

end Go.Ab
/-
  On which day a block can be too short; what it has lost.
-/
namespace Go.Ab
open Go.Proofs
set_option linter.unusedSimpArgs false
set_option linter.unusedVariables false
set_option maxRecDepth 100000

variable {H : Heap}

theorem we_first {v : AV} {xs : List Int} (h : SlOk H 1 v (xs.map I)) (hl : xs.length ≤ 1000000) (fn : Fn) (cap : List AV) (b : Nat → Bool) (Hs : Nat → Heap) (N : Nat) (hsl : ∀ j, (Hs j).length = N) (hp : ∀ j, ∃ G, Hs j = H ++ G) (hf : (AV.func fn [] cap).lt N = true ∧ (AV.func fn [] cap).stored = true)
    (hc : ∀ (j : Nat) (G : Heap), j < xs.length → callVL cfg0 prog0 false fn [I (xs.getD j 0)] cap (Hs j ++ G) none = some ⟨.ret (.bool (b j)), Hs (j + 1) ++ G, none⟩) :
    callFL cfg0 prog0 false 63 [v, .agg [.func fn [] cap]] (Hs 0) none = some ⟨.ret (I (firstN b 0 xs.length)), Hs (stepN b 0 xs.length), none⟩ := by
  have h1 := first_loop h hl fn cap b Hs N hsl hp hc xs.length 0 (by omega)
  obtain ⟨G, hG⟩ := hp 0
  have hln := h.len
  have h0 := hsl 0
  have s1 := h.scal
  refine (callFL_eq fn63 rfl (by simp [Tryd.f63])).trans ?_
  simp (maxSteps := 1000000) (implicitDefEqProofs := false) (disch := first | rfl | omega | assumption) only [go_sem, ltT, ltF, leT, leF, h0, hln, s1, List.length_map]
  exact h1 _ (by rfl) (by rfl) (by rfl) (by rfl) (by rfl)

def Wea.dayB (w : Wea) (lim : Int) (l : List Int) (j : Nat) : Bool := decide (leftD w.uhi l w.lastP.1 (j + 1) < lim)
def dayOk (lim : Int) (l : List Int) : Bool := wi lim (-1000) 1000 && !offB l

def Wea.dayP (w : Wea) (lim : Int) (l : List Int) : Int × Int := if w.gate l.length (dayOk lim l) = 0 then (if firstN (w.dayB lim l) 0 l.length < l.length then ((firstN (w.dayB lim l) 0 l.length : Nat), 0) else (0, 4)) else (0, w.gate l.length (dayOk lim l))

theorem firstN_le (b : Nat → Bool) : ∀ q j, firstN b j q ≤ j + q
  | 0, j => Nat.le_refl _
  | q + 1, j => by
    simp only [firstN]
    split
    · omega
    · have := firstN_le b q (j + 1)
      omega

theorem leftD_bd {u : Int} (hu : 0 ≤ u ∧ u ≤ 3) {l : List Int} (hl : ∀ i, i < l.length → 0 ≤ l.getD i 0 ∧ l.getD i 0 ≤ 20) (x : Int) : ∀ j, j ≤ l.length → x - 60 * j ≤ leftD u l x j ∧ leftD u l x j ≤ x
  | 0, _ => by simp [leftD]
  | j + 1, h => by
    have ih := leftD_bd hu hl x j (by omega)
    have b := mul_bd (hl j (by omega)) hu
    simp only [leftD]
    omega

theorem offB_false {l : List Int} (h : offB l = false) : ∀ i, i < l.length → 0 ≤ l.getD i 0 ∧ l.getD i 0 ≤ 20 := by
  intro i hi
  have := (anyF_false _ _ _).1 h i (by omega) (by omega)
  rw [Bool.not_eq_false', wi_iff] at this
  exact this

theorem we_Day {w : Wea} {ve v : AV} (h : WeaAt H w ve) (hl : w.es.length ≤ 1000) {l : List Int} (hv' : SlOk H 1 v (l.map I)) (hl' : l.length ≤ 1000000) (n : Int) :
    callFL cfg0 prog0 false 24 [w.av ve, I n, v] H none = some ⟨.ret (.tup [I (w.dayP n l).1, I (w.dayP n l).2]), H, none⟩ := by
  have s1 := h.es.scal
  have s2 := hv'.scal
  have s3 := hv'.len
  rw [List.length_map] at s3
  have hO := fun (a b c d : AO) => we_open (H := H ++ [a, b, c, d]) (h.app _) hl l.length (dayOk n l)
  have hS := fun (e : Int) (x0 x1 : AO) (G : Heap) => we_anss (H.length + 2) e 0 (H ++ (x0 :: x1 :: .box (I 0) :: G)) (by rw [get_at' 2]; rfl)
  have hN := fun (G : Heap) => we_ansn (H.length + 2) G
  have hC := fun (G : Heap) => day_contains (hv'.app G) hl'
  have hgate : ∀ x : Bool, (if wi n (-1000) 1000 = true then !offB l else false) = dayOk n l := by
    intro _; simp only [dayOk]; cases wi n (-1000) 1000 <;> rfl
  simp only [Wea.dayP, Wea.gate]
  rcases Bool.eq_false_or_eq_true w.valid with hv | hv
  rotate_left
  · simp only [hv, if_true, if_false, Bool.false_eq_true, Wea.made, Wea.av, List.length_append, List.length_cons, List.length_nil, List.append_assoc, List.cons_append, List.nil_append, List.append_nil, Nat.add_assoc, Nat.reduceAdd, Nat.zero_add, (show ¬ (1 : Int) = 0 by decide)] at hO ⊢
    simp only [dayOk] at hO
    cases hi : wi n (-1000) 1000
    · simp only [hi, Bool.false_and] at hO
      refine (callFL_eq fn24 rfl (by simp [Tryd.f24])).trans ?_
      simp (maxSteps := 1000000) (implicitDefEqProofs := false) (disch := first | rfl | omega | assumption) only [go_sem, ltT, ltF, leT, leF, s1, s2, s3]
      rw [chkK_of]; rotate_left; kernel_rfl
      simp (maxSteps := 1000000) (implicitDefEqProofs := false) (disch := first | rfl | omega | assumption) only [go_sem, ltT, ltF, leT, leF, s1, s2, s3, h.es.len, hO, hS, we_isLimit, hC, hi]
    · simp only [hi, Bool.true_and] at hO
      refine (callFL_eq fn24 rfl (by simp [Tryd.f24])).trans ?_
      simp (maxSteps := 1000000) (implicitDefEqProofs := false) (disch := first | rfl | omega | assumption) only [go_sem, ltT, ltF, leT, leF, s1, s2, s3]
      rw [chkK_of]; rotate_left; kernel_rfl
      simp (maxSteps := 1000000) (implicitDefEqProofs := false) (disch := first | rfl | omega | assumption) only [go_sem, ltT, ltF, leT, leF, s1, s2, s3, h.es.len, hO, hS, we_isLimit, hC, hi]
  · by_cases hd : (l.length : Int) ≤ 10
    rotate_left
    · simp only [hv, hd, if_true, if_false, Bool.false_eq_true, Wea.made, Wea.av, List.length_append, List.length_cons, List.length_nil, List.append_assoc, List.cons_append, List.nil_append, List.append_nil, Nat.add_assoc, Nat.reduceAdd, Nat.zero_add, (show ¬ (3 : Int) = 0 by decide)] at hO ⊢
      simp only [dayOk] at hO
      cases hi : wi n (-1000) 1000
      · simp only [hi, Bool.false_and] at hO
        refine (callFL_eq fn24 rfl (by simp [Tryd.f24])).trans ?_
        simp (maxSteps := 1000000) (implicitDefEqProofs := false) (disch := first | rfl | omega | assumption) only [go_sem, ltT, ltF, leT, leF, s1, s2, s3]
        rw [chkK_of]; rotate_left; kernel_rfl
        simp (maxSteps := 1000000) (implicitDefEqProofs := false) (disch := first | rfl | omega | assumption) only [go_sem, ltT, ltF, leT, leF, s1, s2, s3, h.es.len, hO, hS, we_isLimit, hC, hi]
      · simp only [hi, Bool.true_and] at hO
        refine (callFL_eq fn24 rfl (by simp [Tryd.f24])).trans ?_
        simp (maxSteps := 1000000) (implicitDefEqProofs := false) (disch := first | rfl | omega | assumption) only [go_sem, ltT, ltF, leT, leF, s1, s2, s3]
        rw [chkK_of]; rotate_left; kernel_rfl
        simp (maxSteps := 1000000) (implicitDefEqProofs := false) (disch := first | rfl | omega | assumption) only [go_sem, ltT, ltF, leT, leF, s1, s2, s3, h.es.len, hO, hS, we_isLimit, hC, hi]
    · rcases Bool.eq_false_or_eq_true (dayOk n l) with hk | hk
      rotate_left
      · simp only [hv, hd, hk, if_true, if_false, Bool.false_eq_true, Wea.made, Wea.av, List.length_append, List.length_cons, List.length_nil, List.append_assoc, List.cons_append, List.nil_append, List.append_nil, Nat.add_assoc, Nat.reduceAdd, Nat.zero_add, (show ¬ (2 : Int) = 0 by decide)] at hO ⊢
        simp only [dayOk] at hk
        cases hi : wi n (-1000) 1000
        · refine (callFL_eq fn24 rfl (by simp [Tryd.f24])).trans ?_
          simp (maxSteps := 1000000) (implicitDefEqProofs := false) (disch := first | rfl | omega | assumption) only [go_sem, ltT, ltF, leT, leF, s1, s2, s3]
          rw [chkK_of]; rotate_left; kernel_rfl
          simp (maxSteps := 1000000) (implicitDefEqProofs := false) (disch := first | rfl | omega | assumption) only [go_sem, ltT, ltF, leT, leF, s1, s2, s3, h.es.len, hO, hS, we_isLimit, hC, hi]
        · simp only [hi, Bool.true_and] at hk
          refine (callFL_eq fn24 rfl (by simp [Tryd.f24])).trans ?_
          simp (maxSteps := 1000000) (implicitDefEqProofs := false) (disch := first | rfl | omega | assumption) only [go_sem, ltT, ltF, leT, leF, s1, s2, s3]
          rw [chkK_of]; rotate_left; kernel_rfl
          simp (maxSteps := 1000000) (implicitDefEqProofs := false) (disch := first | rfl | omega | assumption) only [go_sem, ltT, ltF, leT, leF, s1, s2, s3, h.es.len, hO, hS, we_isLimit, hC, hi, hk]
      · have ho := w.valid_iff.1 hv
        have h8 := ho.many
        have hT := fun (a b c d : AO) => we_last (H := H ++ [a, b, c, d] ++ (w.made (H ++ [a, b, c, d]).length [] ++ [])) (made_bl w _ _ _) ho (made_m w _ _ _) (GoodM.nil w)
        have hk2 := hk
        simp only [dayOk, Bool.and_eq_true, Bool.not_eq_true'] at hk2
        obtain ⟨hi, hoff⟩ := hk2
        have hab := at_bd ho (Nat.le_refl _)
        simp only [bd] at hab
        have hu : 0 ≤ w.uhi ∧ w.uhi ≤ 3 := by have := ho.use; omega
        have hle := leftD_bd hu (offB_false hoff) w.lastP.1
        simp only [hv, hd, hk, if_true, Wea.made, Wea.av, List.length_append, List.length_cons, List.length_nil, List.append_assoc, List.cons_append, List.nil_append, List.append_nil, Nat.add_assoc, Nat.reduceAdd, Nat.zero_add] at hO hT ⊢
        rcases Bool.eq_false_or_eq_true w.can with hc | hc
        rotate_left
        · simp only [hc, if_true, Bool.false_eq_true, if_false, (show ¬ (10 : Int) = 0 by decide)] at hT ⊢
          refine (callFL_eq fn24 rfl (by simp [Tryd.f24])).trans ?_
          simp (maxSteps := 1000000) (implicitDefEqProofs := false) (disch := first | rfl | omega | assumption) only [go_sem, ltT, ltF, leT, leF, s1, s2, s3]
          rw [chkK_of]; rotate_left; kernel_rfl
          simp (maxSteps := 1000000) (implicitDefEqProofs := false) (disch := first | rfl | omega | assumption) only [go_sem, ltT, ltF, leT, leF, s1, s2, s3, h.es.len, hO, hT, hS, we_isLimit, hC, hi, hoff]
        · simp only [hc, if_true, Bool.false_eq_true, if_false] at hT ⊢
          refine (callFL_eq fn24 rfl (by simp [Tryd.f24])).trans ?_
          simp (maxSteps := 1000000) (implicitDefEqProofs := false) (disch := first | rfl | omega | assumption) only [go_sem, ltT, ltF, leT, leF, s1, s2, s3]
          rw [chkK_of]; rotate_left; kernel_rfl
          simp (maxSteps := 1000000) (implicitDefEqProofs := false) (disch := first | rfl | omega | assumption) only [go_sem, ltT, ltF, leT, leF, s1, s2, s3, h.es.len, hO, hT, we_isLimit, hC, hi, hoff]
          have hF := we_first hv' hl' (.func 64) [.ptr (H.length + 3) 0, .ptr H.length 0, .ptr (H.length + 1) 0] (w.dayB n l)
            (fun j => H ++ [.box (.agg [I w.llo, I w.lhi, I w.ulo, I w.uhi, ve]), .box (I n), .box (I 0), .box (I (leftD w.uhi l w.lastP.1 j)), .box (.agg [I w.llo, I w.lhi, I w.ulo, I w.uhi, .gsl (H.length + 5) w.es.length]), .grow 4 (w.es.map Ev.av), .map 88 (w.folM w.rd w.L []), .box (.agg [I w.llo, I w.lhi, I w.ulo, I w.uhi, .gsl (H.length + 5) w.es.length, .map (H.length + 6)])])
            (H.length + 8) (fun j => by simp) (fun j => ⟨_, rfl⟩) ⟨by simp [AV.lt, ltL, fnLt], rfl⟩ (fun j G hj => by
              have hb := offB_false hoff j hj
              have hj1 := hle j (by omega)
              have hx : -4000000 ≤ leftD w.uhi l w.lastP.1 j ∧ leftD w.uhi l w.lastP.1 j ≤ 4000000 := by
                simp only [Wea.lastP] at hj1 ⊢
                omega
              have hd := day_use (w := w) (ve := ve) (H := H ++ [.box (.agg [I w.llo, I w.lhi, I w.ulo, I w.uhi, ve]), .box (I n), .box (I 0), .box (I (leftD w.uhi l w.lastP.1 j)), .box (.agg [I w.llo, I w.lhi, I w.ulo, I w.uhi, .gsl (H.length + 5) w.es.length]), .grow 4 (w.es.map Ev.av), .map 88 (w.folM w.rd w.L []), .box (.agg [I w.llo, I w.lhi, I w.ulo, I w.uhi, .gsl (H.length + 5) w.es.length, .map (H.length + 6)])] ++ G)
                (l.getD j 0) n (leftD w.uhi l w.lastP.1 j) (H.length + 3) H.length (H.length + 1) (by simp [get_at']) (by simp [get_at, Wea.av]) (by simp [get_at']) (by omega) hb hu hx
              simp only [callVL_func, List.append_assoc, List.cons_append, List.nil_append, set_at', List.set_cons_succ, List.set_cons_zero] at hd ⊢
              exact hd)
          simp only [leftD, Wea.lastP] at hF
          rw [hF]
          have hfl' := firstN_le (w.dayB n l) l.length 0
          generalize stepN (w.dayB n l) 0 l.length = sN
          generalize firstN (w.dayB n l) 0 l.length = fN at *
          by_cases hc2 : fN < l.length
          · have hc3 : (fN : Int) < l.length := by omega
            simp only [if_pos hc2]
            simp (maxSteps := 1000000) (implicitDefEqProofs := false) (disch := first | rfl | omega | assumption) only [go_sem, ltT, ltF, leT, leF, s1, s2, s3, hN, hc3, we_ask]
          · have hc3 : ¬ (fN : Int) < l.length := by omega
            simp only [if_neg hc2]
            simp (maxSteps := 1000000) (implicitDefEqProofs := false) (disch := first | rfl | omega | assumption) only [go_sem, ltT, ltF, leT, leF, s1, s2, s3, hS, hc3, we_ask]

end Go.Ab
/-
  What a block has lost.
-/
namespace Go.Ab
open Go.Proofs
set_option linter.unusedSimpArgs false
set_option linter.unusedVariables false
set_option maxRecDepth 100000

variable {H : Heap}

theorem at_bd' {w : Wea} (ho : w.Ok) {q : Int × Int} (hq : bd 1048576 q) {i : Nat} (hi : i ≤ w.es.length) : bd 2000000 (w.at w.rd q i) := by
  have h8 := ho.many
  simp only [Wea.at, if_pos hi]
  exact bd_mono (by omega) (bk_bd ho w.rd hq (w.es.length - i) (by omega))

theorem at0_in {w : Wea} (r : Nat) (q : Int × Int) (hc : w.canB r q = true) : q.1 ≤ (w.at r q 0).1 ∧ (w.at r q 0).1 ≤ (w.at r q 0).2 ∧ (w.at r q 0).2 ≤ q.2 := by
  simp only [Wea.canB, decide_eq_true_eq] at hc
  refine ⟨?_, hc, ?_⟩
  all_goals
    simp only [Wea.at, Nat.zero_le, if_true, Nat.sub_zero] at hc ⊢
    cases hn : w.es.length with
    | zero => simp only [Wea.bk, hn, Wea.fwd]; exact Int.le_refl _
    | succ n =>
      rw [hn] at hc
      simp only [Wea.bk, hn, Nat.add_sub_cancel, Nat.sub_self, Wea.fwd] at hc ⊢
      simp only [bothP] at hc ⊢
      split at hc
      · rename_i h
        rw [if_pos h]
        simp only [mx, mn]
        split <;> omega
      · simp at hc

def Wea.lostF (w : Wea) (st : Int × Int) (n : Int) : Int × Int := (mn st.1 (n - (w.at w.rd (n, n) w.es.length).2), mx st.2 (n - (w.at w.rd (n, n) w.es.length).1))

def Wea.outK (w : Wea) (f : Int) : Nat → Int × Int
  | 0 => (1073741824, -1073741824)
  | k + 1 => w.lostF (w.outK f k) (f + k)

def Wea.esK (w : Wea) (f : Int) : Nat → List (AV × AV)
  | 0 => w.folM w.rd w.L []
  | k + 1 => w.folM w.rd (f + k, f + k) (w.esK f k)

theorem mapLt_put {N : Nat} {k v : AV} (hk : k.lt N = true) (hv : v.lt N = true) : ∀ es : List (AV × AV), mapLt N es = true → mapLt N (putM k v es) = true
  | [], _ => by simp [putM, mapLt, hk, hv]
  | (k1, v1) :: r, h => by
    simp only [mapLt, Bool.and_eq_true] at h
    simp only [putM]
    split
    · simp [mapLt, hk, hv, h]
    · simp [mapLt, h, mapLt_put hk hv r h.2.2]

theorem mapLt_fol {N : Nat} (w : Wea) (r : Nat) (q : Int × Int) {es : List (AV × AV)} (h : mapLt N es = true) : mapLt N (w.folM r q es) = true := by
  unfold Wea.folM
  split
  · exact h
  · exact mapLt_put (by simp [qkey, AV.lt, ltL]) (by simp [Wea.logV, AV.lt, pc_lt]) es h

theorem mapLt_esK (N : Nat) (w : Wea) (f : Int) : ∀ k, mapLt N (w.esK f k) = true
  | 0 => mapLt_fol w _ _ rfl
  | k + 1 => mapLt_fol w _ _ (mapLt_esK N w f k)

theorem esK_good (w : Wea) (f : Int) : ∀ k, GoodM w (w.esK f k)
  | 0 => (GoodM.nil w).fol _ _
  | k + 1 => (esK_good w f k).fol _ _

theorem outK_bd {w : Wea} (ho : w.Ok) {f : Int} (hf : 0 ≤ f ∧ f ≤ 300) : ∀ k : Nat, k ≤ 400 → bd 1073741824 (w.outK f k)
  | 0, _ => by simp only [bd, Wea.outK]; omega
  | k + 1, h => by
    have ih := outK_bd ho hf k (by omega)
    have ha := at_bd' ho (q := (f + k, f + k)) (by simp only [bd]; omega) (Nat.le_refl _)
    simp only [bd, Wea.outK, Wea.lostF, mn, mx] at ih ha ⊢
    refine ⟨?_, ?_, ?_, ?_⟩ <;> split <;> omega

/-- What a block has lost. -/
def Wea.lostP (w : Wea) : Int × Int := if w.gate 0 true = 0 then w.outK (w.at w.rd w.L 0).1 ((w.at w.rd w.L 0).2 - (w.at w.rd w.L 0).1 + 1).toNat else (0, 0)

theorem lost_loop {w : Wea} (ho : w.Ok) (f : Int × Int) (hf : 0 ≤ f.1 ∧ f.1 ≤ f.2 ∧ f.2 ≤ 300) (o1 : AO) (ho1 : o1.lt (H.length + 9) = true) (m : Nat) (hm : f.1 + m = f.2 + 1) (hbl : ∀ (a b c : AO) (es : List (AV × AV)) (G : Heap), BlAt (H ++ (a :: b :: c :: .box (.agg [I w.llo, I w.lhi, I w.ulo, I w.uhi, .gsl (H.length + 4) w.es.length]) :: .grow 4 (w.es.map Ev.av) :: .map 88 es :: .box (.agg [I w.llo, I w.lhi, I w.ulo, I w.uhi, .gsl (H.length + 4) w.es.length, .map (H.length + 5)]) :: G)) (H.length + 6) (H.length + 4) (H.length + 5) w) :
    ∀ (q j : Nat), j + q = m → ∀ (G : Heap), ∀ E : Env, E.get 2 = .ptr (H.length + 1) 0 → E.get 3 = .ptr (H.length + 2) 0 → E.get 4 = .ptr (H.length + 6) 0 → E.get 5 = .ptr (H.length + 7) 0 → E.get 6 = .ptr (H.length + 8) 0 → E.get 7 = I (f.1 + j) →
    Option.map (finishC H.length) (execL cfg0 prog0 ⟨16, none, false, H.length⟩ (todoAt Tryd.f16 6) ⟨E, [.fn (.func 41) [.ptr (H.length + 2) 0] []], H ++ (o1 :: .box (.agg [I 0, I 0]) :: .box (I 0) :: .box (.agg [I w.llo, I w.lhi, I w.ulo, I w.uhi, .gsl (H.length + 4) w.es.length]) :: .grow 4 (w.es.map Ev.av) :: .map 88 (w.esK f.1 j) :: .box (.agg [I w.llo, I w.lhi, I w.ulo, I w.uhi, .gsl (H.length + 4) w.es.length, .map (H.length + 5)]) :: .box (KV f) :: .box (KV (w.outK f.1 j)) :: G), none⟩) = some ⟨.ret (.tup [KV (w.outK f.1 m), I 0]), H, none⟩ := by
  intro q
  have hN := fun (G : Heap) => we_ansn (H.length + 2) G
  have h8 := ho.many
  have t1 := evz_lt 0 w.es
  have t2 := fun j => mapLt_esK (H.length + 9) w f.1 j
  induction q with
  | zero =>
    intro j hj G E g2 g3 g4 g5 g6 g7
    have hk' : ¬ (j : Int) < ((m : Nat) : Int) := by omega
    have ej : j = m := by omega
    subst ej
    simp only [loopIt, todoPast, todoAt, todoOf, firstReg, ↓reduceIte, Option.some.injEq, Nat.reduceEqDiff, reduceCtorEq, Tryd.f16]
    rw [execL_inLoop]
    have hle : ¬ f.1 + (j : Int) ≤ f.2 := by omega
    simp (maxSteps := 1000000) (implicitDefEqProofs := false) (disch := first | rfl | omega | assumption) only [go_sem, g2, g3, g4, g5, g6, g7, ltT, ltF, leT, leF, hk', hN, hle, ho1, t1, t2]
  | succ q ih =>
    intro j hj G E g2 g3 g4 g5 g6 g7
    have hk' : (j : Int) < ((m : Nat) : Int) := by omega
    have hk2 : j < m := by omega
    have hle : f.1 + (j : Int) ≤ f.2 := by omega
    have hR := fun (a b c : AO) (es : List (AV × AV)) (G : Heap) => we_reads (hbl a b c es G) ho
    have hq : bd 1048576 (f.1 + (j : Int), f.1 + (j : Int)) := by simp only [bd]; omega
    have hF := fun (a b c : AO) (G : Heap) => we_follow (hbl a b c (w.esK f.1 j) G) ho (rd_lt ho) hq (by simp [get_at']) (esK_good w f.1 j)
    have hab := at_bd' ho hq (Nat.le_refl _)
    have hob := outK_bd ho (f := f.1) (by omega) j (by omega)
    have hpl : (pc (w.at w.rd (f.1 + (j : Int), f.1 + (j : Int))) 0 9).length = 18 := pc_len _ 9 0
    have hrd := pc_read2 (w.at w.rd (f.1 + (j : Int), f.1 + (j : Int))) (i := w.es.length) (by omega)
    have b1 : w.es.length * 2 ≤ 16 := by omega
    have e1 : w.outK f.1 (j + 1) = w.lostF (w.outK f.1 j) (f.1 + j) := rfl
    have e2 : w.esK f.1 (j + 1) = w.folM w.rd (f.1 + j, f.1 + j) (w.esK f.1 j) := rfl
    have e3 : f.1 + (j : Int) + 1 = f.1 + ((j + 1 : Nat) : Int) := by omega
    simp only [Wea.lostF] at e1
    simp only [bd] at hab hob
    simp only [qkey, Wea.logV] at hF
    simp only [loopIt, todoPast, todoAt, todoOf, firstReg, ↓reduceIte, Option.some.injEq, Nat.reduceEqDiff, reduceCtorEq, Tryd.f16]
    rw [execL_inLoop]
    simp (maxSteps := 1000000) (implicitDefEqProofs := false) (disch := first | rfl | omega | assumption) only [go_sem, g2, g3, g4, g5, g6, g7, ltT, ltF, leT, leF, hk', hle, ho1, t1, t2]
    rw [chkK_of]; rotate_left; kernel_rfl
    simp (maxSteps := 1000000) (implicitDefEqProofs := false) (disch := first | rfl | omega | assumption) only [go_sem, g2, g3, g4, g5, g6, g7, ltT, ltF, leT, leF, hk', hle, hR, hF, hpl, hrd, b1, mn, mx]
    exact ih (j + 1) (by omega) _ _ (by rfl) (by rfl) (by rfl) (by rfl) (by rfl) (by rw [← e3]; rfl)

theorem we_Lost {w : Wea} {ve : AV} (h : WeaAt H w ve) (hl : w.es.length ≤ 1000) :
    callFL cfg0 prog0 false 16 [w.av ve] H none = some ⟨.ret (.tup [KV w.lostP, I (w.gate 0 true)]), H, none⟩ := by
  have s1 := h.es.scal
  have hO := fun (a b c : AO) => we_open (H := H ++ [a, b, c]) (h.app _) hl 0 true
  have hS := fun (e : Int) (x0 x1 : AO) (G : Heap) => we_anss (H.length + 2) e 0 (H ++ (x0 :: x1 :: .box (I 0) :: G)) (by rw [get_at' 2]; rfl)
  simp only [Wea.lostP, Wea.gate]
  rcases Bool.eq_false_or_eq_true w.valid with hv | hv
  rotate_left
  · simp only [hv, if_true, if_false, Bool.false_eq_true, Wea.made, Wea.av, List.length_append, List.length_cons, List.length_nil, List.append_assoc, List.cons_append, List.nil_append, List.append_nil, Nat.add_assoc, Nat.reduceAdd, Nat.zero_add, (show (0 : Int) ≤ 10 by decide), (show ¬ (1 : Int) = 0 by decide)] at hO ⊢
    refine (callFL_eq fn16 rfl (by simp [Tryd.f16])).trans ?_
    simp (maxSteps := 1000000) (implicitDefEqProofs := false) (disch := first | rfl | omega | assumption) only [go_sem, ltT, ltF, leT, leF, s1, hO, hS]
  · have ho := w.valid_iff.1 hv
    have h8 := ho.many
    have hT := fun (a b c : AO) => we_told (H := H ++ [a, b, c] ++ (w.made (H ++ [a, b, c]).length [] ++ [])) (made_bl w _ _ _) ho (made_m w _ _ _) (GoodM.nil w)
    have hbl : ∀ (a b c : AO) (es : List (AV × AV)) (G : Heap), BlAt (H ++ (a :: b :: c :: .box (.agg [I w.llo, I w.lhi, I w.ulo, I w.uhi, .gsl (H.length + 4) w.es.length]) :: .grow 4 (w.es.map Ev.av) :: .map 88 es :: .box (.agg [I w.llo, I w.lhi, I w.ulo, I w.uhi, .gsl (H.length + 4) w.es.length, .map (H.length + 5)]) :: G)) (H.length + 6) (H.length + 4) (H.length + 5) w := by
      intro a b c es G
      have := made_bl w (H ++ [a, b, c]) es G
      simp only [Wea.made, Wea.av, List.length_append, List.length_cons, List.length_nil, List.append_assoc, List.cons_append, List.nil_append, List.append_nil, Nat.add_assoc, Nat.reduceAdd, Nat.zero_add] at this
      exact this
    simp only [hv, if_true, Wea.made, Wea.av, Wea.logV, List.length_append, List.length_cons, List.length_nil, List.append_assoc, List.cons_append, List.nil_append, List.append_nil, Nat.add_assoc, Nat.reduceAdd, Nat.zero_add, (show (0 : Int) ≤ 10 by decide)] at hO hT ⊢
    rcases Bool.eq_false_or_eq_true w.can with hc | hc
    rotate_left
    · simp only [hc, if_true, Bool.false_eq_true, if_false, (show ¬ (10 : Int) = 0 by decide)] at hT ⊢
      refine (callFL_eq fn16 rfl (by simp [Tryd.f16])).trans ?_
      simp (maxSteps := 1000000) (implicitDefEqProofs := false) (disch := first | rfl | omega | assumption) only [go_sem, ltT, ltF, leT, leF, s1, hO, hT, hS]
    · have h0 : w.llo ≤ (w.at w.rd w.L 0).1 ∧ (w.at w.rd w.L 0).1 ≤ (w.at w.rd w.L 0).2 ∧ (w.at w.rd w.L 0).2 ≤ w.lhi := at0_in w.rd w.L hc
      have hL := ho.len
      simp only [hc, if_true, Bool.false_eq_true, if_false] at hT ⊢
      have hpl : (pc (w.at w.rd w.L) 0 9).length = 18 := pc_len _ 9 0
      have hrd : List.take 2 (pc (w.at w.rd w.L) 0 9) = [I (w.at w.rd w.L 0).1, I (w.at w.rd w.L 0).2] := rfl
      have h1 := lost_loop (H := H) ho (w.at w.rd w.L 0) (by omega) (.box (.agg [I w.llo, I w.lhi, I w.ulo, I w.uhi, ve])) (by simp [AO.lt, AV.lt, ltL, h.es.ltn 9]) ((w.at w.rd w.L 0).2 - (w.at w.rd w.L 0).1 + 1).toNat (by omega) hbl _ 0 (Nat.zero_add _) []
      simp only [Wea.esK, Wea.outK, Int.natCast_zero, Int.add_zero] at h1
      refine (callFL_eq fn16 rfl (by simp [Tryd.f16])).trans ?_
      simp (maxSteps := 1000000) (implicitDefEqProofs := false) (disch := first | rfl | omega | assumption) only [go_sem, ltT, ltF, leT, leF, s1, hO, hT, hpl, hrd]
      exact h1 _ (by rfl) (by rfl) (by rfl) (by rfl) (by rfl) (by rfl)

end Go.Ab
/-
  The sort of a list of sets: plain; by insertion, walked.
-/
namespace Go.Ab
open Go.Proofs
set_option linter.unusedSimpArgs false
set_option linter.unusedVariables false
set_option maxRecDepth 100000

variable {H : Heap}

/-- Two elements change places. -/
def swp (L : List Nat) (i j : Nat) : List Nat := (L.set i (L.getD j 0)).set j (L.getD i 0)

theorem swp_len (L : List Nat) (i j : Nat) : (swp L i j).length = L.length := by simp [swp]

section
variable (key : Nat → Int)

/-- The element at a + q goes down to its place. -/
def insIn (a : Nat) : List Nat → Nat → List Nat
  | L, 0 => L
  | L, q + 1 => if key (L.getD (a + q + 1) 0) - key (L.getD (a + q) 0) < 0 then insIn a (swp L (a + q + 1) (a + q)) q else L

def insOut (a : Nat) : List Nat → Nat → Nat → List Nat
  | L, _, 0 => L
  | L, i, q + 1 => insOut a (insIn key a L (i - a)) (i + 1) q

def insS (L : List Nat) (a b : Nat) : List Nat := insOut key a L (a + 1) (b - (a + 1))

theorem insIn_len (a : Nat) : ∀ (q : Nat) (L : List Nat), (insIn key a L q).length = L.length
  | 0, _ => rfl
  | q + 1, L => by
    rw [insIn]
    split
    · rw [insIn_len a q, swp_len]
    · rfl

theorem insOut_len (a : Nat) : ∀ (q i : Nat) (L : List Nat), (insOut key a L i q).length = L.length
  | 0, _, _ => rfl
  | q + 1, i, L => by rw [insOut, insOut_len a q, insIn_len]
end

/-- A heap in which a slice has these elements. -/
abbrev GH (H : Heap) (p : Nat) (L : List Nat) : Heap := H.set p (.grow 1 (L.map U))

theorem GH_sl {p : Nat} (hp : p < H.length) (L : List Nat) : SlOk (GH H p L) 1 (.gsl p L.length) (L.map U) :=
  ⟨⟨List.getElem?_set_self hp, by simp⟩, by simp [U, AV.cells]⟩

theorem GH_set {p : Nat} {L M : List Nat} : (GH H p L).set p (.grow 1 (M.map U)) = GH H p M := by simp [GH]

theorem GH_idx {p n : Nat} (hp : p < H.length) {M : List Nat} (te : Ty) (k : Int) (hM : M.length = n) (hs : te.size = 1) (hk : 0 ≤ k ∧ k < n) : idxAddr (GH H p M) te (.gsl p n) k = some (elA (.gsl p n) k 0) := by
  subst hM
  exact (GH_sl hp M).fA (d := 0) |>.2.1 te k hs hk

theorem GH_load {p n : Nat} (hp : p < H.length) {M : List Nat} (te : Ty) (k : Nat) (hM : M.length = n) (hk : k < n) : evLoad (GH H p M) te (elA (.gsl p n) (k : Int) 0) = readPart [U (M.getD k 0)] 0 te := by
  subst hM
  have := (GH_sl hp M).fA (d := 0) |>.2.2.2.1 te (k : Int) 0 (by omega)
  rw [Int.toNat_natCast] at this
  exact this

theorem GH_store {p n b : Nat} (hp : p < H.length) {M : List Nat} {z : Option Value} (k x : Nat) (hM : M.length = n) (hk : k < n) : evStore b (GH H p M) ⟨.int .u64, 1, 8, z⟩ (elA (.gsl p n) (k : Int) 0) (U x) = some (GH H p (M.set k x)) := by
  subst hM
  have h1 : (M.map U)[k]? = some (U (M.getD k 0)) := by simp [hk]
  simp only [elA, Int.toNat_natCast, evStore, GH, List.getElem?_set_self hp, List.length_map, h1]
  simp [AV.lt, writePart, allScalar, AV.cells, AV.scalar, splice, AV.withCells]

/-- What compares: keys. -/
structure Cmp (fn : Fn) (cap : List AV) (key : Nat → Int) (B : Nat) : Prop where
  call : ∀ (x y : Nat) (G : Heap), x < B → y < B → callVL cfg0 prog0 false fn [U x, U y] cap G none = some ⟨.ret (I (key x - key y)), G, none⟩
  bd : ∀ x, -100 ≤ key x ∧ key x ≤ 100

/-- All elements are small. -/
def Small (B : Nat) (L : List Nat) : Prop := ∀ k, k < L.length → L.getD k 0 < B

theorem swp_mem {B : Nat} {L : List Nat} (h : Small B L) {i j : Nat} (hi : i < L.length) (hj : j < L.length) : Small B (swp L i j) := by
  intro k hk
  rw [swp_len] at hk
  have h1 := h i hi
  have h2 := h j hj
  have h3 := h k hk
  have e : (swp L i j).getD k 0 = if j = k then L.getD i 0 else if i = k then L.getD j 0 else L.getD k 0 := by
    simp only [swp, List.getD, List.getElem?_set, List.length_set]
    by_cases h4 : j = k
    · subst h4; simp [hj]
    · by_cases h5 : i = k
      · subst h5; simp [h4, hi]
      · simp [h4, h5]
  rw [e]
  split
  · exact h1
  · split
    · exact h2
    · exact h3

theorem insIn_loop {fn : Fn} {cap : List AV} {key : Nat → Int} {B : Nat} (hc : Cmp fn cap key B) {p : Nat} (hp : p < H.length) (a b i : Nat) (n : Nat) (hn : n ≤ 100000) (hab : i < n) (R0 : List Nat) (K : List Item) (R : Option Done) (hK : ∀ E : Env, E.get 0 = .gsl p n → E.get 1 = I a → E.get 2 = I b → E.get 3 = .func fn [] cap → E.get 8 = I i → Option.map (finishC H.length) (execL cfg0 prog0 ⟨93, none, false, H.length⟩ K ⟨E, [], GH H p R0, none⟩) = R)  :
    ∀ (q j : Nat), j + q = i - a → ∀ (L : List Nat), L.length = n → insIn key a L q = R0 → Small B L → a ≤ i → ∀ E : Env, E.get 0 = .gsl p n → E.get 1 = I a → E.get 2 = I b → E.get 3 = .func fn [] cap → E.get 8 = I i → E.get 9 = I ((a + q : Nat) : Int) →
    Option.map (finishC H.length) (execL cfg0 prog0 ⟨93, none, false, H.length⟩ (loopIt Tryd.f93 4 :: .inBlock 2 :: K) ⟨E, [], GH H p L, none⟩) = R := by
  intro q
  skip
  induction q with
  | zero =>
    intro j hj L hL hr hB hai E g0 g1 g2 g3 g8 g9
    have hk' : ¬ (j : Int) < ((i - a : Nat) : Int) := by omega
    simp only [insIn] at hr
    subst hr
    simp only [loopIt, todoPast, todoAt, todoOf, firstReg, ↓reduceIte, Option.some.injEq, Nat.reduceEqDiff, reduceCtorEq, Tryd.f93]
    rw [execL_inLoop]
    have hz : ¬ (a : Int) < ((a + 0 : Nat) : Int) := by omega
    simp (maxSteps := 1000000) (implicitDefEqProofs := false) (disch := first | rfl | omega | assumption) only [go_sem, g0, g1, g2, g3, g8, g9, ltT, ltF, leT, leF, hk', hz]
    rw [chkK_of]; rotate_left; kernel_rfl
    simp (maxSteps := 1000000) (implicitDefEqProofs := false) (disch := first | rfl | omega | assumption) only [go_sem, g0, g1, g2, g3, g8, g9, ltT, ltF, leT, leF, hk', hz]
    exact hK _ (by exact g0) (by exact g1) (by exact g2) (by exact g3) (by exact g8)
  | succ q ih =>
    intro j hj L hL hr hB hai E g0 g1 g2 g3 g8 g9
    have hk' : (j : Int) < ((i - a : Nat) : Int) := by omega
    have hk2 : j < i - a := by omega
    have hz : (a : Int) < ((a + (q + 1) : Nat) : Int) := by omega
    have f1 := @GH_idx H p n hp
    have f2 := @GH_load H p n hp
    have f3 := @GH_store H p n H.length hp
    have hL2 : (L.set (a + (q + 1)) (L.getD (a + q) 0)).length = n := by rw [List.length_set]; exact hL
    have e1 : ((a + (q + 1) : Nat) : Int) - 1 = ((a + q : Nat) : Int) := by omega
    have x1 := hB (a + (q + 1)) (by omega)
    have x2 := hB (a + q) (by omega)
    have hcc := fun G => hc.call _ _ G x1 x2
    have k1 := hc.bd (L.getD (a + (q + 1)) 0)
    have k2 := hc.bd (L.getD (a + q) 0)
    rw [show insIn key a L (q + 1) = if key (L.getD (a + (q + 1)) 0) - key (L.getD (a + q) 0) < 0 then insIn key a (swp L (a + (q + 1)) (a + q)) q else L from rfl] at hr
    by_cases hlt : key (L.getD (a + (q + 1)) 0) - key (L.getD (a + q) 0) < 0
    · rw [if_pos hlt] at hr
      have hsm := swp_mem hB (i := a + (q + 1)) (j := a + q) (by omega) (by omega)
      simp only [loopIt, todoPast, todoAt, todoOf, firstReg, ↓reduceIte, Option.some.injEq, Nat.reduceEqDiff, reduceCtorEq, Tryd.f93]
      rw [execL_inLoop]
      simp (maxSteps := 1000000) (implicitDefEqProofs := false) (disch := first | rfl | omega | assumption) only [go_sem, g0, g1, g2, g3, g8, g9, ltT, ltF, leT, leF, hk', hz]
      rw [chkK_of]; rotate_left; kernel_rfl
      simp (maxSteps := 1000000) (implicitDefEqProofs := false) (disch := first | rfl | omega | assumption) only [go_sem, g0, g1, g2, g3, g8, g9, ltT, ltF, leT, leF, hk', hz, f1, f2, f3, e1, hcc, hlt]
      rw [chkK_of]; rotate_left; kernel_rfl
      simp (maxSteps := 1000000) (implicitDefEqProofs := false) (disch := first | rfl | omega | assumption) only [go_sem, g0, g1, g2, g3, g8, g9, ltT, ltF, leT, leF, hk', hz, f1, f2, f3, e1, hcc, hlt]
      exact ih (j + 1) (by omega) (swp L (a + (q + 1)) (a + q)) (by rw [swp_len]; exact hL) hr hsm hai _ (by exact g0) (by exact g1) (by exact g2) (by exact g3) (by exact g8) (by rfl)
    · rw [if_neg hlt] at hr
      subst hr
      simp only [loopIt, todoPast, todoAt, todoOf, firstReg, ↓reduceIte, Option.some.injEq, Nat.reduceEqDiff, reduceCtorEq, Tryd.f93]
      rw [execL_inLoop]
      simp (maxSteps := 1000000) (implicitDefEqProofs := false) (disch := first | rfl | omega | assumption) only [go_sem, g0, g1, g2, g3, g8, g9, ltT, ltF, leT, leF, hk', hz]
      rw [chkK_of]; rotate_left; kernel_rfl
      simp (maxSteps := 1000000) (implicitDefEqProofs := false) (disch := first | rfl | omega | assumption) only [go_sem, g0, g1, g2, g3, g8, g9, ltT, ltF, leT, leF, hk', hz, f1, f2, f3, e1, hcc, hlt]
      exact hK _ (by exact g0) (by exact g1) (by exact g2) (by exact g3) (by exact g8)

theorem insIn_small {B : Nat} (key : Nat → Int) (a : Nat) : ∀ (q : Nat) (L : List Nat), Small B L → a + q < L.length → Small B (insIn key a L q)
  | 0, _, h, _ => h
  | q + 1, L, h, hq => by
    rw [insIn]
    split
    · exact insIn_small key a q _ (swp_mem h (by omega) (by omega)) (by rw [swp_len]; omega)
    · exact h

theorem insOut_loop {fn : Fn} {cap : List AV} {key : Nat → Int} {B : Nat} (hc : Cmp fn cap key B) {p : Nat} (hp : p < H.length) (a b : Nat) (n : Nat) (hn : n ≤ 100000) (hab : a ≤ b ∧ b ≤ n) (R0 : List Nat) :
    ∀ (q j : Nat), j + q = b → ∀ (L : List Nat), L.length = n → insOut key a L j q = R0 → Small B L → a < j → ∀ E : Env, E.get 0 = .gsl p n → E.get 1 = I a → E.get 2 = I b → E.get 3 = .func fn [] cap → E.get 8 = I j →
    Option.map (finishC H.length) (execL cfg0 prog0 ⟨93, none, false, H.length⟩ (todoAt Tryd.f93 1) ⟨E, [], GH H p L, none⟩) = some ⟨.ret (.tup []), GH H p R0, none⟩ := by
  intro q
  skip
  induction q with
  | zero =>
    intro j hj L hL hr hB hai E g0 g1 g2 g3 g8
    have hk' : ¬ (j : Int) < ((b : Nat) : Int) := by omega
    simp only [insOut] at hr
    subst hr
    simp only [loopIt, todoPast, todoAt, todoOf, firstReg, ↓reduceIte, Option.some.injEq, Nat.reduceEqDiff, reduceCtorEq, Tryd.f93]
    rw [execL_inLoop]
    simp (maxSteps := 1000000) (implicitDefEqProofs := false) (disch := first | rfl | omega | assumption) only [go_sem, g0, g1, g2, g3, g8, ltT, ltF, leT, leF, hk']
  | succ q ih =>
    intro j hj L hL hr hB hai E g0 g1 g2 g3 g8
    have hk' : (j : Int) < ((b : Nat) : Int) := by omega
    have hk2 : j < b := by omega
    simp only [insOut] at hr
    simp only [loopIt, todoPast, todoAt, todoOf, firstReg, ↓reduceIte, Option.some.injEq, Nat.reduceEqDiff, reduceCtorEq, Tryd.f93]
    rw [execL_inLoop]
    simp (maxSteps := 1000000) (implicitDefEqProofs := false) (disch := first | rfl | omega | assumption) only [go_sem, g0, g1, g2, g3, g8, ltT, ltF, leT, leF, hk']
    refine insIn_loop hc hp a b j n hn (by omega) (insIn key a L (j - a)) _ _ (fun E g0 g1 g2 g3 g8 => ?_) (j - a) 0 (by omega) L hL rfl hB (by omega) _ (by exact g0) (by exact g1) (by exact g2) (by exact g3) (by exact g8) (by rw [show a + (j - a) = j by omega]; rfl)
    simp (maxSteps := 1000000) (implicitDefEqProofs := false) (disch := first | rfl | omega | assumption) only [go_sem, g0, g1, g2, g3, g8, ltT, ltF, leT, leF, hk']
    exact ih (j + 1) (by omega) _ (by rw [insIn_len]; exact hL) hr (insIn_small key a _ _ hB (by omega)) (by omega) _ (by exact g0) (by exact g1) (by exact g2) (by exact g3) (by rfl)

theorem so_ins {fn : Fn} {cap : List AV} {key : Nat → Int} {B : Nat} (hc : Cmp fn cap key B) {p : Nat} (hp : p < H.length) {a b n : Nat} (hn : n ≤ 100000) (hab : a ≤ b ∧ b ≤ n) {L : List Nat} (hL : L.length = n) (hB : Small B L) :
    callFL cfg0 prog0 false 93 [.gsl p n, I a, I b, .func fn [] cap] (GH H p L) none = some ⟨.ret (.tup []), GH H p (insS key L a b), none⟩ := by
  have hlen : (GH H p L).length = H.length := by simp [GH]
  by_cases h : a + 1 ≤ b
  · have h1 := insOut_loop hc hp a b n hn hab (insS key L a b) (b - (a + 1)) (a + 1) (by omega) L hL rfl hB (by omega)
    refine (callFL_eq fn93 rfl (by simp [Tryd.f93])).trans ?_
    simp (maxSteps := 1000000) (implicitDefEqProofs := false) (disch := first | rfl | omega | assumption) only [go_sem, ltT, ltF, leT, leF, hlen]
    exact h1 _ (by rfl) (by rfl) (by rfl) (by rfl) (by rfl)
  · have e : insS key L a b = L := by simp only [insS, show b - (a + 1) = 0 by omega, insOut]
    rw [e]
    have hz : ¬ (a : Int) + 1 < b := by omega
    refine (callFL_eq fn93 rfl (by simp [Tryd.f93])).trans ?_
    simp (maxSteps := 1000000) (implicitDefEqProofs := false) (disch := first | rfl | omega | assumption) only [go_sem, ltT, ltF, leT, leF, hlen]
    rw [execL_inLoop]
    simp (maxSteps := 1000000) (implicitDefEqProofs := false) (disch := first | rfl | omega | assumption) only [go_sem, ltT, ltF, leT, leF, hz, hlen]

theorem so_short {fn : Fn} {cap : List AV} {key : Nat → Int} {B : Nat} (hc : Cmp fn cap key B) {p : Nat} (hp : p < H.length) {n : Nat} (hn : n < 20) {L : List Nat} (hL : L.length = n) (hB : Small B L) :
    callFL cfg0 prog0 false 86 [.gsl p n, I n, .func fn [] cap] (GH H p L) none = some ⟨.ret (.tup []), GH H p (insS key L 0 n), none⟩ := by
  have hlen : ∀ M, (GH H p M).length = H.length := fun M => by simp [GH]
  have h1 := so_ins hc hp (a := 0) (b := n) (by omega) (by omega) hL hB
  have z1 : ¬ (20 : Int) ≤ n := by omega
  have z2 : ¬ (20 : Int) < n := by omega
  simp only [Int.natCast_zero] at h1
  refine (callFL_eq fn86 rfl (by simp [Tryd.f86])).trans ?_
  simp (maxSteps := 1000000) (implicitDefEqProofs := false) (disch := first | rfl | omega | assumption) only [go_sem, ltT, ltF, leT, leF, hlen]
  rw [execL_inLoop]
  simp (maxSteps := 1000000) (implicitDefEqProofs := false) (disch := first | rfl | omega | assumption) only [go_sem, ltT, ltF, leT, leF, z1, h1, hlen]
  rw [execL_inLoop]
  simp (maxSteps := 1000000) (implicitDefEqProofs := false) (disch := first | rfl | omega | assumption) only [go_sem, ltT, ltF, leT, leF, z2, hlen]

theorem so_sort_short {fn : Fn} {cap : List AV} {key : Nat → Int} {B : Nat} (hc : Cmp fn cap key B) {p : Nat} (hp : p < H.length) {n : Nat} (hn : n < 20) {L : List Nat} (hL : L.length = n) (hB : Small B L) :
    callFL cfg0 prog0 false 68 [.gsl p n, .func fn [] cap] (GH H p L) none = some ⟨.ret (.tup []), GH H p (insS key L 0 n), none⟩ := by
  have hlen : ∀ M, (GH H p M).length = H.length := fun M => by simp [GH]
  have h1 := so_short hc hp hn hL hB
  have hg : (GH H p L)[p]? = some (.grow 1 (L.map U)) := List.getElem?_set_self hp
  refine (callFL_eq fn68 rfl (by simp [Tryd.f68])).trans ?_
  simp (maxSteps := 1000000) (implicitDefEqProofs := false) (disch := first | rfl | omega | assumption) only [go_sem, ltT, ltF, leT, leF, hg, h1, hlen, hL, List.length_map]

end Go.Ab
/-
  The sort of a list of sets that rises: plain. By insertion, in blocks, which are merged.
-/
namespace Go.Ab
set_option linter.unusedSimpArgs false
set_option linter.unusedVariables false

/-- An element of a list of numbers. -/
abbrev gt (L : List Nat) (k : Nat) : Nat := L.getD k 0

theorem gt_swp {L : List Nat} {i j : Nat} (hi : i < L.length) (hj : j < L.length) (k : Nat) : gt (swp L i j) k = if j = k then gt L i else if i = k then gt L j else gt L k := by
  simp only [gt, swp, List.getD, List.getElem?_set, List.length_set]
  by_cases h4 : j = k
  · subst h4; simp [hj]
  · by_cases h5 : i = k
    · subst h5; simp [h4, hi]
    · simp [h4, h5]

/-- The same elements from a to b, and the same ones beyond. -/
structure Sm (f g : Nat → Nat) (a b : Nat) : Prop where
  out : ∀ k, (k < a ∨ b ≤ k) → g k = f k
  fwd : ∀ k, a ≤ k → k < b → ∃ j, a ≤ j ∧ j < b ∧ g k = f j
  bwd : ∀ k, a ≤ k → k < b → ∃ j, a ≤ j ∧ j < b ∧ f k = g j

theorem Sm.refl (f : Nat → Nat) (a b : Nat) : Sm f f a b := ⟨fun _ _ => rfl, fun k h1 h2 => ⟨k, h1, h2, rfl⟩, fun k h1 h2 => ⟨k, h1, h2, rfl⟩⟩

theorem Sm.trans {f g h : Nat → Nat} {a b : Nat} (p : Sm f g a b) (q : Sm g h a b) : Sm f h a b where
  out k hk := (q.out k hk).trans (p.out k hk)
  fwd k h1 h2 := by
    obtain ⟨j, j1, j2, e⟩ := q.fwd k h1 h2
    obtain ⟨i, i1, i2, e'⟩ := p.fwd j j1 j2
    exact ⟨i, i1, i2, e.trans e'⟩
  bwd k h1 h2 := by
    obtain ⟨j, j1, j2, e⟩ := p.bwd k h1 h2
    obtain ⟨i, i1, i2, e'⟩ := q.bwd j j1 j2
    exact ⟨i, i1, i2, e.trans e'⟩

theorem Sm.wide {f g : Nat → Nat} {a b a' b' : Nat} (p : Sm f g a b) (ha : a' ≤ a) (hb : b ≤ b') : Sm f g a' b' where
  out k hk := p.out k (by omega)
  fwd k h1 h2 := by
    by_cases h : a ≤ k ∧ k < b
    · obtain ⟨j, j1, j2, e⟩ := p.fwd k h.1 h.2
      exact ⟨j, by omega, by omega, e⟩
    · exact ⟨k, h1, h2, p.out k (by omega)⟩
  bwd k h1 h2 := by
    by_cases h : a ≤ k ∧ k < b
    · obtain ⟨j, j1, j2, e⟩ := p.bwd k h.1 h.2
      exact ⟨j, by omega, by omega, e⟩
    · exact ⟨k, h1, h2, (p.out k (by omega)).symm⟩

theorem Sm.all {f g : Nat → Nat} {a b : Nat} (p : Sm f g a b) {Q : Nat → Prop} (h : ∀ k, a ≤ k → k < b → Q (f k)) : ∀ k, a ≤ k → k < b → Q (g k) := by
  intro k h1 h2
  obtain ⟨j, j1, j2, e⟩ := p.fwd k h1 h2
  exact e ▸ h j j1 j2

theorem sm_swp {L : List Nat} {i j a b : Nat} (hi : i < L.length) (hj : j < L.length) (h1 : a ≤ i ∧ i < b) (h2 : a ≤ j ∧ j < b) : Sm (gt L) (gt (swp L i j)) a b where
  out k hk := by rw [gt_swp hi hj, if_neg (by omega), if_neg (by omega)]
  fwd k k1 k2 := by
    rw [gt_swp hi hj]
    by_cases e1 : j = k
    · rw [if_pos e1]; exact ⟨i, h1.1, h1.2, rfl⟩
    · rw [if_neg e1]
      by_cases e2 : i = k
      · rw [if_pos e2]; exact ⟨j, h2.1, h2.2, rfl⟩
      · rw [if_neg e2]; exact ⟨k, k1, k2, rfl⟩
  bwd k k1 k2 := by
    by_cases e1 : j = k
    · subst e1
      refine ⟨i, h1.1, h1.2, ?_⟩
      rw [gt_swp hi hj]
      by_cases e2 : j = i
      · rw [if_pos e2, e2]
      · rw [if_neg e2, if_pos rfl]
    · by_cases e2 : i = k
      · subst e2
        exact ⟨j, h2.1, h2.2, by rw [gt_swp hi hj, if_pos rfl]⟩
      · exact ⟨k, k1, k2, by rw [gt_swp hi hj, if_neg e1, if_neg e2]⟩

section
variable (key : Nat → Int)

/-- Fewer, or as many and less. -/
def lx (x y : Nat) : Prop := key x < key y ∨ key x = key y ∧ x < y

variable {key}
theorem lx_trans {x y z : Nat} (h : lx key x y) (g : lx key y z) : lx key x z := by
  simp only [lx] at *
  omega

theorem lx_irr {x : Nat} : ¬ lx key x x := by simp [lx]

variable (key)
/-- In order from a to b. -/
def Srt (f : Nat → Nat) (a b : Nat) : Prop := ∀ i j, a ≤ i → i < j → j < b → lx key (f i) (f j)

variable {key}
theorem Srt.sub {f : Nat → Nat} {a b a' b' : Nat} (h : Srt key f a b) (ha : a ≤ a') (hb : b' ≤ b) : Srt key f a' b' := fun i j h1 h2 h3 => h i j (by omega) h2 (by omega)

theorem Srt.cong {f g : Nat → Nat} {a b : Nat} (h : Srt key f a b) (e : ∀ k, a ≤ k → k < b → g k = f k) : Srt key g a b := by
  intro i j h1 h2 h3
  rw [e i h1 (by omega), e j (by omega) h3]
  exact h i j h1 h2 h3

/-- Two halves in order, of which all of the one come before all of the other. -/
theorem Srt.join {f : Nat → Nat} {a m b : Nat} (h : Srt key f a m) (g : Srt key f m b) (c : ∀ i j, a ≤ i → i < m → m ≤ j → j < b → lx key (f i) (f j)) : Srt key f a b := by
  intro i j h1 h2 h3
  by_cases hj : j < m
  · exact h i j h1 h2 hj
  · by_cases hi : i < m
    · exact c i j h1 hi (by omega) h3
    · exact g i j (by omega) h2 h3

/-! ### Sort by insertion -/

structure InsInv (f : Nat → Nat) (a q Q : Nat) : Prop where
  rest : ∀ i j, a ≤ i → i < j → j < a + Q + 1 → i ≠ a + q → j ≠ a + q → lx key (f i) (f j)
  up : ∀ j, a + q < j → j < a + Q + 1 → lx key (f (a + q)) (f j)
  low : ∀ i, a ≤ i → i < a + q → key (f i) = key (f (a + q)) → f i < f (a + q)

theorem insIn_srt (a Q : Nat) : ∀ (q : Nat) (L : List Nat), q ≤ Q → a + Q < L.length → InsInv (key := key) (gt L) a q Q → Srt key (gt (insIn key a L q)) a (a + Q + 1) ∧ Sm (gt L) (gt (insIn key a L q)) a (a + Q + 1)
  | 0, L, _, hl, h => by
    refine ⟨fun i j h1 h2 h3 => ?_, Sm.refl ..⟩
    by_cases hi : i = a + 0
    · subst hi
      exact h.up j h2 h3
    · exact h.rest i j h1 h2 h3 hi (by omega)
  | q + 1, L, hq, hl, h => by
    rw [insIn]
    split
    · rename_i hc
      have g := @gt_swp L (a + q + 1) (a + q) (by omega) (by omega)
      have h2 : InsInv (key := key) (gt (swp L (a + q + 1) (a + q))) a q Q := by
        refine ⟨fun i j h1 h2 h3 h4 h5 => ?_, fun j h1 h2 => ?_, fun i h1 h2 => ?_⟩
        · rw [g i, g j, if_neg (Ne.symm h4), if_neg (Ne.symm h5)]
          by_cases hi : a + q + 1 = i
          · rw [if_pos hi, if_neg (by omega)]
            exact h.rest _ _ (by omega) (by omega) h3 (by omega) (by omega)
          · rw [if_neg hi]
            by_cases hj : a + q + 1 = j
            · rw [if_pos hj]
              exact h.rest _ _ h1 (by omega) (by omega) (by omega) (by omega)
            · rw [if_neg hj]
              exact h.rest _ _ h1 h2 h3 (by omega) (by omega)
        · rw [g (a + q), g j, if_pos rfl, if_neg (by omega)]
          by_cases hj : a + q + 1 = j
          · rw [if_pos hj]
            exact .inl (by simp only [gt]; omega)
          · rw [if_neg hj]
            exact h.up j (by omega) h2
        · rw [g (a + q), g i, if_pos rfl, if_neg (by omega), if_neg (by omega)]
          exact h.low i h1 (by omega)
      obtain ⟨r1, r2⟩ := insIn_srt a Q q (swp L (a + q + 1) (a + q)) (by omega) (by rw [swp_len]; exact hl) h2
      exact ⟨r1, (sm_swp (by omega) (by omega) (by omega) (by omega)).trans r2⟩
    · rename_i hc
      refine ⟨fun i j h1 h2 h3 => ?_, Sm.refl ..⟩
      have hle : lx key (gt L (a + q)) (gt L (a + q + 1)) := by
        by_cases he : key (gt L (a + q)) = key (gt L (a + (q + 1)))
        · exact .inr ⟨he, h.low _ (by omega) (by omega) he⟩
        · exact .inl (by simp only [gt] at he hc ⊢; rw [← Nat.add_assoc] at he; omega)
      by_cases hi : i = a + (q + 1)
      · subst hi
        exact h.up j h2 h3
      · by_cases hj : j = a + (q + 1)
        · subst hj
          by_cases hi2 : i = a + q
          · subst hi2
            exact hle
          · exact lx_trans (h.rest i (a + q) h1 (by omega) (by omega) hi (by omega)) hle
        · exact h.rest i j h1 h2 h3 hi hj

theorem insOut_srt (a b : Nat) : ∀ (q i : Nat) (L : List Nat), i + q = b → a < i → b ≤ L.length → Srt key (gt L) a i → (∀ k l, a ≤ k → k < l → i ≤ l → l < b → gt L k < gt L l) → Srt key (gt (insOut key a L i q)) a b ∧ Sm (gt L) (gt (insOut key a L i q)) a b
  | 0, i, L, hi, ha, hl, h, _ => by
    obtain rfl : i = b := by omega
    exact ⟨h, Sm.refl ..⟩
  | q + 1, i, L, hi, ha, hl, h, hu => by
    rw [insOut]
    have hinv : InsInv (key := key) (gt L) a (i - a) (i - a) := by
      refine ⟨fun k l h1 h2 h3 h4 h5 => h k l h1 h2 (by omega), fun j h1 h2 => by omega, fun k h1 h2 _ => hu k _ h1 h2 (by omega) (by omega)⟩
    obtain ⟨r1, r2⟩ := insIn_srt a (i - a) (i - a) L (Nat.le_refl _) (by omega) hinv
    have e : a + (i - a) + 1 = i + 1 := by omega
    rw [e] at r1 r2
    obtain ⟨s1, s2⟩ := insOut_srt a b q (i + 1) (insIn key a L (i - a)) (by omega) (by omega) (by rw [insIn_len]; exact hl) r1 (fun k l h1 h2 h3 h4 => by
      rw [r2.out l (by omega)]
      by_cases hk : k < i + 1
      · exact r2.all (Q := fun x => x < gt L l) (fun k' g1 g2 => hu k' l g1 (by omega) (by omega) h4) k h1 hk
      · rw [r2.out k (by omega)]
        exact hu k l h1 h2 (by omega) h4)
    exact ⟨s1, (r2.wide (Nat.le_refl _) (by omega)).trans s2⟩

/-- Elements that rise are in order then. -/
theorem insS_srt {a b : Nat} {L : List Nat} (hab : a ≤ b) (hl : b ≤ L.length) (hu : ∀ k l, a ≤ k → k < l → l < b → gt L k < gt L l) : Srt key (gt (insS key L a b)) a b ∧ Sm (gt L) (gt (insS key L a b)) a b := by
  by_cases h : a + 1 ≤ b
  · exact insOut_srt a b (b - (a + 1)) (a + 1) L (by omega) (by omega) hl (fun i j h1 h2 h3 => by omega) (fun k l h1 h2 h3 h4 => hu k l h1 h2 h4)
  · rw [insS, show b - (a + 1) = 0 by omega, insOut]
    exact ⟨fun i j h1 h2 h3 => by omega, Sm.refl ..⟩
end

/-! ### Ranges change places -/

def swR (a b : Nat) : List Nat → Nat → Nat → List Nat
  | L, _, 0 => L
  | L, i, q + 1 => swR a b (swp L (a + i) (b + i)) (i + 1) q

theorem swR_len (a b : Nat) : ∀ (q i : Nat) (L : List Nat), (swR a b L i q).length = L.length
  | 0, _, _ => rfl
  | q + 1, i, L => by rw [swR, swR_len a b q, swp_len]

theorem gt_swR (a b : Nat) : ∀ (q i : Nat) (L : List Nat), a + i + q ≤ b + i → b + i + q ≤ L.length → ∀ k, gt (swR a b L i q) k = if a + i ≤ k ∧ k < a + i + q then gt L (k - a + b) else if b + i ≤ k ∧ k < b + i + q then gt L (k - b + a) else gt L k
  | 0, i, L, _, _, k => by rw [swR, if_neg (by omega), if_neg (by omega)]
  | q + 1, i, L, h1, h2, k => by
    rw [swR, gt_swR a b q (i + 1) _ (by omega) (by rw [swp_len]; omega)]
    have g := @gt_swp L (a + i) (b + i) (by omega) (by omega)
    by_cases c1 : a + (i + 1) ≤ k ∧ k < a + (i + 1) + q
    · rw [if_pos c1, if_pos (by omega), g, if_neg (by omega), if_neg (by omega)]
    · rw [if_neg c1]
      by_cases c2 : b + (i + 1) ≤ k ∧ k < b + (i + 1) + q
      · rw [if_pos c2, if_neg (by omega), if_pos (by omega), g, if_neg (by omega), if_neg (by omega)]
      · rw [if_neg c2, g]
        by_cases c3 : b + i = k
        · rw [if_pos c3, if_neg (by omega), if_pos (by omega)]
          congr 1; omega
        · rw [if_neg c3]
          by_cases c4 : a + i = k
          · rw [if_pos c4, if_pos (by omega)]
            congr 1; omega
          · rw [if_neg c4, if_neg (by omega), if_neg (by omega)]

def rot (m : Nat) : Nat → List Nat → Nat → Nat → List Nat
  | 0, L, _, _ => L
  | f + 1, L, i, j => if i = j then swR (m - i) m L 0 i else if j < i then rot m f (swR (m - i) m L 0 j) (i - j) j else rot m f (swR (m - i) (m + j - i) L 0 i) i (j - i)

theorem rot_len (m : Nat) : ∀ (f : Nat) (L : List Nat) (i j : Nat), (rot m f L i j).length = L.length
  | 0, _, _, _ => rfl
  | f + 1, L, i, j => by
    rw [rot]
    split
    · rw [swR_len]
    · split
      · rw [rot_len m f, swR_len]
      · rw [rot_len m f, swR_len]

theorem gt_rot (m : Nat) : ∀ (f : Nat) (L : List Nat) (i j : Nat), i + j ≤ f → 0 < i → 0 < j → i ≤ m → m + j ≤ L.length → ∀ k, gt (rot m f L i j) k = if m - i ≤ k ∧ k < m - i + j then gt L (k + i) else if m - i + j ≤ k ∧ k < m + j then gt L (k - j) else gt L k
  | 0, L, i, j, h, h1, _, _, _, _ => by omega
  | f + 1, L, i, j, h, hi, hj, him, hl, k => by
    rw [rot]
    by_cases e : i = j
    · subst e
      rw [if_pos rfl, gt_swR _ _ _ _ _ (by omega) (by omega)]
      by_cases c1 : m - i ≤ k ∧ k < m - i + i
      · rw [if_pos (by omega), if_pos c1]; congr 1; omega
      · rw [if_neg (by omega), if_neg c1]
        by_cases c2 : m - i + i ≤ k ∧ k < m + i
        · rw [if_pos (by omega), if_pos c2]; congr 1; omega
        · rw [if_neg (by omega), if_neg c2]
    · rw [if_neg e]
      by_cases c : j < i
      · rw [if_pos c, gt_rot m f _ (i - j) j (by omega) (by omega) hj (by omega) (by rw [swR_len]; exact hl)]
        have g := gt_swR (m - i) m j 0 L (by omega) (by omega)
        rw [g, g, g]
        by_cases c1 : m - (i - j) ≤ k ∧ k < m - (i - j) + j
        · rw [if_pos c1]
          by_cases c2 : m ≤ k + (i - j)
          · rw [if_neg (by omega), if_pos (by omega), if_neg (by omega), if_pos (by omega)]; congr 1; omega
          · omega
        · rw [if_neg c1]
          by_cases c2 : m - (i - j) + j ≤ k ∧ k < m + j
          · rw [if_pos c2, if_neg (by omega), if_neg (by omega), if_neg (by omega), if_pos (by omega)]
          · rw [if_neg c2]
            by_cases c3 : m - i ≤ k ∧ k < m - i + j
            · rw [if_pos (by omega), if_pos c3]; congr 1; omega
            · rw [if_neg (by omega), if_neg (by omega), if_neg c3, if_neg (by omega)]
      · rw [if_neg c, gt_rot m f _ i (j - i) (by omega) hi (by omega) him (by rw [swR_len]; omega)]
        have g := gt_swR (m - i) (m + j - i) i 0 L (by omega) (by omega)
        rw [g, g, g]
        obtain ⟨u, hu⟩ : ∃ u, m = u + i := ⟨m - i, by omega⟩
        obtain ⟨v, hv⟩ : ∃ v, j = v + i := ⟨j - i, by omega⟩
        subst hu
        subst hv
        have e1 : u + i - i = u := by omega
        have e2 : v + i - i = v := by omega
        have e3 : u + i + (v + i) - i = u + i + v := by omega
        rw [e1, e2, e3]
        by_cases c1 : u ≤ k ∧ k < u + v
        · rw [if_pos c1, if_neg (by omega), if_neg (by omega), if_pos (by omega)]
        · rw [if_neg c1]
          by_cases c2 : u + v ≤ k ∧ k < u + i + v
          · rw [if_pos c2, if_pos (by omega), if_pos (by omega)]; congr 1; omega
          · rw [if_neg c2, if_neg (by omega)]
            by_cases c4 : u + i + v ≤ k ∧ k < u + i + (v + i)
            · rw [if_pos (by omega), if_neg (by omega), if_pos (by omega)]; congr 1; omega
            · rw [if_neg (by omega), if_neg (by omega), if_neg (by omega)]

/-- A rotation leaves the same elements. -/
theorem sm_rot {m f : Nat} {L : List Nat} {i j : Nat} (h : i + j ≤ f) (hi : 0 < i) (hj : 0 < j) (him : i ≤ m) (hl : m + j ≤ L.length) : Sm (gt L) (gt (rot m f L i j)) (m - i) (m + j) := by
  have g := gt_rot m f L i j h hi hj him hl
  refine ⟨fun k hk => by rw [g, if_neg (by omega), if_neg (by omega)], fun k h1 h2 => ?_, fun k h1 h2 => ?_⟩
  · by_cases c : k < m - i + j
    · exact ⟨k + i, by omega, by omega, by rw [g, if_pos ⟨h1, c⟩]⟩
    · exact ⟨k - j, by omega, by omega, by rw [g, if_neg (by omega), if_pos (by omega)]⟩
  · by_cases c : k < m
    · exact ⟨k + j, by omega, by omega, by rw [g, if_neg (by omega), if_pos (by omega)]; congr 1; omega⟩
    · exact ⟨k - i, by omega, by omega, by rw [g, if_pos (by omega)]; congr 1; omega⟩

/-! ### By halves -/

def bs (P : Nat → Bool) : Nat → Nat → Nat → Nat
  | 0, i, _ => i
  | f + 1, i, j => if i < j then (if P ((i + j) / 2) then bs P f ((i + j) / 2 + 1) j else bs P f i ((i + j) / 2)) else i

/-- The first place at which it is no more so. -/
theorem bs_spec (P : Nat → Bool) (lo hi : Nat) (hP : ∀ x y, lo ≤ x → x ≤ y → y < hi → P y = true → P x = true) : ∀ (f i j : Nat), j - i < f → lo ≤ i → i ≤ j → j ≤ hi → (∀ x, lo ≤ x → x < i → P x = true) → (∀ x, j ≤ x → x < hi → P x = false) →
    lo ≤ bs P f i j ∧ bs P f i j ≤ hi ∧ (∀ x, lo ≤ x → x < bs P f i j → P x = true) ∧ ∀ x, bs P f i j ≤ x → x < hi → P x = false
  | 0, i, j, h, _, _, _, _, _ => by omega
  | f + 1, i, j, h, h1, h2, h3, h4, h5 => by
    rw [bs]
    by_cases c : i < j
    · rw [if_pos c]
      by_cases p : P ((i + j) / 2) = true
      · rw [if_pos p]
        exact bs_spec P lo hi hP f _ j (by omega) (by omega) (by omega) h3 (fun x g1 g2 => hP x _ g1 (show x ≤ (i + j) / 2 by omega) (by omega) p) h5
      · rw [if_neg p]
        refine bs_spec P lo hi hP f i _ (by omega) h1 (by omega) (by omega) h4 (fun x g1 g2 => ?_)
        rw [← Bool.not_eq_true]
        exact fun hx => p (hP _ x (by omega) g1 g2 hx)
    · rw [if_neg c]
      obtain rfl : i = j := by omega
      exact ⟨h1, h3, h4, h5⟩

/-! ### Elements go up, or down -/

def upS : List Nat → Nat → Nat → List Nat
  | L, _, 0 => L
  | L, k, q + 1 => upS (swp L k (k + 1)) (k + 1) q

def dnS : List Nat → Nat → Nat → List Nat
  | L, _, 0 => L
  | L, i, q + 1 => dnS (swp L (i + q + 1) (i + q)) i q

theorem upS_len : ∀ (q k : Nat) (L : List Nat), (upS L k q).length = L.length
  | 0, _, _ => rfl
  | q + 1, k, L => by rw [upS, upS_len q, swp_len]

theorem dnS_len : ∀ (q k : Nat) (L : List Nat), (dnS L k q).length = L.length
  | 0, _, _ => rfl
  | q + 1, k, L => by rw [dnS, dnS_len q, swp_len]

theorem gt_upS : ∀ (q a : Nat) (L : List Nat), a + q < L.length → ∀ k, gt (upS L a q) k = if a ≤ k ∧ k < a + q then gt L (k + 1) else if k = a + q then gt L a else gt L k
  | 0, a, L, h, k => by
    rw [upS, if_neg (by omega)]
    split
    · rename_i h; rw [h]; rfl
    · rfl
  | q + 1, a, L, h, k => by
    have g := @gt_swp L a (a + 1) (by omega) (by omega)
    rw [upS, gt_upS q (a + 1) _ (by rw [swp_len]; omega), g, g, g]
    by_cases c1 : a + 1 ≤ k ∧ k < a + 1 + q
    · rw [if_pos c1, if_neg (by omega), if_neg (by omega), if_pos (by omega)]
    · rw [if_neg c1]
      by_cases c2 : k = a + 1 + q
      · rw [if_pos c2, if_pos rfl, if_neg (by omega), if_pos (by omega)]
      · rw [if_neg c2, if_neg (by omega)]
        by_cases c3 : a = k
        · rw [if_pos c3, if_pos (by omega), c3]
        · rw [if_neg c3, if_neg (by omega), if_neg (by omega)]

theorem gt_dnS : ∀ (q a : Nat) (L : List Nat), a + q < L.length → ∀ k, gt (dnS L a q) k = if k = a then gt L (a + q) else if a < k ∧ k ≤ a + q then gt L (k - 1) else gt L k
  | 0, a, L, h, k => by
    rw [dnS]
    split
    · rename_i h; rw [h]; rfl
    · rw [if_neg (by omega)]
  | q + 1, a, L, h, k => by
    have g := @gt_swp L (a + q + 1) (a + q) (by omega) (by omega)
    rw [dnS, gt_dnS q a _ (by rw [swp_len]; omega), g, g, g]
    by_cases c1 : k = a
    · rw [if_pos c1, if_pos rfl, if_pos c1]; rfl
    · rw [if_neg c1, if_neg c1]
      by_cases c2 : a < k ∧ k ≤ a + q
      · rw [if_pos c2, if_neg (by omega), if_neg (by omega), if_pos (by omega)]
      · rw [if_neg c2]
        by_cases c3 : k = a + q + 1
        · rw [if_neg (by omega), if_pos (by omega), if_pos (by omega)]; congr 1; omega
        · rw [if_neg (by omega), if_neg (by omega), if_neg (by omega)]

/-! ### Two lists in order become one -/

section
variable (key : Nat → Int)

def symA (L : List Nat) (a m b : Nat) : List Nat := upS L a (bs (fun h => decide (key (gt L h) - key (gt L a) < 0)) (b - m + 1) m b - 1 - a)
def symB (L : List Nat) (a m b : Nat) : List Nat := dnS L (bs (fun h => !decide (key (gt L m) - key (gt L h) < 0)) (m - a + 1) a m) (m - bs (fun h => !decide (key (gt L m) - key (gt L h) < 0)) (m - a + 1) a m)

def symS (L : List Nat) (a m b : Nat) : Nat :=
  bs (fun c => !decide (key (gt L ((a + b) / 2 + m - 1 - c)) - key (gt L c) < 0)) ((if (a + b) / 2 < m then (a + b) / 2 else m) - (if (a + b) / 2 < m then (a + b) / 2 + m - b else a) + 1) (if (a + b) / 2 < m then (a + b) / 2 + m - b else a) (if (a + b) / 2 < m then (a + b) / 2 else m)

def sym : Nat → List Nat → Nat → Nat → Nat → List Nat
  | 0, L, _, _, _ => L
  | f + 1, L, a, m, b =>
    if m - a = 1 then symA key L a m b else if b - m = 1 then symB key L a m b else
    let mid := (a + b) / 2
    let s := symS key L a m b
    let e := mid + m - s
    let L1 := if s < m ∧ m < e then rot m (e - s) L (m - s) (e - m) else L
    let L2 := if a < s ∧ s < mid then sym f L1 a s mid else L1
    if mid < e ∧ e < b then sym f L2 mid e b else L2

variable {key}

/-- Two lists that are in order, of which those of the second one are greater if they count as many. -/
structure SymPre (f : Nat → Nat) (a m b : Nat) : Prop where
  am : a < m
  mb : m < b
  l : Srt key f a m
  r : Srt key f m b
  x : ∀ i j, a ≤ i → i < m → m ≤ j → j < b → key (f i) = key (f j) → f i < f j

/-- What comes first. -/
theorem SymPre.lt {f : Nat → Nat} {a m b : Nat} (h : SymPre (key := key) f a m b) {i j : Nat} (h1 : a ≤ i) (h2 : i < m) (h3 : m ≤ j) (h4 : j < b) : lx key (f i) (f j) ↔ ¬ key (f j) - key (f i) < 0 := by
  have := h.x i j h1 h2 h3 h4
  simp only [lx]
  omega

theorem SymPre.gt {f : Nat → Nat} {a m b : Nat} (h : SymPre (key := key) f a m b) {i j : Nat} (h1 : a ≤ i) (h2 : i < m) (h3 : m ≤ j) (h4 : j < b) (hk : key (f j) - key (f i) < 0) : lx key (f j) (f i) := .inl (by omega)

theorem symA_srt {L : List Nat} {a m b : Nat} (h : SymPre (key := key) (gt L) a m b) (hl : b ≤ L.length) (h1 : m - a = 1) : Srt key (gt (symA key L a m b)) a b ∧ Sm (gt L) (gt (symA key L a m b)) a b := by
  have hm : m = a + 1 := by have := h.am; omega
  subst hm
  have hmb := h.mb
  obtain ⟨b1, b2, b3, b4⟩ := bs_spec (fun h => decide (key (gt L h) - key (gt L a) < 0)) (a + 1) b (fun x y g1 g2 g3 g4 => by
    simp only [decide_eq_true_eq] at g4 ⊢
    by_cases hxy : x = y
    · subst hxy; exact g4
    · have := h.r x y g1 (by omega) g3
      simp only [lx] at this
      omega) (b - (a + 1) + 1) (a + 1) b (by omega) (by omega) (by omega) (by omega) (by omega) (by omega)
  simp only [symA]
  generalize bs (fun h => decide (key (gt L h) - key (gt L a) < 0)) (b - (a + 1) + 1) (a + 1) b = t at *
  have g := gt_upS (t - 1 - a) a L (by omega)
  simp only [decide_eq_true_eq, decide_eq_false_iff_not] at b3 b4
  constructor
  · intro i j i1 i2 i3
    rw [g, g]
    by_cases c1 : a ≤ i ∧ i < a + (t - 1 - a)
    · rw [if_pos c1]
      by_cases c2 : a ≤ j ∧ j < a + (t - 1 - a)
      · rw [if_pos c2]
        exact h.r _ _ (by omega) (by omega) (by omega)
      · rw [if_neg c2]
        split
        · exact h.gt (Nat.le_refl _) (by omega) (by omega) (by omega) (b3 (i + 1) (by omega) (by omega))
        · exact h.r _ _ (by omega) (by omega) (by omega)
    · rw [if_neg c1]
      by_cases c2 : i = a + (t - 1 - a)
      · rw [if_pos c2, if_neg (by omega), if_neg (by omega)]
        exact (h.lt (Nat.le_refl _) (by omega) (by omega) (by omega)).2 (b4 j (by omega) (by omega))
      · rw [if_neg c2, if_neg (by omega), if_neg (by omega)]
        exact h.r _ _ (by omega) (by omega) (by omega)
  · refine ⟨fun k hk => by rw [g, if_neg (by omega), if_neg (by omega)], fun k k1 k2 => ?_, fun k k1 k2 => ?_⟩
    · rw [g]
      split
      · exact ⟨k + 1, by omega, by omega, rfl⟩
      · split
        · exact ⟨a, by omega, by omega, rfl⟩
        · exact ⟨k, by omega, by omega, rfl⟩
    · by_cases c1 : k = a
      · exact ⟨a + (t - 1 - a), by omega, by omega, by rw [g, if_neg (by omega), if_pos rfl, c1]⟩
      · by_cases c2 : k < t
        · exact ⟨k - 1, by omega, by omega, by rw [g, if_pos (by omega)]; congr 1; omega⟩
        · exact ⟨k, by omega, by omega, by rw [g, if_neg (by omega), if_neg (by omega)]⟩

theorem symB_srt {L : List Nat} {a m b : Nat} (h : SymPre (key := key) (gt L) a m b) (hl : b ≤ L.length) (h1 : b - m = 1) : Srt key (gt (symB key L a m b)) a b ∧ Sm (gt L) (gt (symB key L a m b)) a b := by
  have hm : b = m + 1 := by have := h.mb; omega
  subst hm
  have ham := h.am
  obtain ⟨b1, b2, b3, b4⟩ := bs_spec (fun h => !decide (key (gt L m) - key (gt L h) < 0)) a m (fun x y g1 g2 g3 g4 => by
    simp only [Bool.not_eq_true', decide_eq_false_iff_not] at g4 ⊢
    by_cases hxy : x = y
    · subst hxy; exact g4
    · have := h.l x y g1 (by omega) g3
      simp only [lx] at this
      omega) (m - a + 1) a m (by omega) (by omega) (by omega) (by omega) (by omega) (by omega)
  simp only [symB]
  generalize bs (fun h => !decide (key (gt L m) - key (gt L h) < 0)) (m - a + 1) a m = t at *
  have g := gt_dnS (m - t) t L (by omega)
  simp only [Bool.not_eq_true', decide_eq_false_iff_not, Bool.not_eq_false', decide_eq_true_eq] at b3 b4
  have et : t + (m - t) = m := by omega
  rw [et] at g
  constructor
  · intro i j i1 i2 i3
    rw [g, g]
    by_cases c1 : i = t
    · rw [if_pos c1, if_neg (by omega), if_pos (by omega)]
      exact h.gt (i := j - 1) (by omega) (by omega) (Nat.le_refl _) (by omega) (b4 _ (by omega) (by omega))
    · rw [if_neg c1]
      by_cases c2 : t < i ∧ i ≤ m
      · rw [if_pos c2, if_neg (by omega), if_pos (by omega)]
        exact h.l _ _ (by omega) (by omega) (by omega)
      · rw [if_neg c2]
        by_cases c3 : j = t
        · rw [if_pos c3]
          exact (h.lt (by omega) (by omega) (Nat.le_refl _) (by omega)).2 (b3 _ (by omega) (by omega))
        · rw [if_neg c3]
          split
          · exact h.l _ _ (by omega) (by omega) (by omega)
          · exact h.l _ _ (by omega) (by omega) (by omega)
  · refine ⟨fun k hk => by rw [g, if_neg (by omega), if_neg (by omega)], fun k k1 k2 => ?_, fun k k1 k2 => ?_⟩
    · rw [g]
      split
      · exact ⟨m, by omega, by omega, rfl⟩
      · split
        · exact ⟨k - 1, by omega, by omega, rfl⟩
        · exact ⟨k, by omega, by omega, rfl⟩
    · by_cases c1 : k = m
      · exact ⟨t, by omega, by omega, by rw [g, if_pos rfl, c1]⟩
      · by_cases c2 : t ≤ k
        · exact ⟨k + 1, by omega, by omega, by rw [g, if_neg (by omega), if_pos (by omega)]; rfl⟩
        · exact ⟨k, by omega, by omega, by rw [g, if_neg (by omega), if_neg (by omega)]⟩

theorem symA_len (L : List Nat) (a m b : Nat) : (symA key L a m b).length = L.length := upS_len ..
theorem symB_len (L : List Nat) (a m b : Nat) : (symB key L a m b).length = L.length := dnS_len ..

theorem sym_len : ∀ (f : Nat) (L : List Nat) (a m b : Nat), (sym key f L a m b).length = L.length
  | 0, _, _, _, _ => rfl
  | f + 1, L, a, m, b => by
    rw [sym]
    split
    · exact symA_len ..
    · split
      · exact symB_len ..
      · dsimp only
        repeat' split
        all_goals simp only [sym_len f, rot_len]

/-- Where the two lists are cut. -/
theorem symS_spec {L : List Nat} {a m b : Nat} (h : SymPre (key := key) (gt L) a m b) {s : Nat} (hs : symS key L a m b = s) :
    a ≤ s ∧ s ≤ m ∧ s ≤ (a + b) / 2 ∧ m ≤ (a + b) / 2 + m - s ∧ (a + b) / 2 + m - s ≤ b ∧ (∀ i j, a ≤ i → i < s → (a + b) / 2 + m - s ≤ j → j < b → lx key (gt L i) (gt L j)) ∧ ∀ i j, s ≤ i → i < m → m ≤ j → j < (a + b) / 2 + m - s → lx key (gt L j) (gt L i) := by
  have ham := h.am
  have hmb := h.mb
  simp only [symS] at hs
  obtain ⟨lo, hlo⟩ : ∃ lo, (if (a + b) / 2 < m then (a + b) / 2 + m - b else a) = lo := ⟨_, rfl⟩
  obtain ⟨hi, hhi⟩ : ∃ hi, (if (a + b) / 2 < m then (a + b) / 2 else m) = hi := ⟨_, rfl⟩
  rw [hlo, hhi] at hs
  have k1 : a ≤ lo ∧ lo ≤ hi ∧ hi ≤ m ∧ hi ≤ (a + b) / 2 ∧ (a + b) / 2 + m - 1 - lo < b ∧ m ≤ (a + b) / 2 + m - hi ∧ (lo = a ∨ (a + b) / 2 + m - lo = b) ∧ (hi = m ∨ (a + b) / 2 = hi) := by
    split at hlo <;> split at hhi <;> omega
  obtain ⟨k1, k2, k3, k4, k5, k6, k7, k8⟩ := k1
  obtain ⟨b1, b2, b3, b4⟩ := bs_spec (fun c => !decide (key (gt L ((a + b) / 2 + m - 1 - c)) - key (gt L c) < 0)) lo hi (fun x y g1 g2 g3 g4 => by
    simp only [Bool.not_eq_true', decide_eq_false_iff_not] at g4 ⊢
    by_cases hxy : x = y
    · subst hxy; exact g4
    · have p1 := h.l x y (by omega) (by omega) (by omega)
      have p2 := h.r ((a + b) / 2 + m - 1 - y) ((a + b) / 2 + m - 1 - x) (by omega) (by omega) (by omega)
      simp only [lx] at p1 p2
      omega) (hi - lo + 1) lo hi (by omega) (by omega) (by omega) (by omega) (by omega) (by omega)
  rw [hs] at b1 b2 b3 b4
  simp only [Bool.not_eq_true', decide_eq_false_iff_not, Bool.not_eq_false', decide_eq_true_eq] at b3 b4
  refine ⟨by omega, by omega, by omega, by omega, by omega, fun i j i1 i2 i3 i4 => ?_, fun i j i1 i2 i3 i4 => ?_⟩
  · have hlos : lo < s := by omega
    have q1 := (h.lt (i := s - 1) (j := (a + b) / 2 + m - 1 - (s - 1)) (by omega) (by omega) (by omega) (by omega)).2 (b3 (s - 1) (by omega) (by omega))
    have q2 : lx key (gt L i) (gt L ((a + b) / 2 + m - 1 - (s - 1))) := by
      by_cases hi : i = s - 1
      · subst hi; exact q1
      · exact lx_trans (h.l i (s - 1) i1 (by omega) (by omega)) q1
    by_cases hj : j = (a + b) / 2 + m - 1 - (s - 1)
    · subst hj; exact q2
    · exact lx_trans q2 (h.r _ j (by omega) (by omega) i4)
  · have hsh : s < hi := by omega
    have q1 := h.gt (i := s) (j := (a + b) / 2 + m - 1 - s) (by omega) (by omega) (by omega) (by omega) (b4 s (by omega) (by omega))
    have q2 : lx key (gt L ((a + b) / 2 + m - 1 - s)) (gt L i) := by
      by_cases hi : i = s
      · subst hi; exact q1
      · exact lx_trans q1 (h.l s i (by omega) (by omega) (by omega))
    by_cases hj : j = (a + b) / 2 + m - 1 - s
    · subst hj; exact q2
    · exact lx_trans (h.r j _ i3 (by omega) (by omega)) q2

theorem sym_srt : ∀ (f : Nat) (L : List Nat) (a m b : Nat), b - a ≤ f → b ≤ L.length → SymPre (key := key) (gt L) a m b → Srt key (gt (sym key f L a m b)) a b ∧ Sm (gt L) (gt (sym key f L a m b)) a b
  | 0, L, a, m, b, hf, _, h => by have := h.am; have := h.mb; omega
  | f + 1, L, a, m, b, hf, hl, h => by
    have ham := h.am
    have hmb := h.mb
    rw [sym]
    by_cases c1 : m - a = 1
    · rw [if_pos c1]; exact symA_srt h hl c1
    rw [if_neg c1]
    by_cases c2 : b - m = 1
    · rw [if_pos c2]; exact symB_srt h hl c2
    rw [if_neg c2]
    dsimp only
    obtain ⟨s, hs⟩ : ∃ s, symS key L a m b = s := ⟨_, rfl⟩
    obtain ⟨s1, s2, s3, s4, s5, s6, s7⟩ := symS_spec h hs
    rw [hs]
    obtain ⟨mid, hmid⟩ : ∃ mid, (a + b) / 2 = mid := ⟨_, rfl⟩
    rw [hmid] at s3 s4 s5 s6 s7 ⊢
    obtain ⟨e, he⟩ : ∃ e, mid + m - s = e := ⟨_, rfl⟩
    rw [he] at s4 s5 s6 s7 ⊢
    obtain ⟨L1, hL1⟩ : ∃ L1, (if s < m ∧ m < e then rot m (e - s) L (m - s) (e - m) else L) = L1 := ⟨_, rfl⟩
    rw [hL1]
    have hl1 : L1.length = L.length := by rw [← hL1]; split <;> simp only [rot_len]
    have g : ∀ k, gt L1 k = if s ≤ k ∧ k < mid then gt L (k + (m - s)) else if mid ≤ k ∧ k < e then gt L (k - (e - m)) else gt L k := by
      intro k
      rw [← hL1]
      by_cases c : s < m ∧ m < e
      · rw [if_pos c, gt_rot m _ _ _ _ (by omega) (by omega) (by omega) (by omega) (by omega)]
        have e1 : m - (m - s) = s := by omega
        have e2 : s + (e - m) = mid := by omega
        have e3 : m + (e - m) = e := by omega
        rw [e1, e2, e3]
      · rw [if_neg c]
        by_cases d : s = m
        · subst d
          by_cases d2 : s ≤ k ∧ k < mid
          · rw [if_pos d2, Nat.sub_self, Nat.add_zero]
          · rw [if_neg d2, if_neg (by omega)]
        · have : e = m := by omega
          subst this
          rw [if_neg (by omega)]
          split
          · rw [Nat.sub_self]; rfl
          · rfl
    have hsm1 : Sm (gt L) (gt L1) a b := by
      rw [← hL1]
      by_cases c : s < m ∧ m < e
      · rw [if_pos c]
        have := sm_rot (m := m) (f := e - s) (L := L) (i := m - s) (j := e - m) (by omega) (by omega) (by omega) (by omega) (by omega)
        exact this.wide (by omega) (by omega)
      · rw [if_neg c]; exact Sm.refl ..
    -- the left half
    have lft : ∀ i, a ≤ i → i < s → gt L1 i = gt L i := fun i h1 h2 => by rw [g, if_neg (by omega), if_neg (by omega)]
    have lfm : ∀ i, s ≤ i → i < mid → gt L1 i = gt L (i + (m - s)) := fun i h1 h2 => by rw [g, if_pos ⟨h1, h2⟩]
    have rgm : ∀ i, mid ≤ i → i < e → gt L1 i = gt L (i - (e - m)) := fun i h1 h2 => by rw [g, if_neg (by omega), if_pos ⟨h1, h2⟩]
    have rgt : ∀ i, e ≤ i → i < b → gt L1 i = gt L i := fun i h1 h2 => by rw [g, if_neg (by omega), if_neg (by omega)]
    have A1 : Srt key (gt L1) a s := (h.l.sub (Nat.le_refl _) s2).cong lft
    have B1 : Srt key (gt L1) s mid := fun i j i1 i2 i3 => by
      rw [lfm i i1 (by omega), lfm j (by omega) i3]; exact h.r _ _ (by omega) (by omega) (by omega)
    have A2 : Srt key (gt L1) mid e := fun i j i1 i2 i3 => by
      rw [rgm i i1 (by omega), rgm j (by omega) i3]; exact h.l _ _ (by omega) (by omega) (by omega)
    have B2 : Srt key (gt L1) e b := (h.r.sub s4 (Nat.le_refl _)).cong rgt
    have X1 : ∀ i j, a ≤ i → i < s → s ≤ j → j < mid → key (gt L1 i) = key (gt L1 j) → gt L1 i < gt L1 j := fun i j h1 h2 h3 h4 hk => by
      rw [lft i h1 h2, lfm j h3 h4] at hk ⊢; exact h.x _ _ h1 (by omega) (by omega) (by omega) hk
    have X2 : ∀ i j, mid ≤ i → i < e → e ≤ j → j < b → key (gt L1 i) = key (gt L1 j) → gt L1 i < gt L1 j := fun i j h1 h2 h3 h4 hk => by
      rw [rgm i h1 h2, rgt j h3 h4] at hk ⊢; exact h.x _ _ (by omega) (by omega) (by omega) (by omega) hk
    have cross : ∀ i j, a ≤ i → i < mid → mid ≤ j → j < b → lx key (gt L1 i) (gt L1 j) := by
      intro i j h1 h2 h3 h4
      by_cases ci : i < s
      · rw [lft i h1 ci]
        by_cases cj : j < e
        · rw [rgm j h3 cj]; exact h.l _ _ h1 (by omega) (by omega)
        · rw [rgt j (by omega) h4]; exact s6 i j h1 ci (by omega) h4
      · rw [lfm i (by omega) h2]
        by_cases cj : j < e
        · rw [rgm j h3 cj]; exact s7 _ _ (by omega) (by omega) (by omega) (by omega)
        · rw [rgt j (by omega) h4]; exact h.r _ _ (by omega) (by omega) h4
    have hmidb : mid < b ∧ a < mid := by omega
    -- the left half, in order
    obtain ⟨L2, hL2⟩ : ∃ L2, (if a < s ∧ s < mid then sym key f L1 a s mid else L1) = L2 := ⟨_, rfl⟩
    rw [hL2]
    have hl2 : L2.length = L.length := by rw [← hL2]; split <;> simp only [sym_len, hl1]
    have r2 : Srt key (gt L2) a mid ∧ Sm (gt L1) (gt L2) a mid := by
      rw [← hL2]
      by_cases c : a < s ∧ s < mid
      · rw [if_pos c]
        exact sym_srt f L1 a s mid (by omega) (by omega) ⟨c.1, c.2, A1, B1, X1⟩
      · rw [if_neg c]
        refine ⟨?_, Sm.refl ..⟩
        by_cases d : s = a
        · subst d; exact B1
        · have : s = mid := by omega
          subst this; exact A1
    have out2 : ∀ k, mid ≤ k → gt L2 k = gt L1 k := fun k hk => r2.2.out k (.inr hk)
    obtain ⟨L3, hL3⟩ : ∃ L3, (if mid < e ∧ e < b then sym key f L2 mid e b else L2) = L3 := ⟨_, rfl⟩
    rw [hL3]
    have r3 : Srt key (gt L3) mid b ∧ Sm (gt L2) (gt L3) mid b := by
      rw [← hL3]
      have A2' : Srt key (gt L2) mid e := A2.cong fun k h1 _ => out2 k h1
      have B2' : Srt key (gt L2) e b := B2.cong fun k h1 _ => out2 k (by omega)
      by_cases c : mid < e ∧ e < b
      · rw [if_pos c]
        exact sym_srt f L2 mid e b (by omega) (by omega) ⟨c.1, c.2, A2', B2', fun i j h1 h2 h3 h4 => by rw [out2 i h1, out2 j (by omega)]; exact X2 i j h1 h2 h3 h4⟩
      · rw [if_neg c]
        refine ⟨?_, Sm.refl ..⟩
        by_cases d : e = mid
        · subst d; exact B2'
        · have : e = b := by omega
          subst this; exact A2'
    refine ⟨Srt.join (m := mid) (r2.1.cong fun k h1 h2 => r3.2.out k (.inl h2)) r3.1 fun i j h1 h2 h3 h4 => ?_, (hsm1.trans (r2.2.wide (Nat.le_refl _) (by omega))).trans (r3.2.wide (by omega) (Nat.le_refl _))⟩
    rw [r3.2.out i (.inl h2)]
    refine r3.2.all (Q := fun x => lx key (gt L2 i) x) (fun j' g1 g2 => ?_) j h3 h4
    rw [out2 j' g1]
    exact r2.2.all (Q := fun x => lx key x (gt L1 j')) (fun i' e1 e2 => cross i' j' e1 e2 g1 g2) i h1 h2
end

/-! ### The whole sort -/

section
variable (key : Nat → Int)

def stI (n : Nat) : Nat → List Nat → Nat → List Nat
  | 0, L, _ => L
  | f + 1, L, a => if a + 20 ≤ n then stI n f (insS key L a (a + 20)) (a + 20) else insS key L a n

def stM (s n : Nat) : Nat → List Nat → Nat → List Nat
  | 0, L, _ => L
  | f + 1, L, a => if a + 2 * s ≤ n then stM s n f (sym key n L a (a + s) (a + 2 * s)) (a + 2 * s) else if a + s < n then sym key n L a (a + s) n else L

def stP (n : Nat) : Nat → List Nat → Nat → List Nat
  | 0, L, _ => L
  | f + 1, L, s => if s < n then stP n f (stM key s n (n + 1) L 0) (2 * s) else L

def stab (n : Nat) (L : List Nat) : List Nat := stP key n (n + 1) (stI key n (n + 1) L 0) 20

theorem insS_len (L : List Nat) (a b : Nat) : (insS key L a b).length = L.length := insOut_len ..

theorem stI_len (n : Nat) : ∀ (f : Nat) (L : List Nat) (a : Nat), (stI key n f L a).length = L.length
  | 0, _, _ => rfl
  | f + 1, L, a => by
    rw [stI]
    split
    · rw [stI_len n f, insS_len]
    · rw [insS_len]

theorem stM_len (s n : Nat) : ∀ (f : Nat) (L : List Nat) (a : Nat), (stM key s n f L a).length = L.length
  | 0, _, _ => rfl
  | f + 1, L, a => by
    rw [stM]
    split
    · rw [stM_len s n f, sym_len]
    · split
      · rw [sym_len]
      · rfl

theorem stP_len (n : Nat) : ∀ (f : Nat) (L : List Nat) (s : Nat), (stP key n f L s).length = L.length
  | 0, _, _ => rfl
  | f + 1, L, s => by
    rw [stP]
    split
    · rw [stP_len n f, stM_len]
    · rfl

theorem stab_len (n : Nat) (L : List Nat) : (stab key n L).length = L.length := by rw [stab, stP_len, stI_len]

variable {key}

/-- The same elements from a to b. -/
structure Ib (f g : Nat → Nat) (a b : Nat) : Prop where
  fwd : ∀ k, a ≤ k → k < b → ∃ j, a ≤ j ∧ j < b ∧ g k = f j
  bwd : ∀ k, a ≤ k → k < b → ∃ j, a ≤ j ∧ j < b ∧ f k = g j

theorem Sm.ib {f g : Nat → Nat} {a b : Nat} (h : Sm f g a b) : Ib f g a b := ⟨h.fwd, h.bwd⟩

theorem Ib.trans {f g h : Nat → Nat} {a b : Nat} (p : Ib f g a b) (q : Ib g h a b) : Ib f h a b where
  fwd k h1 h2 := by
    obtain ⟨j, j1, j2, e⟩ := q.fwd k h1 h2
    obtain ⟨i, i1, i2, e'⟩ := p.fwd j j1 j2
    exact ⟨i, i1, i2, e.trans e'⟩
  bwd k h1 h2 := by
    obtain ⟨j, j1, j2, e⟩ := p.bwd k h1 h2
    obtain ⟨i, i1, i2, e'⟩ := q.bwd j j1 j2
    exact ⟨i, i1, i2, e.trans e'⟩

theorem Ib.join {f g : Nat → Nat} {a m b : Nat} (p : Ib f g a m) (q : Ib f g m b) (h1 : a ≤ m) (h2 : m ≤ b) : Ib f g a b where
  fwd k k1 k2 := by
    by_cases c : k < m
    · obtain ⟨j, j1, j2, e⟩ := p.fwd k k1 c
      exact ⟨j, j1, by omega, e⟩
    · obtain ⟨j, j1, j2, e⟩ := q.fwd k (by omega) k2
      exact ⟨j, by omega, j2, e⟩
  bwd k k1 k2 := by
    by_cases c : k < m
    · obtain ⟨j, j1, j2, e⟩ := p.bwd k k1 c
      exact ⟨j, j1, by omega, e⟩
    · obtain ⟨j, j1, j2, e⟩ := q.bwd k (by omega) k2
      exact ⟨j, by omega, j2, e⟩

theorem Ib.cong {f g h : Nat → Nat} {a b : Nat} (p : Ib f g a b) (e : ∀ k, a ≤ k → k < b → h k = g k) : Ib f h a b where
  fwd k k1 k2 := by rw [e k k1 k2]; exact p.fwd k k1 k2
  bwd k k1 k2 := by
    obtain ⟨j, j1, j2, e'⟩ := p.bwd k k1 k2
    exact ⟨j, j1, j2, by rw [e j j1 j2]; exact e'⟩

/-- A block that is in order. -/
def Bk (key : Nat → Int) (f g : Nat → Nat) (s n a : Nat) : Prop := Srt key g a (min (a + s) n) ∧ Ib f g a (min (a + s) n)

theorem Bk.cong {f g h : Nat → Nat} {s n a : Nat} (p : Bk key f g s n a) (e : ∀ k, a ≤ k → k < a + s → h k = g k) : Bk key f h s n a :=
  ⟨p.1.cong fun k h1 h2 => e k h1 (by omega), p.2.cong fun k h1 h2 => e k h1 (by omega)⟩

theorem dvd_next {s a c : Nat} (h1 : s ∣ a) (h2 : s ∣ c) (h : c < a) : c + s ≤ a := by
  have := Nat.le_of_dvd (by omega) (Nat.dvd_sub h1 h2)
  omega

theorem stI_bk {n : Nat} {f0 : Nat → Nat} (hu : ∀ k l, k < l → l < n → f0 k < f0 l) : ∀ (f : Nat) (L : List Nat) (a : Nat), n < f + a → a ≤ n → L.length = n → 20 ∣ a → (∀ c, 20 ∣ c → c < a → Bk key f0 (gt L) 20 n c) → (∀ k, a ≤ k → gt L k = f0 k) → ∀ c, 20 ∣ c → c < n → Bk key f0 (gt (stI key n f L a)) 20 n c
  | 0, L, a, h, h2, _, _, _, _, _, _, _ => by omega
  | f + 1, L, a, h, h2, hl, hd, hb, hr, c, c1, c2 => by
    rw [stI]
    by_cases d : a + 20 ≤ n
    · rw [if_pos d]
      obtain ⟨r1, r2⟩ := insS_srt (key := key) (a := a) (b := a + 20) (L := L) (by omega) (by omega) (fun k l g1 g2 g3 => by rw [hr k g1, hr l (by omega)]; exact hu k l g2 (by omega))
      refine stI_bk hu f _ (a + 20) (by omega) d (by rw [insS_len]; exact hl) ((Nat.dvd_add_right hd).2 (Nat.dvd_refl _)) (fun e e1 e2 => ?_) (fun k hk => by rw [r2.out k (.inr hk)]; exact hr k (by omega)) c c1 c2
      by_cases he : e < a
      · refine (hb e e1 he).cong fun k g1 g2 => r2.out k (.inl ?_)
        have := dvd_next hd e1 he
        omega
      · have : e = a := by
          by_cases hea : e = a
          · exact hea
          · have := dvd_next e1 hd (by omega)
            omega
        subst this
        have em : min (e + 20) n = e + 20 := by omega
        refine ⟨by rw [em]; exact r1, ?_⟩
        rw [em]
        exact Ib.trans ⟨fun k g1 g2 => ⟨k, g1, g2, hr k g1⟩, fun k g1 g2 => ⟨k, g1, g2, (hr k g1).symm⟩⟩ r2.ib
    · rw [if_neg d]
      obtain ⟨r1, r2⟩ := insS_srt (key := key) (a := a) (b := n) (L := L) (by omega) (by omega) (fun k l g1 g2 g3 => by rw [hr k g1, hr l (by omega)]; exact hu k l g2 (by omega))
      by_cases he : c < a
      · refine (hb c c1 he).cong fun k g1 g2 => r2.out k (.inl ?_)
        have := dvd_next hd c1 he
        omega
      · have : c = a := by
          by_cases hea : c = a
          · exact hea
          · have := dvd_next c1 hd (by omega)
            omega
        subst this
        have em : min (c + 20) n = n := by omega
        refine ⟨by rw [em]; exact r1, ?_⟩
        rw [em]
        exact Ib.trans ⟨fun k g1 g2 => ⟨k, g1, g2, hr k g1⟩, fun k g1 g2 => ⟨k, g1, g2, (hr k g1).symm⟩⟩ r2.ib

/-- Two blocks become one. -/
theorem bk_merge {n s a b : Nat} {f0 : Nat → Nat} (hu : ∀ k l, k < l → l < n → f0 k < f0 l) {L : List Nat} (hl : L.length = n) (hs : 0 < s) (h1 : Bk key f0 (gt L) s n a) (h2 : Bk key f0 (gt L) s n (a + s)) (hb : b = min (a + 2 * s) n) (hm : a + s < b) :
    Bk key f0 (gt (sym key n L a (a + s) b)) (2 * s) n a ∧ ∀ k, (k < a ∨ b ≤ k) → gt (sym key n L a (a + s) b) k = gt L k := by
  have e1 : min (a + s) n = a + s := by omega
  have e2 : min (a + s + s) n = b := by omega
  rw [Bk, e1] at h1
  rw [Bk, e2] at h2
  have hp : SymPre (key := key) (gt L) a (a + s) b := by
    refine ⟨by omega, hm, h1.1, h2.1, fun i j i1 i2 i3 i4 _ => ?_⟩
    obtain ⟨i', g1, g2, ei⟩ := h1.2.fwd i i1 i2
    obtain ⟨j', g3, g4, ej⟩ := h2.2.fwd j i3 i4
    rw [ei, ej]
    exact hu _ _ (by omega) (by omega)
  obtain ⟨r1, r2⟩ := sym_srt (key := key) n L a (a + s) b (by omega) (by omega) hp
  refine ⟨⟨by rw [← hb]; exact r1, ?_⟩, r2.out⟩
  rw [← hb]
  exact (Ib.join h1.2 h2.2 (by omega) (by omega)).trans r2.ib

theorem stM_bk {n s : Nat} {f0 : Nat → Nat} (hs : 0 < s) (hu : ∀ k l, k < l → l < n → f0 k < f0 l) : ∀ (f : Nat) (L : List Nat) (a : Nat), n < f + a → a ≤ n → L.length = n → 2 * s ∣ a → (∀ c, 2 * s ∣ c → c < a → Bk key f0 (gt L) (2 * s) n c) → (∀ c, s ∣ c → a ≤ c → c < n → Bk key f0 (gt L) s n c) → ∀ c, 2 * s ∣ c → c < n → Bk key f0 (gt (stM key s n f L a)) (2 * s) n c
  | 0, L, a, h, h2, _, _, _, _, _, _, _ => by omega
  | f + 1, L, a, h, h2, hl, hd, hb, hr, c, c1, c2 => by
    rw [stM]
    have hsa : s ∣ a := Nat.dvd_trans (Nat.dvd_mul_left s 2) hd
    have hsa2 : s ∣ a + s := (Nat.dvd_add_right hsa).2 (Nat.dvd_refl _)
    by_cases d : a + 2 * s ≤ n
    · rw [if_pos d]
      obtain ⟨r1, r2⟩ := bk_merge (b := a + 2 * s) hu hl hs (hr a hsa (Nat.le_refl _) (by omega)) (hr _ hsa2 (by omega) (by omega)) (by omega) (by omega)
      have hda : 2 * s ∣ a + 2 * s := (Nat.dvd_add_right hd).2 (Nat.dvd_refl _)
      refine stM_bk hs hu f _ (a + 2 * s) (by omega) d (by rw [sym_len]; exact hl) hda (fun e e1 e2 => ?_) (fun e e1 e2 e3 => (hr e e1 (by omega) e3).cong fun k g1 g2 => r2 k (.inr (by omega))) c c1 c2
      by_cases he : e < a
      · refine (hb e e1 he).cong fun k g1 g2 => r2 k (.inl ?_)
        have := dvd_next hd e1 he
        omega
      · have : e = a := by
          by_cases hea : e = a
          · exact hea
          · have := dvd_next e1 hd (by omega)
            omega
        subst this
        exact r1
    · rw [if_neg d]
      have hca : ¬ c < a → c = a := fun he => by
        by_cases hea : c = a
        · exact hea
        · have := dvd_next c1 hd (by omega)
          omega
      by_cases d2 : a + s < n
      · rw [if_pos d2]
        obtain ⟨r1, r2⟩ := bk_merge (b := n) hu hl hs (hr a hsa (Nat.le_refl _) (by omega)) (hr _ hsa2 (by omega) (by omega)) (by omega) (by omega)
        by_cases he : c < a
        · refine (hb c c1 he).cong fun k g1 g2 => r2 k (.inl ?_)
          have := dvd_next hd c1 he
          omega
        · obtain rfl := hca he
          exact r1
      · rw [if_neg d2]
        by_cases he : c < a
        · exact hb c c1 he
        · obtain rfl := hca he
          have := hr c hsa (Nat.le_refl _) c2
          have e1 : min (c + s) n = n := by omega
          have e2 : min (c + 2 * s) n = n := by omega
          rw [Bk, e1] at this
          rw [Bk, e2]
          exact this

theorem stP_bk {n : Nat} {f0 : Nat → Nat} (hu : ∀ k l, k < l → l < n → f0 k < f0 l) : ∀ (f : Nat) (L : List Nat) (s : Nat), 0 < s → n < f + s → L.length = n → (∀ c, s ∣ c → c < n → Bk key f0 (gt L) s n c) → Srt key (gt (stP key n f L s)) 0 n ∧ Ib f0 (gt (stP key n f L s)) 0 n
  | 0, L, s, h1, h2, hl, hb => by
    by_cases hn : n = 0
    · subst hn
      exact ⟨fun i j h1 h2 h3 => by omega, ⟨fun k h1 h2 => by omega, fun k h1 h2 => by omega⟩⟩
    · have := hb 0 (Nat.dvd_zero _) (by omega)
      rw [Bk, show min (0 + s) n = n by omega] at this
      exact this
  | f + 1, L, s, h1, h2, hl, hb => by
    rw [stP]
    by_cases c : s < n
    · rw [if_pos c]
      exact stP_bk hu f _ (2 * s) (by omega) (by omega) (by rw [stM_len]; exact hl) (stM_bk h1 hu (n + 1) L 0 (by omega) (by omega) hl (Nat.dvd_zero _) (fun c _ h => by omega) (fun c h1 _ h3 => hb c h1 h3))
    · rw [if_neg c]
      by_cases hn : n = 0
      · subst hn
        exact ⟨fun i j h1 h2 h3 => by omega, ⟨fun k h1 h2 => by omega, fun k h1 h2 => by omega⟩⟩
      · have := hb 0 (Nat.dvd_zero _) (by omega)
        rw [Bk, show min (0 + s) n = n by omega] at this
        exact this

/-- A list that rises is in order then, and has the same elements. -/
theorem stab_srt {n : Nat} {L : List Nat} (hl : L.length = n) (hu : ∀ k l, k < l → l < n → gt L k < gt L l) : Srt key (gt (stab key n L)) 0 n ∧ Ib (gt L) (gt (stab key n L)) 0 n :=
  stP_bk hu (n + 1) _ 20 (by omega) (by omega) (by rw [stI_len]; exact hl) (stI_bk hu (n + 1) L 0 (by omega) (by omega) hl (Nat.dvd_zero _) (fun c _ h => by omega) (fun _ _ => rfl))
end

end Go.Ab
