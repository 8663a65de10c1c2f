/-
  fringe.Part of one wave.
-/
import Derived.Test.YtlhnmpclnbpnhaaKK0
namespace Go.Ab
open Go.Proofs
set_option linter.unusedSimpArgs false
set_option linter.unusedVariables false
set_option maxRecDepth 100000

variable {H : Heap}

/-- A fringe of one wave, without readings. -/
def oneW (w : Int) : AV := .agg [.sl true [I w], I 0, I 0, .sl true []]

theorem one_sl (w : Int) (H : Heap) : SlOk H 1 (.sl true [I w]) [I w] := ⟨rfl, by simp [AV.cells]⟩
theorem w_0 : IntKind.i64.wrap 0 = 0 := by decide

theorem fr_wave1 (w : Int) (H : Heap) : callFL cfg0 prog0 false 90 [oneW w, I 0] H none = some ⟨.ret (I w), H, none⟩ := by
  simp only [oneW]
  obtain ⟨a1, a2, a3, a4, a5⟩ := (one_sl w H).at (k := 0) (x := I w) (by omega) rfl
  refine (callFL_eq fn90 rfl (by simp [Try.f90])).trans ?_
  simp (implicitDefEqProofs := false) only [go_sem, ↓reduceIte, Nat.reduceEqDiff, Nat.reduceAdd, Nat.reduceLeDiff, Nat.reduceBEq, Nat.reduceMul, Nat.reduceLT, Int.reduceLT, Int.reduceLE, Int.reduceToNat, Int.reduceNeg, Int.reduceEq, Int.reduceMul, reduceCtorEq, Int.reduceBEq, Int.reduceBNe, Int.reduceAdd, Int.reduceSub, a1, a2, a3, a4, a5]

theorem fr_isColour1 (w n : Int) (hn : -1000 ≤ n) (H : Heap) : callFL cfg0 prog0 false 89 [oneW w, I n] H none = some ⟨.ret (.bool (wi n 0 0)), H, none⟩ := by
  simp only [oneW]
  refine (callFL_eq fn89 rfl (by simp [Try.f89])).trans ?_
  simp (implicitDefEqProofs := false) only [go_sem, ↓reduceIte, Nat.reduceEqDiff, Nat.reduceAdd, Nat.reduceLeDiff, Nat.reduceBEq, Nat.reduceMul, Nat.reduceLT, Int.reduceLT, Int.reduceLE, Int.reduceToNat, Int.reduceNeg, Int.reduceEq, Int.reduceMul, reduceCtorEq, Int.reduceBEq, Int.reduceBNe, Int.reduceAdd, Int.reduceSub, fr_within, w_0]


end Go.Ab
/-
  fringe.open of one wave.
-/
namespace Go.Ab
open Go.Proofs
set_option linter.unusedSimpArgs false
set_option linter.unusedVariables false
set_option maxRecDepth 100000

variable {H : Heap}

theorem fr_part2 (w n : Int) (a b : Nat) (H : Heap) (ha : H[a]? = some (.box (I n))) (hb : H[b]? = some (.box (I 0))) : callVL cfg0 prog0 false (.func 87) [oneW w] [.ptr a 0, .ptr b 0] H none = some ⟨.ret (.bool (wi n 0 2000)), H, none⟩ := by
  have la : a < H.length := (List.getElem?_eq_some_iff.1 ha).1
  have lb : b < H.length := (List.getElem?_eq_some_iff.1 hb).1
  have k0 : wi 0 0 0 = true := by decide
  have hi := fun G : Heap => fr_isColour1 w 0 (by omega) G
  simp only [callVL_func, oneW, List.cons_append, List.nil_append] at hi ⊢
  refine (callFL_eq fn87 rfl (by simp [Try.f87])).trans ?_
  rcases Bool.eq_false_or_eq_true (wi n 0 2000) with h | h <;> simp (implicitDefEqProofs := false) only [go_sem, ↓reduceIte, Nat.reduceEqDiff, Nat.reduceAdd, Nat.reduceLeDiff, Nat.reduceBEq, Nat.reduceMul, Nat.reduceLT, Int.reduceLT, Int.reduceLE, Int.reduceToNat, Int.reduceNeg, Int.reduceEq, Int.reduceMul, reduceCtorEq, Int.reduceBEq, Int.reduceBNe, Int.reduceAdd, Int.reduceSub, get_lt la, get_lt lb, ha, hb, fr_isLength, hi, h, k0]

theorem w_1 : IntKind.i64.wrap 1 = 1 := by decide

theorem fr_open1 (w : Int) (fn : Fn) (cap : List AV) (hf : (AV.func fn [] cap).lt H.length = true) (r : Bool) (hr : ∀ G : Heap, callVL cfg0 prog0 false fn [oneW w] cap (H ++ G) none = some ⟨.ret (.bool r), H ++ G, none⟩) :
    callFL cfg0 prog0 false 86 [oneW w, .func fn [] cap] H none = some ⟨if wi w 2 60 then (if r then .ret (oneW w) else .pan (.iface 132 (.agg [I 2]))) else .pan (.iface 132 (.agg [I 1])), H, none⟩ := by
  simp only [oneW] at hr ⊢
  obtain ⟨a1, a2, a3, a4, a5⟩ := (one_sl w H).at (k := 0) (x := I w) (by omega) rfl
  have k1 : wi 1 1 4 = true := by decide
  have hf3 : (fnLt (H.length + 3) fn && ltL (H.length + 3) cap) = true := by
    have := lt_mono (M := H.length + 3) (by omega) _ hf
    simpa [AV.lt, ltL] using this
  refine (callFL_eq fn86 rfl (by simp [Try.f86])).trans ?_
  simp (implicitDefEqProofs := false) only [go_sem, ↓reduceIte, Nat.reduceEqDiff, Nat.reduceAdd, Nat.reduceLeDiff, Nat.reduceBEq, Nat.reduceMul, Nat.reduceLT, Int.reduceLT, Int.reduceLE, Int.reduceToNat, Int.reduceNeg, Int.reduceEq, Int.reduceMul, reduceCtorEq, Int.reduceBEq, Int.reduceBNe, Int.reduceAdd, Int.reduceSub, a1, a2, a3, a4, a5, fr_within, fr_must, hf, k1]
  rw [execL_inLoop]
  rcases Bool.eq_false_or_eq_true (wi w 2 60) with hw | hw
  · simp (implicitDefEqProofs := false) only [go_sem, ↓reduceIte, Nat.reduceEqDiff, Nat.reduceAdd, Nat.reduceLeDiff, Nat.reduceBEq, Nat.reduceMul, Nat.reduceLT, Int.reduceLT, Int.reduceLE, Int.reduceToNat, Int.reduceNeg, Int.reduceEq, Int.reduceMul, reduceCtorEq, Int.reduceBEq, Int.reduceBNe, Int.reduceAdd, Int.reduceSub, a1, a2, a3, a4, a5, fr_within, fr_must, hf, k1, w_1, w_0, hw]
    rw [execL_inLoop]
    simp (implicitDefEqProofs := false) only [go_sem, ↓reduceIte, Nat.reduceEqDiff, Nat.reduceAdd, Nat.reduceLeDiff, Nat.reduceBEq, Nat.reduceMul, Nat.reduceLT, Int.reduceLT, Int.reduceLE, Int.reduceToNat, Int.reduceNeg, Int.reduceEq, Int.reduceMul, reduceCtorEq, Int.reduceBEq, Int.reduceBNe, Int.reduceAdd, Int.reduceSub, a1, a2, a3, a4, a5, fr_within, fr_must, hf, k1, w_1, w_0, hw]
    rw [execL_inLoop]
    simp (implicitDefEqProofs := false) only [go_sem, ↓reduceIte, Nat.reduceEqDiff, Nat.reduceAdd, Nat.reduceLeDiff, Nat.reduceBEq, Nat.reduceMul, Nat.reduceLT, Int.reduceLT, Int.reduceLE, Int.reduceToNat, Int.reduceNeg, Int.reduceEq, Int.reduceMul, reduceCtorEq, Int.reduceBEq, Int.reduceBNe, Int.reduceAdd, Int.reduceSub, a1, a2, a3, a4, a5, fr_within, fr_must, hf, hf3, k1, w_1, w_0, hw, hr]
    cases r <;> simp (implicitDefEqProofs := false) only [go_sem, ↓reduceIte, Nat.reduceEqDiff, Nat.reduceAdd, Nat.reduceLeDiff, Nat.reduceBEq, Nat.reduceMul, Nat.reduceLT, Int.reduceLT, Int.reduceLE, Int.reduceToNat, Int.reduceNeg, Int.reduceEq, Int.reduceMul, reduceCtorEq, Int.reduceBEq, Int.reduceBNe, Int.reduceAdd, Int.reduceSub, a1, a2, a3, a4, a5, fr_within, fr_must, hf, k1, w_1, w_0, hw]
  · simp (implicitDefEqProofs := false) only [go_sem, ↓reduceIte, Nat.reduceEqDiff, Nat.reduceAdd, Nat.reduceLeDiff, Nat.reduceBEq, Nat.reduceMul, Nat.reduceLT, Int.reduceLT, Int.reduceLE, Int.reduceToNat, Int.reduceNeg, Int.reduceEq, Int.reduceMul, reduceCtorEq, Int.reduceBEq, Int.reduceBNe, Int.reduceAdd, Int.reduceSub, a1, a2, a3, a4, a5, fr_within, fr_must, hf, k1, w_1, w_0, hw]

end Go.Ab
/-
  fringe.Part of one wave.
-/
namespace Go.Ab
open Go.Proofs
set_option linter.unusedSimpArgs false
set_option linter.unusedVariables false
set_option maxRecDepth 100000

variable {H : Heap}

theorem fr_defn (l : Nat) (H : Heap) : callFL cfg0 prog0 true 84 [.ptr l 0] H none = some ⟨.ret (.tup []), H, none⟩ := by
  refine (callFL_eq fn84 rfl (by simp [Try.f84])).trans ?_
  simp (implicitDefEqProofs := false) only [go_sem, ↓reduceIte, Nat.reduceEqDiff, Nat.reduceAdd, Nat.reduceLeDiff, Nat.reduceBEq, Nat.reduceMul, Nat.reduceLT, Int.reduceLT, Int.reduceLE, Int.reduceToNat, Int.reduceNeg, Int.reduceEq, Int.reduceMul, reduceCtorEq, Int.reduceBEq, Int.reduceBNe, Int.reduceAdd, Int.reduceSub, fr_stopn]

theorem fr_defs (l : Nat) (e x : Int) (H : Heap) (h : H[l]? = some (.box (I x))) : callFL cfg0 prog0 true 84 [.ptr l 0] H (some (.iface 132 (.agg [I e]), false)) = some ⟨.ret (.tup []), H.set l (.box (I e)), some (.iface 132 (.agg [I e]), true)⟩ := by
  refine (callFL_eq fn84 rfl (by simp [Try.f84])).trans ?_
  simp (implicitDefEqProofs := false) only [go_sem, ↓reduceIte, Nat.reduceEqDiff, Nat.reduceAdd, Nat.reduceLeDiff, Nat.reduceBEq, Nat.reduceMul, Nat.reduceLT, Int.reduceLT, Int.reduceLE, Int.reduceToNat, Int.reduceNeg, Int.reduceEq, Int.reduceMul, reduceCtorEq, Int.reduceBEq, Int.reduceBNe, Int.reduceAdd, Int.reduceSub, fr_stops l x e H h]

theorem fr_Part1 (w n : Int) (H : Heap) :
    callFL cfg0 prog0 false 35 [oneW w, I n, I 0] H none = some ⟨.ret (.tup (if wi w 2 60 then (if wi n 0 2000 then [I (n / w), I (ptZ w n), I 0] else [I 0, I 0, I 2]) else [I 0, I 0, I 1])), H, none⟩ := by
  have hO := fr_open1 (H := H ++ [.box (oneW w), .box (I n), .box (I 0), .box (I 0), .box (.agg [I 0, I 0])]) w (.func 87) [.ptr (H.length + 1) 0, .ptr (H.length + 2) 0] (by simp [AV.lt, ltL, fnLt]) (wi n 0 2000)
    (fun G => by
      have := fr_part2 w n (H.length + 1) (H.length + 2) (H ++ ([.box (oneW w), .box (I n), .box (I 0), .box (I 0), .box (.agg [I 0, I 0])] ++ G)) (by rw [get_at' 1]; rfl) (by rw [get_at' 2]; rfl)
      simpa using this)
  have hW := fun G : Heap => fr_wave1 w G
  simp only [oneW] at hO hW ⊢
  refine (callFL_eq fn35 rfl (by simp [Try.f35])).trans ?_
  simp (implicitDefEqProofs := false) only [go_sem, ↓reduceIte, Nat.reduceEqDiff, Nat.reduceAdd, Nat.reduceLeDiff, Nat.reduceBEq, Nat.reduceMul, Nat.reduceLT, Int.reduceLT, Int.reduceLE, Int.reduceToNat, Int.reduceNeg, Int.reduceEq, Int.reduceMul, reduceCtorEq, Int.reduceBEq, Int.reduceBNe, Int.reduceAdd, Int.reduceSub]
  rw [chkK_of]; rotate_left; kernel_rfl
  have hB := fun (h1 : wi w 2 60 = true) (h2 : wi n 0 2000 = true) (G : Heap) => fr_of w n (by simp [wi] at h1; omega) (by simp [wi] at h2; omega) G
  have hS := fun (e : Int) (a b c : AO) (G : Heap) => fr_defs (H.length + 3) e 0 (H ++ (a :: b :: c :: .box (I 0) :: G)) (by rw [get_at' 3]; rfl)
  have hN := fun (G : Heap) => fr_defn (H.length + 3) G
  rcases Bool.eq_false_or_eq_true (wi w 2 60) with h1 | h1 <;> rcases Bool.eq_false_or_eq_true (wi n 0 2000) with h2 | h2 <;> simp only [h1, h2, if_true, if_false, Bool.false_eq_true, forall_const] at hO hB ⊢ <;> simp (implicitDefEqProofs := false) only [go_sem, ↓reduceIte, Nat.reduceEqDiff, Nat.reduceAdd, Nat.reduceLeDiff, Nat.reduceBEq, Nat.reduceMul, Nat.reduceLT, Int.reduceLT, Int.reduceLE, Int.reduceToNat, Int.reduceNeg, Int.reduceEq, Int.reduceMul, reduceCtorEq, Int.reduceBEq, Int.reduceBNe, Int.reduceAdd, Int.reduceSub, hO, hW, hB, hS, hN]
  · rw [chkK_of]; rotate_left; kernel_rfl
    simp (implicitDefEqProofs := false) only [go_sem, ↓reduceIte, Nat.reduceEqDiff, Nat.reduceAdd, Nat.reduceLeDiff, Nat.reduceBEq, Nat.reduceMul, Nat.reduceLT, Int.reduceLT, Int.reduceLE, Int.reduceToNat, Int.reduceNeg, Int.reduceEq, Int.reduceMul, reduceCtorEq, Int.reduceBEq, Int.reduceBNe, Int.reduceAdd, Int.reduceSub, hN]

end Go.Ab
/-
  Parts, and how much they are apart.
-/
namespace Go.Ab
open Go.Proofs
set_option linter.unusedSimpArgs false
set_option linter.unusedVariables false
set_option maxRecDepth 100000

variable {H : Heap}

def lessZ (p o : Int) : Int := (p - o + 20) % 20

theorem co_less (p o : Int) (hp : 0 ≤ p ∧ p < 20) (ho : 0 ≤ o ∧ o < 20) (H : Heap) : callFL cfg0 prog0 false 96 [I p, I o] H none = some ⟨.ret (I (lessZ p o)), H, none⟩ := by
  have c1 : IntKind.i64.wrap (p - o) = p - o := w64 (by omega) (by omega)
  have c2 : IntKind.i64.wrap (p - o + 20) = p - o + 20 := w64 (by omega) (by omega)
  have t1 : (p - o + 20).tmod 20 = lessZ p o := Int.tmod_eq_emod_of_nonneg (by omega)
  refine (callFL_eq fn96 rfl (by simp [Try.f96])).trans ?_
  simp (implicitDefEqProofs := false) only [go_sem, ↓reduceIte, Nat.reduceEqDiff, Nat.reduceAdd, Nat.reduceLeDiff, Nat.reduceBEq, Nat.reduceMul, Nat.reduceLT, Int.reduceLT, Int.reduceLE, Int.reduceToNat, Int.reduceNeg, Int.reduceEq, Int.reduceMul, reduceCtorEq, Int.reduceBEq, Int.reduceBNe, Int.reduceAdd, Int.reduceSub, c1, c2, t1]

theorem lessZ_bd (p o : Int) : 0 ≤ lessZ p o ∧ lessZ p o < 20 := by simp only [lessZ]; omega

/-- By how much two parts are apart. -/
def apartZ (p o : Int) : Int := if lessZ o p < lessZ p o then lessZ o p else lessZ p o

theorem co_apart (p o : Int) (hp : 0 ≤ p ∧ p < 20) (ho : 0 ≤ o ∧ o < 20) (H : Heap) : callFL cfg0 prog0 false 49 [I p, I o] H none = some ⟨.ret (I (apartZ p o)), H, none⟩ := by
  have h1 := fun G : Heap => co_less p o hp ho G
  have h2 := fun G : Heap => co_less o p ho hp G
  refine (callFL_eq fn49 rfl (by simp [Try.f49])).trans ?_
  simp (implicitDefEqProofs := false) only [go_sem, ↓reduceIte, Nat.reduceEqDiff, Nat.reduceAdd, Nat.reduceLeDiff, Nat.reduceBEq, Nat.reduceMul, Nat.reduceLT, Int.reduceLT, Int.reduceLE, Int.reduceToNat, Int.reduceNeg, Int.reduceEq, Int.reduceMul, reduceCtorEq, Int.reduceBEq, Int.reduceBNe, Int.reduceAdd, Int.reduceSub, h1, h2, apartZ]

/-- A colour. -/
structure Col where
  ws : List Int
  ps : List Int
  (lo hi ev er : Int)

/-- A shop as it lies: the colour, its own waves, and which colours part each pair. -/
structure ShopAt (H : Heap) (l : Nat) (c : Col) (vw vp vo : AV) (lm : Nat) : Prop where
  box : H[l]? = some (.box (.agg [vw, vp, I c.lo, I c.hi, I c.ev, I c.er, vo, .map lm]))
  own : SlOk H 1 vo (c.ws.map I)

theorem ShopAt.app {l lm : Nat} {c : Col} {vw vp vo : AV} (h : ShopAt H l c vw vp vo lm) (G : Heap) : ShopAt (H ++ G) l c vw vp vo lm :=
  ⟨by rw [List.getElem?_append_left (List.getElem?_eq_some_iff.1 h.box).1]; exact h.box, h.own.app G⟩

def Col.many (c : Col) : Int := (c.hi - c.lo) / c.ev + 1

theorem co_many {l lm : Nat} {c : Col} {vw vp vo : AV} (h : ShopAt H l c vw vp vo lm) (h1 : 0 ≤ c.lo ∧ c.lo ≤ c.hi ∧ c.hi ≤ 2000) (h2 : 1 ≤ c.ev) : callFL cfg0 prog0 false 68 [.ptr l 0] H none = some ⟨.ret (I c.many), H, none⟩ := by
  have hl : l < H.length := (List.getElem?_eq_some_iff.1 h.box).1
  have hb := h.box
  have z : ¬ c.ev = 0 := by omega
  have b1 : 0 ≤ (c.hi - c.lo) / c.ev := Int.ediv_nonneg (by omega) (by omega)
  have b2 : (c.hi - c.lo) / c.ev ≤ c.hi - c.lo := Int.ediv_le_self _ (by omega)
  have c1 : IntKind.i64.wrap (c.hi - c.lo) = c.hi - c.lo := w64 (by omega) (by omega)
  have t1 : (c.hi - c.lo).tdiv c.ev = (c.hi - c.lo) / c.ev := Int.tdiv_eq_ediv_of_nonneg (by omega)
  have c2 : IntKind.i64.wrap ((c.hi - c.lo) / c.ev) = (c.hi - c.lo) / c.ev := w64 (by omega) (by omega)
  have c3 : IntKind.i64.wrap ((c.hi - c.lo) / c.ev + 1) = (c.hi - c.lo) / c.ev + 1 := w64 (by omega) (by omega)
  refine (callFL_eq fn68 rfl (by simp [Try.f68])).trans ?_
  simp (implicitDefEqProofs := false) only [go_sem, ↓reduceIte, Nat.reduceEqDiff, Nat.reduceAdd, Nat.reduceLeDiff, Nat.reduceBEq, Nat.reduceMul, Nat.reduceLT, Int.reduceLT, Int.reduceLE, Int.reduceToNat, Int.reduceNeg, Int.reduceEq, Int.reduceMul, reduceCtorEq, Int.reduceBEq, Int.reduceBNe, Int.reduceAdd, Int.reduceSub, get_lt hl, hb]
  rw [chkK_of]; rotate_left; kernel_rfl
  simp (implicitDefEqProofs := false) only [go_sem, ↓reduceIte, Nat.reduceEqDiff, Nat.reduceAdd, Nat.reduceLeDiff, Nat.reduceBEq, Nat.reduceMul, Nat.reduceLT, Int.reduceLT, Int.reduceLE, Int.reduceToNat, Int.reduceNeg, Int.reduceEq, Int.reduceMul, reduceCtorEq, Int.reduceBEq, Int.reduceBNe, Int.reduceAdd, Int.reduceSub, get_lt hl, hb, z, c1, t1, c2, c3, Col.many]

theorem co_length {l lm : Nat} {c : Col} {vw vp vo : AV} (h : ShopAt H l c vw vp vo lm) (h1 : 0 ≤ c.lo ∧ c.lo ≤ 2000) (h2 : 1 ≤ c.ev ∧ c.ev ≤ 20) (n : Int) (hn : -1 ≤ n ∧ n ≤ 1000) : callFL cfg0 prog0 false 63 [.ptr l 0, I n] H none = some ⟨.ret (I (c.lo + n * c.ev)), H, none⟩ := by
  have hl : l < H.length := (List.getElem?_eq_some_iff.1 h.box).1
  have hb := h.box
  have b1 : -20 ≤ n * c.ev ∧ n * c.ev ≤ 20000 := by
    rcases Int.lt_or_le n 0 with h0 | h0
    · have : n = -1 := by omega
      subst this; omega
    · exact ⟨by have := Int.mul_nonneg h0 (show 0 ≤ c.ev by omega); omega, by have := Int.mul_le_mul hn.2 h2.2 (by omega) (by omega); omega⟩
  have c1 : IntKind.i64.wrap (n * c.ev) = n * c.ev := w64 (by omega) (by omega)
  have c2 : IntKind.i64.wrap (c.lo + n * c.ev) = c.lo + n * c.ev := w64 (by omega) (by omega)
  refine (callFL_eq fn63 rfl (by simp [Try.f63])).trans ?_
  simp (implicitDefEqProofs := false) only [go_sem, ↓reduceIte, Nat.reduceEqDiff, Nat.reduceAdd, Nat.reduceLeDiff, Nat.reduceBEq, Nat.reduceMul, Nat.reduceLT, Int.reduceLT, Int.reduceLE, Int.reduceToNat, Int.reduceNeg, Int.reduceEq, Int.reduceMul, reduceCtorEq, Int.reduceBEq, Int.reduceBNe, Int.reduceAdd, Int.reduceSub, get_lt hl, hb]
  rw [chkK_of]; rotate_left; kernel_rfl
  simp (implicitDefEqProofs := false) only [go_sem, ↓reduceIte, Nat.reduceEqDiff, Nat.reduceAdd, Nat.reduceLeDiff, Nat.reduceBEq, Nat.reduceMul, Nat.reduceLT, Int.reduceLT, Int.reduceLE, Int.reduceToNat, Int.reduceNeg, Int.reduceEq, Int.reduceMul, reduceCtorEq, Int.reduceBEq, Int.reduceBNe, Int.reduceAdd, Int.reduceSub, get_lt hl, hb, c1, c2]

theorem co_isColour {l lm : Nat} {c : Col} {vw vp vo : AV} (h : ShopAt H l c vw vp vo lm) (hw : c.ws.length ≤ 6) (n : Int) : callFL cfg0 prog0 false 46 [.ptr l 0, I n] H none = some ⟨.ret (.bool (wi n 0 (c.ws.length - 1))), H, none⟩ := by
  have hl : l < H.length := (List.getElem?_eq_some_iff.1 h.box).1
  have hb := h.box
  have c1 : IntKind.i64.wrap ((c.ws.length : Int) - 1) = c.ws.length - 1 := w64 (by omega) (by omega)
  have so := h.own.scal
  refine (callFL_eq fn46 rfl (by simp [Try.f46])).trans ?_
  simp (implicitDefEqProofs := false) only [go_sem, ↓reduceIte, Nat.reduceEqDiff, Nat.reduceAdd, Nat.reduceLeDiff, Nat.reduceBEq, Nat.reduceMul, Nat.reduceLT, Int.reduceLT, Int.reduceLE, Int.reduceToNat, Int.reduceNeg, Int.reduceEq, Int.reduceMul, reduceCtorEq, Int.reduceBEq, Int.reduceBNe, Int.reduceAdd, Int.reduceSub, get_lt hl, hb, so, h.own.len, List.length_map, co_within, c1]

theorem shl_one {k : Nat} (hk : k ≤ 6) : IntKind.i64.wrap (1 * 2 ^ (min k 64)) = 2 ^ k ∧ IntKind.i64.wrap (2 ^ k - 1) = 2 ^ k - 1 := by
  have : k = 0 ∨ k = 1 ∨ k = 2 ∨ k = 3 ∨ k = 4 ∨ k = 5 ∨ k = 6 := by omega
  rcases this with rfl | rfl | rfl | rfl | rfl | rfl | rfl <;> decide

theorem co_isSet {l lm : Nat} {c : Col} {vw vp vo : AV} (h : ShopAt H l c vw vp vo lm) (hw : c.ws.length ≤ 6) (n : Int) : callFL cfg0 prog0 false 56 [.ptr l 0, I n] H none = some ⟨.ret (.bool (wi n 0 (2 ^ c.ws.length - 1))), H, none⟩ := by
  have hl : l < H.length := (List.getElem?_eq_some_iff.1 h.box).1
  have hb := h.box
  obtain ⟨c1, c2⟩ := shl_one hw
  have z : ¬ (c.ws.length : Int) < 0 := by omega
  have so := h.own.scal
  refine (callFL_eq fn56 rfl (by simp [Try.f56])).trans ?_
  simp (implicitDefEqProofs := false) only [go_sem, ↓reduceIte, Nat.reduceEqDiff, Nat.reduceAdd, Nat.reduceLeDiff, Nat.reduceBEq, Nat.reduceMul, Nat.reduceLT, Int.reduceLT, Int.reduceLE, Int.reduceToNat, Int.reduceNeg, Int.reduceEq, Int.reduceMul, reduceCtorEq, Int.reduceBEq, Int.reduceBNe, Int.reduceAdd, Int.reduceSub, get_lt hl, hb, so, h.own.len, List.length_map, co_within, c1, c2, z]

end Go.Ab
/-
  The parts of a length.
-/
namespace Go.Ab
open Go.Proofs
set_option linter.unusedSimpArgs false
set_option linter.unusedVariables false
set_option maxRecDepth 100000

variable {H : Heap}

theorem scal_cells {x : AV} (hx : x.scalar = true) : x.cells = [x] := by cases x <;> first | rfl | cases hx

theorem writeCell {cs : List AV} {j : Nat} {x : AV} {ty : Ty} (hx : x.scalar = true) (hs : ty.size = 1) (hj : j < cs.length) : writePart (.agg cs) j x ty = some (.agg (cs.set j x)) := by
  simp only [writePart, scal_cells hx, allScalar, hx, List.length_cons, List.length_nil, hs, Bool.and_self, Bool.true_and, cells_agg, withCells_agg]
  rw [if_pos (by simp; omega)]
  congr 1
  congr 1
  rw [List.set_eq_take_append_cons_drop, if_pos hj]
  simp [splice]

theorem writeAll {cs ds : List AV} {ty : Ty} (hx : allScalar ds = true) (hs : ty.size = ds.length) (hj : cs.length = ds.length) : writePart (.agg cs) 0 (.agg ds) ty = some (.agg ds) := by
  simp only [writePart, cells_agg, hx, hs, withCells_agg, hj]
  rw [if_pos (by simp)]
  simp [splice, hj]

theorem allScalar_map {α : Type} {f : α → AV} (h : ∀ x, (f x).scalar = true) : ∀ l : List α, allScalar (l.map f) = true
  | [] => rfl
  | x :: r => by simp only [List.map_cons, allScalar, h x, allScalar_map h r, Bool.and_self]

theorem arr6 {l : List Int} (h : l.length = 6) : List.take 6 (l.map I) = l.map I ∧ (l.map I).length = 6 ∧ List.drop 6 (l.map I) = [] ∧ allScalar (l.map I) = true := ⟨List.take_of_length_le (by simp [h]), by simp [h], List.drop_of_length_le (by simp [h]), allScalar_map (fun _ => rfl) _⟩

theorem sealI {N : Nat} : ∀ l : List Int, List.map (sealG H N) (l.map I) = l.map I
  | [] => rfl
  | x :: r => by rw [List.map_cons, List.map_cons, sealI r]; rfl

theorem ltI {N : Nat} (l : List Int) : ltL N (l.map I) = true := ltL_map (fun _ => rfl) l

/-- The parts of a length, as they lie in an array. -/
def ptsA (ws : List Int) (n : Int) : List Int := ws.map (ptZ · n) ++ List.replicate (6 - ws.length) 0

theorem ptsA_len {ws : List Int} {n : Int} (h : ws.length ≤ 6) : (ptsA ws n).length = 6 := by simp [ptsA]; omega

theorem ptsA_step {ws : List Int} {n : Int} {j : Nat} (h : ws.length ≤ 6) (hj : j < ws.length) : (ptsA (ws.take j) n).set j (ptZ ws[j] n) = ptsA (ws.take (j + 1)) n := by
  simp only [ptsA]
  rw [List.set_append_right _ _ (by simp; omega), List.take_succ_eq_append_getElem hj]
  have e : (6 - (List.take j ws).length) = (6 - (List.take j ws ++ [ws[j]]).length) + 1 := by simp; omega
  rw [e, List.replicate_succ, List.map_append, List.append_assoc]
  have e2 : j - (List.map (fun x => ptZ x n) (List.take j ws)).length = 0 := by simp; omega
  rw [e2]
  rfl

theorem ptsA_splice {ws : List Int} {n : Int} {j : Nat} (h : ws.length ≤ 6) (hj : j < ws.length) : List.take j ((ptsA (ws.take j) n).map I) ++ I (ptZ ws[j] n) :: List.drop (j + 1) ((ptsA (ws.take j) n).map I) = (ptsA (ws.take (j + 1)) n).map I := by
  have hl : (ptsA (ws.take j) n).length = 6 := ptsA_len (by rw [List.length_take]; omega)
  rw [← ptsA_step h hj, List.map_set, List.set_eq_take_append_cons_drop, if_pos (by rw [List.length_map, hl]; omega)]

theorem all_take {α : Type} {P : α → Prop} {l : List α} {j : Nat} (hj : j < l.length) (h : ∀ x ∈ l.take j, P x) (hx : P l[j]) : ∀ x ∈ l.take (j + 1), P x := by
  rw [List.take_succ_eq_append_getElem hj]
  intro x hm
  rcases List.mem_append.1 hm with hm | hm
  · exact h x hm
  · rw [List.mem_singleton] at hm; subst hm; exact hx

theorem co_of_loop {l lm : Nat} {c : Col} {vw vp vo : AV} (h : ShopAt H l c vw vp vo lm) (hw : c.ws.length ≤ 6) (n : Int) (hn : wi n 0 2000 = true) :
    ∀ (q j : Nat), j + q = c.ws.length → (∀ w ∈ c.ws.take j, wi w 2 60 = true) → ∀ E : Env, E.get 1 = I n → E.get 4 = .ptr H.length 0 → E.get 13 = vo → E.get 14 = I c.ws.length → E.get 15 = I j →
    Option.map (finishC H.length) (execL cfg0 prog0 ⟨48, none, false, H.length⟩ (todoAt Try.f48 2) ⟨E, [], H ++ [.box (.agg ((ptsA (c.ws.take j) n).map I))], none⟩) =
      some ⟨if c.ws.all (wi · 2 60) then .ret (.agg ((ptsA c.ws n).map I)) else .pan (.iface 115 (.agg [I 1])), H, none⟩ := by
  intro q
  have so := h.own.scal
  induction q with
  | zero =>
    intro j hj ha E g1 g4 g13 g14 g15
    have hk' : ¬ (j : Int) < c.ws.length := by omega
    rw [List.take_of_length_le (by omega)] at ha ⊢
    have hall : c.ws.all (wi · 2 60) = true := by rw [List.all_eq_true]; exact ha
    obtain ⟨t1, t2, t3, t4⟩ := arr6 (ptsA_len (n := n) hw)
    simp only [loopIt, todoPast, todoAt, todoOf, firstReg, ↓reduceIte, Option.some.injEq, Nat.reduceEqDiff, reduceCtorEq, Try.f48]
    rw [execL_inLoop]
    simp (implicitDefEqProofs := false) only [go_sem, ↓reduceIte, Nat.reduceEqDiff, Nat.reduceAdd, Nat.reduceLeDiff, Nat.reduceBEq, Nat.reduceMul, Nat.reduceLT, Int.reduceLT, Int.reduceLE, Int.reduceToNat, Int.reduceNeg, Int.reduceEq, Int.reduceMul, reduceCtorEq, Int.reduceBEq, Int.reduceBNe, Int.reduceAdd, Int.reduceSub, g1, g4, g13, g14, g15, hk', hall, t1, t2, t3, t4, sealI, ltI]
  | succ q ih =>
    intro j hj ha E g1 g4 g13 g14 g15
    have hk' : (j : Int) < c.ws.length := by omega
    have hk2 : j < c.ws.length := by omega
    obtain ⟨a1, a2, a3, a4, a5⟩ := h.own.at (k := (j : Int)) (x := I c.ws[j]) (by omega) (by simp [hk2])
    have hj1 : IntKind.i64.wrap ((j : Int) + 1) = ((j + 1 : Nat) : Int) := by rw [w64 (by omega) (by omega)]; omega
    have hP := fun G : Heap => fr_Part1 c.ws[j] n G
    simp only [oneW] at hP
    simp only [loopIt, todoPast, todoAt, todoOf, firstReg, ↓reduceIte, Option.some.injEq, Nat.reduceEqDiff, reduceCtorEq, Try.f48]
    rw [execL_inLoop]
    have hj6 : ((0 : Int) ≤ (j : Int) ∧ (j : Int) < 6) = True := eq_true ⟨by omega, by omega⟩
    obtain ⟨t1, t2, t3, t4⟩ := arr6 (l := ptsA (c.ws.take j) n) (ptsA_len (by rw [List.length_take]; omega))
    have hj7 : j + 1 ≤ 6 := by omega
    have sp := ptsA_splice (n := n) hw hk2
    rcases Bool.eq_false_or_eq_true (wi c.ws[j] 2 60) with hv | hv
    · simp only [hv, hn, if_true] at hP
      simp (implicitDefEqProofs := false) only [go_sem, ↓reduceIte, Nat.reduceEqDiff, Nat.reduceAdd, Nat.reduceLeDiff, Nat.reduceBEq, Nat.reduceMul, Nat.reduceLT, Int.reduceLT, Int.reduceLE, Int.reduceToNat, Int.reduceNeg, Int.reduceEq, Int.reduceMul, reduceCtorEq, Int.reduceBEq, Int.reduceBNe, Int.reduceAdd, Int.reduceSub, g1, g4, g13, g14, g15, hk', a1, a2, a3, a4, a5, hP, co_must, hj6, Int.toNat_natCast, Nat.mul_one, t1, t2, t3, t4, hj7, sp, hj1]
      exact ih (j + 1) (by omega) (all_take hk2 ha hv) _ (by exact g1) (by exact g4) (by exact g13) (by exact g14) (by rfl)
    · have hall : c.ws.all (wi · 2 60) = false := by rw [List.all_eq_false]; exact ⟨_, List.getElem_mem hk2, by simp [hv]⟩
      simp only [hv, if_false, Bool.false_eq_true] at hP
      simp (implicitDefEqProofs := false) only [go_sem, ↓reduceIte, Nat.reduceEqDiff, Nat.reduceAdd, Nat.reduceLeDiff, Nat.reduceBEq, Nat.reduceMul, Nat.reduceLT, Int.reduceLT, Int.reduceLE, Int.reduceToNat, Int.reduceNeg, Int.reduceEq, Int.reduceMul, reduceCtorEq, Int.reduceBEq, Int.reduceBNe, Int.reduceAdd, Int.reduceSub, g1, g4, g13, g14, g15, hk', a1, a2, a3, a4, a5, hP, co_must, hall]

theorem co_of {l lm : Nat} {c : Col} {vw vp vo : AV} (h : ShopAt H l c vw vp vo lm) (hw : c.ws.length ≤ 6) (n : Int) (hn : wi n 0 2000 = true) :
    callFL cfg0 prog0 false 48 [.ptr l 0, I n] H none = some ⟨if c.ws.all (wi · 2 60) then .ret (.agg ((ptsA c.ws n).map I)) else .pan (.iface 115 (.agg [I 1])), H, none⟩ := by
  have hl : l < H.length := (List.getElem?_eq_some_iff.1 h.box).1
  have hb := h.box
  refine (callFL_eq fn48 rfl (by simp [Try.f48])).trans ?_
  simp (implicitDefEqProofs := false) only [go_sem, ↓reduceIte, Nat.reduceEqDiff, Nat.reduceAdd, Nat.reduceLeDiff, Nat.reduceBEq, Nat.reduceMul, Nat.reduceLT, Int.reduceLT, Int.reduceLE, Int.reduceToNat, Int.reduceNeg, Int.reduceEq, Int.reduceMul, reduceCtorEq, Int.reduceBEq, Int.reduceBNe, Int.reduceAdd, Int.reduceSub, get_lt hl, hb, h.own.len, List.length_map]
  exact (co_of_loop h hw n hn c.ws.length 0 (by omega) (by simp) _ (by rfl) (by rfl) (by rfl) (by rfl) (by rfl))

/-- The set of the numbers below n that f holds of. -/
def maskN (f : Nat → Bool) : Nat → Nat
  | 0 => 0
  | n + 1 => maskN f n ||| (if f n then 2 ^ n else 0)

theorem maskN_lt (f : Nat → Bool) : ∀ n, maskN f n < 2 ^ n
  | 0 => by simp [maskN]
  | n + 1 => by
    have h1 := maskN_lt f n
    have h2 : (2 : Nat) ^ n < 2 ^ (n + 1) := Nat.pow_lt_pow_right (by omega) (by omega)
    simp only [maskN]
    apply Nat.or_lt_two_pow (by omega)
    split <;> omega

theorem maskN_bit (f : Nat → Bool) (i : Nat) : ∀ n, (maskN f n).testBit i = (decide (i < n) && f i)
  | 0 => by simp [maskN]
  | n + 1 => by
    simp only [maskN, Nat.testBit_or, maskN_bit f i n]
    rcases Nat.lt_trichotomy i n with h | h | h
    · have e : (2 ^ n).testBit i = false := by rw [Nat.testBit_two_pow]; simp; omega
      split <;> simp [e, h, Nat.lt_succ_of_lt h]
    · subst h
      cases hf : f i <;> simp
    · have e : (2 ^ n).testBit i = false := by rw [Nat.testBit_two_pow]; simp; omega
      have e2 : ¬ i < n + 1 := by omega
      have e3 : ¬ i < n := by omega
      split <;> simp [e, e2, e3]

/-- A colour parts two lengths. -/
def Col.sep (c : Col) (a b : Int) (i : Nat) : Bool := decide (2 * c.er < apartZ (ptZ (c.ws.getD i 0) a) (ptZ (c.ws.getD i 0) b))

/-- The colours that part two lengths. -/
def Col.mask (c : Col) (a b : Int) : Nat := maskN (c.sep a b) c.ws.length

abbrev U (n : Nat) : AV := .int .u64 (n : Int)

theorem wrapU {n : Nat} (h : n < 18446744073709551616) : IntKind.u64.wrap (n : Int) = n := by
  simp only [IntKind.wrap, IntKind.bits, IntKind.signed]
  have e : (2 : Int) ^ 64 = 18446744073709551616 := by decide
  simp only [e, Bool.false_and]
  simp
  omega

theorem bitsOr {a b : Nat} (ha : a < 2 ^ 63) (hb : b < 2 ^ 63) : bitsOp .or .u64 (a : Int) (b : Int) = some ((a ||| b : Nat) : Int) := by
  have h := Nat.or_lt_two_pow ha hb
  have e : ∀ n : Nat, n < 2 ^ 63 → (BitVec.ofInt 64 (n : Int)).toNat = n := by
    intro n hn
    rw [BitVec.ofInt_natCast, BitVec.toNat_ofNat, Nat.mod_eq_of_lt (by omega)]
  show some (IntKind.u64.wrap (((BitVec.ofInt 64 (a : Int) ||| BitVec.ofInt 64 (b : Int)) : BitVec 64).toNat : Int)) = _
  rw [BitVec.toNat_or, e a ha, e b hb, wrapU (by omega)]

theorem bitsAnd {a b : Nat} (ha : a < 2 ^ 63) (hb : b < 2 ^ 63) : bitsOp .and .u64 (a : Int) (b : Int) = some ((a &&& b : Nat) : Int) := by
  have h : a &&& b ≤ a := Nat.and_le_left
  have e : ∀ n : Nat, n < 2 ^ 63 → (BitVec.ofInt 64 (n : Int)).toNat = n := by
    intro n hn
    rw [BitVec.ofInt_natCast, BitVec.toNat_ofNat, Nat.mod_eq_of_lt (by omega)]
  show some (IntKind.u64.wrap (((BitVec.ofInt 64 (a : Int) &&& BitVec.ofInt 64 (b : Int)) : BitVec 64).toNat : Int)) = _
  rw [BitVec.toNat_and, e a ha, e b hb, wrapU (by omega)]

theorem shlU {k : Nat} (hk : k ≤ 6) : IntKind.u64.wrap (1 * 2 ^ (min k 64)) = ((2 ^ k : Nat) : Int) := by
  have : k = 0 ∨ k = 1 ∨ k = 2 ∨ k = 3 ∨ k = 4 ∨ k = 5 ∨ k = 6 := by omega
  rcases this with rfl | rfl | rfl | rfl | rfl | rfl | rfl <;> decide

theorem co_parting_loop {l lm : Nat} {c : Col} {vw vp vo : AV} (h : ShopAt H l c vw vp vo lm) (hw : c.ws.length ≤ 6) (he : 0 ≤ c.er ∧ c.er ≤ 4) (hws : ∀ w ∈ c.ws, 1 ≤ w) (x y : Int) :
    ∀ (q j : Nat), j + q = c.ws.length → ∀ E : Env, E.get 0 = .ptr l 0 → E.get 4 = .ptr H.length 0 → E.get 5 = .ptr (H.length + 1) 0 → E.get 6 = U (maskN (c.sep x y) j) → E.get 13 = I c.ws.length → E.get 14 = I j →
    Option.map (finishC H.length) (execL cfg0 prog0 ⟨57, none, false, H.length⟩ (todoAt Try.f57 2) ⟨E, [], H ++ [.box (.agg ((ptsA c.ws x).map I)), .box (.agg ((ptsA c.ws y).map I))], none⟩) =
      some ⟨.ret (U (c.mask x y)), H, none⟩ := by
  intro q
  have hl : l < H.length := (List.getElem?_eq_some_iff.1 h.box).1
  have hb := h.box
  induction q with
  | zero =>
    intro j hj E g0 g4 g5 g6 g13 g14
    have hk' : ¬ (j : Int) < c.ws.length := by omega
    have hjl : j = c.ws.length := by omega
    subst hjl
    simp only [loopIt, todoPast, todoAt, todoOf, firstReg, ↓reduceIte, Option.some.injEq, Nat.reduceEqDiff, reduceCtorEq, Try.f57]
    rw [execL_inLoop]
    simp (implicitDefEqProofs := false) only [go_sem, ↓reduceIte, Nat.reduceEqDiff, Nat.reduceAdd, Nat.reduceLeDiff, Nat.reduceBEq, Nat.reduceMul, Nat.reduceLT, Int.reduceLT, Int.reduceLE, Int.reduceToNat, Int.reduceNeg, Int.reduceEq, Int.reduceMul, reduceCtorEq, Int.reduceBEq, Int.reduceBNe, Int.reduceAdd, Int.reduceSub, g0, g4, g5, g6, g13, g14, hk', Col.mask]
  | succ q ih =>
    intro j hj E g0 g4 g5 g6 g13 g14
    have hk' : (j : Int) < c.ws.length := by omega
    have hk2 : j < c.ws.length := by omega
    have hj1 : IntKind.i64.wrap ((j : Int) + 1) = ((j + 1 : Nat) : Int) := by rw [w64 (by omega) (by omega)]; omega
    have hj6 : ((0 : Int) ≤ (j : Int) ∧ (j : Int) < 6) = True := eq_true ⟨by omega, by omega⟩
    have hmap : ∀ z : Int, (List.map I (ptsA c.ws z))[j]? = some (I (ptZ c.ws[j] z)) := by
      intro z
      rw [List.getElem?_map, ptsA, List.getElem?_append_left (by simp; omega)]
      simp [hk2]
    have bd := fun z => ptZ_bd (w := c.ws[j]) (n := z) (hws _ (List.getElem_mem hk2))
    have hA := fun G : Heap => co_apart (ptZ c.ws[j] x) (ptZ c.ws[j] y) (bd x) (bd y) G
    have e1 : IntKind.i64.wrap (2 * c.er) = 2 * c.er := w64 (by omega) (by omega)
    have hs : c.sep x y j = decide (2 * c.er < apartZ (ptZ c.ws[j] x) (ptZ c.ws[j] y)) := by simp [Col.sep, hk2]
    have hsl := shlU (k := j) (by omega)
    have hm := maskN_lt (c.sep x y) j
    have hor := bitsOr (a := maskN (c.sep x y) j) (b := 2 ^ j) (Nat.lt_of_lt_of_le hm (Nat.pow_le_pow_right (by omega) (by omega))) (Nat.pow_lt_pow_right (by omega) (by omega))
    have hz : ¬ (j : Int) < 0 := by omega
    simp only [loopIt, todoPast, todoAt, todoOf, firstReg, ↓reduceIte, Option.some.injEq, Nat.reduceEqDiff, reduceCtorEq, Try.f57]
    rw [execL_inLoop]
    simp (implicitDefEqProofs := false) only [go_sem, ↓reduceIte, Nat.reduceEqDiff, Nat.reduceAdd, Nat.reduceLeDiff, Nat.reduceBEq, Nat.reduceMul, Nat.reduceLT, Int.reduceLT, Int.reduceLE, Int.reduceToNat, Int.reduceNeg, Int.reduceEq, Int.reduceMul, reduceCtorEq, Int.reduceBEq, Int.reduceBNe, Int.reduceAdd, Int.reduceSub, g0, g4, g5, g6, g13, g14, hk', hj6, Int.toNat_natCast, Nat.mul_one, hmap]
    rw [chkK_of]; rotate_left; kernel_rfl
    simp (implicitDefEqProofs := false) only [go_sem, ↓reduceIte, Nat.reduceEqDiff, Nat.reduceAdd, Nat.reduceLeDiff, Nat.reduceBEq, Nat.reduceMul, Nat.reduceLT, Int.reduceLT, Int.reduceLE, Int.reduceToNat, Int.reduceNeg, Int.reduceEq, Int.reduceMul, reduceCtorEq, Int.reduceBEq, Int.reduceBNe, Int.reduceAdd, Int.reduceSub, g0, g4, g5, g6, g13, g14, hk', hj6, Int.toNat_natCast, Nat.mul_one, hmap, get_lt hl, hb, hA, e1, gslOf_ptr]
    by_cases hc : 2 * c.er < apartZ (ptZ c.ws[j] x) (ptZ c.ws[j] y)
    · simp (implicitDefEqProofs := false) only [go_sem, ↓reduceIte, Nat.reduceEqDiff, Nat.reduceAdd, Nat.reduceLeDiff, Nat.reduceBEq, Nat.reduceMul, Nat.reduceLT, Int.reduceLT, Int.reduceLE, Int.reduceToNat, Int.reduceNeg, Int.reduceEq, Int.reduceMul, reduceCtorEq, Int.reduceBEq, Int.reduceBNe, Int.reduceAdd, Int.reduceSub, g0, g4, g5, g6, g13, g14, hc, hj1, hsl, hor, hz]
      exact ih (j + 1) (by omega) _ (by exact g0) (by exact g4) (by exact g5) (by rw [maskN, hs]; simp only [hc, decide_true, if_true]; rfl) (by exact g13) (by rfl)
    · simp (implicitDefEqProofs := false) only [go_sem, ↓reduceIte, Nat.reduceEqDiff, Nat.reduceAdd, Nat.reduceLeDiff, Nat.reduceBEq, Nat.reduceMul, Nat.reduceLT, Int.reduceLT, Int.reduceLE, Int.reduceToNat, Int.reduceNeg, Int.reduceEq, Int.reduceMul, reduceCtorEq, Int.reduceBEq, Int.reduceBNe, Int.reduceAdd, Int.reduceSub, g0, g4, g5, g6, g13, g14, hc, hj1, hsl, hor, hz]
      exact ih (j + 1) (by omega) _ (by exact g0) (by exact g4) (by exact g5) (by rw [maskN, hs]; simp only [hc, decide_false, Bool.false_eq_true, if_false, Nat.or_zero]; exact g6) (by exact g13) (by rfl)

theorem co_parting {l lm : Nat} {c : Col} {vw vp vo : AV} (h : ShopAt H l c vw vp vo lm) (hw : c.ws.length ≤ 6) (he : 0 ≤ c.er ∧ c.er ≤ 4) (hws : ∀ w ∈ c.ws, 1 ≤ w) (x y : Int) :
    callFL cfg0 prog0 false 57 [.ptr l 0, .agg ((ptsA c.ws x).map I), .agg ((ptsA c.ws y).map I)] H none = some ⟨.ret (U (c.mask x y)), H, none⟩ := by
  have hl : l < H.length := (List.getElem?_eq_some_iff.1 h.box).1
  have hb := h.box
  obtain ⟨t1, t2, t3, t4⟩ := arr6 (ptsA_len (n := x) hw)
  obtain ⟨u1, u2, u3, u4⟩ := arr6 (ptsA_len (n := y) hw)
  refine (callFL_eq fn57 rfl (by simp [Try.f57])).trans ?_
  simp (implicitDefEqProofs := false) only [go_sem, ↓reduceIte, Nat.reduceEqDiff, Nat.reduceAdd, Nat.reduceLeDiff, Nat.reduceBEq, Nat.reduceMul, Nat.reduceLT, Int.reduceLT, Int.reduceLE, Int.reduceToNat, Int.reduceNeg, Int.reduceEq, Int.reduceMul, reduceCtorEq, Int.reduceBEq, Int.reduceBNe, Int.reduceAdd, Int.reduceSub, get_lt hl, hb, h.own.len, List.length_map, t1, t2, t3, t4, u1, u2, u3, u4]
  exact (co_parting_loop h hw he hws x y c.ws.length 0 (by omega) _ (by rfl) (by rfl) (by rfl) (by rfl) (by rfl) (by rfl))

end Go.Ab
/-
  Plain loops: what a loop with an early end finds, and what a loop gathers.
-/
namespace Go.Ab
set_option linter.unusedSimpArgs false
set_option linter.unusedVariables false

/-- Does f hold of one of the q numbers from j on? -/
def anyF (f : Nat → Bool) : Nat → Nat → Bool
  | _, 0 => false
  | j, q + 1 => f j || anyF f (j + 1) q

/-- The first that f yields, of the q numbers from j on. -/
def findF {α : Type} (f : Nat → Option α) : Nat → Nat → Option α
  | _, 0 => none
  | j, q + 1 => match f j with
    | some x => some x
    | none => findF f (j + 1) q

/-- What is gathered over the q numbers from j on. -/
def foldF {β : Type} (g : β → Nat → β) : β → Nat → Nat → β
  | b, _, 0 => b
  | b, j, q + 1 => foldF g (g b j) (j + 1) q

theorem anyF_iff (f : Nat → Bool) : ∀ (q j : Nat), anyF f j q = true ↔ ∃ i, j ≤ i ∧ i < j + q ∧ f i = true
  | 0, j => by simp [anyF]; intro x h1 h2; omega
  | q + 1, j => by
    simp only [anyF, Bool.or_eq_true, anyF_iff f q (j + 1)]
    constructor
    · rintro (h | ⟨i, h1, h2, h3⟩)
      · exact ⟨j, by omega, by omega, h⟩
      · exact ⟨i, by omega, by omega, h3⟩
    · rintro ⟨i, h1, h2, h3⟩
      by_cases e : i = j
      · subst e; exact .inl h3
      · exact .inr ⟨i, by omega, by omega, h3⟩

theorem anyF_false (f : Nat → Bool) (q j : Nat) : anyF f j q = false ↔ ∀ i, j ≤ i → i < j + q → f i = false := by
  rw [← Bool.not_eq_true, anyF_iff]
  constructor
  · intro h i h1 h2
    rw [← Bool.not_eq_true]
    intro h3
    exact h ⟨i, h1, h2, h3⟩
  · rintro h ⟨i, h1, h2, h3⟩
    rw [h i h1 h2] at h3
    cases h3

theorem findF_none {α : Type} (f : Nat → Option α) : ∀ (q j : Nat), findF f j q = none ↔ ∀ i, j ≤ i → i < j + q → f i = none
  | 0, j => by simp [findF]; intro i h1 h2; omega
  | q + 1, j => by
    simp only [findF]
    cases h : f j with
    | some x =>
      simp only [reduceCtorEq, false_iff]
      intro h2
      have := h2 j (by omega) (by omega)
      rw [h] at this; cases this
    | none =>
      simp only
      rw [findF_none f q (j + 1)]
      constructor
      · intro h2 i h3 h4
        by_cases e : i = j
        · subst e; exact h
        · exact h2 i (by omega) (by omega)
      · intro h2 i h3 h4
        exact h2 i (by omega) (by omega)

theorem findF_some {α : Type} (f : Nat → Option α) (x : α) : ∀ (q j : Nat), findF f j q = some x ↔ ∃ i, j ≤ i ∧ i < j + q ∧ f i = some x ∧ ∀ k, j ≤ k → k < i → f k = none
  | 0, j => by
    simp only [findF, reduceCtorEq, false_iff]
    rintro ⟨i, h1, h2, -⟩; omega
  | q + 1, j => by
    simp only [findF]
    cases h : f j with
    | some y =>
      simp only [Option.some.injEq]
      constructor
      · rintro rfl
        exact ⟨j, by omega, by omega, h, fun k h1 h2 => by omega⟩
      · rintro ⟨i, h1, h2, h3, h4⟩
        by_cases e : i = j
        · subst e; rw [h] at h3; injection h3
        · have := h4 j (by omega) (by omega)
          rw [h] at this; cases this
    | none =>
      simp only
      rw [findF_some f x q (j + 1)]
      constructor
      · rintro ⟨i, h1, h2, h3, h4⟩
        refine ⟨i, by omega, by omega, h3, fun k h5 h6 => ?_⟩
        by_cases e : k = j
        · subst e; exact h
        · exact h4 k (by omega) h6
      · rintro ⟨i, h1, h2, h3, h4⟩
        have : i ≠ j := by rintro rfl; rw [h] at h3; cases h3
        exact ⟨i, by omega, by omega, h3, fun k h5 h6 => h4 k (by omega) h6⟩

theorem foldF_inv {β : Type} (g : β → Nat → β) (P : Nat → β → Prop) : ∀ (q j : Nat) (b : β), P j b → (∀ i b, j ≤ i → i < j + q → P i b → P (i + 1) (g b i)) → P (j + q) (foldF g b j q)
  | 0, j, b, h, _ => by simpa [foldF] using h
  | q + 1, j, b, h, hs => by
    have := foldF_inv g P q (j + 1) (g b j) (hs j b (by omega) (by omega) h) (fun i b h1 h2 => hs i b (by omega) (by omega))
    rw [show j + (q + 1) = j + 1 + q by omega]
    exact this

theorem foldF_snoc {β : Type} (g : β → Nat → β) : ∀ (q j : Nat) (b : β), foldF g b j (q + 1) = g (foldF g b j q) (j + q)
  | 0, j, b => by simp [foldF]
  | q + 1, j, b => by
    rw [foldF, foldF_snoc g q (j + 1) (g b j)]
    rw [show j + 1 + q = j + (q + 1) by omega]
    rfl

theorem foldF_congr {β : Type} {g g' : β → Nat → β} : ∀ (q j : Nat) (b : β), (∀ i b, j ≤ i → i < j + q → g b i = g' b i) → foldF g b j q = foldF g' b j q
  | 0, _, _, _ => rfl
  | q + 1, j, b, h => by
    rw [foldF, foldF, h j b (by omega) (by omega)]
    exact foldF_congr q (j + 1) _ (fun i b h1 h2 => h i b (by omega) (by omega))

end Go.Ab
/-
  The references of the layer colour: numbers, sets, what is valid.
-/
namespace Go.Ab
open Go.Proofs
set_option linter.unusedSimpArgs false
set_option linter.unusedVariables false
set_option maxRecDepth 100000

variable {H : Heap}

theorem ref_power_loop (n : Nat) (hn : n ≤ 60) :
    ∀ (q j : Nat), j + q = n → ∀ E : Env, E.get 0 = I n → E.get 3 = I (2 ^ j : Nat) → E.get 4 = I j →
    Option.map (finishC H.length) (execL cfg0 prog0 ⟨78, none, false, H.length⟩ (todoAt Try.f78 3) ⟨E, [], H, none⟩) = some ⟨.ret (I (2 ^ n : Nat)), H, none⟩ := by
  intro q
  induction q with
  | zero =>
    intro j hj  E g0 g3 g4
    have hk' : ¬ (j : Int) < ((n : Nat) : Int) := by omega
    have hjn : j = n := by omega
    subst hjn
    simp only [loopIt, todoPast, todoAt, todoOf, firstReg, ↓reduceIte, Option.some.injEq, Nat.reduceEqDiff, reduceCtorEq, Try.f78]
    rw [execL_inLoop]
    simp (maxSteps := 1000000) (implicitDefEqProofs := false) (disch := first | rfl | omega | assumption) only [go_sem, ↓reduceIte, Nat.reduceEqDiff, Nat.reduceAdd, Nat.reduceLeDiff, Nat.reduceBEq, Nat.reduceMul, Nat.reduceLT, Int.reduceLT, Int.reduceLE, Int.reduceToNat, Int.reduceNeg, Int.reduceEq, Int.reduceMul, reduceCtorEq, Int.reduceBEq, Int.reduceBNe, Int.reduceAdd, Int.reduceSub, g0, g3, g4, ltT, ltF, leT, leF, hk']
  | succ q ih =>
    intro j hj  E g0 g3 g4
    have hk' : (j : Int) < ((n : Nat) : Int) := by omega
    have hk2 : j < n := by omega
    have hp : (2 : Nat) ^ j ≤ 2 ^ 60 := Nat.pow_le_pow_right (by omega) (by omega)
    have hp2 : (2 : Nat) ^ (j + 1) = 2 * 2 ^ j := by rw [Nat.pow_succ]; omega
    simp only [loopIt, todoPast, todoAt, todoOf, firstReg, ↓reduceIte, Option.some.injEq, Nat.reduceEqDiff, reduceCtorEq, Try.f78]
    rw [execL_inLoop]
    simp (maxSteps := 1000000) (implicitDefEqProofs := false) (disch := first | rfl | omega | assumption) only [go_sem, ↓reduceIte, Nat.reduceEqDiff, Nat.reduceAdd, Nat.reduceLeDiff, Nat.reduceBEq, Nat.reduceMul, Nat.reduceLT, Int.reduceLT, Int.reduceLE, Int.reduceToNat, Int.reduceNeg, Int.reduceEq, Int.reduceMul, reduceCtorEq, Int.reduceBEq, Int.reduceBNe, Int.reduceAdd, Int.reduceSub, g0, g3, g4, ltT, ltF, leT, leF, hk']
    exact ih (j + 1) (by omega) _ (by exact g0) (by rw [hp2]; rfl) (by rfl)

theorem ref_power (n : Nat) (hn : n ≤ 60) : callFL cfg0 prog0 false 78 [I n] H none = some ⟨.ret (I (2 ^ n : Nat)), H, none⟩ := by
  refine (callFL_eq fn78 rfl (by simp [Try.f78])).trans ?_
  simp (maxSteps := 1000000) (implicitDefEqProofs := false) (disch := first | rfl | omega | assumption) only [go_sem, ↓reduceIte, Nat.reduceEqDiff, Nat.reduceAdd, Nat.reduceLeDiff, Nat.reduceBEq, Nat.reduceMul, Nat.reduceLT, Int.reduceLT, Int.reduceLE, Int.reduceToNat, Int.reduceNeg, Int.reduceEq, Int.reduceMul, reduceCtorEq, Int.reduceBEq, Int.reduceBNe, Int.reduceAdd, Int.reduceSub, ltT, ltF, leT, leF]
  exact ref_power_loop n hn n 0 (by omega) _ (by rfl) (by rfl) (by rfl)

theorem ref_Has (s k : Nat) (hk : k ≤ 20) (hs : s < 1000000) : callFL cfg0 prog0 false 77 [I s, I k] H none = some ⟨.ret (.bool (s.testBit k)), H, none⟩ := by
  have h1 := ref_power (H := H) k (by omega)
  have hp := Nat.pow_pos (n := k) (show 0 < 2 by omega)
  have t1 : (s : Int).tdiv (2 ^ k : Nat) = (s / 2 ^ k : Nat) := by rw [Int.tdiv_eq_ediv_of_nonneg (Int.natCast_nonneg _)]; rfl
  have z : ¬ ((2 ^ k : Nat) : Int) = 0 := by omega
  have t2 : ((s / 2 ^ k : Nat) : Int).tmod 2 = ((s / 2 ^ k % 2 : Nat) : Int) := by rw [Int.tmod_eq_emod_of_nonneg (Int.natCast_nonneg _)]; rfl
  have b1 : s / 2 ^ k ≤ s := Nat.div_le_self _ _
  have b2 : 0 ≤ ((s / 2 ^ k : Nat) : Int) ∧ ((s / 2 ^ k : Nat) : Int) < 1000000 := ⟨Int.natCast_nonneg _, Int.ofNat_lt.2 (Nat.lt_of_le_of_lt b1 hs)⟩
  have e : (((s / 2 ^ k % 2 : Nat) : Int) == 1) = s.testBit k := by
    rw [Nat.testBit_eq_decide_div_mod_eq]
    have : s / 2 ^ k % 2 = 0 ∨ s / 2 ^ k % 2 = 1 := by omega
    rcases this with h | h <;> rw [h] <;> rfl
  refine (callFL_eq fn77 rfl (by simp [Try.f77])).trans ?_
  simp (maxSteps := 1000000) (implicitDefEqProofs := false) (disch := first | rfl | omega | assumption) only [go_sem, ↓reduceIte, Nat.reduceEqDiff, Nat.reduceAdd, Nat.reduceLeDiff, Nat.reduceBEq, Nat.reduceMul, Nat.reduceLT, Int.reduceLT, Int.reduceLE, Int.reduceToNat, Int.reduceNeg, Int.reduceEq, Int.reduceMul, reduceCtorEq, Int.reduceBEq, Int.reduceBNe, Int.reduceAdd, Int.reduceSub, ltT, ltF, leT, leF, h1, t1, z, t2, e]

/-- A colour, as it is handed over. -/
def Col.av (c : Col) (vw vp : AV) : AV := .agg [vw, vp, I c.lo, I c.hi, I c.ev, I c.er]

/-- The slices of a colour. -/
structure ColAt (H : Heap) (c : Col) (vw vp : AV) : Prop where
  ws : SlOk H 1 vw (c.ws.map I)
  ps : SlOk H 1 vp (c.ps.map I)

theorem ColAt.app {c : Col} {vw vp : AV} (h : ColAt H c vw vp) (G : Heap) : ColAt (H ++ G) c vw vp := ⟨h.ws.app G, h.ps.app G⟩

/-- What a colour is valid for, but its lists. -/
def Col.nums (c : Col) : Bool := decide (0 ≤ c.lo) && (decide (c.lo ≤ c.hi) && (decide (c.hi ≤ 2000) && (decide (c.hi - c.lo ≤ 200) && (wi c.ev 1 20 && wi c.er 0 4))))

def Col.okAt (c : Col) (i : Nat) : Bool := wi (c.ws.getD i 0) 2 60 && wi (c.ps.getD i 0) 0 50

def Col.lens2 (c : Col) : Bool := wi c.ws.length 1 6 && ((c.ps.length : Int) == c.ws.length)

/-- A colour is valid. -/
def Col.valid (c : Col) : Bool := c.lens2 && (!anyF (fun i => !c.okAt i) 0 c.ws.length && c.nums)

theorem ref_Number {c : Col} {vw vp : AV} (h : ColAt H c vw vp) (hw : c.ws.length ≤ 1000) (n : Int) : callFL cfg0 prog0 false 51 [c.av vw vp, I n] H none = some ⟨.ret (.bool (wi n 0 (c.ws.length - 1))), H, none⟩ := by
  have s1 := h.ws.scal
  have s2 := h.ps.scal
  simp only [Col.av]
  refine (callFL_eq fn51 rfl (by simp [Try.f51])).trans ?_
  simp (maxSteps := 1000000) (implicitDefEqProofs := false) (disch := first | rfl | omega | assumption) only [go_sem, ↓reduceIte, Nat.reduceEqDiff, Nat.reduceAdd, Nat.reduceLeDiff, Nat.reduceBEq, Nat.reduceMul, Nat.reduceLT, Int.reduceLT, Int.reduceLE, Int.reduceToNat, Int.reduceNeg, Int.reduceEq, Int.reduceMul, reduceCtorEq, Int.reduceBEq, Int.reduceBNe, Int.reduceAdd, Int.reduceSub, ltT, ltF, leT, leF, s1, s2, h.ws.len, ref_in]

theorem ref_All {c : Col} {vw vp : AV} (h : ColAt H c vw vp) (hw : c.ws.length ≤ 60) : callFL cfg0 prog0 false 98 [c.av vw vp] H none = some ⟨.ret (I ((2 ^ c.ws.length : Nat) - 1)), H, none⟩ := by
  have s1 := h.ws.scal
  have s2 := h.ps.scal
  have hp : (2 : Nat) ^ c.ws.length ≤ 2 ^ 60 := Nat.pow_le_pow_right (by omega) (by omega)
  have h1 := fun G : Heap => ref_power (H := G) c.ws.length hw
  have b2 : 0 ≤ ((2 ^ c.ws.length : Nat) : Int) ∧ ((2 ^ c.ws.length : Nat) : Int) ≤ 2 ^ 60 := ⟨Int.natCast_nonneg _, Int.ofNat_le.2 hp⟩
  simp only [Col.av]
  refine (callFL_eq fn98 rfl (by simp [Try.f98])).trans ?_
  simp (maxSteps := 1000000) (implicitDefEqProofs := false) (disch := first | rfl | omega | assumption) only [go_sem, ↓reduceIte, Nat.reduceEqDiff, Nat.reduceAdd, Nat.reduceLeDiff, Nat.reduceBEq, Nat.reduceMul, Nat.reduceLT, Int.reduceLT, Int.reduceLE, Int.reduceToNat, Int.reduceNeg, Int.reduceEq, Int.reduceMul, reduceCtorEq, Int.reduceBEq, Int.reduceBNe, Int.reduceAdd, Int.reduceSub, ltT, ltF, leT, leF, s1, s2, h.ws.len, h1]

theorem ref_Set {c : Col} {vw vp : AV} (h : ColAt H c vw vp) (hw : c.ws.length ≤ 60) (n : Int) : callFL cfg0 prog0 false 58 [c.av vw vp, I n] H none = some ⟨.ret (.bool (wi n 0 ((2 ^ c.ws.length : Nat) - 1))), H, none⟩ := by
  have s1 := h.ws.scal
  have s2 := h.ps.scal
  have h1 := fun G : Heap => ref_All (h.app G) hw
  simp only [Col.av] at h1 ⊢
  refine (callFL_eq fn58 rfl (by simp [Try.f58])).trans ?_
  simp (maxSteps := 1000000) (implicitDefEqProofs := false) (disch := first | rfl | omega | assumption) only [go_sem, ↓reduceIte, Nat.reduceEqDiff, Nat.reduceAdd, Nat.reduceLeDiff, Nat.reduceBEq, Nat.reduceMul, Nat.reduceLT, Int.reduceLT, Int.reduceLE, Int.reduceToNat, Int.reduceNeg, Int.reduceEq, Int.reduceMul, reduceCtorEq, Int.reduceBEq, Int.reduceBNe, Int.reduceAdd, Int.reduceSub, ltT, ltF, leT, leF, s1, s2, h1, ref_in]

theorem ref_Colour_loop {c : Col} {vw vp : AV} (h : ColAt H c vw vp) (hw : c.ws.length ≤ 6) (hp : c.ps.length = c.ws.length) :
    ∀ (q j : Nat), j + q = c.ws.length → ∀ E : Env, E.get 1 = .ptr H.length 0 → E.get 3 = I j →
    Option.map (finishC H.length) (execL cfg0 prog0 ⟨34, none, false, H.length⟩ (todoAt Try.f34 4) ⟨E, [], H ++ [.box (c.av vw vp)], none⟩) = some ⟨.ret (.bool (!anyF (fun i => !c.okAt i) j q && c.nums)), H, none⟩ := by
  intro q
  have s1 := h.ws.scal
  have s2 := h.ps.scal
  obtain ⟨a1, a2, a3, a4⟩ := h.ws.fI
  obtain ⟨b1, b2, b3, b4⟩ := h.ps.fI
  simp only [Col.av]
  induction q with
  | zero =>
    intro j hj  E g1 g3
    have hk' : ¬ (j : Int) < ((c.ws.length : Nat) : Int) := by omega
    simp only [loopIt, todoPast, todoAt, todoOf, firstReg, ↓reduceIte, Option.some.injEq, Nat.reduceEqDiff, reduceCtorEq, Try.f34]
    rw [execL_inLoop]
    simp (maxSteps := 1000000) (implicitDefEqProofs := false) (disch := first | rfl | omega | assumption) only [go_sem, ↓reduceIte, Nat.reduceEqDiff, Nat.reduceAdd, Nat.reduceLeDiff, Nat.reduceBEq, Nat.reduceMul, Nat.reduceLT, Int.reduceLT, Int.reduceLE, Int.reduceToNat, Int.reduceNeg, Int.reduceEq, Int.reduceMul, reduceCtorEq, Int.reduceBEq, Int.reduceBNe, Int.reduceAdd, Int.reduceSub, g1, g3, ltT, ltF, leT, leF, hk', s1, s2, h.ws.len, anyF, ref_in, Col.nums]
    repeat' ((with_reducible first
        | refine cond_ifb (fun hc hd he => ?_) (fun hc hd he => ?_)
        | refine guard_ifb (fun hc hd he => ?_) (fun hc hd he => ?_)
        | refine cond_dec (fun hc hd he => ?_) (fun hc hd he => ?_)
        | refine guard_dec (fun hc hd he => ?_) (fun hc hd he => ?_)
        | refine cond_ndec (fun hc hd he => ?_) (fun hc hd he => ?_)
        | refine guard_ndec (fun hc hd he => ?_) (fun hc hd he => ?_)
        | refine cond_not (fun hc hd he => ?_) (fun hc hd he => ?_)
        | refine guard_not (fun hc hd he => ?_) (fun hc hd he => ?_)
        | refine cond_beq (fun hc hd he => ?_) (fun hc hd he => ?_)
        | refine guard_beq (fun hc hd he => ?_) (fun hc hd he => ?_)
        | refine cond_bne (fun hc hd he => ?_) (fun hc hd he => ?_)
        | refine guard_bne (fun hc hd he => ?_) (fun hc hd he => ?_)
        | refine cond_split (fun hc hd he => ?_) (fun hc hd he => ?_)
        | refine guard_split (fun hc hd he => ?_) (fun hc hd he => ?_)
        | refine call_beq (fun hc hd he => ?_) (fun hc hd he => ?_)
        | refine call_ifb (fun hc hd he => ?_) (fun hc hd he => ?_)
        | refine call_ifd (fun hc hd he => ?_) (fun hc hd he => ?_)
        | refine call_dec (fun hc hd he => ?_) (fun hc hd he => ?_)) <;> try simp (maxSteps := 1000000) (implicitDefEqProofs := false) (disch := first | rfl | omega | assumption) only [go_sem, ↓reduceIte, Nat.reduceEqDiff, Nat.reduceAdd, Nat.reduceLeDiff, Nat.reduceBEq, Nat.reduceMul, Nat.reduceLT, Int.reduceLT, Int.reduceLE, Int.reduceToNat, Int.reduceNeg, Int.reduceEq, Int.reduceMul, reduceCtorEq, Int.reduceBEq, Int.reduceBNe, Int.reduceAdd, Int.reduceSub, g1, g3, ltT, ltF, leT, leF, hk', hc, he, s1, s2, h.ws.len, anyF, ref_in, Col.nums])
  | succ q ih =>
    intro j hj  E g1 g3
    have hk' : (j : Int) < ((c.ws.length : Nat) : Int) := by omega
    have hk2 : j < c.ws.length := by omega
    simp only [anyF, Col.okAt]
    simp only [loopIt, todoPast, todoAt, todoOf, firstReg, ↓reduceIte, Option.some.injEq, Nat.reduceEqDiff, reduceCtorEq, Try.f34]
    rw [execL_inLoop]
    simp (maxSteps := 1000000) (implicitDefEqProofs := false) (disch := first | rfl | omega | assumption) only [go_sem, ↓reduceIte, Nat.reduceEqDiff, Nat.reduceAdd, Nat.reduceLeDiff, Nat.reduceBEq, Nat.reduceMul, Nat.reduceLT, Int.reduceLT, Int.reduceLE, Int.reduceToNat, Int.reduceNeg, Int.reduceEq, Int.reduceMul, reduceCtorEq, Int.reduceBEq, Int.reduceBNe, Int.reduceAdd, Int.reduceSub, g1, g3, ltT, ltF, leT, leF, hk', s1, s2, h.ws.len, h.ps.len, a1, a2, a3, a4, b1, b2, b3, b4, ref_in]
    repeat' ((with_reducible first
        | refine cond_ifb (fun hc hd he => ?_) (fun hc hd he => ?_)
        | refine guard_ifb (fun hc hd he => ?_) (fun hc hd he => ?_)
        | refine cond_dec (fun hc hd he => ?_) (fun hc hd he => ?_)
        | refine guard_dec (fun hc hd he => ?_) (fun hc hd he => ?_)
        | refine cond_ndec (fun hc hd he => ?_) (fun hc hd he => ?_)
        | refine guard_ndec (fun hc hd he => ?_) (fun hc hd he => ?_)
        | refine cond_not (fun hc hd he => ?_) (fun hc hd he => ?_)
        | refine guard_not (fun hc hd he => ?_) (fun hc hd he => ?_)
        | refine cond_beq (fun hc hd he => ?_) (fun hc hd he => ?_)
        | refine guard_beq (fun hc hd he => ?_) (fun hc hd he => ?_)
        | refine cond_bne (fun hc hd he => ?_) (fun hc hd he => ?_)
        | refine guard_bne (fun hc hd he => ?_) (fun hc hd he => ?_)
        | refine cond_split (fun hc hd he => ?_) (fun hc hd he => ?_)
        | refine guard_split (fun hc hd he => ?_) (fun hc hd he => ?_)
        | refine call_beq (fun hc hd he => ?_) (fun hc hd he => ?_)
        | refine call_ifb (fun hc hd he => ?_) (fun hc hd he => ?_)
        | refine call_ifd (fun hc hd he => ?_) (fun hc hd he => ?_)
        | refine call_dec (fun hc hd he => ?_) (fun hc hd he => ?_)) <;> try simp (maxSteps := 1000000) (implicitDefEqProofs := false) (disch := first | rfl | omega | assumption) only [go_sem, ↓reduceIte, Nat.reduceEqDiff, Nat.reduceAdd, Nat.reduceLeDiff, Nat.reduceBEq, Nat.reduceMul, Nat.reduceLT, Int.reduceLT, Int.reduceLE, Int.reduceToNat, Int.reduceNeg, Int.reduceEq, Int.reduceMul, reduceCtorEq, Int.reduceBEq, Int.reduceBNe, Int.reduceAdd, Int.reduceSub, g1, g3, ltT, ltF, leT, leF, hk', hc, he, s1, s2, h.ws.len, h.ps.len, a1, a2, a3, a4, b1, b2, b3, b4, ref_in])
    exact ih (j + 1) (by omega) _ (by exact g1) (by rfl)

theorem ref_Colour {c : Col} {vw vp : AV} (h : ColAt H c vw vp) : callFL cfg0 prog0 false 34 [c.av vw vp] H none = some ⟨.ret (.bool c.valid), H, none⟩ := by
  have s1 := h.ws.scal
  have s2 := h.ps.scal
  simp only [Col.av]
  refine (callFL_eq fn34 rfl (by simp [Try.f34])).trans ?_
  simp (maxSteps := 1000000) (implicitDefEqProofs := false) (disch := first | rfl | omega | assumption) only [go_sem, ↓reduceIte, Nat.reduceEqDiff, Nat.reduceAdd, Nat.reduceLeDiff, Nat.reduceBEq, Nat.reduceMul, Nat.reduceLT, Int.reduceLT, Int.reduceLE, Int.reduceToNat, Int.reduceNeg, Int.reduceEq, Int.reduceMul, reduceCtorEq, Int.reduceBEq, Int.reduceBNe, Int.reduceAdd, Int.reduceSub, ltT, ltF, leT, leF, s1, s2, h.ws.len, h.ps.len, ref_in, Col.valid, Col.lens2]
  repeat' ((with_reducible first
      | refine cond_ifb (fun hc hd he => ?_) (fun hc hd he => ?_)
      | refine guard_ifb (fun hc hd he => ?_) (fun hc hd he => ?_)
      | refine cond_dec (fun hc hd he => ?_) (fun hc hd he => ?_)
      | refine guard_dec (fun hc hd he => ?_) (fun hc hd he => ?_)
      | refine cond_ndec (fun hc hd he => ?_) (fun hc hd he => ?_)
      | refine guard_ndec (fun hc hd he => ?_) (fun hc hd he => ?_)
      | refine cond_not (fun hc hd he => ?_) (fun hc hd he => ?_)
      | refine guard_not (fun hc hd he => ?_) (fun hc hd he => ?_)
      | refine cond_beq (fun hc hd he => ?_) (fun hc hd he => ?_)
      | refine guard_beq (fun hc hd he => ?_) (fun hc hd he => ?_)
      | refine cond_bne (fun hc hd he => ?_) (fun hc hd he => ?_)
      | refine guard_bne (fun hc hd he => ?_) (fun hc hd he => ?_)
      | refine cond_split (fun hc hd he => ?_) (fun hc hd he => ?_)
      | refine guard_split (fun hc hd he => ?_) (fun hc hd he => ?_)
      | refine call_beq (fun hc hd he => ?_) (fun hc hd he => ?_)
      | refine call_ifb (fun hc hd he => ?_) (fun hc hd he => ?_)
      | refine call_ifd (fun hc hd he => ?_) (fun hc hd he => ?_)
      | refine call_dec (fun hc hd he => ?_) (fun hc hd he => ?_)) <;> try simp (maxSteps := 1000000) (implicitDefEqProofs := false) (disch := first | rfl | omega | assumption) only [go_sem, ↓reduceIte, Nat.reduceEqDiff, Nat.reduceAdd, Nat.reduceLeDiff, Nat.reduceBEq, Nat.reduceMul, Nat.reduceLT, Int.reduceLT, Int.reduceLE, Int.reduceToNat, Int.reduceNeg, Int.reduceEq, Int.reduceMul, reduceCtorEq, Int.reduceBEq, Int.reduceBNe, Int.reduceAdd, Int.reduceSub, ltT, ltF, leT, leF, hc, he, s1, s2, h.ws.len, h.ps.len, ref_in, Col.valid, Col.lens2])
  have hw : c.ws.length ≤ 6 := by simp only [wi, Bool.and_eq_true, decide_eq_true_eq] at *; omega
  exact ref_Colour_loop h hw (by omega) c.ws.length 0 (by omega) _ (by rfl) (by rfl)

theorem ref_check {c : Col} {vw vp : AV} (h : ColAt H c vw vp) (b : Bool) : callFL cfg0 prog0 false 50 [c.av vw vp, .bool b] H none = some ⟨.ret (I (if c.valid then (if b then 0 else 2) else 1)), H, none⟩ := by
  have s1 := h.ws.scal
  have s2 := h.ps.scal
  have h1 := fun G : Heap => ref_Colour (h.app G)
  simp only [Col.av] at h1 ⊢
  refine (callFL_eq fn50 rfl (by simp [Try.f50])).trans ?_
  simp (maxSteps := 1000000) (implicitDefEqProofs := false) (disch := first | rfl | omega | assumption) only [go_sem, ↓reduceIte, Nat.reduceEqDiff, Nat.reduceAdd, Nat.reduceLeDiff, Nat.reduceBEq, Nat.reduceMul, Nat.reduceLT, Int.reduceLT, Int.reduceLE, Int.reduceToNat, Int.reduceNeg, Int.reduceEq, Int.reduceMul, reduceCtorEq, Int.reduceBEq, Int.reduceBNe, Int.reduceAdd, Int.reduceSub, ltT, ltF, leT, leF, s1, s2, h1]
  repeat' ((with_reducible first
      | refine cond_ifb (fun hc hd he => ?_) (fun hc hd he => ?_)
      | refine guard_ifb (fun hc hd he => ?_) (fun hc hd he => ?_)
      | refine cond_dec (fun hc hd he => ?_) (fun hc hd he => ?_)
      | refine guard_dec (fun hc hd he => ?_) (fun hc hd he => ?_)
      | refine cond_ndec (fun hc hd he => ?_) (fun hc hd he => ?_)
      | refine guard_ndec (fun hc hd he => ?_) (fun hc hd he => ?_)
      | refine cond_not (fun hc hd he => ?_) (fun hc hd he => ?_)
      | refine guard_not (fun hc hd he => ?_) (fun hc hd he => ?_)
      | refine cond_beq (fun hc hd he => ?_) (fun hc hd he => ?_)
      | refine guard_beq (fun hc hd he => ?_) (fun hc hd he => ?_)
      | refine cond_bne (fun hc hd he => ?_) (fun hc hd he => ?_)
      | refine guard_bne (fun hc hd he => ?_) (fun hc hd he => ?_)
      | refine cond_split (fun hc hd he => ?_) (fun hc hd he => ?_)
      | refine guard_split (fun hc hd he => ?_) (fun hc hd he => ?_)
      | refine call_beq (fun hc hd he => ?_) (fun hc hd he => ?_)
      | refine call_ifb (fun hc hd he => ?_) (fun hc hd he => ?_)
      | refine call_ifd (fun hc hd he => ?_) (fun hc hd he => ?_)
      | refine call_dec (fun hc hd he => ?_) (fun hc hd he => ?_)) <;> try simp (maxSteps := 1000000) (implicitDefEqProofs := false) (disch := first | rfl | omega | assumption) only [go_sem, ↓reduceIte, Nat.reduceEqDiff, Nat.reduceAdd, Nat.reduceLeDiff, Nat.reduceBEq, Nat.reduceMul, Nat.reduceLT, Int.reduceLT, Int.reduceLE, Int.reduceToNat, Int.reduceNeg, Int.reduceEq, Int.reduceMul, reduceCtorEq, Int.reduceBEq, Int.reduceBNe, Int.reduceAdd, Int.reduceSub, ltT, ltF, leT, leF, hc, he, s1, s2, h1])

/-- Bounds that a valid colour keeps. -/
structure Col.Ok (c : Col) : Prop where
  len : 1 ≤ c.ws.length ∧ c.ws.length ≤ 6
  plen : c.ps.length = c.ws.length
  ws : ∀ i, i < c.ws.length → 2 ≤ c.ws.getD i 0 ∧ c.ws.getD i 0 ≤ 60
  ps : ∀ i, i < c.ws.length → 0 ≤ c.ps.getD i 0 ∧ c.ps.getD i 0 ≤ 50
  lo : 0 ≤ c.lo ∧ c.lo ≤ c.hi ∧ c.hi ≤ 2000 ∧ c.hi - c.lo ≤ 200
  ev : 1 ≤ c.ev ∧ c.ev ≤ 20
  er : 0 ≤ c.er ∧ c.er ≤ 4

theorem Col.valid_iff (c : Col) : c.valid = true ↔ c.Ok := by
  simp only [Col.valid, Col.lens2, Col.nums, Bool.and_eq_true, Bool.not_eq_true', anyF_false, wi, decide_eq_true_eq, beq_iff_eq, Col.okAt, Bool.not_eq_false']
  constructor
  · rintro ⟨⟨h1, h2⟩, h3, h4, h5, h6, h7, h8, h9⟩
    exact ⟨by omega, by omega, fun i hi => (h3 i (by omega) (by omega)).1, fun i hi => (h3 i (by omega) (by omega)).2, by omega, by omega, by omega⟩
  · rintro ⟨h1, h2, h3, h4, h5, h6, h7⟩
    exact ⟨⟨by omega, by omega⟩, fun i _ hi => ⟨h3 i (by omega), h4 i (by omega)⟩, by omega⟩

theorem ref_Of01 (w n : Int) (hw : 1 ≤ w ∧ w ≤ 60) (hn : 0 ≤ n ∧ n ≤ 2000) (H : Heap) : callFL cfg0 prog0 false 110 [oneW w, I n, I 0] H none = some ⟨.ret (I (ptZ w n)), H, none⟩ := by
  have h1 := Int.emod_nonneg n (show w ≠ 0 by omega)
  have h2 := Int.emod_lt_of_pos n (show 0 < w by omega)
  have z : ¬ w = 0 := by omega
  have t2 : n.tmod w = n % w := Int.tmod_eq_emod_of_nonneg hn.1
  have t3 : (20 * (n % w)).tdiv w = ptZ w n := Int.tdiv_eq_ediv_of_nonneg (by omega)
  have b1 := ptZ_bd (w := w) (n := n) (by omega)
  obtain ⟨a1, a2, a3, a4, a5⟩ := (one_sl w H).at (k := 0) (x := I w) (by omega) rfl
  simp only [oneW]
  refine (callFL_eq fn110 rfl (by simp [Try.f110])).trans ?_
  simp (maxSteps := 1000000) (implicitDefEqProofs := false) (disch := first | rfl | omega | assumption) only [go_sem, ↓reduceIte, Nat.reduceEqDiff, Nat.reduceAdd, Nat.reduceLeDiff, Nat.reduceBEq, Nat.reduceMul, Nat.reduceLT, Int.reduceLT, Int.reduceLE, Int.reduceToNat, Int.reduceNeg, Int.reduceEq, Int.reduceMul, reduceCtorEq, Int.reduceBEq, Int.reduceBNe, Int.reduceAdd, Int.reduceSub, ltT, ltF, leT, leF]
  rw [chkK_of]; rotate_left; kernel_rfl
  simp (maxSteps := 1000000) (implicitDefEqProofs := false) (disch := first | rfl | omega | assumption) only [go_sem, ↓reduceIte, Nat.reduceEqDiff, Nat.reduceAdd, Nat.reduceLeDiff, Nat.reduceBEq, Nat.reduceMul, Nat.reduceLT, Int.reduceLT, Int.reduceLE, Int.reduceToNat, Int.reduceNeg, Int.reduceEq, Int.reduceMul, reduceCtorEq, Int.reduceBEq, Int.reduceBNe, Int.reduceAdd, Int.reduceSub, ltT, ltF, leT, leF, a1, a2, a3, a4, a5, z, t2, t3]

theorem ref_Of {c : Col} {vw vp : AV} (h : ColAt H c vw vp) (hc : c.Ok) (k : Nat) (hk : k < c.ws.length) (n : Int) (hn : 0 ≤ n ∧ n ≤ 2000) : callFL cfg0 prog0 false 97 [c.av vw vp, I k, I n] H none = some ⟨.ret (I (ptZ (c.ws.getD k 0) n)), H, none⟩ := by
  have s1 := h.ws.scal
  have s2 := h.ps.scal
  obtain ⟨a1, a2, a3, a4⟩ := h.ws.fI
  have hw := hc.ws k hk
  have h1 := fun G : Heap => ref_Of01 (c.ws.getD k 0) n (by omega) hn G
  simp only [Col.av, oneW] at h1 ⊢
  refine (callFL_eq fn97 rfl (by simp [Try.f97])).trans ?_
  simp (maxSteps := 1000000) (implicitDefEqProofs := false) (disch := first | rfl | omega | assumption) only [go_sem, ↓reduceIte, Nat.reduceEqDiff, Nat.reduceAdd, Nat.reduceLeDiff, Nat.reduceBEq, Nat.reduceMul, Nat.reduceLT, Int.reduceLT, Int.reduceLE, Int.reduceToNat, Int.reduceNeg, Int.reduceEq, Int.reduceMul, reduceCtorEq, Int.reduceBEq, Int.reduceBNe, Int.reduceAdd, Int.reduceSub, ltT, ltF, leT, leF, s1, s2, a1, a2, a3, a4, h1]

/-- By how much two parts are apart, in the reference's words. -/
def apartR (p o : Int) : Int :=
  let n := p - o
  let n := if 0 - n > n then 0 - n else n
  if 20 - n < n then 20 - n else n

theorem apartR_eq {p o : Int} (hp : 0 ≤ p ∧ p < 20) (ho : 0 ≤ o ∧ o < 20) : apartR p o = apartZ p o := by
  simp only [apartR, apartZ, lessZ]
  repeat' split
  all_goals omega

theorem ref_apart {c : Col} {vw vp : AV} (h : ColAt H c vw vp) (hc : c.Ok) (k : Nat) (hk : k < c.ws.length) (a b : Int) (ha : 0 ≤ a ∧ a ≤ 2000) (hb : 0 ≤ b ∧ b ≤ 2000) : callFL cfg0 prog0 false 53 [c.av vw vp, I k, I a, I b] H none = some ⟨.ret (I (apartZ (ptZ (c.ws.getD k 0) a) (ptZ (c.ws.getD k 0) b))), H, none⟩ := by
  have s1 := h.ws.scal
  have s2 := h.ps.scal
  have hw := hc.ws k hk
  have p1 := ptZ_bd (w := c.ws.getD k 0) (n := a) (by omega)
  have p2 := ptZ_bd (w := c.ws.getD k 0) (n := b) (by omega)
  have h1 := fun G : Heap => ref_Of (h.app G) hc k hk a ha
  have h2 := fun G : Heap => ref_Of (h.app G) hc k hk b hb
  rw [← apartR_eq p1 p2]
  generalize ptZ (c.ws.getD k 0) a = p at *
  generalize ptZ (c.ws.getD k 0) b = o at *
  simp only [Col.av] at h1 h2 ⊢
  refine (callFL_eq fn53 rfl (by simp [Try.f53])).trans ?_
  simp (maxSteps := 1000000) (implicitDefEqProofs := false) (disch := first | rfl | omega | assumption) only [go_sem, ↓reduceIte, Nat.reduceEqDiff, Nat.reduceAdd, Nat.reduceLeDiff, Nat.reduceBEq, Nat.reduceMul, Nat.reduceLT, Int.reduceLT, Int.reduceLE, Int.reduceToNat, Int.reduceNeg, Int.reduceEq, Int.reduceMul, reduceCtorEq, Int.reduceBEq, Int.reduceBNe, Int.reduceAdd, Int.reduceSub, ltT, ltF, leT, leF, s1, s2]
  rw [chkK_of]; rotate_left; kernel_rfl
  simp (maxSteps := 1000000) (implicitDefEqProofs := false) (disch := first | rfl | omega | assumption) only [go_sem, ↓reduceIte, Nat.reduceEqDiff, Nat.reduceAdd, Nat.reduceLeDiff, Nat.reduceBEq, Nat.reduceMul, Nat.reduceLT, Int.reduceLT, Int.reduceLE, Int.reduceToNat, Int.reduceNeg, Int.reduceEq, Int.reduceMul, reduceCtorEq, Int.reduceBEq, Int.reduceBNe, Int.reduceAdd, Int.reduceSub, ltT, ltF, leT, leF, s1, s2, h1, h2, apartR]

end Go.Ab
