/-
  The layer settle: its exported functions, walked.
-/
import Derived.Test.YtppmifiahebgfaaW4
namespace Go.Ab
open Go.Proofs
set_option linter.unusedSimpArgs false
set_option linter.unusedVariables false

variable {H : Heap} {L M : Nat} {vb vt : AV} {s : Stl} {es : List (AV × AV)}

theorem f40n (l : Nat) (H : Heap) : callFL cfg0 prog0 true 40 [.ptr l 0] H none = some ⟨.ret (.tup []), H, none⟩ := by
  refine (callFL_eq fn40 rfl (by simp [Try.f40])).trans ?_
  simp only [go_sem, ↓reduceIte, Nat.reduceEqDiff, Nat.reduceAdd, Nat.reduceLeDiff, Nat.reduceBEq, Nat.reduceMul, Nat.reduceLT, Int.reduceLT, Int.reduceLE, Int.reduceToNat, Int.reduceNeg, Int.reduceEq, Int.reduceMul, reduceCtorEq, fn40, res40, gc40, grow40, ty20, ty68, f41n]

theorem f40s (l : Nat) (e x : Int) (H : Heap) (h : H[l]? = some (.box (I x))) : callFL cfg0 prog0 true 40 [.ptr l 0] H (some (.iface 109 (.agg [I e]), false)) = some ⟨.ret (.tup []), H.set l (.box (I e)), some (.iface 109 (.agg [I e]), true)⟩ := by
  refine (callFL_eq fn40 rfl (by simp [Try.f40])).trans ?_
  simp only [go_sem, ↓reduceIte, Nat.reduceEqDiff, Nat.reduceAdd, Nat.reduceLeDiff, Nat.reduceBEq, Nat.reduceMul, Nat.reduceLT, Int.reduceLT, Int.reduceLE, Int.reduceToNat, Int.reduceNeg, Int.reduceEq, Int.reduceMul, reduceCtorEq, fn40, res40, gc40, grow40, ty20, ty68, f41s l x e H h]

theorem f52n (l : Nat) (H : Heap) : callFL cfg0 prog0 true 52 [.ptr l 0] H none = some ⟨.ret (.tup []), H, none⟩ := by
  refine (callFL_eq fn52 rfl (by simp [Try.f52])).trans ?_
  simp only [go_sem, ↓reduceIte, Nat.reduceEqDiff, Nat.reduceAdd, Nat.reduceLeDiff, Nat.reduceBEq, Nat.reduceMul, Nat.reduceLT, Int.reduceLT, Int.reduceLE, Int.reduceToNat, Int.reduceNeg, Int.reduceEq, Int.reduceMul, reduceCtorEq, fn52, res52, gc52, grow52, ty20, ty68, f41n]

theorem f52s (l : Nat) (e x : Int) (H : Heap) (h : H[l]? = some (.box (I x))) : callFL cfg0 prog0 true 52 [.ptr l 0] H (some (.iface 109 (.agg [I e]), false)) = some ⟨.ret (.tup []), H.set l (.box (I e)), some (.iface 109 (.agg [I e]), true)⟩ := by
  refine (callFL_eq fn52 rfl (by simp [Try.f52])).trans ?_
  simp only [go_sem, ↓reduceIte, Nat.reduceEqDiff, Nat.reduceAdd, Nat.reduceLeDiff, Nat.reduceBEq, Nat.reduceMul, Nat.reduceLT, Int.reduceLT, Int.reduceLE, Int.reduceToNat, Int.reduceNeg, Int.reduceEq, Int.reduceMul, reduceCtorEq, fn52, res52, gc52, grow52, ty20, ty68, f41s l x e H h]

theorem f57n (l : Nat) (H : Heap) : callFL cfg0 prog0 true 57 [.ptr l 0] H none = some ⟨.ret (.tup []), H, none⟩ := by
  refine (callFL_eq fn57 rfl (by simp [Try.f57])).trans ?_
  simp only [go_sem, ↓reduceIte, Nat.reduceEqDiff, Nat.reduceAdd, Nat.reduceLeDiff, Nat.reduceBEq, Nat.reduceMul, Nat.reduceLT, Int.reduceLT, Int.reduceLE, Int.reduceToNat, Int.reduceNeg, Int.reduceEq, Int.reduceMul, reduceCtorEq, fn57, res57, gc57, grow57, ty20, ty68, f41n]

theorem f57s (l : Nat) (e x : Int) (H : Heap) (h : H[l]? = some (.box (I x))) : callFL cfg0 prog0 true 57 [.ptr l 0] H (some (.iface 109 (.agg [I e]), false)) = some ⟨.ret (.tup []), H.set l (.box (I e)), some (.iface 109 (.agg [I e]), true)⟩ := by
  refine (callFL_eq fn57 rfl (by simp [Try.f57])).trans ?_
  simp only [go_sem, ↓reduceIte, Nat.reduceEqDiff, Nat.reduceAdd, Nat.reduceLeDiff, Nat.reduceBEq, Nat.reduceMul, Nat.reduceLT, Int.reduceLT, Int.reduceLE, Int.reduceToNat, Int.reduceNeg, Int.reduceEq, Int.reduceMul, reduceCtorEq, fn57, res57, gc57, grow57, ty20, ty68, f41s l x e H h]

theorem f64n (l : Nat) (H : Heap) : callFL cfg0 prog0 true 64 [.ptr l 0] H none = some ⟨.ret (.tup []), H, none⟩ := by
  refine (callFL_eq fn64 rfl (by simp [Try.f64])).trans ?_
  simp only [go_sem, ↓reduceIte, Nat.reduceEqDiff, Nat.reduceAdd, Nat.reduceLeDiff, Nat.reduceBEq, Nat.reduceMul, Nat.reduceLT, Int.reduceLT, Int.reduceLE, Int.reduceToNat, Int.reduceNeg, Int.reduceEq, Int.reduceMul, reduceCtorEq, fn64, res64, gc64, grow64, ty20, ty68, f41n]

theorem f64s (l : Nat) (e x : Int) (H : Heap) (h : H[l]? = some (.box (I x))) : callFL cfg0 prog0 true 64 [.ptr l 0] H (some (.iface 109 (.agg [I e]), false)) = some ⟨.ret (.tup []), H.set l (.box (I e)), some (.iface 109 (.agg [I e]), true)⟩ := by
  refine (callFL_eq fn64 rfl (by simp [Try.f64])).trans ?_
  simp only [go_sem, ↓reduceIte, Nat.reduceEqDiff, Nat.reduceAdd, Nat.reduceLeDiff, Nat.reduceBEq, Nat.reduceMul, Nat.reduceLT, Int.reduceLT, Int.reduceLE, Int.reduceToNat, Int.reduceNeg, Int.reduceEq, Int.reduceMul, reduceCtorEq, fn64, res64, gc64, grow64, ty20, ty68, f41s l x e H h]

theorem f67n (l : Nat) (H : Heap) : callFL cfg0 prog0 true 67 [.ptr l 0] H none = some ⟨.ret (.tup []), H, none⟩ := by
  refine (callFL_eq fn67 rfl (by simp [Try.f67])).trans ?_
  simp only [go_sem, ↓reduceIte, Nat.reduceEqDiff, Nat.reduceAdd, Nat.reduceLeDiff, Nat.reduceBEq, Nat.reduceMul, Nat.reduceLT, Int.reduceLT, Int.reduceLE, Int.reduceToNat, Int.reduceNeg, Int.reduceEq, Int.reduceMul, reduceCtorEq, fn67, res67, gc67, grow67, ty20, ty68, f41n]

theorem f67s (l : Nat) (e x : Int) (H : Heap) (h : H[l]? = some (.box (I x))) : callFL cfg0 prog0 true 67 [.ptr l 0] H (some (.iface 109 (.agg [I e]), false)) = some ⟨.ret (.tup []), H.set l (.box (I e)), some (.iface 109 (.agg [I e]), true)⟩ := by
  refine (callFL_eq fn67 rfl (by simp [Try.f67])).trans ?_
  simp only [go_sem, ↓reduceIte, Nat.reduceEqDiff, Nat.reduceAdd, Nat.reduceLeDiff, Nat.reduceBEq, Nat.reduceMul, Nat.reduceLT, Int.reduceLT, Int.reduceLE, Int.reduceToNat, Int.reduceNeg, Int.reduceEq, Int.reduceMul, reduceCtorEq, fn67, res67, gc67, grow67, ty20, ty68, f41s l x e H h]

theorem f69n (l : Nat) (H : Heap) : callFL cfg0 prog0 true 69 [.ptr l 0] H none = some ⟨.ret (.tup []), H, none⟩ := by
  refine (callFL_eq fn69 rfl (by simp [Try.f69])).trans ?_
  simp only [go_sem, ↓reduceIte, Nat.reduceEqDiff, Nat.reduceAdd, Nat.reduceLeDiff, Nat.reduceBEq, Nat.reduceMul, Nat.reduceLT, Int.reduceLT, Int.reduceLE, Int.reduceToNat, Int.reduceNeg, Int.reduceEq, Int.reduceMul, reduceCtorEq, fn69, res69, gc69, grow69, ty20, ty68, f41n]

theorem f69s (l : Nat) (e x : Int) (H : Heap) (h : H[l]? = some (.box (I x))) : callFL cfg0 prog0 true 69 [.ptr l 0] H (some (.iface 109 (.agg [I e]), false)) = some ⟨.ret (.tup []), H.set l (.box (I e)), some (.iface 109 (.agg [I e]), true)⟩ := by
  refine (callFL_eq fn69 rfl (by simp [Try.f69])).trans ?_
  simp only [go_sem, ↓reduceIte, Nat.reduceEqDiff, Nat.reduceAdd, Nat.reduceLeDiff, Nat.reduceBEq, Nat.reduceMul, Nat.reduceLT, Int.reduceLT, Int.reduceLE, Int.reduceToNat, Int.reduceNeg, Int.reduceEq, Int.reduceMul, reduceCtorEq, fn69, res69, gc69, grow69, ty20, ty68, f41s l x e H h]

theorem f71n (l : Nat) (H : Heap) : callFL cfg0 prog0 true 71 [.ptr l 0] H none = some ⟨.ret (.tup []), H, none⟩ := by
  refine (callFL_eq fn71 rfl (by simp [Try.f71])).trans ?_
  simp only [go_sem, ↓reduceIte, Nat.reduceEqDiff, Nat.reduceAdd, Nat.reduceLeDiff, Nat.reduceBEq, Nat.reduceMul, Nat.reduceLT, Int.reduceLT, Int.reduceLE, Int.reduceToNat, Int.reduceNeg, Int.reduceEq, Int.reduceMul, reduceCtorEq, fn71, res71, gc71, grow71, ty20, ty68, f41n]

theorem f71s (l : Nat) (e x : Int) (H : Heap) (h : H[l]? = some (.box (I x))) : callFL cfg0 prog0 true 71 [.ptr l 0] H (some (.iface 109 (.agg [I e]), false)) = some ⟨.ret (.tup []), H.set l (.box (I e)), some (.iface 109 (.agg [I e]), true)⟩ := by
  refine (callFL_eq fn71 rfl (by simp [Try.f71])).trans ?_
  simp only [go_sem, ↓reduceIte, Nat.reduceEqDiff, Nat.reduceAdd, Nat.reduceLeDiff, Nat.reduceBEq, Nat.reduceMul, Nat.reduceLT, Int.reduceLT, Int.reduceLE, Int.reduceToNat, Int.reduceNeg, Int.reduceEq, Int.reduceMul, reduceCtorEq, fn71, res71, gc71, grow71, ty20, ty68, f41s l x e H h]

theorem f79n (l : Nat) (H : Heap) : callFL cfg0 prog0 true 79 [.ptr l 0] H none = some ⟨.ret (.tup []), H, none⟩ := by
  refine (callFL_eq fn79 rfl (by simp [Try.f79])).trans ?_
  simp only [go_sem, ↓reduceIte, Nat.reduceEqDiff, Nat.reduceAdd, Nat.reduceLeDiff, Nat.reduceBEq, Nat.reduceMul, Nat.reduceLT, Int.reduceLT, Int.reduceLE, Int.reduceToNat, Int.reduceNeg, Int.reduceEq, Int.reduceMul, reduceCtorEq, fn79, res79, gc79, grow79, ty20, ty68, f41n]

theorem f79s (l : Nat) (e x : Int) (H : Heap) (h : H[l]? = some (.box (I x))) : callFL cfg0 prog0 true 79 [.ptr l 0] H (some (.iface 109 (.agg [I e]), false)) = some ⟨.ret (.tup []), H.set l (.box (I e)), some (.iface 109 (.agg [I e]), true)⟩ := by
  refine (callFL_eq fn79 rfl (by simp [Try.f79])).trans ?_
  simp only [go_sem, ↓reduceIte, Nat.reduceEqDiff, Nat.reduceAdd, Nat.reduceLeDiff, Nat.reduceBEq, Nat.reduceMul, Nat.reduceLT, Int.reduceLT, Int.reduceLE, Int.reduceToNat, Int.reduceNeg, Int.reduceEq, Int.reduceMul, reduceCtorEq, fn79, res79, gc79, grow79, ty20, ty68, f41s l x e H h]

def Stl.inB (s : Stl) (n : Int) : Bool := wi n 0 ((s.bs.length : Int) - 1)
def Stl.inM (s : Stl) (n : Int) : Bool := wi n 0 s.last
def inW (n : Int) : Bool := wi n (-100) 100

theorem f44w (hp : PlOk H L M vb vt s es) (n : Int) (hl : s.bs.length ≤ 1000) : callFL cfg0 prog0 false 44 [.ptr L 0, I n] H none = some ⟨.ret (.bool (s.inB n)), H, none⟩ := f44 hp n hl
theorem f45w (hp : PlOk H L M vb vt s es) (n : Int) : callFL cfg0 prog0 false 45 [.ptr L 0, I n] H none = some ⟨.ret (.bool (s.inM n)), H, none⟩ := f45 hp n
theorem f73w (n : Int) (H : Heap) : callFL cfg0 prog0 false 73 [I n] H none = some ⟨.ret (.bool (inW n)), H, none⟩ := f73 n H

theorem f43 (hp : PlOk H L M vb vt s es) (hl : s.bs.length ≤ 1000) (A B : Nat) (x y : Int) (ha : H[A]? = some (.box (I x))) (hb : H[B]? = some (.box (I y))) : callFL cfg0 prog0 false 43 [.ptr L 0, .ptr A 0, .ptr B 0] H none = some ⟨.ret (.bool (s.inB x && s.inM y)), H, none⟩ := by
  refine (callFL_eq fn43 rfl (by simp [Try.f43])).trans ?_
  cases h1 : s.inB x <;> simp only [go_sem, ↓reduceIte, Nat.reduceEqDiff, Nat.reduceAdd, Nat.reduceLeDiff, Nat.reduceBEq, Nat.reduceMul, Nat.reduceLT, Int.reduceLT, Int.reduceLE, Int.reduceToNat, Int.reduceNeg, Int.reduceEq, Int.reduceMul, reduceCtorEq, fn43, res43, gc43, grow43, ty3, ty69, ha, hb, f44w hp _ hl, f45w hp, h1]

theorem f53 (hp : PlOk H L M vb vt s es) (hl : s.bs.length ≤ 1000) (A B : Nat) (x y : Int) (ha : H[A]? = some (.box (I x))) (hb : H[B]? = some (.box (I y))) : callFL cfg0 prog0 false 53 [.ptr L 0, .ptr A 0, .ptr B 0] H none = some ⟨.ret (.bool (s.inB x && s.inM y)), H, none⟩ := by
  refine (callFL_eq fn53 rfl (by simp [Try.f53])).trans ?_
  cases h1 : s.inB x <;> simp only [go_sem, ↓reduceIte, Nat.reduceEqDiff, Nat.reduceAdd, Nat.reduceLeDiff, Nat.reduceBEq, Nat.reduceMul, Nat.reduceLT, Int.reduceLT, Int.reduceLE, Int.reduceToNat, Int.reduceNeg, Int.reduceEq, Int.reduceMul, reduceCtorEq, fn53, res53, gc53, grow53, ty3, ty69, ha, hb, f44w hp _ hl, f45w hp, h1]

theorem f58 (hp : PlOk H L M vb vt s es) (hl : s.bs.length ≤ 1000) (A B : Nat) (x y : Int) (ha : H[A]? = some (.box (I x))) (hb : H[B]? = some (.box (I y))) : callFL cfg0 prog0 false 58 [.ptr L 0, .ptr A 0, .ptr B 0] H none = some ⟨.ret (.bool (s.inB x && s.inM y)), H, none⟩ := by
  refine (callFL_eq fn58 rfl (by simp [Try.f58])).trans ?_
  cases h1 : s.inB x <;> simp only [go_sem, ↓reduceIte, Nat.reduceEqDiff, Nat.reduceAdd, Nat.reduceLeDiff, Nat.reduceBEq, Nat.reduceMul, Nat.reduceLT, Int.reduceLT, Int.reduceLE, Int.reduceToNat, Int.reduceNeg, Int.reduceEq, Int.reduceMul, reduceCtorEq, fn58, res58, gc58, grow58, ty3, ty69, ha, hb, f44w hp _ hl, f45w hp, h1]

theorem f65 (hp : PlOk H L M vb vt s es) (hl : s.bs.length ≤ 1000) (A : Nat) (x : Int) (ha : H[A]? = some (.box (I x))) : callFL cfg0 prog0 false 65 [.ptr L 0, .ptr A 0] H none = some ⟨.ret (.bool (s.inB x)), H, none⟩ := by
  refine (callFL_eq fn65 rfl (by simp [Try.f65])).trans ?_
  simp only [go_sem, ↓reduceIte, Nat.reduceEqDiff, Nat.reduceAdd, Nat.reduceLeDiff, Nat.reduceBEq, Nat.reduceMul, Nat.reduceLT, Int.reduceLT, Int.reduceLE, Int.reduceToNat, Int.reduceNeg, Int.reduceEq, Int.reduceMul, reduceCtorEq, fn65, res65, gc65, grow65, ty3, ty69, ha, f44w hp _ hl]

theorem f70 (hp : PlOk H L M vb vt s es) (hl : s.bs.length ≤ 1000) (A : Nat) (x : Int) (ha : H[A]? = some (.box (I x))) : callFL cfg0 prog0 false 70 [.ptr L 0, .ptr A 0] H none = some ⟨.ret (.bool (s.inB x)), H, none⟩ := by
  refine (callFL_eq fn70 rfl (by simp [Try.f70])).trans ?_
  simp only [go_sem, ↓reduceIte, Nat.reduceEqDiff, Nat.reduceAdd, Nat.reduceLeDiff, Nat.reduceBEq, Nat.reduceMul, Nat.reduceLT, Int.reduceLT, Int.reduceLE, Int.reduceToNat, Int.reduceNeg, Int.reduceEq, Int.reduceMul, reduceCtorEq, fn70, res70, gc70, grow70, ty3, ty69, ha, f44w hp _ hl]

theorem f68 (H : Heap) (v : AV) : callFL cfg0 prog0 false 68 [v] H none = some ⟨.ret (.bool true), H, none⟩ := by
  refine (callFL_eq fn68 rfl (by simp [Try.f68])).trans ?_
  simp only [go_sem, ↓reduceIte, Nat.reduceEqDiff, Nat.reduceAdd, Nat.reduceLeDiff, Nat.reduceBEq, Nat.reduceMul, Nat.reduceLT, Int.reduceLT, Int.reduceLE, Int.reduceToNat, Int.reduceNeg, Int.reduceEq, Int.reduceMul, reduceCtorEq, fn68, res68, gc68, grow68]

theorem f72 (hp : PlOk H L M vb vt s es) (hl : s.bs.length ≤ 1000) (A B : Nat) (x y : Int) (ha : H[A]? = some (.box (I x))) (hb : H[B]? = some (.box (I y))) : callFL cfg0 prog0 false 72 [.ptr L 0, .ptr A 0, .ptr B 0] H none = some ⟨.ret (.bool (s.inB x && inW y)), H, none⟩ := by
  refine (callFL_eq fn72 rfl (by simp [Try.f72])).trans ?_
  cases h1 : s.inB x <;> simp only [go_sem, ↓reduceIte, Nat.reduceEqDiff, Nat.reduceAdd, Nat.reduceLeDiff, Nat.reduceBEq, Nat.reduceMul, Nat.reduceLT, Int.reduceLT, Int.reduceLE, Int.reduceToNat, Int.reduceNeg, Int.reduceEq, Int.reduceMul, reduceCtorEq, fn72, res72, gc72, grow72, ty3, ty69, ha, hb, f44w hp _ hl, f73w, h1]

theorem f80 (hp : PlOk H L M vb vt s es) (hl : s.bs.length ≤ 1000) (A B D : Nat) (x y z : Int) (ha : H[A]? = some (.box (I x))) (hb : H[B]? = some (.box (I y))) (hd : H[D]? = some (.box (I z))) : callFL cfg0 prog0 false 80 [.ptr L 0, .ptr A 0, .ptr B 0, .ptr D 0] H none = some ⟨.ret (.bool (s.inB x && inW y && s.inM z)), H, none⟩ := by
  refine (callFL_eq fn80 rfl (by simp [Try.f80])).trans ?_
  cases h1 : s.inB x <;> cases h2 : inW y <;> simp only [go_sem, ↓reduceIte, Nat.reduceEqDiff, Nat.reduceAdd, Nat.reduceLeDiff, Nat.reduceBEq, Nat.reduceMul, Nat.reduceLT, Int.reduceLT, Int.reduceLE, Int.reduceToNat, Int.reduceNeg, Int.reduceEq, Int.reduceMul, reduceCtorEq, fn80, res80, gc80, grow80, ty3, ty69, ha, hb, hd, f44w hp _ hl, f45w hp, f73w, h1, h2]

theorem Stl.valid_wf (h : s.valid = true) : s.Wf := by
  simp only [Stl.valid, Stl.nums, Bool.and_eq_true, List.all_eq_true, Blk.okb, Tch.okb, wi, spn, decide_eq_true_eq] at h
  obtain ⟨⟨⟨h1, h2⟩, ⟨h3, h4⟩, ⟨h5, h6⟩, h7⟩, h8, h9⟩ := h
  refine ⟨fun b hb => ?_, fun t ht => ?_, by omega, by omega, by omega, by omega⟩
  · obtain ⟨⟨⟨a1, a2⟩, a3⟩, ⟨⟨b1, b2⟩, b3⟩, ⟨c1, c2⟩, c3⟩ := h8 b hb
    exact ⟨a1, a2, a3, b1, b2, b3, c1, c2, c3⟩
  · obtain ⟨_, _, ⟨a1, a2⟩, a3⟩ := h9 t ht
    exact ⟨a1, a2, a3⟩

def Stl.blk (s : Stl) (n : Int) : Blk := s.bs.getD n.toNat ⟨0, 0, 0, 0, 0, 0⟩

theorem Stl.inB_blk {n : Int} (h : s.inB n = true) : 0 ≤ n ∧ s.bs[n.toNat]? = some (s.blk n) := by
  simp only [Stl.inB, wi, Bool.and_eq_true, decide_eq_true_eq] at h
  refine ⟨h.1, ?_⟩
  have hlt : n.toNat < s.bs.length := by omega
  simp only [Stl.blk, List.getD_eq_getElem?_getD, List.getElem?_eq_getElem hlt, Option.getD_some]

theorem Stl.inM_nat {n : Int} (hs : s.Wf) (h : s.inM n = true) : ∃ m : Nat, n = m ∧ m ≤ 60 := by
  simp only [Stl.inM, wi, Bool.and_eq_true, decide_eq_true_eq] at h
  have := hs.last
  exact ⟨n.toNat, by omega, by omega⟩

/-- What Excess tells. -/
def Stl.excess (s : Stl) (n m : Int) : Int × Int × Int :=
  if s.valid then (if s.inB n && s.inM m then (warmLo s n (s.blk n) m.toNat, warmHi s n (s.blk n) m.toNat, 0) else (0, 0, 2)) else (0, 0, 1)

theorem f14 (s : Stl) (hvb : SlOk H 6 vb (s.bs.map Blk.av)) (hvt : SlOk H 4 vt (s.ts.map Tch.av)) (hl : s.bs.length ≤ 1000) (hl2 : s.ts.length ≤ 1000) (n m : Int) :
    callFL cfg0 prog0 false 14 [.agg [vb, I s.near, I s.last, vt], I n, I m] H none = some ⟨.ret (.tup [.agg [I (s.excess n m).1, I (s.excess n m).2.1], I (s.excess n m).2.2]), H, none⟩ := by
  have sb := hvb.scal
  have st := hvt.scal
  have hp := pl4_ok (H ++ [.box (.agg [vb, I s.near, I s.last, vt]), .box (I n), .box (I m), .box (.agg [I 0, I 0]), .box (I 0)]) vb vt s (hvb.app _) (hvt.app _)
  have h42 := f42 (H ++ [.box (.agg [vb, I s.near, I s.last, vt]), .box (I n), .box (I m), .box (.agg [I 0, I 0]), .box (I 0)]) vb vt s 43 [.ptr (H.length + 1) 0, .ptr (H.length + 2) 0] (s.inB n && s.inM m) (hvb.app _) (hvt.app _) hl hl2
    (fun N => by simp [ltL, AV.lt]; omega) (f43 hp hl _ _ n m (by simp [pl4, List.append_assoc, List.cons_append, List.nil_append, List.append_nil, List.length_append, List.length_cons, List.length_nil, Nat.zero_add, Nat.add_zero, Nat.add_assoc, Nat.reduceAdd, set_at, set_at', List.set_cons_zero, List.set_cons_succ, get_at']) (by simp [pl4, List.append_assoc, List.cons_append, List.nil_append, List.append_nil, List.length_append, List.length_cons, List.length_nil, Nat.zero_add, Nat.add_zero, Nat.add_assoc, Nat.reduceAdd, set_at, set_at', List.set_cons_zero, List.set_cons_succ, get_at']))
  simp only [pl4, List.append_assoc, List.cons_append, List.nil_append, List.append_nil, List.length_append, List.length_cons, List.length_nil, Nat.zero_add, Nat.add_zero, Nat.add_assoc, Nat.reduceAdd, set_at, set_at', List.set_cons_zero, List.set_cons_succ] at h42
  have h40 := fun e => f40s (H.length + 4) e 0 (H ++ [.box (.agg [vb, I s.near, I s.last, vt]), .box (I n), .box (I m), .box (.agg [I 0, I 0]), .box (I 0)]) (by simp [get_at'])
  refine (callFL_eq fn14 rfl (by simp [Try.f14])).trans ?_
  simp only [Stl.excess]
  cases hv : s.valid with
  | false =>
    simp only [hv, Bool.false_eq_true, ↓reduceIte] at h42
    simp only [go_sem, ↓reduceIte, Nat.reduceEqDiff, Nat.reduceAdd, Nat.reduceLeDiff, Nat.reduceBEq, Nat.reduceMul, Nat.reduceLT, Int.reduceLT, Int.reduceLE, Int.reduceToNat, Int.reduceNeg, Int.reduceEq, Int.reduceMul, reduceCtorEq, fn14, res14, gc14, grow14, ty3, ty22, ty23, ty25, ty29, ty30, ty56, ty63, ty69, ty72, ty75, sb, st, h42, h40]
  | true =>
    cases hc : (s.inB n && s.inM m) with
    | false =>
      simp only [hv, hc, Bool.false_eq_true, ↓reduceIte] at h42
      simp only [go_sem, ↓reduceIte, Nat.reduceEqDiff, Nat.reduceAdd, Nat.reduceLeDiff, Nat.reduceBEq, Nat.reduceMul, Nat.reduceLT, Int.reduceLT, Int.reduceLE, Int.reduceToNat, Int.reduceNeg, Int.reduceEq, Int.reduceMul, reduceCtorEq, fn14, res14, gc14, grow14, ty3, ty22, ty23, ty25, ty29, ty30, ty56, ty63, ty69, ty72, ty75, sb, st, h42, h40]
    | true =>
      have hw := Stl.valid_wf hv
      simp only [Bool.and_eq_true] at hc
      obtain ⟨h0, hb⟩ := Stl.inB_blk hc.1
      obtain ⟨mm, rfl, hmm⟩ := Stl.inM_nat hw hc.2
      have hbo := hw.bs _ (List.mem_of_getElem? hb)
      obtain ⟨es', hg', hr⟩ := f46 hw n (s.blk n) h0 hb _ mm hmm (s.blk n).n hbo.hn (spans_it hp n mm) (Good.nil s)
      change callFL cfg0 prog0 false 46 _ _ none = some ⟨.ret (.agg [I (warmLo s n (s.blk n) mm), I (warmHi s n (s.blk n) mm)]), _, _⟩ at hr
      have h47 := f47 n mm hp.hL
      simp only [pl4, List.append_assoc, List.cons_append, List.nil_append, List.append_nil, List.length_append, List.length_cons, List.length_nil, Nat.zero_add, Nat.add_zero, Nat.add_assoc, Nat.reduceAdd, set_at, set_at', List.set_cons_zero, List.set_cons_succ] at hr h47
      simp only [hv, hc, Bool.and_self, ↓reduceIte] at h42
      simp only [go_sem, ↓reduceIte, Nat.reduceEqDiff, Nat.reduceAdd, Nat.reduceLeDiff, Nat.reduceBEq, Nat.reduceMul, Nat.reduceLT, Int.reduceLT, Int.reduceLE, Int.reduceToNat, Int.reduceNeg, Int.reduceEq, Int.reduceMul, reduceCtorEq, fn14, res14, gc14, grow14, ty3, ty22, ty23, ty25, ty29, ty30, ty56, ty63, ty69, ty72, ty75, sb, st, h42, h47, hr, f40n, Int.toNat_natCast]

end Go.Ab
