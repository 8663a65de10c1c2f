/-
  What is alike, and the reach.
-/
import Derived.Test.YtlhnmpclnbpnhaaKK3
namespace Go.Ab
open Go.Proofs
set_option linter.unusedSimpArgs false
set_option linter.unusedVariables false
set_option maxRecDepth 100000
set_option maxHeartbeats 1000000

variable {H : Heap}

theorem foldP_inv {β : Type} (c : Col) (s : Nat) (f : β → Nat → Nat → β) (P : β → Prop) (st : β) (h : P st) (hs : ∀ st a b, a < b → b < c.manyN → c.meet s a b = false → P st → P (f st a b)) : P (foldP c s f st) := by
  refine foldF_inv _ (fun _ st => P st) c.manyN 0 st h (fun a st _ ha hp => ?_)
  refine foldF_inv _ (fun _ st => P st) (c.manyN - (a + 1)) (a + 1) st hp (fun b st hb1 hb2 hp => ?_)
  rcases Bool.eq_false_or_eq_true (c.meet s a b) with hm | hm
  · rw [if_pos hm]; exact hp
  · rw [if_neg (by simp [hm])]
    exact hs st a b (by omega) (by omega) hm hp

def alikeE (c : Col) (vw vp : AV) (k n : Nat) : Env :=
  [(16, .func (.func 101) [] [.ptr (n + 12) 0, .ptr (n + 13) 0]), (15, U k), (14, I k), (13, .ptr (n + 9) 0), (7, .ptr (n + 11) 0), (12, .ptr (n + 9) 0), (11, I k),
   (10, .agg [vw, vp, I c.lo, I c.hi, I c.ev, I c.er]), (9, .func (.func 60) [] [.ptr (n + 3) 0]), (6, .ptr (n + 3) 0), (5, .ptr (n + 2) 0), (4, .ptr (n + 1) 0), (2, .ptr n 0), (0, .agg [vw, vp, I c.lo, I c.hi, I c.ev, I c.er]), (1, I k)]

noncomputable def alikeH (c : Col) (vw vp : AV) (k n : Nat) (x y z : Int) (lp : ALoop) : Heap :=
  [.box (.agg [vw, vp, I c.lo, I c.hi, I c.ev, I c.er]), .box (I x), .box (I y), .box (I z), .box (.agg [vw, vp, I c.lo, I c.hi, I c.ev, I c.er]), .box (I k), .box (.agg [vw, vp, I c.lo, I c.hi, I c.ev, I c.er]), .map 84 c.pes, .grow 1 (c.ws.map I),
   .box (.agg [vw, vp, I c.lo, I c.hi, I c.ev, I c.er, .gsl (n + 8) c.ws.length, .map (n + 7)]), .box (.agg [I c.lo, I c.hi]), .box (.ptr (n + 9) 0), .box (.ptr (n + 9) 0), .box (U k), .dfr, .loop lp]

/-- The first two that a set does not part, by the pairs. -/
def Col.fst (c : Col) (s : Nat) : (Nat × Nat) × Bool := itA c s (fun (_ : Nat × Nat) a b => ((a, b), false)) (0, 0) 0 c.manyN

theorem co_Alike_t {c : Col} {vw vp : AV} (h : ColAt H c vw vp) (ho : c.Ok) (hv : c.valid = true) (k : Nat) (hn : c.isSet k = true) :
    callFL cfg0 prog0 false 18 [c.av vw vp, I k] H none = some ⟨.ret (.tup (if (c.fst k).2 then [I 0, I 0, I 4] else [I (c.lenAt (c.fst k).1.1), I (c.lenAt (c.fst k).1.2), I 0])), H, none⟩ := by
  have s1 := h.ws.scal
  have s2 := h.ps.scal
  have hl := ho.len
  have hl2 := ho.plen
  have hk := ho.set_bd hn
  have hL := co_look (H := H ++ [.box (c.av vw vp), .box (I 0), .box (I 0), .box (I 0)]) (h.app _) (by omega) k
  have hA := fun (l : Nat) (G : Heap) => co_alikef (l := l) k G
  have hcv : IntKind.u64.wrap (k : Int) = k := wrapU (by omega)
  have hF := fun G : Heap => Col.seen_full (H := H ++ [.box (c.av vw vp), .box (I 0), .box (I 0), .box (I 0)]) (vw := vw) (vp := vp) (c := c) k G
  have hLn := fun (G : Heap) (j : Nat) (hj : j < c.manyN) => co_length' (hF G).shop ho j hj
  have hN := fun (G : Heap) => dn_Alike (H.length + 3) G
  simp only [hv, hn, if_true, Col.seen, Col.av, List.length_append, List.length_cons, List.length_nil, List.append_assoc, List.cons_append, List.nil_append, Nat.add_assoc, Nat.reduceAdd, Nat.zero_add] at hL hF hLn
  have hI := alike_it ho (s := k) (by omega) (l := H.length + 9) (lm := H.length + 7) (p1 := H.length + 12) (p2 := H.length + 13) (n := H.length + 16) (y := H.length + 15) (vw := vw) (vp := vp) (vo := .gsl (H.length + 8) c.ws.length)
    (Hr := fun _ : Nat × Nat => H ++ alikeH c vw vp k H.length 0 0 0 (loopRec Try.f18 18 0 (alikeE c vw vp k H.length) (H.length + 14)))
    (Hd := fun p : Nat × Nat => H ++ alikeH c vw vp k H.length (c.lenAt p.1) (c.lenAt p.2) 0 { loopRec Try.f18 18 0 (alikeE c vw vp k H.length) (H.length + 14) with state := .done, pending := some .ret })
    (g := fun _ a b => ((a, b), false))
    ⟨fun n => by simp [alikeH], fun n => by simp [alikeH], fun n => by rw [get_at']; rfl, fun n => by rw [get_at']; rfl, fun n => (hF _).shop, fun n => (hF _).mp, fun n a b hab hb => by
      have l1 := fun G : Heap => hLn G a (by omega)
      have l2 := fun G : Heap => hLn G b hb
      simp (maxSteps := 1000000) (implicitDefEqProofs := false) (disch := first | rfl | omega | assumption) only [go_sem, ↓reduceIte, Nat.reduceEqDiff, Nat.reduceAdd, Nat.reduceLeDiff, Nat.reduceBEq, Nat.reduceMul, Nat.reduceLT, Int.reduceLT, Int.reduceLE, Int.reduceToNat, Int.reduceNeg, Int.reduceEq, Int.reduceMul, reduceCtorEq, Int.reduceBEq, Int.reduceBNe, Int.reduceAdd, Int.reduceSub, ltT, ltF, leT, leF, loopRec, rangesOf, List.nil_append, List.append_nil, List.cons_append, List.getElem?_cons_zero, List.getElem?_cons_succ, Try.f18, alikeH, alikeE]
      rw [chkK_of]; rotate_left; kernel_rfl
      simp (maxSteps := 1000000) (implicitDefEqProofs := false) (disch := first | rfl | omega | assumption) only [go_sem, ↓reduceIte, Nat.reduceEqDiff, Nat.reduceAdd, Nat.reduceLeDiff, Nat.reduceBEq, Nat.reduceMul, Nat.reduceLT, Int.reduceLT, Int.reduceLE, Int.reduceToNat, Int.reduceNeg, Int.reduceEq, Int.reduceMul, reduceCtorEq, Int.reduceBEq, Int.reduceBNe, Int.reduceAdd, Int.reduceSub, ltT, ltF, leT, leF, loopRec, rangesOf, List.nil_append, List.append_nil, List.cons_append, List.getElem?_cons_zero, List.getElem?_cons_succ, Try.f18, alikeH, alikeE, l1, l2]⟩ (0, 0)
  change callFL _ _ _ _ _ _ _ = some ⟨_, if (c.fst k).2 = true then _ else H ++ alikeH c vw vp k H.length (c.lenAt (c.fst k).1.1) (c.lenAt (c.fst k).1.2) 0 _, _⟩ at hI
  generalize c.fst k = r at hI ⊢
  simp only [loopRec, rangesOf, List.nil_append, List.append_nil, List.cons_append, List.getElem?_cons_zero, List.getElem?_cons_succ, Try.f18, alikeH, alikeE] at hI
  simp only [Col.av]
  refine (callFL_eq fn18 rfl (by simp [Try.f18])).trans ?_
  obtain ⟨⟨r1, r3⟩, r2⟩ := r
  cases r2 with
  | true =>
    simp only [if_true] at hI ⊢
    simp (maxSteps := 1000000) (implicitDefEqProofs := false) (disch := first | rfl | omega | assumption) only [go_sem, ↓reduceIte, Nat.reduceEqDiff, Nat.reduceAdd, Nat.reduceLeDiff, Nat.reduceBEq, Nat.reduceMul, Nat.reduceLT, Int.reduceLT, Int.reduceLE, Int.reduceToNat, Int.reduceNeg, Int.reduceEq, Int.reduceMul, reduceCtorEq, Int.reduceBEq, Int.reduceBNe, Int.reduceAdd, Int.reduceSub, s1, s2, hL, hA, hcv, hI, hN]
  | false =>
    simp only [Bool.false_eq_true, if_false] at hI ⊢
    simp (maxSteps := 1000000) (implicitDefEqProofs := false) (disch := first | rfl | omega | assumption) only [go_sem, ↓reduceIte, Nat.reduceEqDiff, Nat.reduceAdd, Nat.reduceLeDiff, Nat.reduceBEq, Nat.reduceMul, Nat.reduceLT, Int.reduceLT, Int.reduceLE, Int.reduceToNat, Int.reduceNeg, Int.reduceEq, Int.reduceMul, reduceCtorEq, Int.reduceBEq, Int.reduceBNe, Int.reduceAdd, Int.reduceSub, s1, s2, hL, hA, hcv, hI, hN]


theorem co_Alike_v {c : Col} {vw vp : AV} (h : ColAt H c vw vp) (hl : c.ws.length ≤ 1000 ∧ c.ps.length ≤ 1000) (n : Int) (hv : c.valid = false) :
    callFL cfg0 prog0 false 18 [c.av vw vp, I n] H none = some ⟨.ret (.tup [I 0, I 0, I 1]), H, none⟩ := by
  have s1 := h.ws.scal
  have s2 := h.ps.scal
  have hL := co_look (H := H ++ [.box (c.av vw vp), .box (I 0), .box (I 0), .box (I 0)]) (h.app _) hl n
  have hS := fun (e : Int) (x y z : AO) (G : Heap) => ds_Alike (H.length + 3) e 0 (H ++ (x :: y :: z :: .box (I 0) :: G)) (by rw [get_at' 3]; rfl)
  simp only [errA] at hS
  simp only [hv, if_false, Bool.false_eq_true, Col.av, errA, List.length_append, List.length_cons, List.length_nil, List.append_assoc, List.cons_append, List.nil_append, Nat.add_assoc, Nat.reduceAdd, Nat.zero_add] at hL
  simp only [Col.av]
  refine (callFL_eq fn18 rfl (by simp [Try.f18])).trans ?_
  simp (maxSteps := 1000000) (implicitDefEqProofs := false) (disch := first | rfl | omega | assumption) only [go_sem, ↓reduceIte, Nat.reduceEqDiff, Nat.reduceAdd, Nat.reduceLeDiff, Nat.reduceBEq, Nat.reduceMul, Nat.reduceLT, Int.reduceLT, Int.reduceLE, Int.reduceToNat, Int.reduceNeg, Int.reduceEq, Int.reduceMul, reduceCtorEq, Int.reduceBEq, Int.reduceBNe, Int.reduceAdd, Int.reduceSub, s1, s2, hL, hS]

theorem co_Alike_s {c : Col} {vw vp : AV} (h : ColAt H c vw vp) (hl : c.ws.length ≤ 1000 ∧ c.ps.length ≤ 1000) (n : Int) (hv : c.valid = true) (hn : c.isSet n = false) :
    callFL cfg0 prog0 false 18 [c.av vw vp, I n] H none = some ⟨.ret (.tup [I 0, I 0, I 2]), H, none⟩ := by
  have s1 := h.ws.scal
  have s2 := h.ps.scal
  have hL := co_look (H := H ++ [.box (c.av vw vp), .box (I 0), .box (I 0), .box (I 0)]) (h.app _) hl n
  have hS := fun (e : Int) (x y z : AO) (G : Heap) => ds_Alike (H.length + 3) e 0 (H ++ (x :: y :: z :: .box (I 0) :: G)) (by rw [get_at' 3]; rfl)
  simp only [errA] at hS
  simp only [hv, hn, if_true, if_false, Bool.false_eq_true, Col.av, errA, List.length_append, List.length_cons, List.length_nil, List.append_assoc, List.cons_append, List.nil_append, Nat.add_assoc, Nat.reduceAdd, Nat.zero_add] at hL
  simp only [Col.av]
  refine (callFL_eq fn18 rfl (by simp [Try.f18])).trans ?_
  simp (maxSteps := 1000000) (implicitDefEqProofs := false) (disch := first | rfl | omega | assumption) only [go_sem, ↓reduceIte, Nat.reduceEqDiff, Nat.reduceAdd, Nat.reduceLeDiff, Nat.reduceBEq, Nat.reduceMul, Nat.reduceLT, Int.reduceLT, Int.reduceLE, Int.reduceToNat, Int.reduceNeg, Int.reduceEq, Int.reduceMul, reduceCtorEq, Int.reduceBEq, Int.reduceBNe, Int.reduceAdd, Int.reduceSub, s1, s2, hL, hS]

theorem co_Reach_v {c : Col} {vw vp : AV} (h : ColAt H c vw vp) (hl : c.ws.length ≤ 1000 ∧ c.ps.length ≤ 1000) (n : Int) (hv : c.valid = false) :
    callFL cfg0 prog0 false 22 [c.av vw vp, I n] H none = some ⟨.ret (.tup [I 0, I 1]), H, none⟩ := by
  have s1 := h.ws.scal
  have s2 := h.ps.scal
  have hL := co_look (H := H ++ [.box (c.av vw vp), .box (I 0)]) (h.app _) hl n
  have hS := fun (e : Int) (x : AO) (G : Heap) => ds_Reach (H.length + 1) e 0 (H ++ (x :: .box (I 0) :: G)) (by rw [get_at' 1]; rfl)
  simp only [errA] at hS
  simp only [hv, if_false, Bool.false_eq_true, Col.av, errA, List.length_append, List.length_cons, List.length_nil, List.append_assoc, List.cons_append, List.nil_append, Nat.add_assoc, Nat.reduceAdd, Nat.zero_add] at hL
  simp only [Col.av]
  refine (callFL_eq fn22 rfl (by simp [Try.f22])).trans ?_
  simp (maxSteps := 1000000) (implicitDefEqProofs := false) (disch := first | rfl | omega | assumption) only [go_sem, ↓reduceIte, Nat.reduceEqDiff, Nat.reduceAdd, Nat.reduceLeDiff, Nat.reduceBEq, Nat.reduceMul, Nat.reduceLT, Int.reduceLT, Int.reduceLE, Int.reduceToNat, Int.reduceNeg, Int.reduceEq, Int.reduceMul, reduceCtorEq, Int.reduceBEq, Int.reduceBNe, Int.reduceAdd, Int.reduceSub, s1, s2, hL, hS]

theorem co_Reach_s {c : Col} {vw vp : AV} (h : ColAt H c vw vp) (hl : c.ws.length ≤ 1000 ∧ c.ps.length ≤ 1000) (n : Int) (hv : c.valid = true) (hn : c.isSet n = false) :
    callFL cfg0 prog0 false 22 [c.av vw vp, I n] H none = some ⟨.ret (.tup [I 0, I 2]), H, none⟩ := by
  have s1 := h.ws.scal
  have s2 := h.ps.scal
  have hL := co_look (H := H ++ [.box (c.av vw vp), .box (I 0)]) (h.app _) hl n
  have hS := fun (e : Int) (x : AO) (G : Heap) => ds_Reach (H.length + 1) e 0 (H ++ (x :: .box (I 0) :: G)) (by rw [get_at' 1]; rfl)
  simp only [errA] at hS
  simp only [hv, hn, if_true, if_false, Bool.false_eq_true, Col.av, errA, List.length_append, List.length_cons, List.length_nil, List.append_assoc, List.cons_append, List.nil_append, Nat.add_assoc, Nat.reduceAdd, Nat.zero_add] at hL
  simp only [Col.av]
  refine (callFL_eq fn22 rfl (by simp [Try.f22])).trans ?_
  simp (maxSteps := 1000000) (implicitDefEqProofs := false) (disch := first | rfl | omega | assumption) only [go_sem, ↓reduceIte, Nat.reduceEqDiff, Nat.reduceAdd, Nat.reduceLeDiff, Nat.reduceBEq, Nat.reduceMul, Nat.reduceLT, Int.reduceLT, Int.reduceLE, Int.reduceToNat, Int.reduceNeg, Int.reduceEq, Int.reduceMul, reduceCtorEq, Int.reduceBEq, Int.reduceBNe, Int.reduceAdd, Int.reduceSub, s1, s2, hL, hS]

theorem co_Pairs_v {c : Col} {vw vp : AV} (h : ColAt H c vw vp) (hl : c.ws.length ≤ 1000 ∧ c.ps.length ≤ 1000) (n : Int) (hv : c.valid = false) :
    callFL cfg0 prog0 false 20 [c.av vw vp, I n] H none = some ⟨.ret (.tup [I 0, I 0, I 1]), H, none⟩ := by
  have s1 := h.ws.scal
  have s2 := h.ps.scal
  have hL := co_look (H := H ++ [.box (c.av vw vp), .box (I 0)]) (h.app _) hl n
  have hS := fun (e : Int) (x : AO) (G : Heap) => ds_Pairs (H.length + 1) e 0 (H ++ (x :: .box (I 0) :: G)) (by rw [get_at' 1]; rfl)
  simp only [errA] at hS
  simp only [hv, if_false, Bool.false_eq_true, Col.av, errA, List.length_append, List.length_cons, List.length_nil, List.append_assoc, List.cons_append, List.nil_append, Nat.add_assoc, Nat.reduceAdd, Nat.zero_add] at hL
  simp only [Col.av]
  refine (callFL_eq fn20 rfl (by simp [Try.f20])).trans ?_
  simp (maxSteps := 1000000) (implicitDefEqProofs := false) (disch := first | rfl | omega | assumption) only [go_sem, ↓reduceIte, Nat.reduceEqDiff, Nat.reduceAdd, Nat.reduceLeDiff, Nat.reduceBEq, Nat.reduceMul, Nat.reduceLT, Int.reduceLT, Int.reduceLE, Int.reduceToNat, Int.reduceNeg, Int.reduceEq, Int.reduceMul, reduceCtorEq, Int.reduceBEq, Int.reduceBNe, Int.reduceAdd, Int.reduceSub, s1, s2, hL, hS]

theorem co_Pairs_s {c : Col} {vw vp : AV} (h : ColAt H c vw vp) (hl : c.ws.length ≤ 1000 ∧ c.ps.length ≤ 1000) (n : Int) (hv : c.valid = true) (hn : c.isSet n = false) :
    callFL cfg0 prog0 false 20 [c.av vw vp, I n] H none = some ⟨.ret (.tup [I 0, I 0, I 2]), H, none⟩ := by
  have s1 := h.ws.scal
  have s2 := h.ps.scal
  have hL := co_look (H := H ++ [.box (c.av vw vp), .box (I 0)]) (h.app _) hl n
  have hS := fun (e : Int) (x : AO) (G : Heap) => ds_Pairs (H.length + 1) e 0 (H ++ (x :: .box (I 0) :: G)) (by rw [get_at' 1]; rfl)
  simp only [errA] at hS
  simp only [hv, hn, if_true, if_false, Bool.false_eq_true, Col.av, errA, List.length_append, List.length_cons, List.length_nil, List.append_assoc, List.cons_append, List.nil_append, Nat.add_assoc, Nat.reduceAdd, Nat.zero_add] at hL
  simp only [Col.av]
  refine (callFL_eq fn20 rfl (by simp [Try.f20])).trans ?_
  simp (maxSteps := 1000000) (implicitDefEqProofs := false) (disch := first | rfl | omega | assumption) only [go_sem, ↓reduceIte, Nat.reduceEqDiff, Nat.reduceAdd, Nat.reduceLeDiff, Nat.reduceBEq, Nat.reduceMul, Nat.reduceLT, Int.reduceLT, Int.reduceLE, Int.reduceToNat, Int.reduceNeg, Int.reduceEq, Int.reduceMul, reduceCtorEq, Int.reduceBEq, Int.reduceBNe, Int.reduceAdd, Int.reduceSub, s1, s2, hL, hS]

def reachE (c : Col) (vw vp : AV) (k n : Nat) : Env :=
  [(19, .func (.func 101) [] [.ptr (n + 10) 0, .ptr (n + 11) 0]), (18, U k), (17, I k), (16, .ptr (n + 7) 0), (7, .ptr (n + 9) 0), (15, I (c.manyN - 1)), (14, I c.manyN), (13, .ptr (n + 7) 0), (6, .ptr (n + 7) 0), (12, .ptr (n + 7) 0), (11, I k),
   (10, .agg [vw, vp, I c.lo, I c.hi, I c.ev, I c.er]), (9, .func (.func 67) [] [.ptr (n + 1) 0]), (5, .ptr (n + 1) 0), (4, I 0), (2, .ptr n 0), (0, .agg [vw, vp, I c.lo, I c.hi, I c.ev, I c.er]), (1, I k)]

noncomputable def reachH (c : Col) (vw vp : AV) (k n : Nat) (x : Int) (lp : ALoop) : Heap :=
  [.box (.agg [vw, vp, I c.lo, I c.hi, I c.ev, I c.er]), .box (I 0), .box (.agg [vw, vp, I c.lo, I c.hi, I c.ev, I c.er]), .box (I k), .box (.agg [vw, vp, I c.lo, I c.hi, I c.ev, I c.er]), .map 84 c.pes, .grow 1 (c.ws.map I),
   .box (.agg [vw, vp, I c.lo, I c.hi, I c.ev, I c.er, .gsl (n + 6) c.ws.length, .map (n + 5)]), .box (.agg [I c.lo, I c.hi]), .box (I x), .box (.ptr (n + 7) 0), .box (U k), .dfr, .loop lp]

/-- The last length up to which all are parted. -/
def lastF (x : Int) (_ b : Nat) : Int := if (b : Int) - 1 < x then (b : Int) - 1 else x
def Col.last (c : Col) (s : Nat) : Int := foldP c s lastF ((c.manyN : Int) - 1)

theorem Col.last_bd {c : Col} (ho : c.Ok) (s : Nat) : 0 ≤ c.last s ∧ c.last s ≤ (c.manyN : Int) - 1 := by
  have := ho.many_bd
  refine foldP_inv c s lastF (fun x => 0 ≤ x ∧ x ≤ (c.manyN : Int) - 1) _ (by omega) (fun x a b h1 h2 _ h3 => ?_)
  simp only [lastF]
  split <;> omega

theorem co_Reach_t {c : Col} {vw vp : AV} (h : ColAt H c vw vp) (ho : c.Ok) (hv : c.valid = true) (k : Nat) (hn : c.isSet k = true) :
    callFL cfg0 prog0 false 22 [c.av vw vp, I k] H none = some ⟨.ret (.tup [I (c.lenAt (c.last k).toNat), I 0]), H, none⟩ := by
  have s1 := h.ws.scal
  have s2 := h.ps.scal
  have hl := ho.len
  have hl2 := ho.plen
  have hk := ho.set_bd hn
  have mb := ho.many_bd
  have lb := c.last_bd ho k
  have hL := co_look (H := H ++ [.box (c.av vw vp), .box (I 0)]) (h.app _) (by omega) k
  have hA := fun (l : Nat) (G : Heap) => co_alikef (l := l) k G
  have hcv : IntKind.u64.wrap (k : Int) = k := wrapU (by omega)
  have hF := fun G : Heap => Col.seen_full (H := H ++ [.box (c.av vw vp), .box (I 0)]) (vw := vw) (vp := vp) (c := c) k G
  have hLn := fun (G : Heap) => co_length' (hF G).shop ho (c.last k).toNat (by omega)
  rw [Int.toNat_of_nonneg lb.1] at hLn
  have hM := fun (G : Heap) => co_many (hF G).shop (by have := ho.lo; omega) (by have := ho.ev; omega)
  rw [ho.many_eq] at hM
  have hN := fun (G : Heap) => dn_Reach (H.length + 1) G
  simp only [hv, hn, if_true, Col.seen, Col.av, List.length_append, List.length_cons, List.length_nil, List.append_assoc, List.cons_append, List.nil_append, Nat.add_assoc, Nat.reduceAdd, Nat.zero_add] at hL hF hLn hM
  have hI := alike_it ho (s := k) (by omega) (l := H.length + 7) (lm := H.length + 5) (p1 := H.length + 10) (p2 := H.length + 11) (n := H.length + 14) (y := H.length + 13) (vw := vw) (vp := vp) (vo := .gsl (H.length + 6) c.ws.length)
    (Hr := fun x : Int => H ++ reachH c vw vp k H.length x (loopRec Try.f22 22 0 (reachE c vw vp k H.length) (H.length + 12)))
    (Hd := fun x : Int => H ++ reachH c vw vp k H.length x (loopRec Try.f22 22 0 (reachE c vw vp k H.length) (H.length + 12)))
    (g := fun x a b => (lastF x a b, true))
    ⟨fun n => by simp [reachH], fun n => by simp [reachH], fun n => by rw [get_at']; rfl, fun n => by rw [get_at']; rfl, fun n => (hF _).shop, fun n => (hF _).mp, fun x a b hab hb => by
      simp (maxSteps := 1000000) (implicitDefEqProofs := false) (disch := first | rfl | omega | assumption) only [go_sem, ↓reduceIte, Nat.reduceEqDiff, Nat.reduceAdd, Nat.reduceLeDiff, Nat.reduceBEq, Nat.reduceMul, Nat.reduceLT, Int.reduceLT, Int.reduceLE, Int.reduceToNat, Int.reduceNeg, Int.reduceEq, Int.reduceMul, reduceCtorEq, Int.reduceBEq, Int.reduceBNe, Int.reduceAdd, Int.reduceSub, loopRec, rangesOf, List.nil_append, List.append_nil, List.cons_append, List.getElem?_cons_zero, List.getElem?_cons_succ, Try.f22, reachH, reachE, lastF]⟩ ((c.manyN : Int) - 1)
  rw [itA_true] at hI
  change callFL _ _ _ _ _ _ _ = some ⟨_, if true = true then H ++ reachH c vw vp k H.length (c.last k) _ else _, _⟩ at hI
  simp only [loopRec, rangesOf, List.nil_append, List.append_nil, List.cons_append, List.getElem?_cons_zero, List.getElem?_cons_succ, Try.f22, reachH, reachE, if_true] at hI
  simp only [Col.av]
  refine (callFL_eq fn22 rfl (by simp [Try.f22])).trans ?_
  simp (maxSteps := 1000000) (implicitDefEqProofs := false) (disch := first | rfl | omega | assumption) only [go_sem, ↓reduceIte, Nat.reduceEqDiff, Nat.reduceAdd, Nat.reduceLeDiff, Nat.reduceBEq, Nat.reduceMul, Nat.reduceLT, Int.reduceLT, Int.reduceLE, Int.reduceToNat, Int.reduceNeg, Int.reduceEq, Int.reduceMul, reduceCtorEq, Int.reduceBEq, Int.reduceBNe, Int.reduceAdd, Int.reduceSub, s1, s2, hL, hA, hcv, hI, hN, hM, hLn]

end Go.Ab
/-
  The pairs.
-/
namespace Go.Ab
open Go.Proofs
set_option linter.unusedSimpArgs false
set_option linter.unusedVariables false
set_option maxRecDepth 100000
set_option maxHeartbeats 1000000

variable {H : Heap}

def lookO (a : Int) : List (Int × Int) → Option Int
  | [] => none
  | p :: r => if a == p.1 then some p.2 else lookO a r

def putD (a v : Int) : List (Int × Int) → List (Int × Int)
  | [] => [(a, v)]
  | p :: r => if a == p.1 then (a, v) :: r else p :: putD a v r

def mpI (ds : List (Int × Int)) : List (AV × AV) := ds.map fun p => (I p.1, I p.2)

theorem same_I (a b : Int) : (I a).same (I b) = (a == b) := by simp [I, AV.same]

theorem lookupM_mp (a : Int) : ∀ ds, lookupM (I a) (mpI ds) = (lookO a ds).map I
  | [] => rfl
  | p :: r => by
    show (if (I a).same (I p.1) = true then some (I p.2) else lookupM (I a) (mpI r)) = _
    rw [same_I, lookO, lookupM_mp a r]
    split <;> rfl

theorem putM_mp (a v : Int) : ∀ ds, putM (I a) (I v) (mpI ds) = mpI (putD a v ds)
  | [] => rfl
  | p :: r => by
    show (if (I a).same (I p.1) = true then (I a, I v) :: mpI r else (I p.1, I p.2) :: putM (I a) (I v) (mpI r)) = _
    rw [same_I, putD, putM_mp a v r]
    split <;> rfl

theorem lookO_put (a v b : Int) : ∀ ds, lookO b (putD a v ds) = if b = a then some v else lookO b ds
  | [] => by simp [putD, lookO]
  | p :: r => by
    simp only [putD]
    by_cases h : a = p.1
    · simp only [h, beq_self_eq_true, if_true, lookO]
      by_cases h2 : b = p.1 <;> simp [h2]
    · have h' : (a == p.1) = false := by simpa using h
      simp only [h', Bool.false_eq_true, if_false, lookO, lookO_put a v b r]
      by_cases h2 : b = p.1
      · have : ¬ b = a := by omega
        simp [h2, this]; omega
      · simp [h2]

def max3 (a b c : Int) : Int := if (if a < b then b else a) < c then c else (if a < b then b else a)

/-- One pair more. -/
def pairG (st : Int × List (Int × Int) × Int) (a b : Nat) : Int × List (Int × Int) × Int :=
  (w1 st.1, putD b (w1 ((lookO b st.2.1).getD 0)) (putD a (w1 ((lookO a st.2.1).getD 0)) st.2.1), max3 st.2.2 (w1 (w1 ((lookO a st.2.1).getD 0))) (w1 (w1 ((lookO b st.2.1).getD 0))))

def pairsE (c : Col) (vw vp : AV) (k n : Nat) : Env :=
  [(20, .func (.func 101) [] [.ptr (n + 13) 0, .ptr (n + 14) 0]), (19, U k), (18, I k), (17, .ptr (n + 7) 0), (10, .ptr (n + 12) 0), (9, .ptr (n + 11) 0), (8, .ptr (n + 10) 0), (16, .map (n + 9)), (7, .ptr (n + 7) 0), (15, .ptr (n + 7) 0), (14, I k),
   (13, .agg [vw, vp, I c.lo, I c.hi, I c.ev, I c.er]), (12, .func (.func 65) [] [.ptr (n + 1) 0]), (6, .ptr (n + 1) 0), (5, I 0), (4, I 0), (2, .ptr n 0), (0, .agg [vw, vp, I c.lo, I c.hi, I c.ev, I c.er]), (1, I k)]

noncomputable def pairsH (c : Col) (vw vp : AV) (k n : Nat) (x : Int) (ds : List (Int × Int)) (y : Int) (lp : ALoop) : Heap :=
  [.box (.agg [vw, vp, I c.lo, I c.hi, I c.ev, I c.er]), .box (I 0), .box (.agg [vw, vp, I c.lo, I c.hi, I c.ev, I c.er]), .box (I k), .box (.agg [vw, vp, I c.lo, I c.hi, I c.ev, I c.er]), .map 84 c.pes, .grow 1 (c.ws.map I),
   .box (.agg [vw, vp, I c.lo, I c.hi, I c.ev, I c.er, .gsl (n + 6) c.ws.length, .map (n + 5)]), .box (.agg [I c.lo, I c.hi]), .map 3 (mpI ds), .box (.map (n + 9)), .box (I x), .box (I y), .box (.ptr (n + 7) 0), .box (U k), .dfr, .loop lp]

def Col.prs (c : Col) (s : Nat) : Int × List (Int × Int) × Int := foldP c s pairG (0, [], 1)

theorem co_Pairs_t {c : Col} {vw vp : AV} (h : ColAt H c vw vp) (ho : c.Ok) (hv : c.valid = true) (k : Nat) (hn : c.isSet k = true) :
    callFL cfg0 prog0 false 20 [c.av vw vp, I k] H none = some ⟨.ret (.tup [I (c.prs k).1, I (c.prs k).2.2, I 0]), H, none⟩ := by
  have s1 := h.ws.scal
  have s2 := h.ps.scal
  have hl := ho.len
  have hl2 := ho.plen
  have hk := ho.set_bd hn
  have mb := ho.many_bd
  have hL := co_look (H := H ++ [.box (c.av vw vp), .box (I 0)]) (h.app _) (by omega) k
  have hA := fun (l : Nat) (G : Heap) => co_alikef (l := l) k G
  have hcv : IntKind.u64.wrap (k : Int) = k := wrapU (by omega)
  have hF := fun G : Heap => Col.seen_full (H := H ++ [.box (c.av vw vp), .box (I 0)]) (vw := vw) (vp := vp) (c := c) k G
  have hN := fun (G : Heap) => dn_Pairs (H.length + 1) G
  simp only [hv, hn, if_true, Col.seen, Col.av, List.length_append, List.length_cons, List.length_nil, List.append_assoc, List.cons_append, List.nil_append, Nat.add_assoc, Nat.reduceAdd, Nat.zero_add] at hL hF
  have hI := alike_it ho (s := k) (by omega) (l := H.length + 7) (lm := H.length + 5) (p1 := H.length + 13) (p2 := H.length + 14) (n := H.length + 17) (y := H.length + 16) (vw := vw) (vp := vp) (vo := .gsl (H.length + 6) c.ws.length)
    (Hr := fun x : Int × List (Int × Int) × Int => H ++ pairsH c vw vp k H.length x.1 x.2.1 x.2.2 (loopRec Try.f20 20 0 (pairsE c vw vp k H.length) (H.length + 15)))
    (Hd := fun x : Int × List (Int × Int) × Int => H ++ pairsH c vw vp k H.length x.1 x.2.1 x.2.2 (loopRec Try.f20 20 0 (pairsE c vw vp k H.length) (H.length + 15)))
    (g := fun x a b => (pairG x a b, true))
    ⟨fun n => by simp [pairsH], fun n => by simp [pairsH], fun n => by rw [get_at']; rfl, fun n => by rw [get_at']; rfl, fun n => (hF _).shop, fun n => (hF _).mp, fun x a b hab hb => by
      obtain ⟨x1, x2, x3⟩ := x
      have hne : ¬ ((a : Int) = b) := by omega
      have hne2 : ¬ ((b : Int) = a) := by omega
      simp only [pairG]
      rcases ha : lookO a x2 with _ | va <;> rcases hb2 : lookO b x2 with _ | vb <;>
      simp (maxSteps := 1000000) (implicitDefEqProofs := false) (disch := first | rfl | omega | assumption) only [go_sem, ↓reduceIte, Nat.reduceEqDiff, Nat.reduceAdd, Nat.reduceLeDiff, Nat.reduceBEq, Nat.reduceMul, Nat.reduceLT, Int.reduceLT, Int.reduceLE, Int.reduceToNat, Int.reduceNeg, Int.reduceEq, Int.reduceMul, reduceCtorEq, Int.reduceBEq, Int.reduceBNe, Int.reduceAdd, Int.reduceSub, loopRec, rangesOf, List.nil_append, List.append_nil, List.cons_append, List.getElem?_cons_zero, List.getElem?_cons_succ, Try.f20, pairsH, pairsE, lookupM_mp, putM_mp, lookO_put, ha, hb2, hne, hne2, w1, max3, Option.getD_some, Option.getD_none]
      all_goals rfl⟩ (0, [], 1)
  rw [itA_true] at hI
  change callFL _ _ _ _ _ _ _ = some ⟨_, if true = true then H ++ pairsH c vw vp k H.length (c.prs k).1 (c.prs k).2.1 (c.prs k).2.2 _ else _, _⟩ at hI
  generalize c.prs k = r at hI ⊢
  simp only [loopRec, rangesOf, List.nil_append, List.append_nil, List.cons_append, List.getElem?_cons_zero, List.getElem?_cons_succ, Try.f20, pairsH, pairsE, if_true, mpI, List.map_nil] at hI
  simp only [Col.av]
  refine (callFL_eq fn20 rfl (by simp [Try.f20])).trans ?_
  simp (maxSteps := 1000000) (implicitDefEqProofs := false) (disch := first | rfl | omega | assumption) only [go_sem, ↓reduceIte, Nat.reduceEqDiff, Nat.reduceAdd, Nat.reduceLeDiff, Nat.reduceBEq, Nat.reduceMul, Nat.reduceLT, Int.reduceLT, Int.reduceLE, Int.reduceToNat, Int.reduceNeg, Int.reduceEq, Int.reduceMul, reduceCtorEq, Int.reduceBEq, Int.reduceBNe, Int.reduceAdd, Int.reduceSub, s1, s2, hL, hA, hcv]
  simp (maxSteps := 1000000) (implicitDefEqProofs := false) (disch := first | rfl | omega | assumption) only [go_sem, ↓reduceIte, Nat.reduceEqDiff, Nat.reduceAdd, Nat.reduceLeDiff, Nat.reduceBEq, Nat.reduceMul, Nat.reduceLT, Int.reduceLT, Int.reduceLE, Int.reduceToNat, Int.reduceNeg, Int.reduceEq, Int.reduceMul, reduceCtorEq, Int.reduceBEq, Int.reduceBNe, Int.reduceAdd, Int.reduceSub, s1, s2, hL, hA, hcv, hI]
  rw [chkK_of]; rotate_left; kernel_rfl
  simp (maxSteps := 1000000) (implicitDefEqProofs := false) (disch := first | rfl | omega | assumption) only [go_sem, ↓reduceIte, Nat.reduceEqDiff, Nat.reduceAdd, Nat.reduceLeDiff, Nat.reduceBEq, Nat.reduceMul, Nat.reduceLT, Int.reduceLT, Int.reduceLE, Int.reduceToNat, Int.reduceNeg, Int.reduceEq, Int.reduceMul, reduceCtorEq, Int.reduceBEq, Int.reduceBNe, Int.reduceAdd, Int.reduceSub, hN]

end Go.Ab
/-
  The references of the layer colour: what is alike, how many are left, the worst, the reach.
-/
namespace Go.Ab
open Go.Proofs
set_option linter.unusedSimpArgs false
set_option linter.unusedVariables false
set_option maxRecDepth 100000

variable {H : Heap}

def Col.alikeR (c : Col) (n : Int) : Int × Int × Int := if c.valid then (if c.isSet n then (match c.alkR n.toNat with | some p => (p.1, p.2, 0) | none => (0, 0, 4)) else (0, 0, 2)) else (0, 0, 1)

theorem len20 {c : Col} (hl : c.ws.length ≤ 60 ∨ c.valid = true) : c.ws.length ≤ 60 := by
  rcases hl with h | h
  · exact h
  · have := (c.valid_iff.1 h).len; omega

theorem ref_Alike {c : Col} {vw vp : AV} (h : ColAt H c vw vp) (hl : c.ws.length ≤ 60 ∨ c.valid = true) (n : Int) : callFL cfg0 prog0 false 19 [c.av vw vp, I n] H none = some ⟨.ret (.tup [I (c.alikeR n).1, I (c.alikeR n).2.1, I (c.alikeR n).2.2]), H, none⟩ := by
  have s1 := h.ws.scal
  have s2 := h.ps.scal
  have h1 := fun G : Heap => ref_Set' (h.app G) (len20 hl) n
  have h2 := fun G : Heap => ref_check (h.app G)
  rcases Bool.eq_false_or_eq_true c.valid with hv | hv
  · have ho := c.valid_iff.1 hv
    rcases Bool.eq_false_or_eq_true (c.isSet n) with hn | hn
    · have h3 := fun G : Heap => ref_Lengths (h.app G) ho
      obtain ⟨b1, b2, b3⟩ := ho.set_bd hn
      have h4 := ref_Alike_l1 h ho n.toNat (by omega) c.manyN 0 (by omega)
      simp only [Col.av] at h1 h2 h3 h4 ⊢
      refine (callFL_eq fn19 rfl (by simp [Try.f19])).trans ?_
      simp (maxSteps := 1000000) (implicitDefEqProofs := false) (disch := first | rfl | omega | assumption) only [go_sem, ↓reduceIte, Nat.reduceEqDiff, Nat.reduceAdd, Nat.reduceLeDiff, Nat.reduceBEq, Nat.reduceMul, Nat.reduceLT, Int.reduceLT, Int.reduceLE, Int.reduceToNat, Int.reduceNeg, Int.reduceEq, Int.reduceMul, reduceCtorEq, Int.reduceBEq, Int.reduceBNe, Int.reduceAdd, Int.reduceSub, ltT, ltF, leT, leF, s1, s2]
      rw [chkK_of]; rotate_left; kernel_rfl
      simp (maxSteps := 1000000) (implicitDefEqProofs := false) (disch := first | rfl | omega | assumption) only [go_sem, ↓reduceIte, Nat.reduceEqDiff, Nat.reduceAdd, Nat.reduceLeDiff, Nat.reduceBEq, Nat.reduceMul, Nat.reduceLT, Int.reduceLT, Int.reduceLE, Int.reduceToNat, Int.reduceNeg, Int.reduceEq, Int.reduceMul, reduceCtorEq, Int.reduceBEq, Int.reduceBNe, Int.reduceAdd, Int.reduceSub, ltT, ltF, leT, leF, s1, s2, h1, h2, h3, hv, hn]
      rw [b1] at h4 ⊢
      refine (h4 _ (by rfl) (by rfl) (by rfl) (by rfl)).trans ?_
      simp only [Int.toNat_natCast, Col.alikeR, hv, ← b1, hn, if_true, Col.alkR]
      cases findF (fun i => findF (c.alk1 n.toNat i) (i + 1) (c.manyN - (i + 1))) 0 c.manyN <;> rfl
    · simp only [Col.av, Col.alikeR, hv, hn] at h1 h2 ⊢
      refine (callFL_eq fn19 rfl (by simp [Try.f19])).trans ?_
      simp (maxSteps := 1000000) (implicitDefEqProofs := false) (disch := first | rfl | omega | assumption) only [go_sem, ↓reduceIte, Nat.reduceEqDiff, Nat.reduceAdd, Nat.reduceLeDiff, Nat.reduceBEq, Nat.reduceMul, Nat.reduceLT, Int.reduceLT, Int.reduceLE, Int.reduceToNat, Int.reduceNeg, Int.reduceEq, Int.reduceMul, reduceCtorEq, Int.reduceBEq, Int.reduceBNe, Int.reduceAdd, Int.reduceSub, ltT, ltF, leT, leF, s1, s2]
      rw [chkK_of]; rotate_left; kernel_rfl
      simp (maxSteps := 1000000) (implicitDefEqProofs := false) (disch := first | rfl | omega | assumption) only [go_sem, ↓reduceIte, Nat.reduceEqDiff, Nat.reduceAdd, Nat.reduceLeDiff, Nat.reduceBEq, Nat.reduceMul, Nat.reduceLT, Int.reduceLT, Int.reduceLE, Int.reduceToNat, Int.reduceNeg, Int.reduceEq, Int.reduceMul, reduceCtorEq, Int.reduceBEq, Int.reduceBNe, Int.reduceAdd, Int.reduceSub, ltT, ltF, leT, leF, s1, s2, h1, h2, hv, hn]
  · simp only [Col.av, Col.alikeR, hv] at h1 h2 ⊢
    refine (callFL_eq fn19 rfl (by simp [Try.f19])).trans ?_
    simp (maxSteps := 1000000) (implicitDefEqProofs := false) (disch := first | rfl | omega | assumption) only [go_sem, ↓reduceIte, Nat.reduceEqDiff, Nat.reduceAdd, Nat.reduceLeDiff, Nat.reduceBEq, Nat.reduceMul, Nat.reduceLT, Int.reduceLT, Int.reduceLE, Int.reduceToNat, Int.reduceNeg, Int.reduceEq, Int.reduceMul, reduceCtorEq, Int.reduceBEq, Int.reduceBNe, Int.reduceAdd, Int.reduceSub, ltT, ltF, leT, leF, s1, s2]
    rw [chkK_of]; rotate_left; kernel_rfl
    simp (maxSteps := 1000000) (implicitDefEqProofs := false) (disch := first | rfl | omega | assumption) only [go_sem, ↓reduceIte, Nat.reduceEqDiff, Nat.reduceAdd, Nat.reduceLeDiff, Nat.reduceBEq, Nat.reduceMul, Nat.reduceLT, Int.reduceLT, Int.reduceLE, Int.reduceToNat, Int.reduceNeg, Int.reduceEq, Int.reduceMul, reduceCtorEq, Int.reduceBEq, Int.reduceBNe, Int.reduceAdd, Int.reduceSub, ltT, ltF, leT, leF, s1, s2, h1, h2, hv]

/-- How many of the lengths below i a set does not part from it. -/
def Col.cnt (c : Col) (s i : Nat) (n k : Nat) : Nat := if c.partB s (c.lenAt i) (c.lenAt k) then n else n + 1
def Col.leftN (c : Col) (s : Nat) : Nat := foldF (fun n i => foldF (c.cnt s i) n 0 i) 0 0 c.manyN

theorem ref_left_l2 {c : Col} {vw vp : AV} (h : ColAt H c vw vp) (hc : c.Ok) (s : Nat) (hs : s < 1000000) (i : Nat) (hi : i < c.manyN) (r : Nat) (K : List Item) (R : Option Done) (hK : ∀ E : Env, E.get 1 = I s → E.get 2 = .ptr H.length 0 → E.get 5 = .sl false (c.lens.map I) → E.get 6 = I r → E.get 7 = I i → Option.map (finishC H.length) (execL cfg0 prog0 ⟨66, none, false, H.length⟩ K ⟨E, [], H ++ [.box (c.av vw vp)], none⟩) = R)  :
    ∀ (q j : Nat), j + q = i → ∀ (n : Nat), foldF (c.cnt s i) n j q = r → n ≤ 1000 * i + j → ∀ E : Env, E.get 1 = I s → E.get 2 = .ptr H.length 0 → E.get 5 = .sl false (c.lens.map I) → E.get 6 = I n → E.get 7 = I i → E.get 8 = I j →
    Option.map (finishC H.length) (execL cfg0 prog0 ⟨66, none, false, H.length⟩ (loopIt Try.f66 7 :: .inBlock 2 :: K) ⟨E, [], H ++ [.box (c.av vw vp)], none⟩) = R := by
  intro q
  have s1 := h.ws.scal
  have s2 := h.ps.scal
  have mb := hc.many_bd
  have ll := c.lens_len
  have lg := fun j => c.lens_getD (j := j)
  obtain ⟨a1, a2, a3, a4⟩ := (sl_ok (H := H) (b := false) c.lens).fI
  have bi := hc.lenAt_bd hi
  simp only [Col.av] at hK ⊢
  induction q with
  | zero =>
    intro j hj n hr hn E g1 g2 g5 g6 g7 g8
    have hk' : ¬ (j : Int) < ((i : Nat) : Int) := by omega
    simp only [loopIt, todoPast, todoAt, todoOf, firstReg, ↓reduceIte, Option.some.injEq, Nat.reduceEqDiff, reduceCtorEq, Try.f66]
    rw [execL_inLoop]
    simp (maxSteps := 1000000) (implicitDefEqProofs := false) (disch := first | rfl | omega | assumption) only [go_sem, ↓reduceIte, Nat.reduceEqDiff, Nat.reduceAdd, Nat.reduceLeDiff, Nat.reduceBEq, Nat.reduceMul, Nat.reduceLT, Int.reduceLT, Int.reduceLE, Int.reduceToNat, Int.reduceNeg, Int.reduceEq, Int.reduceMul, reduceCtorEq, Int.reduceBEq, Int.reduceBNe, Int.reduceAdd, Int.reduceSub, g1, g2, g5, g6, g7, g8, ltT, ltF, leT, leF, hk']
    exact hK _ (by exact g1) (by exact g2) (by exact g5) (by rw [← hr]; exact g6) (by exact g7)
  | succ q ih =>
    intro j hj n hr hn E g1 g2 g5 g6 g7 g8
    have hk' : (j : Int) < ((i : Nat) : Int) := by omega
    have hk2 : j < i := by omega
    have bj := hc.lenAt_bd (show j < c.manyN by omega)
    have hB := fun (G : Heap) => ref_parts (h.app G) hc s hs (c.lenAt i) (c.lenAt j) bi bj
    simp only [Col.av] at hB
    simp only [foldF, Col.cnt] at hr
    simp only [loopIt, todoPast, todoAt, todoOf, firstReg, ↓reduceIte, Option.some.injEq, Nat.reduceEqDiff, reduceCtorEq, Try.f66]
    rw [execL_inLoop]
    simp (maxSteps := 1000000) (implicitDefEqProofs := false) (disch := first | rfl | omega | assumption) only [go_sem, ↓reduceIte, Nat.reduceEqDiff, Nat.reduceAdd, Nat.reduceLeDiff, Nat.reduceBEq, Nat.reduceMul, Nat.reduceLT, Int.reduceLT, Int.reduceLE, Int.reduceToNat, Int.reduceNeg, Int.reduceEq, Int.reduceMul, reduceCtorEq, Int.reduceBEq, Int.reduceBNe, Int.reduceAdd, Int.reduceSub, g1, g2, g5, g6, g7, g8, ltT, ltF, leT, leF, hk', s1, s2, a1, a2, a3, a4, ll, lg]
    rw [chkK_of]; rotate_left; kernel_rfl
    simp (maxSteps := 1000000) (implicitDefEqProofs := false) (disch := first | rfl | omega | assumption) only [go_sem, ↓reduceIte, Nat.reduceEqDiff, Nat.reduceAdd, Nat.reduceLeDiff, Nat.reduceBEq, Nat.reduceMul, Nat.reduceLT, Int.reduceLT, Int.reduceLE, Int.reduceToNat, Int.reduceNeg, Int.reduceEq, Int.reduceMul, reduceCtorEq, Int.reduceBEq, Int.reduceBNe, Int.reduceAdd, Int.reduceSub, g1, g2, g5, g6, g7, g8, ltT, ltF, leT, leF, hk', s1, s2, hB, a1, a2, a3, a4, ll, lg]
    repeat' ((with_reducible first
        | refine cond_ifb (fun hc hd he => ?_) (fun hc hd he => ?_)
        | refine guard_ifb (fun hc hd he => ?_) (fun hc hd he => ?_)
        | refine cond_dec (fun hc hd he => ?_) (fun hc hd he => ?_)
        | refine guard_dec (fun hc hd he => ?_) (fun hc hd he => ?_)
        | refine cond_ndec (fun hc hd he => ?_) (fun hc hd he => ?_)
        | refine guard_ndec (fun hc hd he => ?_) (fun hc hd he => ?_)
        | refine cond_not (fun hc hd he => ?_) (fun hc hd he => ?_)
        | refine guard_not (fun hc hd he => ?_) (fun hc hd he => ?_)
        | refine cond_beq (fun hc hd he => ?_) (fun hc hd he => ?_)
        | refine guard_beq (fun hc hd he => ?_) (fun hc hd he => ?_)
        | refine cond_bne (fun hc hd he => ?_) (fun hc hd he => ?_)
        | refine guard_bne (fun hc hd he => ?_) (fun hc hd he => ?_)
        | refine cond_split (fun hc hd he => ?_) (fun hc hd he => ?_)
        | refine guard_split (fun hc hd he => ?_) (fun hc hd he => ?_)
        | refine call_beq (fun hc hd he => ?_) (fun hc hd he => ?_)
        | refine call_ifb (fun hc hd he => ?_) (fun hc hd he => ?_)
        | refine call_ifd (fun hc hd he => ?_) (fun hc hd he => ?_)
        | refine call_dec (fun hc hd he => ?_) (fun hc hd he => ?_)) <;> try simp (maxSteps := 1000000) (implicitDefEqProofs := false) (disch := first | rfl | omega | assumption) only [go_sem, ↓reduceIte, Nat.reduceEqDiff, Nat.reduceAdd, Nat.reduceLeDiff, Nat.reduceBEq, Nat.reduceMul, Nat.reduceLT, Int.reduceLT, Int.reduceLE, Int.reduceToNat, Int.reduceNeg, Int.reduceEq, Int.reduceMul, reduceCtorEq, Int.reduceBEq, Int.reduceBNe, Int.reduceAdd, Int.reduceSub, g1, g2, g5, g6, g7, g8, ltT, ltF, leT, leF, hk', hc, he, s1, s2, hB, a1, a2, a3, a4, ll, lg])
    · rw [hc] at hr
      exact ih (j + 1) (by omega) (n + 1) hr (by omega) _ (by exact g1) (by exact g2) (by exact g5) (by rfl) (by exact g7) (by rfl)
    · rw [hc] at hr
      exact ih (j + 1) (by omega) n hr (by omega) _ (by exact g1) (by exact g2) (by exact g5) (by exact g6) (by exact g7) (by rfl)

theorem ref_left_l1 {c : Col} {vw vp : AV} (h : ColAt H c vw vp) (ho : c.Ok) (s : Nat) (hs : s < 1000000) (r : Nat) :
    ∀ (q j : Nat), j + q = c.manyN → ∀ (n : Nat), foldF (fun n i => foldF (c.cnt s i) n 0 i) n j q = r → n ≤ 1000 * j → ∀ E : Env, E.get 1 = I s → E.get 2 = .ptr H.length 0 → E.get 5 = .sl false (c.lens.map I) → E.get 6 = I n → E.get 7 = I j →
    Option.map (finishC H.length) (execL cfg0 prog0 ⟨66, none, false, H.length⟩ (todoAt Try.f66 4) ⟨E, [], H ++ [.box (c.av vw vp)], none⟩) = some ⟨.ret (I r), H, none⟩ := by
  intro q
  have s1 := h.ws.scal
  have s2 := h.ps.scal
  have mb := ho.many_bd
  have ll := c.lens_len
  simp only [Col.av]
  induction q with
  | zero =>
    intro j hj n hr hn E g1 g2 g5 g6 g7
    have hk' : ¬ (j : Int) < ((c.manyN : Nat) : Int) := by omega
    simp only [foldF] at hr
    subst hr
    simp only [loopIt, todoPast, todoAt, todoOf, firstReg, ↓reduceIte, Option.some.injEq, Nat.reduceEqDiff, reduceCtorEq, Try.f66]
    rw [execL_inLoop]
    simp (maxSteps := 1000000) (implicitDefEqProofs := false) (disch := first | rfl | omega | assumption) only [go_sem, ↓reduceIte, Nat.reduceEqDiff, Nat.reduceAdd, Nat.reduceLeDiff, Nat.reduceBEq, Nat.reduceMul, Nat.reduceLT, Int.reduceLT, Int.reduceLE, Int.reduceToNat, Int.reduceNeg, Int.reduceEq, Int.reduceMul, reduceCtorEq, Int.reduceBEq, Int.reduceBNe, Int.reduceAdd, Int.reduceSub, g1, g2, g5, g6, g7, ltT, ltF, leT, leF, hk', s1, s2, ll]
  | succ q ih =>
    intro j hj n hr hn E g1 g2 g5 g6 g7
    have hk' : (j : Int) < ((c.manyN : Nat) : Int) := by omega
    have hk2 : j < c.manyN := by omega
    have hb : foldF (c.cnt s j) n 0 j ≤ n + j := by
      have := foldF_inv (c.cnt s j) (fun i x => x ≤ n + i) j 0 n (by omega) (fun i b _ _ hb => by simp only [Col.cnt]; split <;> omega)
      omega
    simp only [loopIt, todoPast, todoAt, todoOf, firstReg, ↓reduceIte, Option.some.injEq, Nat.reduceEqDiff, reduceCtorEq, Try.f66]
    rw [execL_inLoop]
    simp (maxSteps := 1000000) (implicitDefEqProofs := false) (disch := first | rfl | omega | assumption) only [go_sem, ↓reduceIte, Nat.reduceEqDiff, Nat.reduceAdd, Nat.reduceLeDiff, Nat.reduceBEq, Nat.reduceMul, Nat.reduceLT, Int.reduceLT, Int.reduceLE, Int.reduceToNat, Int.reduceNeg, Int.reduceEq, Int.reduceMul, reduceCtorEq, Int.reduceBEq, Int.reduceBNe, Int.reduceAdd, Int.reduceSub, g1, g2, g5, g6, g7, ltT, ltF, leT, leF, hk', s1, s2, ll]
    refine ref_left_l2 h ho s hs j hk2 (foldF (c.cnt s j) n 0 j) _ _ (fun E g1 g2 g5 g6 g7 => ?_) j 0 (by omega) n rfl (by omega) _ (by exact g1) (by exact g2) (by exact g5) (by exact g6) (by exact g7) (by rfl)
    simp only [Col.av]
    simp (maxSteps := 1000000) (implicitDefEqProofs := false) (disch := first | rfl | omega | assumption) only [go_sem, ↓reduceIte, Nat.reduceEqDiff, Nat.reduceAdd, Nat.reduceLeDiff, Nat.reduceBEq, Nat.reduceMul, Nat.reduceLT, Int.reduceLT, Int.reduceLE, Int.reduceToNat, Int.reduceNeg, Int.reduceEq, Int.reduceMul, reduceCtorEq, Int.reduceBEq, Int.reduceBNe, Int.reduceAdd, Int.reduceSub, g1, g2, g5, g6, g7, ltT, ltF, leT, leF, hk']
    exact ih (j + 1) (by omega) (foldF (c.cnt s j) n 0 j) hr (by omega) _ (by exact g1) (by exact g2) (by exact g5) (by exact g6) (by rfl)

theorem ref_left {c : Col} {vw vp : AV} (h : ColAt H c vw vp) (ho : c.Ok) (s : Nat) (hs : s < 1000000) : callFL cfg0 prog0 false 66 [c.av vw vp, I s] H none = some ⟨.ret (I (c.leftN s)), H, none⟩ := by
  have s1 := h.ws.scal
  have s2 := h.ps.scal
  have h3 := fun G : Heap => ref_Lengths (h.app G) ho
  have h4 := ref_left_l1 h ho s hs (c.leftN s) c.manyN 0 (by omega) 0 rfl (by omega)
  simp only [Col.av] at h3 h4 ⊢
  refine (callFL_eq fn66 rfl (by simp [Try.f66])).trans ?_
  simp (maxSteps := 1000000) (implicitDefEqProofs := false) (disch := first | rfl | omega | assumption) only [go_sem, ↓reduceIte, Nat.reduceEqDiff, Nat.reduceAdd, Nat.reduceLeDiff, Nat.reduceBEq, Nat.reduceMul, Nat.reduceLT, Int.reduceLT, Int.reduceLE, Int.reduceToNat, Int.reduceNeg, Int.reduceEq, Int.reduceMul, reduceCtorEq, Int.reduceBEq, Int.reduceBNe, Int.reduceAdd, Int.reduceSub, ltT, ltF, leT, leF, s1, s2, h3]
  exact h4 _ (by rfl) (by rfl) (by rfl) (by rfl) (by rfl)

theorem Col.leftN_bd {c : Col} (ho : c.Ok) (s : Nat) : c.leftN s ≤ 300000 := by
  have mb := ho.many_bd
  have := foldF_inv (fun n i => foldF (c.cnt s i) n 0 i) (fun i x => x ≤ 1000 * i) c.manyN 0 0 (by omega) (fun i b _ hi hb => by
    have := foldF_inv (c.cnt s i) (fun k x => x ≤ b + k) i 0 b (by omega) (fun i b _ _ hb => by simp only [Col.cnt]; split <;> omega)
    omega)
  simp only [Col.leftN]
  omega

def Col.worstR (c : Col) (s : Nat) : Int := foldF (fun (w : Int) i => if w < ((foldF (c.cnt s i) 0 0 c.manyN : Nat) : Int) then ((foldF (c.cnt s i) 0 0 c.manyN : Nat) : Int) else w) 0 0 c.manyN

theorem ref_Pairs_l2 {c : Col} {vw vp : AV} (h : ColAt H c vw vp) (ho : c.Ok) (s : Nat) (hs : s < 1000000) (i : Nat) (hi : i < c.manyN) (r : Nat) (w : Int) (K : List Item) (R : Option Done) (hK : ∀ E : Env, E.get 1 = I s → E.get 2 = .ptr H.length 0 → E.get 8 = .sl false (c.lens.map I) → E.get 9 = I w → E.get 10 = I i → E.get 11 = I r → Option.map (finishC H.length) (execL cfg0 prog0 ⟨21, none, false, H.length⟩ K ⟨E, [], H ++ [.box (c.av vw vp)], none⟩) = R)  :
    ∀ (q j : Nat), j + q = c.manyN → ∀ (n : Nat), foldF (c.cnt s i) n j q = r → n ≤ j → ∀ E : Env, E.get 1 = I s → E.get 2 = .ptr H.length 0 → E.get 8 = .sl false (c.lens.map I) → E.get 9 = I w → E.get 10 = I i → E.get 11 = I n → E.get 12 = I j →
    Option.map (finishC H.length) (execL cfg0 prog0 ⟨21, none, false, H.length⟩ (loopIt Try.f21 11 :: .inBlock 2 :: K) ⟨E, [], H ++ [.box (c.av vw vp)], none⟩) = R := by
  intro q
  have s1 := h.ws.scal
  have s2 := h.ps.scal
  have mb := ho.many_bd
  have ll := c.lens_len
  have lg := fun j => c.lens_getD (j := j)
  obtain ⟨a1, a2, a3, a4⟩ := (sl_ok (H := H) (b := false) c.lens).fI
  have bi := ho.lenAt_bd hi
  simp only [Col.av] at hK ⊢
  induction q with
  | zero =>
    intro j hj n hr hn E g1 g2 g8 g9 g10 g11 g12
    have hk' : ¬ (j : Int) < ((c.manyN : Nat) : Int) := by omega
    simp only [loopIt, todoPast, todoAt, todoOf, firstReg, ↓reduceIte, Option.some.injEq, Nat.reduceEqDiff, reduceCtorEq, Try.f21]
    rw [execL_inLoop]
    simp (maxSteps := 1000000) (implicitDefEqProofs := false) (disch := first | rfl | omega | assumption) only [go_sem, ↓reduceIte, Nat.reduceEqDiff, Nat.reduceAdd, Nat.reduceLeDiff, Nat.reduceBEq, Nat.reduceMul, Nat.reduceLT, Int.reduceLT, Int.reduceLE, Int.reduceToNat, Int.reduceNeg, Int.reduceEq, Int.reduceMul, reduceCtorEq, Int.reduceBEq, Int.reduceBNe, Int.reduceAdd, Int.reduceSub, g1, g2, g8, g9, g10, g11, g12, ltT, ltF, leT, leF, hk', ll]
    exact hK _ (by exact g1) (by exact g2) (by exact g8) (by exact g9) (by exact g10) (by rw [← hr]; exact g11)
  | succ q ih =>
    intro j hj n hr hn E g1 g2 g8 g9 g10 g11 g12
    have hk' : (j : Int) < ((c.manyN : Nat) : Int) := by omega
    have hk2 : j < c.manyN := by omega
    have bj := ho.lenAt_bd (show j < c.manyN by omega)
    have hB := fun (G : Heap) => ref_parts (h.app G) ho s hs (c.lenAt i) (c.lenAt j) bi bj
    simp only [Col.av] at hB
    simp only [foldF, Col.cnt] at hr
    simp only [loopIt, todoPast, todoAt, todoOf, firstReg, ↓reduceIte, Option.some.injEq, Nat.reduceEqDiff, reduceCtorEq, Try.f21]
    rw [execL_inLoop]
    simp (maxSteps := 1000000) (implicitDefEqProofs := false) (disch := first | rfl | omega | assumption) only [go_sem, ↓reduceIte, Nat.reduceEqDiff, Nat.reduceAdd, Nat.reduceLeDiff, Nat.reduceBEq, Nat.reduceMul, Nat.reduceLT, Int.reduceLT, Int.reduceLE, Int.reduceToNat, Int.reduceNeg, Int.reduceEq, Int.reduceMul, reduceCtorEq, Int.reduceBEq, Int.reduceBNe, Int.reduceAdd, Int.reduceSub, g1, g2, g8, g9, g10, g11, g12, ltT, ltF, leT, leF, hk', s1, s2, a1, a2, a3, a4, ll, lg]
    rw [chkK_of]; rotate_left; kernel_rfl
    simp (maxSteps := 1000000) (implicitDefEqProofs := false) (disch := first | rfl | omega | assumption) only [go_sem, ↓reduceIte, Nat.reduceEqDiff, Nat.reduceAdd, Nat.reduceLeDiff, Nat.reduceBEq, Nat.reduceMul, Nat.reduceLT, Int.reduceLT, Int.reduceLE, Int.reduceToNat, Int.reduceNeg, Int.reduceEq, Int.reduceMul, reduceCtorEq, Int.reduceBEq, Int.reduceBNe, Int.reduceAdd, Int.reduceSub, g1, g2, g8, g9, g10, g11, g12, ltT, ltF, leT, leF, hk', s1, s2, hB, a1, a2, a3, a4, ll, lg]
    repeat' ((with_reducible first
        | refine cond_ifb (fun hc hd he => ?_) (fun hc hd he => ?_)
        | refine guard_ifb (fun hc hd he => ?_) (fun hc hd he => ?_)
        | refine cond_dec (fun hc hd he => ?_) (fun hc hd he => ?_)
        | refine guard_dec (fun hc hd he => ?_) (fun hc hd he => ?_)
        | refine cond_ndec (fun hc hd he => ?_) (fun hc hd he => ?_)
        | refine guard_ndec (fun hc hd he => ?_) (fun hc hd he => ?_)
        | refine cond_not (fun hc hd he => ?_) (fun hc hd he => ?_)
        | refine guard_not (fun hc hd he => ?_) (fun hc hd he => ?_)
        | refine cond_beq (fun hc hd he => ?_) (fun hc hd he => ?_)
        | refine guard_beq (fun hc hd he => ?_) (fun hc hd he => ?_)
        | refine cond_bne (fun hc hd he => ?_) (fun hc hd he => ?_)
        | refine guard_bne (fun hc hd he => ?_) (fun hc hd he => ?_)
        | refine cond_split (fun hc hd he => ?_) (fun hc hd he => ?_)
        | refine guard_split (fun hc hd he => ?_) (fun hc hd he => ?_)
        | refine call_beq (fun hc hd he => ?_) (fun hc hd he => ?_)
        | refine call_ifb (fun hc hd he => ?_) (fun hc hd he => ?_)
        | refine call_ifd (fun hc hd he => ?_) (fun hc hd he => ?_)
        | refine call_dec (fun hc hd he => ?_) (fun hc hd he => ?_)) <;> try simp (maxSteps := 1000000) (implicitDefEqProofs := false) (disch := first | rfl | omega | assumption) only [go_sem, ↓reduceIte, Nat.reduceEqDiff, Nat.reduceAdd, Nat.reduceLeDiff, Nat.reduceBEq, Nat.reduceMul, Nat.reduceLT, Int.reduceLT, Int.reduceLE, Int.reduceToNat, Int.reduceNeg, Int.reduceEq, Int.reduceMul, reduceCtorEq, Int.reduceBEq, Int.reduceBNe, Int.reduceAdd, Int.reduceSub, g1, g2, g8, g9, g10, g11, g12, ltT, ltF, leT, leF, hk', hc, he, s1, s2, hB, a1, a2, a3, a4, ll, lg])
    · rw [hc] at hr
      exact ih (j + 1) (by omega) (n + 1) hr (by omega) _ (by exact g1) (by exact g2) (by exact g8) (by exact g9) (by exact g10) (by rfl) (by rfl)
    · rw [hc] at hr
      exact ih (j + 1) (by omega) n hr (by omega) _ (by exact g1) (by exact g2) (by exact g8) (by exact g9) (by exact g10) (by exact g11) (by rfl)

theorem ref_Pairs_l1 {c : Col} {vw vp : AV} (h : ColAt H c vw vp) (ho : c.Ok) (s : Nat) (hs : s < 1000000) (r : Int) :
    ∀ (q j : Nat), j + q = c.manyN → ∀ (w : Int), foldF (fun (w : Int) i => if w < ((foldF (c.cnt s i) 0 0 c.manyN : Nat) : Int) then ((foldF (c.cnt s i) 0 0 c.manyN : Nat) : Int) else w) w j q = r → ∀ E : Env, E.get 1 = I s → E.get 2 = .ptr H.length 0 → E.get 8 = .sl false (c.lens.map I) → E.get 9 = I w → E.get 10 = I j →
    Option.map (finishC H.length) (execL cfg0 prog0 ⟨21, none, false, H.length⟩ (todoAt Try.f21 7) ⟨E, [], H ++ [.box (c.av vw vp)], none⟩) = some ⟨.ret (.tup [I (c.leftN s), I r, I 0]), H, none⟩ := by
  intro q
  have s1 := h.ws.scal
  have s2 := h.ps.scal
  have mb := ho.many_bd
  have ll := c.lens_len
  have hL := fun G : Heap => ref_left (h.app G) ho s hs
  simp only [Col.av] at hL ⊢
  induction q with
  | zero =>
    intro j hj w hr E g1 g2 g8 g9 g10
    have hk' : ¬ (j : Int) < ((c.manyN : Nat) : Int) := by omega
    simp only [foldF] at hr
    subst hr
    simp only [loopIt, todoPast, todoAt, todoOf, firstReg, ↓reduceIte, Option.some.injEq, Nat.reduceEqDiff, reduceCtorEq, Try.f21]
    rw [execL_inLoop]
    simp (maxSteps := 1000000) (implicitDefEqProofs := false) (disch := first | rfl | omega | assumption) only [go_sem, ↓reduceIte, Nat.reduceEqDiff, Nat.reduceAdd, Nat.reduceLeDiff, Nat.reduceBEq, Nat.reduceMul, Nat.reduceLT, Int.reduceLT, Int.reduceLE, Int.reduceToNat, Int.reduceNeg, Int.reduceEq, Int.reduceMul, reduceCtorEq, Int.reduceBEq, Int.reduceBNe, Int.reduceAdd, Int.reduceSub, g1, g2, g8, g9, g10, ltT, ltF, leT, leF, hk', s1, s2, ll, hL]
  | succ q ih =>
    intro j hj w hr E g1 g2 g8 g9 g10
    have hk' : (j : Int) < ((c.manyN : Nat) : Int) := by omega
    have hk2 : j < c.manyN := by omega
    simp only [foldF] at hr
    simp only [loopIt, todoPast, todoAt, todoOf, firstReg, ↓reduceIte, Option.some.injEq, Nat.reduceEqDiff, reduceCtorEq, Try.f21]
    rw [execL_inLoop]
    simp (maxSteps := 1000000) (implicitDefEqProofs := false) (disch := first | rfl | omega | assumption) only [go_sem, ↓reduceIte, Nat.reduceEqDiff, Nat.reduceAdd, Nat.reduceLeDiff, Nat.reduceBEq, Nat.reduceMul, Nat.reduceLT, Int.reduceLT, Int.reduceLE, Int.reduceToNat, Int.reduceNeg, Int.reduceEq, Int.reduceMul, reduceCtorEq, Int.reduceBEq, Int.reduceBNe, Int.reduceAdd, Int.reduceSub, g1, g2, g8, g9, g10, ltT, ltF, leT, leF, hk', s1, s2, ll]
    refine ref_Pairs_l2 h ho s hs j hk2 (foldF (c.cnt s j) 0 0 c.manyN) w _ _ (fun E g1 g2 g8 g9 g10 g11 => ?_) c.manyN 0 (by omega) 0 rfl (by omega) _ (by exact g1) (by exact g2) (by exact g8) (by exact g9) (by exact g10) (by rfl) (by rfl)
    simp only [Col.av]
    simp (maxSteps := 1000000) (implicitDefEqProofs := false) (disch := first | rfl | omega | assumption) only [go_sem, ↓reduceIte, Nat.reduceEqDiff, Nat.reduceAdd, Nat.reduceLeDiff, Nat.reduceBEq, Nat.reduceMul, Nat.reduceLT, Int.reduceLT, Int.reduceLE, Int.reduceToNat, Int.reduceNeg, Int.reduceEq, Int.reduceMul, reduceCtorEq, Int.reduceBEq, Int.reduceBNe, Int.reduceAdd, Int.reduceSub, g1, g2, g8, g9, g10, ltT, ltF, leT, leF, hk', g11]
    exact ih (j + 1) (by omega) _ hr _ (by exact g1) (by exact g2) (by exact g8) (by rfl) (by rfl)

def Col.pairsR (c : Col) (n : Int) : Int × Int × Int := if c.valid then (if c.isSet n then (c.leftN n.toNat, c.worstR n.toNat, 0) else (0, 0, 2)) else (0, 0, 1)

theorem ref_Pairs {c : Col} {vw vp : AV} (h : ColAt H c vw vp) (hl : c.ws.length ≤ 60 ∨ c.valid = true) (n : Int) : callFL cfg0 prog0 false 21 [c.av vw vp, I n] H none = some ⟨.ret (.tup [I (c.pairsR n).1, I (c.pairsR n).2.1, I (c.pairsR n).2.2]), H, none⟩ := by
  have s1 := h.ws.scal
  have s2 := h.ps.scal
  have h1 := fun G : Heap => ref_Set' (h.app G) (len20 hl) n
  have h2 := fun G : Heap => ref_check (h.app G)
  rcases Bool.eq_false_or_eq_true c.valid with hv | hv
  · have ho := c.valid_iff.1 hv
    rcases Bool.eq_false_or_eq_true (c.isSet n) with hn | hn
    · have h3 := fun G : Heap => ref_Lengths (h.app G) ho
      obtain ⟨b1, b2, b3⟩ := ho.set_bd hn
      have h4 := ref_Pairs_l1 h ho n.toNat (by omega) (c.worstR n.toNat) c.manyN 0 (by omega) 0 rfl
      simp only [Col.av] at h1 h2 h3 h4 ⊢
      refine (callFL_eq fn21 rfl (by simp [Try.f21])).trans ?_
      simp (maxSteps := 1000000) (implicitDefEqProofs := false) (disch := first | rfl | omega | assumption) only [go_sem, ↓reduceIte, Nat.reduceEqDiff, Nat.reduceAdd, Nat.reduceLeDiff, Nat.reduceBEq, Nat.reduceMul, Nat.reduceLT, Int.reduceLT, Int.reduceLE, Int.reduceToNat, Int.reduceNeg, Int.reduceEq, Int.reduceMul, reduceCtorEq, Int.reduceBEq, Int.reduceBNe, Int.reduceAdd, Int.reduceSub, ltT, ltF, leT, leF, s1, s2]
      rw [chkK_of]; rotate_left; kernel_rfl
      simp (maxSteps := 1000000) (implicitDefEqProofs := false) (disch := first | rfl | omega | assumption) only [go_sem, ↓reduceIte, Nat.reduceEqDiff, Nat.reduceAdd, Nat.reduceLeDiff, Nat.reduceBEq, Nat.reduceMul, Nat.reduceLT, Int.reduceLT, Int.reduceLE, Int.reduceToNat, Int.reduceNeg, Int.reduceEq, Int.reduceMul, reduceCtorEq, Int.reduceBEq, Int.reduceBNe, Int.reduceAdd, Int.reduceSub, ltT, ltF, leT, leF, s1, s2, h1, h2, h3, hv, hn]
      rw [b1] at h4 ⊢
      refine (h4 _ (by rfl) (by rfl) (by rfl) (by rfl) (by rfl)).trans ?_
      simp only [Int.toNat_natCast, Col.pairsR, hv, ← b1, hn, if_true]
    · simp only [Col.av, Col.pairsR, hv, hn] at h1 h2 ⊢
      refine (callFL_eq fn21 rfl (by simp [Try.f21])).trans ?_
      simp (maxSteps := 1000000) (implicitDefEqProofs := false) (disch := first | rfl | omega | assumption) only [go_sem, ↓reduceIte, Nat.reduceEqDiff, Nat.reduceAdd, Nat.reduceLeDiff, Nat.reduceBEq, Nat.reduceMul, Nat.reduceLT, Int.reduceLT, Int.reduceLE, Int.reduceToNat, Int.reduceNeg, Int.reduceEq, Int.reduceMul, reduceCtorEq, Int.reduceBEq, Int.reduceBNe, Int.reduceAdd, Int.reduceSub, ltT, ltF, leT, leF, s1, s2]
      rw [chkK_of]; rotate_left; kernel_rfl
      simp (maxSteps := 1000000) (implicitDefEqProofs := false) (disch := first | rfl | omega | assumption) only [go_sem, ↓reduceIte, Nat.reduceEqDiff, Nat.reduceAdd, Nat.reduceLeDiff, Nat.reduceBEq, Nat.reduceMul, Nat.reduceLT, Int.reduceLT, Int.reduceLE, Int.reduceToNat, Int.reduceNeg, Int.reduceEq, Int.reduceMul, reduceCtorEq, Int.reduceBEq, Int.reduceBNe, Int.reduceAdd, Int.reduceSub, ltT, ltF, leT, leF, s1, s2, h1, h2, hv, hn]
  · simp only [Col.av, Col.pairsR, hv] at h1 h2 ⊢
    refine (callFL_eq fn21 rfl (by simp [Try.f21])).trans ?_
    simp (maxSteps := 1000000) (implicitDefEqProofs := false) (disch := first | rfl | omega | assumption) only [go_sem, ↓reduceIte, Nat.reduceEqDiff, Nat.reduceAdd, Nat.reduceLeDiff, Nat.reduceBEq, Nat.reduceMul, Nat.reduceLT, Int.reduceLT, Int.reduceLE, Int.reduceToNat, Int.reduceNeg, Int.reduceEq, Int.reduceMul, reduceCtorEq, Int.reduceBEq, Int.reduceBNe, Int.reduceAdd, Int.reduceSub, ltT, ltF, leT, leF, s1, s2]
    rw [chkK_of]; rotate_left; kernel_rfl
    simp (maxSteps := 1000000) (implicitDefEqProofs := false) (disch := first | rfl | omega | assumption) only [go_sem, ↓reduceIte, Nat.reduceEqDiff, Nat.reduceAdd, Nat.reduceLeDiff, Nat.reduceBEq, Nat.reduceMul, Nat.reduceLT, Int.reduceLT, Int.reduceLE, Int.reduceToNat, Int.reduceNeg, Int.reduceEq, Int.reduceMul, reduceCtorEq, Int.reduceBEq, Int.reduceBNe, Int.reduceAdd, Int.reduceSub, ltT, ltF, leT, leF, s1, s2, h1, h2, hv]

def Col.rch1 (c : Col) (s i : Nat) (k : Nat) : Option Int := if c.partB s (c.lenAt i) (c.lenAt k) then none else some (c.lenAt (i - 1))
def Col.rchR (c : Col) (s : Nat) : Int := (findF (fun i => findF (c.rch1 s i) 0 i) 0 c.manyN).getD (c.lenAt (c.manyN - 1))

theorem ref_Reach_l2 {c : Col} {vw vp : AV} (h : ColAt H c vw vp) (ho : c.Ok) (s : Nat) (hs : s < 1000000) (i : Nat) (hi : i < c.manyN) (K : List Item) (R : Option Done) (hK : ∀ E : Env, E.get 1 = I s → E.get 2 = .ptr H.length 0 → E.get 7 = .sl false (c.lens.map I) → E.get 8 = I i → Option.map (finishC H.length) (execL cfg0 prog0 ⟨23, none, false, H.length⟩ K ⟨E, [], H ++ [.box (c.av vw vp)], none⟩) = R)  :
    ∀ (q j : Nat), j + q = i → ∀ E : Env, E.get 1 = I s → E.get 2 = .ptr H.length 0 → E.get 7 = .sl false (c.lens.map I) → E.get 8 = I i → E.get 9 = I j →
    Option.map (finishC H.length) (execL cfg0 prog0 ⟨23, none, false, H.length⟩ (loopIt Try.f23 9 :: .inBlock 2 :: K) ⟨E, [], H ++ [.box (c.av vw vp)], none⟩) = (match findF (c.rch1 s i) j q with | some p => some ⟨.ret (.tup [I p, I 0]), H, none⟩ | none => R) := by
  intro q
  have s1 := h.ws.scal
  have s2 := h.ps.scal
  have mb := ho.many_bd
  have ll := c.lens_len
  have lg := fun j => c.lens_getD (j := j)
  obtain ⟨a1, a2, a3, a4⟩ := (sl_ok (H := H) (b := false) c.lens).fI
  have bi := ho.lenAt_bd hi
  simp only [Col.av] at hK ⊢
  induction q with
  | zero =>
    intro j hj  E g1 g2 g7 g8 g9
    have hk' : ¬ (j : Int) < ((i : Nat) : Int) := by omega
    simp only [loopIt, todoPast, todoAt, todoOf, firstReg, ↓reduceIte, Option.some.injEq, Nat.reduceEqDiff, reduceCtorEq, Try.f23]
    rw [execL_inLoop]
    simp (maxSteps := 1000000) (implicitDefEqProofs := false) (disch := first | rfl | omega | assumption) only [go_sem, ↓reduceIte, Nat.reduceEqDiff, Nat.reduceAdd, Nat.reduceLeDiff, Nat.reduceBEq, Nat.reduceMul, Nat.reduceLT, Int.reduceLT, Int.reduceLE, Int.reduceToNat, Int.reduceNeg, Int.reduceEq, Int.reduceMul, reduceCtorEq, Int.reduceBEq, Int.reduceBNe, Int.reduceAdd, Int.reduceSub, g1, g2, g7, g8, g9, ltT, ltF, leT, leF, hk', findF]
    exact hK _ (by exact g1) (by exact g2) (by exact g7) (by exact g8)
  | succ q ih =>
    intro j hj  E g1 g2 g7 g8 g9
    have hk' : (j : Int) < ((i : Nat) : Int) := by omega
    have hk2 : j < i := by omega
    have bj := ho.lenAt_bd (show j < c.manyN by omega)
    have hB := fun (G : Heap) => ref_parts (h.app G) ho s hs (c.lenAt i) (c.lenAt j) bi bj
    have ei : ((i : Int) - 1).toNat = i - 1 := by omega
    simp only [Col.av] at hB
    simp only [findF, Col.rch1]
    simp only [loopIt, todoPast, todoAt, todoOf, firstReg, ↓reduceIte, Option.some.injEq, Nat.reduceEqDiff, reduceCtorEq, Try.f23]
    rw [execL_inLoop]
    simp (maxSteps := 1000000) (implicitDefEqProofs := false) (disch := first | rfl | omega | assumption) only [go_sem, ↓reduceIte, Nat.reduceEqDiff, Nat.reduceAdd, Nat.reduceLeDiff, Nat.reduceBEq, Nat.reduceMul, Nat.reduceLT, Int.reduceLT, Int.reduceLE, Int.reduceToNat, Int.reduceNeg, Int.reduceEq, Int.reduceMul, reduceCtorEq, Int.reduceBEq, Int.reduceBNe, Int.reduceAdd, Int.reduceSub, g1, g2, g7, g8, g9, ltT, ltF, leT, leF, hk', s1, s2, a1, a2, a3, a4, ll, lg]
    rw [chkK_of]; rotate_left; kernel_rfl
    simp (maxSteps := 1000000) (implicitDefEqProofs := false) (disch := first | rfl | omega | assumption) only [go_sem, ↓reduceIte, Nat.reduceEqDiff, Nat.reduceAdd, Nat.reduceLeDiff, Nat.reduceBEq, Nat.reduceMul, Nat.reduceLT, Int.reduceLT, Int.reduceLE, Int.reduceToNat, Int.reduceNeg, Int.reduceEq, Int.reduceMul, reduceCtorEq, Int.reduceBEq, Int.reduceBNe, Int.reduceAdd, Int.reduceSub, g1, g2, g7, g8, g9, ltT, ltF, leT, leF, hk', s1, s2, hB, a1, a2, a3, a4, ll, lg, ei]
    repeat' ((with_reducible first
        | refine cond_ifb (fun hc hd he => ?_) (fun hc hd he => ?_)
        | refine guard_ifb (fun hc hd he => ?_) (fun hc hd he => ?_)
        | refine cond_dec (fun hc hd he => ?_) (fun hc hd he => ?_)
        | refine guard_dec (fun hc hd he => ?_) (fun hc hd he => ?_)
        | refine cond_ndec (fun hc hd he => ?_) (fun hc hd he => ?_)
        | refine guard_ndec (fun hc hd he => ?_) (fun hc hd he => ?_)
        | refine cond_not (fun hc hd he => ?_) (fun hc hd he => ?_)
        | refine guard_not (fun hc hd he => ?_) (fun hc hd he => ?_)
        | refine cond_beq (fun hc hd he => ?_) (fun hc hd he => ?_)
        | refine guard_beq (fun hc hd he => ?_) (fun hc hd he => ?_)
        | refine cond_bne (fun hc hd he => ?_) (fun hc hd he => ?_)
        | refine guard_bne (fun hc hd he => ?_) (fun hc hd he => ?_)
        | refine cond_split (fun hc hd he => ?_) (fun hc hd he => ?_)
        | refine guard_split (fun hc hd he => ?_) (fun hc hd he => ?_)
        | refine call_beq (fun hc hd he => ?_) (fun hc hd he => ?_)
        | refine call_ifb (fun hc hd he => ?_) (fun hc hd he => ?_)
        | refine call_ifd (fun hc hd he => ?_) (fun hc hd he => ?_)
        | refine call_dec (fun hc hd he => ?_) (fun hc hd he => ?_)) <;> try simp (maxSteps := 1000000) (implicitDefEqProofs := false) (disch := first | rfl | omega | assumption) only [go_sem, ↓reduceIte, Nat.reduceEqDiff, Nat.reduceAdd, Nat.reduceLeDiff, Nat.reduceBEq, Nat.reduceMul, Nat.reduceLT, Int.reduceLT, Int.reduceLE, Int.reduceToNat, Int.reduceNeg, Int.reduceEq, Int.reduceMul, reduceCtorEq, Int.reduceBEq, Int.reduceBNe, Int.reduceAdd, Int.reduceSub, g1, g2, g7, g8, g9, ltT, ltF, leT, leF, hk', hc, he, s1, s2, hB, a1, a2, a3, a4, ll, lg, ei])
    · exact ih (j + 1) (by omega) _ (by exact g1) (by exact g2) (by exact g7) (by exact g8) (by rfl)

theorem ref_Reach_l1 {c : Col} {vw vp : AV} (h : ColAt H c vw vp) (ho : c.Ok) (s : Nat) (hs : s < 1000000) :
    ∀ (q j : Nat), j + q = c.manyN → ∀ E : Env, E.get 1 = I s → E.get 2 = .ptr H.length 0 → E.get 7 = .sl false (c.lens.map I) → E.get 8 = I j →
    Option.map (finishC H.length) (execL cfg0 prog0 ⟨23, none, false, H.length⟩ (todoAt Try.f23 6) ⟨E, [], H ++ [.box (c.av vw vp)], none⟩) = some ⟨.ret (.tup [I ((findF (fun i => findF (c.rch1 s i) 0 i) j q).getD (c.lenAt (c.manyN - 1))), I 0]), H, none⟩ := by
  intro q
  have s1 := h.ws.scal
  have s2 := h.ps.scal
  have mb := ho.many_bd
  have ll := c.lens_len
  have lg := fun j => c.lens_getD (j := j)
  obtain ⟨a1, a2, a3, a4⟩ := (sl_ok (H := H) (b := false) c.lens).fI
  have ei : ((c.manyN : Int) - 1).toNat = c.manyN - 1 := by omega
  simp only [Col.av]
  induction q with
  | zero =>
    intro j hj  E g1 g2 g7 g8
    have hk' : ¬ (j : Int) < ((c.manyN : Nat) : Int) := by omega
    simp only [loopIt, todoPast, todoAt, todoOf, firstReg, ↓reduceIte, Option.some.injEq, Nat.reduceEqDiff, reduceCtorEq, Try.f23]
    rw [execL_inLoop]
    simp (maxSteps := 1000000) (implicitDefEqProofs := false) (disch := first | rfl | omega | assumption) only [go_sem, ↓reduceIte, Nat.reduceEqDiff, Nat.reduceAdd, Nat.reduceLeDiff, Nat.reduceBEq, Nat.reduceMul, Nat.reduceLT, Int.reduceLT, Int.reduceLE, Int.reduceToNat, Int.reduceNeg, Int.reduceEq, Int.reduceMul, reduceCtorEq, Int.reduceBEq, Int.reduceBNe, Int.reduceAdd, Int.reduceSub, g1, g2, g7, g8, ltT, ltF, leT, leF, hk', s1, s2, findF, ll, a1, a2, a3, a4, lg, ei, Option.getD_none]
  | succ q ih =>
    intro j hj  E g1 g2 g7 g8
    have hk' : (j : Int) < ((c.manyN : Nat) : Int) := by omega
    have hk2 : j < c.manyN := by omega
    simp only [findF]
    simp only [loopIt, todoPast, todoAt, todoOf, firstReg, ↓reduceIte, Option.some.injEq, Nat.reduceEqDiff, reduceCtorEq, Try.f23]
    rw [execL_inLoop]
    simp (maxSteps := 1000000) (implicitDefEqProofs := false) (disch := first | rfl | omega | assumption) only [go_sem, ↓reduceIte, Nat.reduceEqDiff, Nat.reduceAdd, Nat.reduceLeDiff, Nat.reduceBEq, Nat.reduceMul, Nat.reduceLT, Int.reduceLT, Int.reduceLE, Int.reduceToNat, Int.reduceNeg, Int.reduceEq, Int.reduceMul, reduceCtorEq, Int.reduceBEq, Int.reduceBNe, Int.reduceAdd, Int.reduceSub, g1, g2, g7, g8, ltT, ltF, leT, leF, hk', s1, s2, ll]
    refine (ref_Reach_l2 h ho s hs j hk2 _ (some ⟨.ret (.tup [I ((findF (fun i => findF (c.rch1 s i) 0 i) (j + 1) q).getD (c.lenAt (c.manyN - 1))), I 0]), H, none⟩) (fun E g1 g2 g7 g8 => ?_) j 0 (by omega) _ (by exact g1) (by exact g2) (by exact g7) (by exact g8) (by rfl)).trans ?_
    · simp only [Col.av]
      simp (maxSteps := 1000000) (implicitDefEqProofs := false) (disch := first | rfl | omega | assumption) only [go_sem, ↓reduceIte, Nat.reduceEqDiff, Nat.reduceAdd, Nat.reduceLeDiff, Nat.reduceBEq, Nat.reduceMul, Nat.reduceLT, Int.reduceLT, Int.reduceLE, Int.reduceToNat, Int.reduceNeg, Int.reduceEq, Int.reduceMul, reduceCtorEq, Int.reduceBEq, Int.reduceBNe, Int.reduceAdd, Int.reduceSub, g1, g2, g7, g8, ltT, ltF, leT, leF, hk']
      exact ih (j + 1) (by omega) _ (by exact g1) (by exact g2) (by exact g7) (by rfl)
    · cases findF (c.rch1 s j) 0 j <;> rfl

def Col.reachR (c : Col) (n : Int) : Int × Int := if c.valid then (if c.isSet n then (c.rchR n.toNat, 0) else (0, 2)) else (0, 1)

theorem ref_Reach {c : Col} {vw vp : AV} (h : ColAt H c vw vp) (hl : c.ws.length ≤ 60 ∨ c.valid = true) (n : Int) : callFL cfg0 prog0 false 23 [c.av vw vp, I n] H none = some ⟨.ret (.tup [I (c.reachR n).1, I (c.reachR n).2]), H, none⟩ := by
  have s1 := h.ws.scal
  have s2 := h.ps.scal
  have h1 := fun G : Heap => ref_Set' (h.app G) (len20 hl) n
  have h2 := fun G : Heap => ref_check (h.app G)
  rcases Bool.eq_false_or_eq_true c.valid with hv | hv
  · have ho := c.valid_iff.1 hv
    rcases Bool.eq_false_or_eq_true (c.isSet n) with hn | hn
    · have h3 := fun G : Heap => ref_Lengths (h.app G) ho
      obtain ⟨b1, b2, b3⟩ := ho.set_bd hn
      have h4 := ref_Reach_l1 h ho n.toNat (by omega) c.manyN 0 (by omega)
      simp only [Col.av] at h1 h2 h3 h4 ⊢
      refine (callFL_eq fn23 rfl (by simp [Try.f23])).trans ?_
      simp (maxSteps := 1000000) (implicitDefEqProofs := false) (disch := first | rfl | omega | assumption) only [go_sem, ↓reduceIte, Nat.reduceEqDiff, Nat.reduceAdd, Nat.reduceLeDiff, Nat.reduceBEq, Nat.reduceMul, Nat.reduceLT, Int.reduceLT, Int.reduceLE, Int.reduceToNat, Int.reduceNeg, Int.reduceEq, Int.reduceMul, reduceCtorEq, Int.reduceBEq, Int.reduceBNe, Int.reduceAdd, Int.reduceSub, ltT, ltF, leT, leF, s1, s2]
      rw [chkK_of]; rotate_left; kernel_rfl
      simp (maxSteps := 1000000) (implicitDefEqProofs := false) (disch := first | rfl | omega | assumption) only [go_sem, ↓reduceIte, Nat.reduceEqDiff, Nat.reduceAdd, Nat.reduceLeDiff, Nat.reduceBEq, Nat.reduceMul, Nat.reduceLT, Int.reduceLT, Int.reduceLE, Int.reduceToNat, Int.reduceNeg, Int.reduceEq, Int.reduceMul, reduceCtorEq, Int.reduceBEq, Int.reduceBNe, Int.reduceAdd, Int.reduceSub, ltT, ltF, leT, leF, s1, s2, h1, h2, h3, hv, hn]
      rw [b1] at h4 ⊢
      refine (h4 _ (by rfl) (by rfl) (by rfl) (by rfl)).trans ?_
      simp only [Int.toNat_natCast, Col.reachR, hv, ← b1, hn, if_true, Col.rchR]
    · simp only [Col.av, Col.reachR, hv, hn] at h1 h2 ⊢
      refine (callFL_eq fn23 rfl (by simp [Try.f23])).trans ?_
      simp (maxSteps := 1000000) (implicitDefEqProofs := false) (disch := first | rfl | omega | assumption) only [go_sem, ↓reduceIte, Nat.reduceEqDiff, Nat.reduceAdd, Nat.reduceLeDiff, Nat.reduceBEq, Nat.reduceMul, Nat.reduceLT, Int.reduceLT, Int.reduceLE, Int.reduceToNat, Int.reduceNeg, Int.reduceEq, Int.reduceMul, reduceCtorEq, Int.reduceBEq, Int.reduceBNe, Int.reduceAdd, Int.reduceSub, ltT, ltF, leT, leF, s1, s2]
      rw [chkK_of]; rotate_left; kernel_rfl
      simp (maxSteps := 1000000) (implicitDefEqProofs := false) (disch := first | rfl | omega | assumption) only [go_sem, ↓reduceIte, Nat.reduceEqDiff, Nat.reduceAdd, Nat.reduceLeDiff, Nat.reduceBEq, Nat.reduceMul, Nat.reduceLT, Int.reduceLT, Int.reduceLE, Int.reduceToNat, Int.reduceNeg, Int.reduceEq, Int.reduceMul, reduceCtorEq, Int.reduceBEq, Int.reduceBNe, Int.reduceAdd, Int.reduceSub, ltT, ltF, leT, leF, s1, s2, h1, h2, hv, hn]
  · simp only [Col.av, Col.reachR, hv] at h1 h2 ⊢
    refine (callFL_eq fn23 rfl (by simp [Try.f23])).trans ?_
    simp (maxSteps := 1000000) (implicitDefEqProofs := false) (disch := first | rfl | omega | assumption) only [go_sem, ↓reduceIte, Nat.reduceEqDiff, Nat.reduceAdd, Nat.reduceLeDiff, Nat.reduceBEq, Nat.reduceMul, Nat.reduceLT, Int.reduceLT, Int.reduceLE, Int.reduceToNat, Int.reduceNeg, Int.reduceEq, Int.reduceMul, reduceCtorEq, Int.reduceBEq, Int.reduceBNe, Int.reduceAdd, Int.reduceSub, ltT, ltF, leT, leF, s1, s2]
    rw [chkK_of]; rotate_left; kernel_rfl
    simp (maxSteps := 1000000) (implicitDefEqProofs := false) (disch := first | rfl | omega | assumption) only [go_sem, ↓reduceIte, Nat.reduceEqDiff, Nat.reduceAdd, Nat.reduceLeDiff, Nat.reduceBEq, Nat.reduceMul, Nat.reduceLT, Int.reduceLT, Int.reduceLE, Int.reduceToNat, Int.reduceNeg, Int.reduceEq, Int.reduceMul, reduceCtorEq, Int.reduceBEq, Int.reduceBNe, Int.reduceAdd, Int.reduceSub, ltT, ltF, leT, leF, s1, s2, h1, h2, hv]

end Go.Ab
/-
  The references of the layer colour: costs, sets that part all, the best, what can be spared, what is next.
-/
namespace Go.Ab
open Go.Proofs
set_option linter.unusedSimpArgs false
set_option linter.unusedVariables false
set_option maxRecDepth 100000

variable {H : Heap}

/-- How many are in a set. -/
def popF : Nat → Nat → Nat
  | 0, _ => 0
  | f + 1, n => n % 2 + popF f (n / 2)
def pop (n : Nat) : Nat := popF 20 n

theorem popF_zero : ∀ f, popF f 0 = 0
  | 0 => rfl
  | f + 1 => by simp [popF, popF_zero f]

theorem ref_Size_loop (r : Nat) (hr0 : r ≤ 1000) :
    ∀ (q j : Nat), j + q = 20 → ∀ (n a : Nat), n < 2 ^ q → a + popF q n = r → a ≤ j → ∀ E : Env, E.get 0 = I n → E.get 3 = I a →
    Option.map (finishC H.length) (execL cfg0 prog0 ⟨38, none, false, H.length⟩ (todoAt Try.f38 2) ⟨E, [], H, none⟩) = some ⟨.ret (I r), H, none⟩ := by
  intro q
  induction q with
  | zero =>
    intro j hj n a hn hr ha E g0 g3
    have hk' : ¬ (j : Int) < ((20 : Nat) : Int) := by omega
    have hn0 : n = 0 := by simp at hn; exact hn
    subst hn0
    simp only [popF, Nat.add_zero] at hr
    subst hr
    simp only [loopIt, todoPast, todoAt, todoOf, firstReg, ↓reduceIte, Option.some.injEq, Nat.reduceEqDiff, reduceCtorEq, Try.f38]
    rw [execL_inLoop]
    simp (maxSteps := 1000000) (implicitDefEqProofs := false) (disch := first | rfl | omega | assumption) only [go_sem, ↓reduceIte, Nat.reduceEqDiff, Nat.reduceAdd, Nat.reduceLeDiff, Nat.reduceBEq, Nat.reduceMul, Nat.reduceLT, Int.reduceLT, Int.reduceLE, Int.reduceToNat, Int.reduceNeg, Int.reduceEq, Int.reduceMul, reduceCtorEq, Int.reduceBEq, Int.reduceBNe, Int.reduceAdd, Int.reduceSub, g0, g3, ltT, ltF, leT, leF, hk']
  | succ q ih =>
    intro j hj n a hn hr ha E g0 g3
    have hk' : (j : Int) < ((20 : Nat) : Int) := by omega
    have hk2 : j < 20 := by omega
    simp only [popF] at hr
    rcases Nat.eq_zero_or_pos n with h0 | h0
    · subst h0
      simp only [Nat.zero_mod, Nat.zero_div, popF_zero, Nat.add_zero] at hr
      subst hr
      simp only [loopIt, todoPast, todoAt, todoOf, firstReg, ↓reduceIte, Option.some.injEq, Nat.reduceEqDiff, reduceCtorEq, Try.f38]
      rw [execL_inLoop]
      simp (maxSteps := 1000000) (implicitDefEqProofs := false) (disch := first | rfl | omega | assumption) only [go_sem, ↓reduceIte, Nat.reduceEqDiff, Nat.reduceAdd, Nat.reduceLeDiff, Nat.reduceBEq, Nat.reduceMul, Nat.reduceLT, Int.reduceLT, Int.reduceLE, Int.reduceToNat, Int.reduceNeg, Int.reduceEq, Int.reduceMul, reduceCtorEq, Int.reduceBEq, Int.reduceBNe, Int.reduceAdd, Int.reduceSub, g0, g3, ltT, ltF, leT, leF, hk']
    · have t1 : ((n : Nat) : Int).tmod 2 = ((n % 2 : Nat) : Int) := by rw [Int.tmod_eq_emod_of_nonneg (Int.natCast_nonneg _)]; rfl
      have t2 : ((n : Nat) : Int).tdiv 2 = ((n / 2 : Nat) : Int) := by rw [Int.tdiv_eq_ediv_of_nonneg (Int.natCast_nonneg _)]; rfl
      have t3 : (0 : Int) < n := by omega
      have hp : (2 : Nat) ^ (q + 1) ≤ 2 ^ 20 := Nat.pow_le_pow_right (by omega) (by omega)
      have t4 : n < 2 ^ 20 := by omega
      have t5 : n / 2 < 2 ^ q := by rw [Nat.pow_succ] at hn; omega
      simp only [loopIt, todoPast, todoAt, todoOf, firstReg, ↓reduceIte, Option.some.injEq, Nat.reduceEqDiff, reduceCtorEq, Try.f38]
      rw [execL_inLoop]
      simp (maxSteps := 1000000) (implicitDefEqProofs := false) (disch := first | rfl | omega | assumption) only [go_sem, ↓reduceIte, Nat.reduceEqDiff, Nat.reduceAdd, Nat.reduceLeDiff, Nat.reduceBEq, Nat.reduceMul, Nat.reduceLT, Int.reduceLT, Int.reduceLE, Int.reduceToNat, Int.reduceNeg, Int.reduceEq, Int.reduceMul, reduceCtorEq, Int.reduceBEq, Int.reduceBNe, Int.reduceAdd, Int.reduceSub, g0, g3, ltT, ltF, leT, leF, hk', t1, t2]
      exact ih (j + 1) (by omega) (n / 2) (a + n % 2) t5 (by omega) (by omega) _ (by rfl) (by rfl)
    skip

theorem ref_Size (n : Nat) (hn : n < 2 ^ 20) : callFL cfg0 prog0 false 38 [I n] H none = some ⟨.ret (I (pop n)), H, none⟩ := by
  have hb : ∀ f n, popF f n ≤ f := by
    intro f
    induction f with
    | zero => intro n; simp [popF]
    | succ f ih => intro n; simp only [popF]; have := ih (n / 2); omega
  have h1 := ref_Size_loop (H := H) (pop n) (by have := hb 20 n; simp only [pop]; omega) 20 0 (by omega) n 0 hn (by simp [pop]) (by omega)
  refine (callFL_eq fn38 rfl (by simp [Try.f38])).trans ?_
  simp (maxSteps := 1000000) (implicitDefEqProofs := false) (disch := first | rfl | omega | assumption) only [go_sem, ↓reduceIte, Nat.reduceEqDiff, Nat.reduceAdd, Nat.reduceLeDiff, Nat.reduceBEq, Nat.reduceMul, Nat.reduceLT, Int.reduceLT, Int.reduceLE, Int.reduceToNat, Int.reduceNeg, Int.reduceEq, Int.reduceMul, reduceCtorEq, Int.reduceBEq, Int.reduceBNe, Int.reduceAdd, Int.reduceSub, ltT, ltF, leT, leF]
  exact h1 _ (by rfl) (by rfl)

def Col.costA (c : Col) (s : Nat) (n : Int) (i : Nat) : Int := if s.testBit i then n + c.ps.getD i 0 else n
def Col.cost (c : Col) (s : Nat) : Int := foldF (c.costA s) 0 0 c.ps.length

theorem ref_Cost_loop {c : Col} {vw vp : AV} (h : ColAt H c vw vp) (hl : c.ps.length ≤ 20) (hp : ∀ i, i < c.ps.length → 0 ≤ c.ps.getD i 0 ∧ c.ps.getD i 0 ≤ 50) (s : Nat) (hs : s < 1000000) (r : Int) :
    ∀ (q j : Nat), j + q = c.ps.length → ∀ (n : Int), foldF (c.costA s) n j q = r → 0 ≤ n ∧ n ≤ 50 * j → ∀ E : Env, E.get 1 = I s → E.get 2 = .ptr H.length 0 → E.get 5 = I n → E.get 6 = I j →
    Option.map (finishC H.length) (execL cfg0 prog0 ⟨73, none, false, H.length⟩ (todoAt Try.f73 3) ⟨E, [], H ++ [.box (c.av vw vp)], none⟩) = some ⟨.ret (I r), H, none⟩ := by
  intro q
  have s1 := h.ws.scal
  have s2 := h.ps.scal
  obtain ⟨a1, a2, a3, a4⟩ := h.ps.fI
  have hH := fun (G : Heap) (k : Nat) (hk : k ≤ 20) => ref_Has (H := G) s k hk hs
  simp only [Col.av]
  induction q with
  | zero =>
    intro j hj n hr hn E g1 g2 g5 g6
    have hk' : ¬ (j : Int) < ((c.ps.length : Nat) : Int) := by omega
    simp only [foldF] at hr
    subst hr
    simp only [loopIt, todoPast, todoAt, todoOf, firstReg, ↓reduceIte, Option.some.injEq, Nat.reduceEqDiff, reduceCtorEq, Try.f73]
    rw [execL_inLoop]
    simp (maxSteps := 1000000) (implicitDefEqProofs := false) (disch := first | rfl | omega | assumption) only [go_sem, ↓reduceIte, Nat.reduceEqDiff, Nat.reduceAdd, Nat.reduceLeDiff, Nat.reduceBEq, Nat.reduceMul, Nat.reduceLT, Int.reduceLT, Int.reduceLE, Int.reduceToNat, Int.reduceNeg, Int.reduceEq, Int.reduceMul, reduceCtorEq, Int.reduceBEq, Int.reduceBNe, Int.reduceAdd, Int.reduceSub, g1, g2, g5, g6, ltT, ltF, leT, leF, hk', s1, s2, h.ps.len]
  | succ q ih =>
    intro j hj n hr hn E g1 g2 g5 g6
    have hk' : (j : Int) < ((c.ps.length : Nat) : Int) := by omega
    have hk2 : j < c.ps.length := by omega
    have hp' := hp j hk2
    simp only [foldF, Col.costA] at hr
    simp only [loopIt, todoPast, todoAt, todoOf, firstReg, ↓reduceIte, Option.some.injEq, Nat.reduceEqDiff, reduceCtorEq, Try.f73]
    rw [execL_inLoop]
    simp (maxSteps := 1000000) (implicitDefEqProofs := false) (disch := first | rfl | omega | assumption) only [go_sem, ↓reduceIte, Nat.reduceEqDiff, Nat.reduceAdd, Nat.reduceLeDiff, Nat.reduceBEq, Nat.reduceMul, Nat.reduceLT, Int.reduceLT, Int.reduceLE, Int.reduceToNat, Int.reduceNeg, Int.reduceEq, Int.reduceMul, reduceCtorEq, Int.reduceBEq, Int.reduceBNe, Int.reduceAdd, Int.reduceSub, g1, g2, g5, g6, ltT, ltF, leT, leF, hk', s1, s2, h.ps.len, a1, a2, a3, a4, hH]
    repeat' ((with_reducible first
        | refine cond_ifb (fun hc hd he => ?_) (fun hc hd he => ?_)
        | refine guard_ifb (fun hc hd he => ?_) (fun hc hd he => ?_)
        | refine cond_dec (fun hc hd he => ?_) (fun hc hd he => ?_)
        | refine guard_dec (fun hc hd he => ?_) (fun hc hd he => ?_)
        | refine cond_ndec (fun hc hd he => ?_) (fun hc hd he => ?_)
        | refine guard_ndec (fun hc hd he => ?_) (fun hc hd he => ?_)
        | refine cond_not (fun hc hd he => ?_) (fun hc hd he => ?_)
        | refine guard_not (fun hc hd he => ?_) (fun hc hd he => ?_)
        | refine cond_beq (fun hc hd he => ?_) (fun hc hd he => ?_)
        | refine guard_beq (fun hc hd he => ?_) (fun hc hd he => ?_)
        | refine cond_bne (fun hc hd he => ?_) (fun hc hd he => ?_)
        | refine guard_bne (fun hc hd he => ?_) (fun hc hd he => ?_)
        | refine cond_split (fun hc hd he => ?_) (fun hc hd he => ?_)
        | refine guard_split (fun hc hd he => ?_) (fun hc hd he => ?_)
        | refine call_beq (fun hc hd he => ?_) (fun hc hd he => ?_)
        | refine call_ifb (fun hc hd he => ?_) (fun hc hd he => ?_)
        | refine call_ifd (fun hc hd he => ?_) (fun hc hd he => ?_)
        | refine call_dec (fun hc hd he => ?_) (fun hc hd he => ?_)) <;> try simp (maxSteps := 1000000) (implicitDefEqProofs := false) (disch := first | rfl | omega | assumption) only [go_sem, ↓reduceIte, Nat.reduceEqDiff, Nat.reduceAdd, Nat.reduceLeDiff, Nat.reduceBEq, Nat.reduceMul, Nat.reduceLT, Int.reduceLT, Int.reduceLE, Int.reduceToNat, Int.reduceNeg, Int.reduceEq, Int.reduceMul, reduceCtorEq, Int.reduceBEq, Int.reduceBNe, Int.reduceAdd, Int.reduceSub, g1, g2, g5, g6, ltT, ltF, leT, leF, hk', hc, he, s1, s2, h.ps.len, a1, a2, a3, a4, hH])
    · rw [hc] at hr
      exact ih (j + 1) (by omega) _ hr (by omega) _ (by exact g1) (by exact g2) (by rfl) (by rfl)
    · rw [hc] at hr
      exact ih (j + 1) (by omega) n hr (by omega) _ (by exact g1) (by exact g2) (by exact g5) (by rfl)

theorem Col.cost_bd {c : Col} (ho : c.Ok) (s : Nat) : 0 ≤ c.cost s ∧ c.cost s ≤ 1000 := by
  have h1 := ho.len
  have h2 := ho.plen
  have := foldF_inv (c.costA s) (fun i x => 0 ≤ x ∧ x ≤ 50 * i) c.ps.length 0 0 (by omega) (fun i b _ hi hb => by
    have := ho.ps i (by omega)
    simp only [Col.costA]
    split <;> omega)
  simp only [Col.cost]
  omega

theorem ref_Cost {c : Col} {vw vp : AV} (h : ColAt H c vw vp) (ho : c.Ok) (s : Nat) (hs : s < 1000000) : callFL cfg0 prog0 false 73 [c.av vw vp, I s] H none = some ⟨.ret (I (c.cost s)), H, none⟩ := by
  have s1 := h.ws.scal
  have s2 := h.ps.scal
  have l1 := ho.len
  have l2 := ho.plen
  have h4 := ref_Cost_loop h (by omega) (fun i hi => ho.ps i (by omega)) s hs (c.cost s) c.ps.length 0 (by omega) 0 rfl (by omega)
  simp only [Col.av] at h4 ⊢
  refine (callFL_eq fn73 rfl (by simp [Try.f73])).trans ?_
  simp (maxSteps := 1000000) (implicitDefEqProofs := false) (disch := first | rfl | omega | assumption) only [go_sem, ↓reduceIte, Nat.reduceEqDiff, Nat.reduceAdd, Nat.reduceLeDiff, Nat.reduceBEq, Nat.reduceMul, Nat.reduceLT, Int.reduceLT, Int.reduceLE, Int.reduceToNat, Int.reduceNeg, Int.reduceEq, Int.reduceMul, reduceCtorEq, Int.reduceBEq, Int.reduceBNe, Int.reduceAdd, Int.reduceSub, ltT, ltF, leT, leF, s1, s2]
  exact h4 _ (by rfl) (by rfl) (by rfl) (by rfl)

/-- The sets that part all. -/
def Col.good (c : Col) : List Nat := (List.range (2 ^ c.ws.length)).filter fun s => c.leftN s == 0

theorem ref_sets_loop {c : Col} {vw vp : AV} (h : ColAt H c vw vp) (ho : c.Ok) :
    ∀ (q j : Nat), j + q = 2 ^ c.ws.length → ∀ (len : Nat), ∀ (xs : List AV), xs = (((List.range j).filter fun s => c.leftN s == 0).map fun n : Nat => I n) → len = xs.length → ∀ E : Env, E.get 1 = .ptr H.length 0 → E.get 3 = .gsl (H.length + 1) len → E.get 4 = I j →
    Option.map (finishC H.length) (execL cfg0 prog0 ⟨71, none, false, H.length⟩ (todoAt Try.f71 3) ⟨E, [], H ++ [.box (c.av vw vp), .grow 1 xs], none⟩) = some ⟨.ret (.sl false (c.good.map fun n : Nat => I n)), H, none⟩ := by
  intro q
  have s1 := h.ws.scal
  have s2 := h.ps.scal
  have l1 := ho.len
  have hp : (2 : Nat) ^ c.ws.length ≤ 2 ^ 6 := Nat.pow_le_pow_right (by omega) (by omega)
  have hA := fun G : Heap => ref_All (h.app G) (by omega)
  simp only [Col.av] at hA ⊢
  induction q with
  | zero =>
    intro j hj len xs hx hlen E g1 g3 g4
    have hk' : ¬ (j : Int) < ((2 ^ c.ws.length : Nat) : Int) := by omega
    have hx2 : xs = c.good.map fun n : Nat => I n := by rw [hx, show j = 2 ^ c.ws.length by omega]; rfl
    subst hlen
    have hn : ¬ (j : Int) ≤ ((2 ^ c.ws.length : Nat) : Int) - 1 := by omega
    simp only [loopIt, todoPast, todoAt, todoOf, firstReg, ↓reduceIte, Option.some.injEq, Nat.reduceEqDiff, reduceCtorEq, Try.f71]
    rw [execL_inLoop]
    simp (maxSteps := 1000000) (implicitDefEqProofs := false) (disch := first | rfl | omega | assumption) only [go_sem, ↓reduceIte, Nat.reduceEqDiff, Nat.reduceAdd, Nat.reduceLeDiff, Nat.reduceBEq, Nat.reduceMul, Nat.reduceLT, Int.reduceLT, Int.reduceLE, Int.reduceToNat, Int.reduceNeg, Int.reduceEq, Int.reduceMul, reduceCtorEq, Int.reduceBEq, Int.reduceBNe, Int.reduceAdd, Int.reduceSub, g1, g3, g4, ltT, ltF, leT, leF, hk', s1, s2, hA, hn]
    rw [← hx2]
  | succ q ih =>
    intro j hj len xs hx hlen E g1 g3 g4
    have hk' : (j : Int) < ((2 ^ c.ws.length : Nat) : Int) := by omega
    have hk2 : j < 2 ^ c.ws.length := by omega
    have hL := fun G : Heap => ref_left (h.app G) ho j (by omega)
    have bL := c.leftN_bd ho j
    have hle : (j : Int) ≤ ((2 ^ c.ws.length : Nat) : Int) - 1 := by omega
    have hxl : xs.length ≤ j := by rw [hx, List.length_map]; exact Nat.le_trans (List.length_filter_le _ _) (by simp)
    have hof : addElem (H ++ [.box (.agg [vw, vp, I c.lo, I c.hi, I c.ev, I c.er]), .grow 1 xs]) 1 false (.gsl (H.length + 1) len) [I j] = some (.gsl (H.length + 1) (len + 1), H ++ [.box (.agg [vw, vp, I c.lo, I c.hi, I c.ev, I c.er]), .grow 1 (xs ++ [I j])]) := by
      rw [add_gsl (by simp [get_at']) hlen.symm rfl rfl (by simp; omega), set_at']
      rfl
    simp only [Col.av] at hL
    simp only [loopIt, todoPast, todoAt, todoOf, firstReg, ↓reduceIte, Option.some.injEq, Nat.reduceEqDiff, reduceCtorEq, Try.f71]
    rw [execL_inLoop]
    simp (maxSteps := 1000000) (implicitDefEqProofs := false) (disch := first | rfl | omega | assumption) only [go_sem, ↓reduceIte, Nat.reduceEqDiff, Nat.reduceAdd, Nat.reduceLeDiff, Nat.reduceBEq, Nat.reduceMul, Nat.reduceLT, Int.reduceLT, Int.reduceLE, Int.reduceToNat, Int.reduceNeg, Int.reduceEq, Int.reduceMul, reduceCtorEq, Int.reduceBEq, Int.reduceBNe, Int.reduceAdd, Int.reduceSub, g1, g3, g4, ltT, ltF, leT, leF, hk', s1, s2, hA, hof, hle, hL]
    repeat' ((with_reducible first
        | refine cond_ifb (fun hc hd he => ?_) (fun hc hd he => ?_)
        | refine guard_ifb (fun hc hd he => ?_) (fun hc hd he => ?_)
        | refine cond_dec (fun hc hd he => ?_) (fun hc hd he => ?_)
        | refine guard_dec (fun hc hd he => ?_) (fun hc hd he => ?_)
        | refine cond_ndec (fun hc hd he => ?_) (fun hc hd he => ?_)
        | refine guard_ndec (fun hc hd he => ?_) (fun hc hd he => ?_)
        | refine cond_not (fun hc hd he => ?_) (fun hc hd he => ?_)
        | refine guard_not (fun hc hd he => ?_) (fun hc hd he => ?_)
        | refine cond_beq (fun hc hd he => ?_) (fun hc hd he => ?_)
        | refine guard_beq (fun hc hd he => ?_) (fun hc hd he => ?_)
        | refine cond_bne (fun hc hd he => ?_) (fun hc hd he => ?_)
        | refine guard_bne (fun hc hd he => ?_) (fun hc hd he => ?_)
        | refine cond_split (fun hc hd he => ?_) (fun hc hd he => ?_)
        | refine guard_split (fun hc hd he => ?_) (fun hc hd he => ?_)
        | refine call_beq (fun hc hd he => ?_) (fun hc hd he => ?_)
        | refine call_ifb (fun hc hd he => ?_) (fun hc hd he => ?_)
        | refine call_ifd (fun hc hd he => ?_) (fun hc hd he => ?_)
        | refine call_dec (fun hc hd he => ?_) (fun hc hd he => ?_)) <;> try simp (maxSteps := 1000000) (implicitDefEqProofs := false) (disch := first | rfl | omega | assumption) only [go_sem, ↓reduceIte, Nat.reduceEqDiff, Nat.reduceAdd, Nat.reduceLeDiff, Nat.reduceBEq, Nat.reduceMul, Nat.reduceLT, Int.reduceLT, Int.reduceLE, Int.reduceToNat, Int.reduceNeg, Int.reduceEq, Int.reduceMul, reduceCtorEq, Int.reduceBEq, Int.reduceBNe, Int.reduceAdd, Int.reduceSub, g1, g3, g4, ltT, ltF, leT, leF, hk', hc, he, s1, s2, hA, hof, hle, hL])
    · have hb : (c.leftN j == 0) = true := by simpa using hd
      exact ih (j + 1) (by omega) (len + 1) _ (by rw [List.range_succ, hx, List.filter_append, List.map_append]; simp [hb]) (by rw [hlen]; simp) _ (by exact g1) (by rfl) (by rfl)
    · have hb : (c.leftN j == 0) = false := by simpa using hd
      exact ih (j + 1) (by omega) len xs (by rw [List.range_succ, hx, List.filter_append, List.map_append]; simp [hb]) hlen _ (by exact g1) (by exact g3) (by rfl)

theorem ref_sets {c : Col} {vw vp : AV} (h : ColAt H c vw vp) (ho : c.Ok) : callFL cfg0 prog0 false 71 [c.av vw vp] H none = some ⟨.ret (.sl false (c.good.map fun n : Nat => I n)), H, none⟩ := by
  have s1 := h.ws.scal
  have s2 := h.ps.scal
  have h1 := ref_sets_loop h ho (2 ^ c.ws.length) 0 (by omega) 0 [] rfl rfl
  simp only [Col.av] at h1 ⊢
  refine (callFL_eq fn71 rfl (by simp [Try.f71])).trans ?_
  simp (maxSteps := 1000000) (implicitDefEqProofs := false) (disch := first | rfl | omega | assumption) only [go_sem, ↓reduceIte, Nat.reduceEqDiff, Nat.reduceAdd, Nat.reduceLeDiff, Nat.reduceBEq, Nat.reduceMul, Nat.reduceLT, Int.reduceLT, Int.reduceLE, Int.reduceToNat, Int.reduceNeg, Int.reduceEq, Int.reduceMul, reduceCtorEq, Int.reduceBEq, Int.reduceBNe, Int.reduceAdd, Int.reduceSub, ltT, ltF, leT, leF, s1, s2]
  exact h1 _ (by rfl) (by rfl) (by rfl)

end Go.Ab
/-
  The references of the layer colour: the best, what can be spared, what is next.
-/
namespace Go.Ab
open Go.Proofs
set_option linter.unusedSimpArgs false
set_option linter.unusedVariables false
set_option maxRecDepth 100000

variable {H : Heap}

def bestL (cost : Nat → Int) : Nat → List Nat → Nat
  | b, [] => b
  | b, x :: r => bestL cost (if cost x < cost b then x else b) r

def Col.goodI (c : Col) : List Int := c.good.map fun n : Nat => (n : Int)
theorem Col.good_map (c : Col) : (c.good.map fun n : Nat => I n) = c.goodI.map I := by simp [Col.goodI]
theorem Col.goodI_len (c : Col) : c.goodI.length = c.good.length := by simp [Col.goodI]
theorem Col.goodI_getD (c : Col) {j : Nat} (h : j < c.good.length) : c.goodI.getD j 0 = ((c.good.getD j 0 : Nat) : Int) := by simp [Col.goodI, h]
theorem Col.Ok.good_lt {c : Col} (ho : c.Ok) (j : Nat) : c.good.getD j 0 < 64 := by
  have l1 := ho.len
  have hp : (2 : Nat) ^ c.ws.length ≤ 2 ^ 6 := Nat.pow_le_pow_right (by omega) (by omega)
  rcases Nat.lt_or_ge j c.good.length with h | h
  · have hm : c.good.getD j 0 ∈ c.good := by simp [h]
    simp only [Col.good, List.mem_filter, List.mem_range] at hm
    have := hm.1
    simp only [Col.good]
    omega
  · simp [List.getD_eq_getElem?_getD, h]
theorem Col.Ok.good_len {c : Col} (ho : c.Ok) : c.good.length ≤ 64 := by
  have l1 := ho.len
  have hp : (2 : Nat) ^ c.ws.length ≤ 2 ^ 6 := Nat.pow_le_pow_right (by omega) (by omega)
  have := List.length_filter_le (fun s => c.leftN s == 0) (List.range (2 ^ c.ws.length))
  simp only [List.length_range] at this
  simp only [Col.good]
  omega

theorem drop_getD {l : List Nat} {j : Nat} (h : j < l.length) : l.drop j = l.getD j 0 :: l.drop (j + 1) := by
  rw [List.drop_eq_getElem_cons h]; simp [h]

def Col.best (c : Col) (cost : Nat → Int) : Option Nat := match c.good with
  | [] => none
  | x :: r => some (bestL cost x (x :: r))

theorem pop_bd (n : Nat) : pop n ≤ 20 := by
  have hb : ∀ f n, popF f n ≤ f := by
    intro f
    induction f with
    | zero => intro n; simp [popF]
    | succ f ih => intro n; simp only [popF]; have := ih (n / 2); omega
  exact hb 20 n

theorem ref_Fewest_loop {c : Col} {vw vp : AV} (h : ColAt H c vw vp) (ho : c.Ok) (r : Nat) (hr0 : r < 64) :
    ∀ (q j : Nat), j + q = c.good.length → ∀ (b : Nat), b < 64 → bestL (fun s => pop s) b (c.good.drop j) = r → ∀ E : Env, E.get 1 = .ptr H.length 0 → E.get 6 = .sl false (c.goodI.map I) → E.get 7 = I b → E.get 8 = I j →
    Option.map (finishC H.length) (execL cfg0 prog0 ⟨25, none, false, H.length⟩ (todoAt Try.f25 9) ⟨E, [], H ++ [.box (c.av vw vp)], none⟩) = some ⟨.ret (.tup [I (pop r), I r, I 0]), H, none⟩ := by
  intro q
  have s1 := h.ws.scal
  have s2 := h.ps.scal
  have gl := ho.good_len
  have ll := c.goodI_len
  have lg := fun j => c.goodI_getD (j := j)
  have lb := ho.good_lt
  obtain ⟨a1, a2, a3, a4⟩ := (sl_ok (H := H) (b := false) c.goodI).fI
  have hS := fun (G : Heap) (n : Nat) (hn : n < 2 ^ 20) => ref_Size (H := G) n hn
  simp only [Col.av]
  induction q with
  | zero =>
    intro j hj b hb hr E g1 g6 g7 g8
    have hk' : ¬ (j : Int) < ((c.good.length : Nat) : Int) := by omega
    have hjn : j = c.good.length := by omega
    subst hjn
    rw [List.drop_length, bestL] at hr
    subst hr
    simp only [loopIt, todoPast, todoAt, todoOf, firstReg, ↓reduceIte, Option.some.injEq, Nat.reduceEqDiff, reduceCtorEq, Try.f25]
    rw [execL_inLoop]
    simp (maxSteps := 1000000) (implicitDefEqProofs := false) (disch := first | rfl | omega | assumption) only [go_sem, ↓reduceIte, Nat.reduceEqDiff, Nat.reduceAdd, Nat.reduceLeDiff, Nat.reduceBEq, Nat.reduceMul, Nat.reduceLT, Int.reduceLT, Int.reduceLE, Int.reduceToNat, Int.reduceNeg, Int.reduceEq, Int.reduceMul, reduceCtorEq, Int.reduceBEq, Int.reduceBNe, Int.reduceAdd, Int.reduceSub, g1, g6, g7, g8, ltT, ltF, leT, leF, hk', s1, s2, ll, hS]
  | succ q ih =>
    intro j hj b hb hr E g1 g6 g7 g8
    have hk' : (j : Int) < ((c.good.length : Nat) : Int) := by omega
    have hk2 : j < c.good.length := by omega
    have hb2 := lb j
    rw [drop_getD hk2] at hr
    simp only [bestL] at hr
    simp only [loopIt, todoPast, todoAt, todoOf, firstReg, ↓reduceIte, Option.some.injEq, Nat.reduceEqDiff, reduceCtorEq, Try.f25]
    rw [execL_inLoop]
    simp (maxSteps := 1000000) (implicitDefEqProofs := false) (disch := first | rfl | omega | assumption) only [go_sem, ↓reduceIte, Nat.reduceEqDiff, Nat.reduceAdd, Nat.reduceLeDiff, Nat.reduceBEq, Nat.reduceMul, Nat.reduceLT, Int.reduceLT, Int.reduceLE, Int.reduceToNat, Int.reduceNeg, Int.reduceEq, Int.reduceMul, reduceCtorEq, Int.reduceBEq, Int.reduceBNe, Int.reduceAdd, Int.reduceSub, g1, g6, g7, g8, ltT, ltF, leT, leF, hk', s1, s2, ll, lg, a1, a2, a3, a4, hS]
    repeat' ((with_reducible first
        | refine cond_ifb (fun hc hd he => ?_) (fun hc hd he => ?_)
        | refine guard_ifb (fun hc hd he => ?_) (fun hc hd he => ?_)
        | refine cond_dec (fun hc hd he => ?_) (fun hc hd he => ?_)
        | refine guard_dec (fun hc hd he => ?_) (fun hc hd he => ?_)
        | refine cond_ndec (fun hc hd he => ?_) (fun hc hd he => ?_)
        | refine guard_ndec (fun hc hd he => ?_) (fun hc hd he => ?_)
        | refine cond_not (fun hc hd he => ?_) (fun hc hd he => ?_)
        | refine guard_not (fun hc hd he => ?_) (fun hc hd he => ?_)
        | refine cond_beq (fun hc hd he => ?_) (fun hc hd he => ?_)
        | refine guard_beq (fun hc hd he => ?_) (fun hc hd he => ?_)
        | refine cond_bne (fun hc hd he => ?_) (fun hc hd he => ?_)
        | refine guard_bne (fun hc hd he => ?_) (fun hc hd he => ?_)
        | refine cond_split (fun hc hd he => ?_) (fun hc hd he => ?_)
        | refine guard_split (fun hc hd he => ?_) (fun hc hd he => ?_)
        | refine call_beq (fun hc hd he => ?_) (fun hc hd he => ?_)
        | refine call_ifb (fun hc hd he => ?_) (fun hc hd he => ?_)
        | refine call_ifd (fun hc hd he => ?_) (fun hc hd he => ?_)
        | refine call_dec (fun hc hd he => ?_) (fun hc hd he => ?_)) <;> try simp (maxSteps := 1000000) (implicitDefEqProofs := false) (disch := first | rfl | omega | assumption) only [go_sem, ↓reduceIte, Nat.reduceEqDiff, Nat.reduceAdd, Nat.reduceLeDiff, Nat.reduceBEq, Nat.reduceMul, Nat.reduceLT, Int.reduceLT, Int.reduceLE, Int.reduceToNat, Int.reduceNeg, Int.reduceEq, Int.reduceMul, reduceCtorEq, Int.reduceBEq, Int.reduceBNe, Int.reduceAdd, Int.reduceSub, g1, g6, g7, g8, ltT, ltF, leT, leF, hk', hc, he, s1, s2, ll, lg, a1, a2, a3, a4, hS])
    · rw [if_pos hc] at hr
      exact ih (j + 1) (by omega) _ hb2 hr _ (by exact g1) (by exact g6) (by rfl) (by rfl)
    · rw [if_neg hc] at hr
      exact ih (j + 1) (by omega) b hb hr _ (by exact g1) (by exact g6) (by exact g7) (by rfl)

def Col.bestR (c : Col) (cost : Nat → Int) : Int × Int × Int := if c.valid then (match c.best cost with | some b => (cost b, b, 0) | none => (0, 0, 4)) else (0, 0, 1)

theorem bestL_lt (cost : Nat → Int) (N : Nat) : ∀ (l : List Nat) (b : Nat), b < N → (∀ x ∈ l, x < N) → bestL cost b l < N
  | [], b, h, _ => h
  | x :: r, b, h, h2 => by
    simp only [bestL]
    refine bestL_lt cost N r _ ?_ (fun y hy => h2 y (List.mem_cons_of_mem _ hy))
    split
    · exact h2 x (List.mem_cons_self ..)
    · exact h

theorem ref_Fewest {c : Col} {vw vp : AV} (h : ColAt H c vw vp) : callFL cfg0 prog0 false 25 [c.av vw vp] H none = some ⟨.ret (.tup [I (c.bestR fun s => pop s).1, I (c.bestR fun s => pop s).2.1, I (c.bestR fun s => pop s).2.2]), H, none⟩ := by
  have s1 := h.ws.scal
  have s2 := h.ps.scal
  have h2 := fun G : Heap => ref_check (h.app G)
  rcases Bool.eq_false_or_eq_true c.valid with hv | hv
  · have ho := c.valid_iff.1 hv
    have h3 := fun G : Heap => ref_sets (h.app G) ho
    have ll := c.goodI_len
    have lg := fun j => c.goodI_getD (j := j)
    have g0 := ho.good_lt 0
    have gl := ho.good_len
    obtain ⟨a1, a2, a3, a4⟩ := (sl_ok (H := H) (b := false) c.goodI).fI
    have h4 := fun r hr => ref_Fewest_loop h ho r hr c.good.length 0 (by omega) (c.good.getD 0 0) g0
    simp only [Col.av, Col.good_map] at h2 h3 h4 ⊢
    refine (callFL_eq fn25 rfl (by simp [Try.f25])).trans ?_
    simp (maxSteps := 1000000) (implicitDefEqProofs := false) (disch := first | rfl | omega | assumption) only [go_sem, ↓reduceIte, Nat.reduceEqDiff, Nat.reduceAdd, Nat.reduceLeDiff, Nat.reduceBEq, Nat.reduceMul, Nat.reduceLT, Int.reduceLT, Int.reduceLE, Int.reduceToNat, Int.reduceNeg, Int.reduceEq, Int.reduceMul, reduceCtorEq, Int.reduceBEq, Int.reduceBNe, Int.reduceAdd, Int.reduceSub, ltT, ltF, leT, leF, s1, s2, h2, h3, hv, ll]
    repeat' ((with_reducible first
        | refine cond_ifb (fun hc hd he => ?_) (fun hc hd he => ?_)
        | refine guard_ifb (fun hc hd he => ?_) (fun hc hd he => ?_)
        | refine cond_dec (fun hc hd he => ?_) (fun hc hd he => ?_)
        | refine guard_dec (fun hc hd he => ?_) (fun hc hd he => ?_)
        | refine cond_ndec (fun hc hd he => ?_) (fun hc hd he => ?_)
        | refine guard_ndec (fun hc hd he => ?_) (fun hc hd he => ?_)
        | refine cond_not (fun hc hd he => ?_) (fun hc hd he => ?_)
        | refine guard_not (fun hc hd he => ?_) (fun hc hd he => ?_)
        | refine cond_beq (fun hc hd he => ?_) (fun hc hd he => ?_)
        | refine guard_beq (fun hc hd he => ?_) (fun hc hd he => ?_)
        | refine cond_bne (fun hc hd he => ?_) (fun hc hd he => ?_)
        | refine guard_bne (fun hc hd he => ?_) (fun hc hd he => ?_)
        | refine cond_split (fun hc hd he => ?_) (fun hc hd he => ?_)
        | refine guard_split (fun hc hd he => ?_) (fun hc hd he => ?_)
        | refine call_beq (fun hc hd he => ?_) (fun hc hd he => ?_)
        | refine call_ifb (fun hc hd he => ?_) (fun hc hd he => ?_)
        | refine call_ifd (fun hc hd he => ?_) (fun hc hd he => ?_)
        | refine call_dec (fun hc hd he => ?_) (fun hc hd he => ?_)) <;> try simp (maxSteps := 1000000) (implicitDefEqProofs := false) (disch := first | rfl | omega | assumption) only [go_sem, ↓reduceIte, Nat.reduceEqDiff, Nat.reduceAdd, Nat.reduceLeDiff, Nat.reduceBEq, Nat.reduceMul, Nat.reduceLT, Int.reduceLT, Int.reduceLE, Int.reduceToNat, Int.reduceNeg, Int.reduceEq, Int.reduceMul, reduceCtorEq, Int.reduceBEq, Int.reduceBNe, Int.reduceAdd, Int.reduceSub, ltT, ltF, leT, leF, hc, he, s1, s2, h2, h3, hv, ll])
    · have hg : c.good = [] := List.length_eq_zero_iff.1 (by omega)
      simp [Col.bestR, Col.best, hv, hg, packRes]
    · simp (maxSteps := 1000000) (implicitDefEqProofs := false) (disch := first | rfl | omega | assumption) only [go_sem, ↓reduceIte, Nat.reduceEqDiff, Nat.reduceAdd, Nat.reduceLeDiff, Nat.reduceBEq, Nat.reduceMul, Nat.reduceLT, Int.reduceLT, Int.reduceLE, Int.reduceToNat, Int.reduceNeg, Int.reduceEq, Int.reduceMul, reduceCtorEq, Int.reduceBEq, Int.reduceBNe, Int.reduceAdd, Int.reduceSub, ltT, ltF, leT, leF, s1, s2, a1, a2, a3, a4, ll, lg, Int.toNat_zero]
      have hlt : ∀ x ∈ c.good, x < 64 := by
        intro x hx
        obtain ⟨i, hi, rfl⟩ := List.mem_iff_getElem.1 hx
        have := ho.good_lt i
        simpa [hi] using this
      cases hg : c.good with
      | nil => rw [hg] at hd; exact absurd rfl hd
      | cons x r =>
        have hx : x < 64 := hlt x (by rw [hg]; simp)
        rw [hg] at h4
        simp only [List.getD_cons_zero, List.drop_zero] at h4 ⊢
        refine (h4 _ (bestL_lt _ 64 _ _ hx (by rw [← hg]; exact hlt)) rfl _ (by rfl) (by rfl) (by rfl) (by rfl)).trans ?_
        simp only [Col.bestR, Col.best, hv, hg, if_true]
  · simp only [Col.av, Col.bestR, hv] at h2 ⊢
    refine (callFL_eq fn25 rfl (by simp [Try.f25])).trans ?_
    simp (maxSteps := 1000000) (implicitDefEqProofs := false) (disch := first | rfl | omega | assumption) only [go_sem, ↓reduceIte, Nat.reduceEqDiff, Nat.reduceAdd, Nat.reduceLeDiff, Nat.reduceBEq, Nat.reduceMul, Nat.reduceLT, Int.reduceLT, Int.reduceLE, Int.reduceToNat, Int.reduceNeg, Int.reduceEq, Int.reduceMul, reduceCtorEq, Int.reduceBEq, Int.reduceBNe, Int.reduceAdd, Int.reduceSub, ltT, ltF, leT, leF, s1, s2, h2, hv]

theorem ref_Cheapest_loop {c : Col} {vw vp : AV} (h : ColAt H c vw vp) (ho : c.Ok) (r : Nat) (hr0 : r < 64) :
    ∀ (q j : Nat), j + q = c.good.length → ∀ (b : Nat), b < 64 → bestL (c.cost) b (c.good.drop j) = r → ∀ E : Env, E.get 1 = .ptr H.length 0 → E.get 6 = .sl false (c.goodI.map I) → E.get 7 = I b → E.get 8 = I j →
    Option.map (finishC H.length) (execL cfg0 prog0 ⟨27, none, false, H.length⟩ (todoAt Try.f27 9) ⟨E, [], H ++ [.box (c.av vw vp)], none⟩) = some ⟨.ret (.tup [I (c.cost r), I r, I 0]), H, none⟩ := by
  intro q
  have s1 := h.ws.scal
  have s2 := h.ps.scal
  have gl := ho.good_len
  have ll := c.goodI_len
  have lg := fun j => c.goodI_getD (j := j)
  have lb := ho.good_lt
  obtain ⟨a1, a2, a3, a4⟩ := (sl_ok (H := H) (b := false) c.goodI).fI
  have hS := fun (G : Heap) (n : Nat) (hn : n < 1000000) => ref_Cost (h.app G) ho n hn
  simp only [Col.av] at hS ⊢
  induction q with
  | zero =>
    intro j hj b hb hr E g1 g6 g7 g8
    have hk' : ¬ (j : Int) < ((c.good.length : Nat) : Int) := by omega
    have hjn : j = c.good.length := by omega
    subst hjn
    rw [List.drop_length, bestL] at hr
    subst hr
    simp only [loopIt, todoPast, todoAt, todoOf, firstReg, ↓reduceIte, Option.some.injEq, Nat.reduceEqDiff, reduceCtorEq, Try.f27]
    rw [execL_inLoop]
    simp (maxSteps := 1000000) (implicitDefEqProofs := false) (disch := first | rfl | omega | assumption) only [go_sem, ↓reduceIte, Nat.reduceEqDiff, Nat.reduceAdd, Nat.reduceLeDiff, Nat.reduceBEq, Nat.reduceMul, Nat.reduceLT, Int.reduceLT, Int.reduceLE, Int.reduceToNat, Int.reduceNeg, Int.reduceEq, Int.reduceMul, reduceCtorEq, Int.reduceBEq, Int.reduceBNe, Int.reduceAdd, Int.reduceSub, g1, g6, g7, g8, ltT, ltF, leT, leF, hk', s1, s2, ll, hS]
  | succ q ih =>
    intro j hj b hb hr E g1 g6 g7 g8
    have hk' : (j : Int) < ((c.good.length : Nat) : Int) := by omega
    have hk2 : j < c.good.length := by omega
    have hb2 := lb j
    rw [drop_getD hk2] at hr
    simp only [bestL] at hr
    simp only [loopIt, todoPast, todoAt, todoOf, firstReg, ↓reduceIte, Option.some.injEq, Nat.reduceEqDiff, reduceCtorEq, Try.f27]
    rw [execL_inLoop]
    simp (maxSteps := 1000000) (implicitDefEqProofs := false) (disch := first | rfl | omega | assumption) only [go_sem, ↓reduceIte, Nat.reduceEqDiff, Nat.reduceAdd, Nat.reduceLeDiff, Nat.reduceBEq, Nat.reduceMul, Nat.reduceLT, Int.reduceLT, Int.reduceLE, Int.reduceToNat, Int.reduceNeg, Int.reduceEq, Int.reduceMul, reduceCtorEq, Int.reduceBEq, Int.reduceBNe, Int.reduceAdd, Int.reduceSub, g1, g6, g7, g8, ltT, ltF, leT, leF, hk', s1, s2, ll, lg]
    rw [chkK_of]; rotate_left; kernel_rfl
    simp (maxSteps := 1000000) (implicitDefEqProofs := false) (disch := first | rfl | omega | assumption) only [go_sem, ↓reduceIte, Nat.reduceEqDiff, Nat.reduceAdd, Nat.reduceLeDiff, Nat.reduceBEq, Nat.reduceMul, Nat.reduceLT, Int.reduceLT, Int.reduceLE, Int.reduceToNat, Int.reduceNeg, Int.reduceEq, Int.reduceMul, reduceCtorEq, Int.reduceBEq, Int.reduceBNe, Int.reduceAdd, Int.reduceSub, g1, g6, g7, g8, ltT, ltF, leT, leF, hk', s1, s2, ll, lg, a1, a2, a3, a4, hS]
    repeat' ((with_reducible first
        | refine cond_ifb (fun hc hd he => ?_) (fun hc hd he => ?_)
        | refine guard_ifb (fun hc hd he => ?_) (fun hc hd he => ?_)
        | refine cond_dec (fun hc hd he => ?_) (fun hc hd he => ?_)
        | refine guard_dec (fun hc hd he => ?_) (fun hc hd he => ?_)
        | refine cond_ndec (fun hc hd he => ?_) (fun hc hd he => ?_)
        | refine guard_ndec (fun hc hd he => ?_) (fun hc hd he => ?_)
        | refine cond_not (fun hc hd he => ?_) (fun hc hd he => ?_)
        | refine guard_not (fun hc hd he => ?_) (fun hc hd he => ?_)
        | refine cond_beq (fun hc hd he => ?_) (fun hc hd he => ?_)
        | refine guard_beq (fun hc hd he => ?_) (fun hc hd he => ?_)
        | refine cond_bne (fun hc hd he => ?_) (fun hc hd he => ?_)
        | refine guard_bne (fun hc hd he => ?_) (fun hc hd he => ?_)
        | refine cond_split (fun hc hd he => ?_) (fun hc hd he => ?_)
        | refine guard_split (fun hc hd he => ?_) (fun hc hd he => ?_)
        | refine call_beq (fun hc hd he => ?_) (fun hc hd he => ?_)
        | refine call_ifb (fun hc hd he => ?_) (fun hc hd he => ?_)
        | refine call_ifd (fun hc hd he => ?_) (fun hc hd he => ?_)
        | refine call_dec (fun hc hd he => ?_) (fun hc hd he => ?_)) <;> try simp (maxSteps := 1000000) (implicitDefEqProofs := false) (disch := first | rfl | omega | assumption) only [go_sem, ↓reduceIte, Nat.reduceEqDiff, Nat.reduceAdd, Nat.reduceLeDiff, Nat.reduceBEq, Nat.reduceMul, Nat.reduceLT, Int.reduceLT, Int.reduceLE, Int.reduceToNat, Int.reduceNeg, Int.reduceEq, Int.reduceMul, reduceCtorEq, Int.reduceBEq, Int.reduceBNe, Int.reduceAdd, Int.reduceSub, g1, g6, g7, g8, ltT, ltF, leT, leF, hk', hc, he, s1, s2, ll, lg, a1, a2, a3, a4, hS])
    · rw [if_pos hc] at hr
      exact ih (j + 1) (by omega) _ hb2 hr _ (by exact g1) (by exact g6) (by rfl) (by rfl)
    · rw [if_neg hc] at hr
      exact ih (j + 1) (by omega) b hb hr _ (by exact g1) (by exact g6) (by exact g7) (by rfl)

theorem ref_Cheapest {c : Col} {vw vp : AV} (h : ColAt H c vw vp) : callFL cfg0 prog0 false 27 [c.av vw vp] H none = some ⟨.ret (.tup [I (c.bestR c.cost).1, I (c.bestR c.cost).2.1, I (c.bestR c.cost).2.2]), H, none⟩ := by
  have s1 := h.ws.scal
  have s2 := h.ps.scal
  have h2 := fun G : Heap => ref_check (h.app G)
  rcases Bool.eq_false_or_eq_true c.valid with hv | hv
  · have ho := c.valid_iff.1 hv
    have h3 := fun G : Heap => ref_sets (h.app G) ho
    have ll := c.goodI_len
    have lg := fun j => c.goodI_getD (j := j)
    have g0 := ho.good_lt 0
    have gl := ho.good_len
    obtain ⟨a1, a2, a3, a4⟩ := (sl_ok (H := H) (b := false) c.goodI).fI
    have h4 := fun r hr => ref_Cheapest_loop h ho r hr c.good.length 0 (by omega) (c.good.getD 0 0) g0
    simp only [Col.av, Col.good_map] at h2 h3 h4 ⊢
    refine (callFL_eq fn27 rfl (by simp [Try.f27])).trans ?_
    simp (maxSteps := 1000000) (implicitDefEqProofs := false) (disch := first | rfl | omega | assumption) only [go_sem, ↓reduceIte, Nat.reduceEqDiff, Nat.reduceAdd, Nat.reduceLeDiff, Nat.reduceBEq, Nat.reduceMul, Nat.reduceLT, Int.reduceLT, Int.reduceLE, Int.reduceToNat, Int.reduceNeg, Int.reduceEq, Int.reduceMul, reduceCtorEq, Int.reduceBEq, Int.reduceBNe, Int.reduceAdd, Int.reduceSub, ltT, ltF, leT, leF, s1, s2, h2, h3, hv, ll]
    repeat' ((with_reducible first
        | refine cond_ifb (fun hc hd he => ?_) (fun hc hd he => ?_)
        | refine guard_ifb (fun hc hd he => ?_) (fun hc hd he => ?_)
        | refine cond_dec (fun hc hd he => ?_) (fun hc hd he => ?_)
        | refine guard_dec (fun hc hd he => ?_) (fun hc hd he => ?_)
        | refine cond_ndec (fun hc hd he => ?_) (fun hc hd he => ?_)
        | refine guard_ndec (fun hc hd he => ?_) (fun hc hd he => ?_)
        | refine cond_not (fun hc hd he => ?_) (fun hc hd he => ?_)
        | refine guard_not (fun hc hd he => ?_) (fun hc hd he => ?_)
        | refine cond_beq (fun hc hd he => ?_) (fun hc hd he => ?_)
        | refine guard_beq (fun hc hd he => ?_) (fun hc hd he => ?_)
        | refine cond_bne (fun hc hd he => ?_) (fun hc hd he => ?_)
        | refine guard_bne (fun hc hd he => ?_) (fun hc hd he => ?_)
        | refine cond_split (fun hc hd he => ?_) (fun hc hd he => ?_)
        | refine guard_split (fun hc hd he => ?_) (fun hc hd he => ?_)
        | refine call_beq (fun hc hd he => ?_) (fun hc hd he => ?_)
        | refine call_ifb (fun hc hd he => ?_) (fun hc hd he => ?_)
        | refine call_ifd (fun hc hd he => ?_) (fun hc hd he => ?_)
        | refine call_dec (fun hc hd he => ?_) (fun hc hd he => ?_)) <;> try simp (maxSteps := 1000000) (implicitDefEqProofs := false) (disch := first | rfl | omega | assumption) only [go_sem, ↓reduceIte, Nat.reduceEqDiff, Nat.reduceAdd, Nat.reduceLeDiff, Nat.reduceBEq, Nat.reduceMul, Nat.reduceLT, Int.reduceLT, Int.reduceLE, Int.reduceToNat, Int.reduceNeg, Int.reduceEq, Int.reduceMul, reduceCtorEq, Int.reduceBEq, Int.reduceBNe, Int.reduceAdd, Int.reduceSub, ltT, ltF, leT, leF, hc, he, s1, s2, h2, h3, hv, ll])
    · have hg : c.good = [] := List.length_eq_zero_iff.1 (by omega)
      simp [Col.bestR, Col.best, hv, hg, packRes]
    · simp (maxSteps := 1000000) (implicitDefEqProofs := false) (disch := first | rfl | omega | assumption) only [go_sem, ↓reduceIte, Nat.reduceEqDiff, Nat.reduceAdd, Nat.reduceLeDiff, Nat.reduceBEq, Nat.reduceMul, Nat.reduceLT, Int.reduceLT, Int.reduceLE, Int.reduceToNat, Int.reduceNeg, Int.reduceEq, Int.reduceMul, reduceCtorEq, Int.reduceBEq, Int.reduceBNe, Int.reduceAdd, Int.reduceSub, ltT, ltF, leT, leF, s1, s2, a1, a2, a3, a4, ll, lg, Int.toNat_zero]
      have hlt : ∀ x ∈ c.good, x < 64 := by
        intro x hx
        obtain ⟨i, hi, rfl⟩ := List.mem_iff_getElem.1 hx
        have := ho.good_lt i
        simpa [hi] using this
      cases hg : c.good with
      | nil => rw [hg] at hd; exact absurd rfl hd
      | cons x r =>
        have hx : x < 64 := hlt x (by rw [hg]; simp)
        rw [hg] at h4
        simp only [List.getD_cons_zero, List.drop_zero] at h4 ⊢
        refine (h4 _ (bestL_lt _ 64 _ _ hx (by rw [← hg]; exact hlt)) rfl _ (by rfl) (by rfl) (by rfl) (by rfl)).trans ?_
        simp only [Col.bestR, Col.best, hv, hg, if_true]
  · simp only [Col.av, Col.bestR, hv] at h2 ⊢
    refine (callFL_eq fn27 rfl (by simp [Try.f27])).trans ?_
    simp (maxSteps := 1000000) (implicitDefEqProofs := false) (disch := first | rfl | omega | assumption) only [go_sem, ↓reduceIte, Nat.reduceEqDiff, Nat.reduceAdd, Nat.reduceLeDiff, Nat.reduceBEq, Nat.reduceMul, Nat.reduceLT, Int.reduceLT, Int.reduceLE, Int.reduceToNat, Int.reduceNeg, Int.reduceEq, Int.reduceMul, reduceCtorEq, Int.reduceBEq, Int.reduceBNe, Int.reduceAdd, Int.reduceSub, ltT, ltF, leT, leF, s1, s2, h2, hv]

/-- The colours of a set that can be spared. -/
def Col.sprA (c : Col) (s : Nat) (o i : Nat) : Nat := if s.testBit i && (c.leftN (s - 2 ^ i) == 0) then o + 2 ^ i else o
def Col.spr (c : Col) (s : Nat) : Nat := foldF (c.sprA s) 0 0 c.ws.length

theorem bit_le {s i : Nat} (h : s.testBit i = true) : 2 ^ i ≤ s := Nat.ge_two_pow_of_testBit h

theorem ref_Spare_loop {c : Col} {vw vp : AV} (h : ColAt H c vw vp) (ho : c.Ok) (s : Nat) (hs : s < 64) (r : Nat) :
    ∀ (q j : Nat), j + q = c.ws.length → ∀ (o : Nat), foldF (c.sprA s) o j q = r → o < 2 ^ j → ∀ E : Env, E.get 1 = I s → E.get 2 = .ptr H.length 0 → E.get 7 = I o → E.get 8 = I j →
    Option.map (finishC H.length) (execL cfg0 prog0 ⟨29, none, false, H.length⟩ (todoAt Try.f29 8) ⟨E, [], H ++ [.box (c.av vw vp)], none⟩) = some ⟨.ret (.tup [I r, I 0]), H, none⟩ := by
  intro q
  have s1 := h.ws.scal
  have s2 := h.ps.scal
  have l1 := ho.len
  have hH := fun (G : Heap) (k : Nat) (hk : k ≤ 20) => ref_Has (H := G) s k hk (by omega)
  have hp := fun (G : Heap) (k : Nat) (hk : k ≤ 20) => ref_power (H := G) k (by omega)
  simp only [Col.av]
  induction q with
  | zero =>
    intro j hj o hr hb E g1 g2 g7 g8
    have hk' : ¬ (j : Int) < ((c.ws.length : Nat) : Int) := by omega
    simp only [foldF] at hr
    subst hr
    simp only [loopIt, todoPast, todoAt, todoOf, firstReg, ↓reduceIte, Option.some.injEq, Nat.reduceEqDiff, reduceCtorEq, Try.f29]
    rw [execL_inLoop]
    simp (maxSteps := 1000000) (implicitDefEqProofs := false) (disch := first | rfl | omega | assumption) only [go_sem, ↓reduceIte, Nat.reduceEqDiff, Nat.reduceAdd, Nat.reduceLeDiff, Nat.reduceBEq, Nat.reduceMul, Nat.reduceLT, Int.reduceLT, Int.reduceLE, Int.reduceToNat, Int.reduceNeg, Int.reduceEq, Int.reduceMul, reduceCtorEq, Int.reduceBEq, Int.reduceBNe, Int.reduceAdd, Int.reduceSub, g1, g2, g7, g8, ltT, ltF, leT, leF, hk', s1, s2, h.ws.len]
  | succ q ih =>
    intro j hj o hr hb E g1 g2 g7 g8
    have hk' : (j : Int) < ((c.ws.length : Nat) : Int) := by omega
    have hk2 : j < c.ws.length := by omega
    have p1 : (2 : Nat) ^ j < 2 ^ 6 := Nat.pow_lt_pow_right (by omega) (by omega)
    have p3 : 0 ≤ ((2 ^ j : Nat) : Int) ∧ ((2 ^ j : Nat) : Int) < 64 := ⟨Int.natCast_nonneg _, Int.ofNat_lt.2 p1⟩
    have p2 : (2 : Nat) ^ (j + 1) = 2 ^ j + 2 ^ j := by rw [Nat.pow_succ]; omega
    have bL := c.leftN_bd ho (s - 2 ^ j)
    simp only [foldF, Col.sprA] at hr
    simp only [loopIt, todoPast, todoAt, todoOf, firstReg, ↓reduceIte, Option.some.injEq, Nat.reduceEqDiff, reduceCtorEq, Try.f29]
    rw [execL_inLoop]
    simp (maxSteps := 1000000) (implicitDefEqProofs := false) (disch := first | rfl | omega | assumption) only [go_sem, ↓reduceIte, Nat.reduceEqDiff, Nat.reduceAdd, Nat.reduceLeDiff, Nat.reduceBEq, Nat.reduceMul, Nat.reduceLT, Int.reduceLT, Int.reduceLE, Int.reduceToNat, Int.reduceNeg, Int.reduceEq, Int.reduceMul, reduceCtorEq, Int.reduceBEq, Int.reduceBNe, Int.reduceAdd, Int.reduceSub, g1, g2, g7, g8, ltT, ltF, leT, leF, hk', s1, s2, h.ws.len]
    rw [chkK_of]; rotate_left; kernel_rfl
    rcases Bool.eq_false_or_eq_true (s.testBit j) with ht | ht
    · have hle := bit_le ht
      have e1 : (s : Int) - ((2 ^ j : Nat) : Int) = ((s - 2 ^ j : Nat) : Int) := by omega
      have e2 : (o : Int) + ((2 ^ j : Nat) : Int) = ((o + 2 ^ j : Nat) : Int) := by omega
      have hL := fun G : Heap => ref_left (h.app G) ho (s - 2 ^ j) (by omega)
      simp only [Col.av] at hL
      rw [ht] at hr
      simp (maxSteps := 1000000) (implicitDefEqProofs := false) (disch := first | rfl | omega | assumption) only [go_sem, ↓reduceIte, Nat.reduceEqDiff, Nat.reduceAdd, Nat.reduceLeDiff, Nat.reduceBEq, Nat.reduceMul, Nat.reduceLT, Int.reduceLT, Int.reduceLE, Int.reduceToNat, Int.reduceNeg, Int.reduceEq, Int.reduceMul, reduceCtorEq, Int.reduceBEq, Int.reduceBNe, Int.reduceAdd, Int.reduceSub, g1, g2, g7, g8, ltT, ltF, leT, leF, hk', s1, s2, hH, hp, ht, e1, e2, hL]
      repeat' ((with_reducible first
          | refine cond_ifb (fun hc hd he => ?_) (fun hc hd he => ?_)
          | refine guard_ifb (fun hc hd he => ?_) (fun hc hd he => ?_)
          | refine cond_dec (fun hc hd he => ?_) (fun hc hd he => ?_)
          | refine guard_dec (fun hc hd he => ?_) (fun hc hd he => ?_)
          | refine cond_ndec (fun hc hd he => ?_) (fun hc hd he => ?_)
          | refine guard_ndec (fun hc hd he => ?_) (fun hc hd he => ?_)
          | refine cond_not (fun hc hd he => ?_) (fun hc hd he => ?_)
          | refine guard_not (fun hc hd he => ?_) (fun hc hd he => ?_)
          | refine cond_beq (fun hc hd he => ?_) (fun hc hd he => ?_)
          | refine guard_beq (fun hc hd he => ?_) (fun hc hd he => ?_)
          | refine cond_bne (fun hc hd he => ?_) (fun hc hd he => ?_)
          | refine guard_bne (fun hc hd he => ?_) (fun hc hd he => ?_)
          | refine cond_split (fun hc hd he => ?_) (fun hc hd he => ?_)
          | refine guard_split (fun hc hd he => ?_) (fun hc hd he => ?_)
          | refine call_beq (fun hc hd he => ?_) (fun hc hd he => ?_)
          | refine call_ifb (fun hc hd he => ?_) (fun hc hd he => ?_)
          | refine call_ifd (fun hc hd he => ?_) (fun hc hd he => ?_)
          | refine call_dec (fun hc hd he => ?_) (fun hc hd he => ?_)) <;> try simp (maxSteps := 1000000) (implicitDefEqProofs := false) (disch := first | rfl | omega | assumption) only [go_sem, ↓reduceIte, Nat.reduceEqDiff, Nat.reduceAdd, Nat.reduceLeDiff, Nat.reduceBEq, Nat.reduceMul, Nat.reduceLT, Int.reduceLT, Int.reduceLE, Int.reduceToNat, Int.reduceNeg, Int.reduceEq, Int.reduceMul, reduceCtorEq, Int.reduceBEq, Int.reduceBNe, Int.reduceAdd, Int.reduceSub, g1, g2, g7, g8, ltT, ltF, leT, leF, hk', hc, he, s1, s2, hH, hp, ht, e1, e2, hL])
      · have hb2 : (c.leftN (s - 2 ^ j) == 0) = true := by simpa using hd
        rw [hb2] at hr
        exact ih (j + 1) (by omega) (o + 2 ^ j) hr (by omega) _ (by exact g1) (by exact g2) (by rfl) (by rfl)
      · have hb2 : (c.leftN (s - 2 ^ j) == 0) = false := by simpa using hd
        rw [hb2] at hr
        exact ih (j + 1) (by omega) o hr (by omega) _ (by exact g1) (by exact g2) (by exact g7) (by rfl)
    · rw [ht] at hr
      simp (maxSteps := 1000000) (implicitDefEqProofs := false) (disch := first | rfl | omega | assumption) only [go_sem, ↓reduceIte, Nat.reduceEqDiff, Nat.reduceAdd, Nat.reduceLeDiff, Nat.reduceBEq, Nat.reduceMul, Nat.reduceLT, Int.reduceLT, Int.reduceLE, Int.reduceToNat, Int.reduceNeg, Int.reduceEq, Int.reduceMul, reduceCtorEq, Int.reduceBEq, Int.reduceBNe, Int.reduceAdd, Int.reduceSub, g1, g2, g7, g8, ltT, ltF, leT, leF, hk', s1, s2, hH, ht]
      exact ih (j + 1) (by omega) o hr (by omega) _ (by exact g1) (by exact g2) (by exact g7) (by rfl)

def Col.spareR (c : Col) (n : Int) : Int × Int := if c.valid then (if c.isSet n then (if 0 < c.leftN n.toNat then (0, 11) else (c.spr n.toNat, 0)) else (0, 2)) else (0, 1)

theorem ref_Spare {c : Col} {vw vp : AV} (h : ColAt H c vw vp) (hl : c.ws.length ≤ 60 ∨ c.valid = true) (n : Int) : callFL cfg0 prog0 false 29 [c.av vw vp, I n] H none = some ⟨.ret (.tup [I (c.spareR n).1, I (c.spareR n).2]), H, none⟩ := by
  have s1 := h.ws.scal
  have s2 := h.ps.scal
  have h1 := fun G : Heap => ref_Set' (h.app G) (len20 hl) n
  have h2 := fun G : Heap => ref_check (h.app G)
  rcases Bool.eq_false_or_eq_true c.valid with hv | hv
  · have ho := c.valid_iff.1 hv
    rcases Bool.eq_false_or_eq_true (c.isSet n) with hn | hn
    · obtain ⟨b1, b2, b3⟩ := ho.set_bd hn
      have h3 := fun G : Heap => ref_left (h.app G) ho n.toNat (by omega)
      have h4 := ref_Spare_loop h ho n.toNat (by omega) (c.spr n.toNat) c.ws.length 0 (by omega) 0 rfl (by simp)
      rw [← b1] at h3 h4
      simp only [Col.av] at h1 h2 h3 h4 ⊢
      refine (callFL_eq fn29 rfl (by simp [Try.f29])).trans ?_
      simp (maxSteps := 1000000) (implicitDefEqProofs := false) (disch := first | rfl | omega | assumption) only [go_sem, ↓reduceIte, Nat.reduceEqDiff, Nat.reduceAdd, Nat.reduceLeDiff, Nat.reduceBEq, Nat.reduceMul, Nat.reduceLT, Int.reduceLT, Int.reduceLE, Int.reduceToNat, Int.reduceNeg, Int.reduceEq, Int.reduceMul, reduceCtorEq, Int.reduceBEq, Int.reduceBNe, Int.reduceAdd, Int.reduceSub, ltT, ltF, leT, leF, s1, s2]
      rw [chkK_of]; rotate_left; kernel_rfl
      by_cases hz : (0 : Int) < c.leftN n.toNat
      · have hz' : 0 < c.leftN n.toNat := by omega
        simp (maxSteps := 1000000) (implicitDefEqProofs := false) (disch := first | rfl | omega | assumption) only [go_sem, ↓reduceIte, Nat.reduceEqDiff, Nat.reduceAdd, Nat.reduceLeDiff, Nat.reduceBEq, Nat.reduceMul, Nat.reduceLT, Int.reduceLT, Int.reduceLE, Int.reduceToNat, Int.reduceNeg, Int.reduceEq, Int.reduceMul, reduceCtorEq, Int.reduceBEq, Int.reduceBNe, Int.reduceAdd, Int.reduceSub, ltT, ltF, leT, leF, s1, s2, h1, h2, h3, hv, hn, hz, Col.spareR, hz']
      · have hz' : ¬ 0 < c.leftN n.toNat := by omega
        simp (maxSteps := 1000000) (implicitDefEqProofs := false) (disch := first | rfl | omega | assumption) only [go_sem, ↓reduceIte, Nat.reduceEqDiff, Nat.reduceAdd, Nat.reduceLeDiff, Nat.reduceBEq, Nat.reduceMul, Nat.reduceLT, Int.reduceLT, Int.reduceLE, Int.reduceToNat, Int.reduceNeg, Int.reduceEq, Int.reduceMul, reduceCtorEq, Int.reduceBEq, Int.reduceBNe, Int.reduceAdd, Int.reduceSub, ltT, ltF, leT, leF, s1, s2, h1, h2, h3, hv, hn, hz]
        refine (h4 _ (by rfl) (by rfl) (by rfl) (by rfl)).trans ?_
        simp only [Col.spareR, hv, hn, hz', if_true, if_false]
    · simp only [Col.av, Col.spareR, hv, hn] at h1 h2 ⊢
      refine (callFL_eq fn29 rfl (by simp [Try.f29])).trans ?_
      simp (maxSteps := 1000000) (implicitDefEqProofs := false) (disch := first | rfl | omega | assumption) only [go_sem, ↓reduceIte, Nat.reduceEqDiff, Nat.reduceAdd, Nat.reduceLeDiff, Nat.reduceBEq, Nat.reduceMul, Nat.reduceLT, Int.reduceLT, Int.reduceLE, Int.reduceToNat, Int.reduceNeg, Int.reduceEq, Int.reduceMul, reduceCtorEq, Int.reduceBEq, Int.reduceBNe, Int.reduceAdd, Int.reduceSub, ltT, ltF, leT, leF, s1, s2]
      rw [chkK_of]; rotate_left; kernel_rfl
      simp (maxSteps := 1000000) (implicitDefEqProofs := false) (disch := first | rfl | omega | assumption) only [go_sem, ↓reduceIte, Nat.reduceEqDiff, Nat.reduceAdd, Nat.reduceLeDiff, Nat.reduceBEq, Nat.reduceMul, Nat.reduceLT, Int.reduceLT, Int.reduceLE, Int.reduceToNat, Int.reduceNeg, Int.reduceEq, Int.reduceMul, reduceCtorEq, Int.reduceBEq, Int.reduceBNe, Int.reduceAdd, Int.reduceSub, ltT, ltF, leT, leF, s1, s2, h1, h2, hv, hn]
  · simp only [Col.av, Col.spareR, hv] at h1 h2 ⊢
    refine (callFL_eq fn29 rfl (by simp [Try.f29])).trans ?_
    simp (maxSteps := 1000000) (implicitDefEqProofs := false) (disch := first | rfl | omega | assumption) only [go_sem, ↓reduceIte, Nat.reduceEqDiff, Nat.reduceAdd, Nat.reduceLeDiff, Nat.reduceBEq, Nat.reduceMul, Nat.reduceLT, Int.reduceLT, Int.reduceLE, Int.reduceToNat, Int.reduceNeg, Int.reduceEq, Int.reduceMul, reduceCtorEq, Int.reduceBEq, Int.reduceBNe, Int.reduceAdd, Int.reduceSub, ltT, ltF, leT, leF, s1, s2]
    rw [chkK_of]; rotate_left; kernel_rfl
    simp (maxSteps := 1000000) (implicitDefEqProofs := false) (disch := first | rfl | omega | assumption) only [go_sem, ↓reduceIte, Nat.reduceEqDiff, Nat.reduceAdd, Nat.reduceLeDiff, Nat.reduceBEq, Nat.reduceMul, Nat.reduceLT, Int.reduceLT, Int.reduceLE, Int.reduceToNat, Int.reduceNeg, Int.reduceEq, Int.reduceMul, reduceCtorEq, Int.reduceBEq, Int.reduceBNe, Int.reduceAdd, Int.reduceSub, ltT, ltF, leT, leF, s1, s2, h1, h2, hv]

/-- The colour that should be bought next, and what it leaves. -/
def Col.nxtA (c : Col) (s : Nat) (p : Int × Int) (i : Nat) : Int × Int := if s.testBit i then p else if p.1 < 0 ∨ (c.leftN (s + 2 ^ i) : Int) < p.2 then (i, c.leftN (s + 2 ^ i)) else p
def Col.nxt (c : Col) (s : Nat) : Int × Int := foldF (c.nxtA s) (-1, 0) 0 c.ws.length

theorem ref_Next_loop {c : Col} {vw vp : AV} (h : ColAt H c vw vp) (ho : c.Ok) (s : Nat) (hs : s < 64) (r : Int × Int) :
    ∀ (q j : Nat), j + q = c.ws.length → ∀ (p : Int × Int), foldF (c.nxtA s) p j q = r → ∀ E : Env, E.get 1 = I s → E.get 2 = .ptr H.length 0 → E.get 8 = I p.1 → E.get 9 = I p.2 → E.get 10 = I j →
    Option.map (finishC H.length) (execL cfg0 prog0 ⟨31, none, false, H.length⟩ (todoAt Try.f31 6) ⟨E, [], H ++ [.box (c.av vw vp)], none⟩) = some ⟨.ret (.tup (if r.1 < 0 then [I 0, I 0, I 4] else [I r.1, I r.2, I 0])), H, none⟩ := by
  intro q
  have s1 := h.ws.scal
  have s2 := h.ps.scal
  have l1 := ho.len
  have hH := fun (G : Heap) (k : Nat) (hk : k ≤ 20) => ref_Has (H := G) s k hk (by omega)
  have hp := fun (G : Heap) (k : Nat) (hk : k ≤ 20) => ref_power (H := G) k (by omega)
  simp only [Col.av]
  induction q with
  | zero =>
    intro j hj p hr E g1 g2 g8 g9 g10
    have hk' : ¬ (j : Int) < ((c.ws.length : Nat) : Int) := by omega
    simp only [foldF] at hr
    subst hr
    simp only [loopIt, todoPast, todoAt, todoOf, firstReg, ↓reduceIte, Option.some.injEq, Nat.reduceEqDiff, reduceCtorEq, Try.f31]
    rw [execL_inLoop]
    simp (maxSteps := 1000000) (implicitDefEqProofs := false) (disch := first | rfl | omega | assumption) only [go_sem, ↓reduceIte, Nat.reduceEqDiff, Nat.reduceAdd, Nat.reduceLeDiff, Nat.reduceBEq, Nat.reduceMul, Nat.reduceLT, Int.reduceLT, Int.reduceLE, Int.reduceToNat, Int.reduceNeg, Int.reduceEq, Int.reduceMul, reduceCtorEq, Int.reduceBEq, Int.reduceBNe, Int.reduceAdd, Int.reduceSub, g1, g2, g8, g9, g10, ltT, ltF, leT, leF, hk', s1, s2, h.ws.len]
    repeat' ((with_reducible first
        | refine cond_ifb (fun hc hd he => ?_) (fun hc hd he => ?_)
        | refine guard_ifb (fun hc hd he => ?_) (fun hc hd he => ?_)
        | refine cond_dec (fun hc hd he => ?_) (fun hc hd he => ?_)
        | refine guard_dec (fun hc hd he => ?_) (fun hc hd he => ?_)
        | refine cond_ndec (fun hc hd he => ?_) (fun hc hd he => ?_)
        | refine guard_ndec (fun hc hd he => ?_) (fun hc hd he => ?_)
        | refine cond_not (fun hc hd he => ?_) (fun hc hd he => ?_)
        | refine guard_not (fun hc hd he => ?_) (fun hc hd he => ?_)
        | refine cond_beq (fun hc hd he => ?_) (fun hc hd he => ?_)
        | refine guard_beq (fun hc hd he => ?_) (fun hc hd he => ?_)
        | refine cond_bne (fun hc hd he => ?_) (fun hc hd he => ?_)
        | refine guard_bne (fun hc hd he => ?_) (fun hc hd he => ?_)
        | refine cond_split (fun hc hd he => ?_) (fun hc hd he => ?_)
        | refine guard_split (fun hc hd he => ?_) (fun hc hd he => ?_)
        | refine call_beq (fun hc hd he => ?_) (fun hc hd he => ?_)
        | refine call_ifb (fun hc hd he => ?_) (fun hc hd he => ?_)
        | refine call_ifd (fun hc hd he => ?_) (fun hc hd he => ?_)
        | refine call_dec (fun hc hd he => ?_) (fun hc hd he => ?_)) <;> try simp (maxSteps := 1000000) (implicitDefEqProofs := false) (disch := first | rfl | omega | assumption) only [go_sem, ↓reduceIte, Nat.reduceEqDiff, Nat.reduceAdd, Nat.reduceLeDiff, Nat.reduceBEq, Nat.reduceMul, Nat.reduceLT, Int.reduceLT, Int.reduceLE, Int.reduceToNat, Int.reduceNeg, Int.reduceEq, Int.reduceMul, reduceCtorEq, Int.reduceBEq, Int.reduceBNe, Int.reduceAdd, Int.reduceSub, g1, g2, g8, g9, g10, ltT, ltF, leT, leF, hk', hc, he, s1, s2, h.ws.len])
  | succ q ih =>
    intro j hj p hr E g1 g2 g8 g9 g10
    have hk' : (j : Int) < ((c.ws.length : Nat) : Int) := by omega
    have hk2 : j < c.ws.length := by omega
    have p1 : (2 : Nat) ^ j < 2 ^ 6 := Nat.pow_lt_pow_right (by omega) (by omega)
    have p3 : 0 ≤ ((2 ^ j : Nat) : Int) ∧ ((2 ^ j : Nat) : Int) < 64 := ⟨Int.natCast_nonneg _, Int.ofNat_lt.2 p1⟩
    have bL := c.leftN_bd ho (s + 2 ^ j)
    have e1 : (s : Int) + ((2 ^ j : Nat) : Int) = ((s + 2 ^ j : Nat) : Int) := by omega
    have hL := fun G : Heap => ref_left (h.app G) ho (s + 2 ^ j) (by omega)
    simp only [Col.av] at hL
    simp only [foldF, Col.nxtA] at hr
    simp only [loopIt, todoPast, todoAt, todoOf, firstReg, ↓reduceIte, Option.some.injEq, Nat.reduceEqDiff, reduceCtorEq, Try.f31]
    rw [execL_inLoop]
    rcases Bool.eq_false_or_eq_true (s.testBit j) with ht | ht
    · rw [ht] at hr
      simp (maxSteps := 1000000) (implicitDefEqProofs := false) (disch := first | rfl | omega | assumption) only [go_sem, ↓reduceIte, Nat.reduceEqDiff, Nat.reduceAdd, Nat.reduceLeDiff, Nat.reduceBEq, Nat.reduceMul, Nat.reduceLT, Int.reduceLT, Int.reduceLE, Int.reduceToNat, Int.reduceNeg, Int.reduceEq, Int.reduceMul, reduceCtorEq, Int.reduceBEq, Int.reduceBNe, Int.reduceAdd, Int.reduceSub, g1, g2, g8, g9, g10, ltT, ltF, leT, leF, hk', s1, s2, h.ws.len, hH, ht]
      exact ih (j + 1) (by omega) p hr _ (by exact g1) (by exact g2) (by exact g8) (by exact g9) (by rfl)
    · rw [ht] at hr
      simp (maxSteps := 1000000) (implicitDefEqProofs := false) (disch := first | rfl | omega | assumption) only [go_sem, ↓reduceIte, Nat.reduceEqDiff, Nat.reduceAdd, Nat.reduceLeDiff, Nat.reduceBEq, Nat.reduceMul, Nat.reduceLT, Int.reduceLT, Int.reduceLE, Int.reduceToNat, Int.reduceNeg, Int.reduceEq, Int.reduceMul, reduceCtorEq, Int.reduceBEq, Int.reduceBNe, Int.reduceAdd, Int.reduceSub, g1, g2, g8, g9, g10, ltT, ltF, leT, leF, hk', s1, s2, h.ws.len, hH, ht]
      rw [chkK_of]; rotate_left; kernel_rfl
      by_cases c1 : p.1 < 0
      · simp (maxSteps := 1000000) (implicitDefEqProofs := false) (disch := first | rfl | omega | assumption) only [go_sem, ↓reduceIte, Nat.reduceEqDiff, Nat.reduceAdd, Nat.reduceLeDiff, Nat.reduceBEq, Nat.reduceMul, Nat.reduceLT, Int.reduceLT, Int.reduceLE, Int.reduceToNat, Int.reduceNeg, Int.reduceEq, Int.reduceMul, reduceCtorEq, Int.reduceBEq, Int.reduceBNe, Int.reduceAdd, Int.reduceSub, g1, g2, g8, g9, g10, ltT, ltF, leT, leF, hk', s1, s2, hp, e1, hL, c1]
        rw [if_neg (by simp), if_pos (.inl c1)] at hr
        exact ih (j + 1) (by omega) _ hr _ (by exact g1) (by exact g2) (by rfl) (by rfl) (by rfl)
      · by_cases c2 : (c.leftN (s + 2 ^ j) : Int) < p.2
        · simp (maxSteps := 1000000) (implicitDefEqProofs := false) (disch := first | rfl | omega | assumption) only [go_sem, ↓reduceIte, Nat.reduceEqDiff, Nat.reduceAdd, Nat.reduceLeDiff, Nat.reduceBEq, Nat.reduceMul, Nat.reduceLT, Int.reduceLT, Int.reduceLE, Int.reduceToNat, Int.reduceNeg, Int.reduceEq, Int.reduceMul, reduceCtorEq, Int.reduceBEq, Int.reduceBNe, Int.reduceAdd, Int.reduceSub, g1, g2, g8, g9, g10, ltT, ltF, leT, leF, hk', s1, s2, hp, e1, hL, c1, c2]
          rw [if_neg (by simp), if_pos (.inr c2)] at hr
          exact ih (j + 1) (by omega) _ hr _ (by exact g1) (by exact g2) (by rfl) (by rfl) (by rfl)
        · simp (maxSteps := 1000000) (implicitDefEqProofs := false) (disch := first | rfl | omega | assumption) only [go_sem, ↓reduceIte, Nat.reduceEqDiff, Nat.reduceAdd, Nat.reduceLeDiff, Nat.reduceBEq, Nat.reduceMul, Nat.reduceLT, Int.reduceLT, Int.reduceLE, Int.reduceToNat, Int.reduceNeg, Int.reduceEq, Int.reduceMul, reduceCtorEq, Int.reduceBEq, Int.reduceBNe, Int.reduceAdd, Int.reduceSub, g1, g2, g8, g9, g10, ltT, ltF, leT, leF, hk', s1, s2, hp, e1, hL, c1, c2]
          rw [if_neg (by simp), if_neg (by simp only [c1, c2, or_self, not_false_eq_true])] at hr
          exact ih (j + 1) (by omega) _ hr _ (by exact g1) (by exact g2) (by exact g8) (by exact g9) (by rfl)

def Col.nextR (c : Col) (n : Int) : Int × Int × Int := if c.valid then (if c.isSet n then (if (c.nxt n.toNat).1 < 0 then (0, 0, 4) else ((c.nxt n.toNat).1, (c.nxt n.toNat).2, 0)) else (0, 0, 2)) else (0, 0, 1)

theorem ref_Next {c : Col} {vw vp : AV} (h : ColAt H c vw vp) (hl : c.ws.length ≤ 60 ∨ c.valid = true) (n : Int) : callFL cfg0 prog0 false 31 [c.av vw vp, I n] H none = some ⟨.ret (.tup [I (c.nextR n).1, I (c.nextR n).2.1, I (c.nextR n).2.2]), H, none⟩ := by
  have s1 := h.ws.scal
  have s2 := h.ps.scal
  have h1 := fun G : Heap => ref_Set' (h.app G) (len20 hl) n
  have h2 := fun G : Heap => ref_check (h.app G)
  rcases Bool.eq_false_or_eq_true c.valid with hv | hv
  · have ho := c.valid_iff.1 hv
    rcases Bool.eq_false_or_eq_true (c.isSet n) with hn | hn
    · obtain ⟨b1, b2, b3⟩ := ho.set_bd hn
      have h4 := ref_Next_loop h ho n.toNat (by omega) (c.nxt n.toNat) c.ws.length 0 (by omega) (-1, 0) rfl
      rw [← b1] at h4
      simp only [Col.av] at h1 h2 h4 ⊢
      refine (callFL_eq fn31 rfl (by simp [Try.f31])).trans ?_
      simp (maxSteps := 1000000) (implicitDefEqProofs := false) (disch := first | rfl | omega | assumption) only [go_sem, ↓reduceIte, Nat.reduceEqDiff, Nat.reduceAdd, Nat.reduceLeDiff, Nat.reduceBEq, Nat.reduceMul, Nat.reduceLT, Int.reduceLT, Int.reduceLE, Int.reduceToNat, Int.reduceNeg, Int.reduceEq, Int.reduceMul, reduceCtorEq, Int.reduceBEq, Int.reduceBNe, Int.reduceAdd, Int.reduceSub, ltT, ltF, leT, leF, s1, s2]
      rw [chkK_of]; rotate_left; kernel_rfl
      simp (maxSteps := 1000000) (implicitDefEqProofs := false) (disch := first | rfl | omega | assumption) only [go_sem, ↓reduceIte, Nat.reduceEqDiff, Nat.reduceAdd, Nat.reduceLeDiff, Nat.reduceBEq, Nat.reduceMul, Nat.reduceLT, Int.reduceLT, Int.reduceLE, Int.reduceToNat, Int.reduceNeg, Int.reduceEq, Int.reduceMul, reduceCtorEq, Int.reduceBEq, Int.reduceBNe, Int.reduceAdd, Int.reduceSub, ltT, ltF, leT, leF, s1, s2, h1, h2, hv, hn]
      refine (h4 _ (by rfl) (by rfl) (by rfl) (by rfl) (by rfl)).trans ?_
      simp only [Col.nextR, hv, hn, if_true]
      split <;> rfl
    · simp only [Col.av, Col.nextR, hv, hn] at h1 h2 ⊢
      refine (callFL_eq fn31 rfl (by simp [Try.f31])).trans ?_
      simp (maxSteps := 1000000) (implicitDefEqProofs := false) (disch := first | rfl | omega | assumption) only [go_sem, ↓reduceIte, Nat.reduceEqDiff, Nat.reduceAdd, Nat.reduceLeDiff, Nat.reduceBEq, Nat.reduceMul, Nat.reduceLT, Int.reduceLT, Int.reduceLE, Int.reduceToNat, Int.reduceNeg, Int.reduceEq, Int.reduceMul, reduceCtorEq, Int.reduceBEq, Int.reduceBNe, Int.reduceAdd, Int.reduceSub, ltT, ltF, leT, leF, s1, s2]
      rw [chkK_of]; rotate_left; kernel_rfl
      simp (maxSteps := 1000000) (implicitDefEqProofs := false) (disch := first | rfl | omega | assumption) only [go_sem, ↓reduceIte, Nat.reduceEqDiff, Nat.reduceAdd, Nat.reduceLeDiff, Nat.reduceBEq, Nat.reduceMul, Nat.reduceLT, Int.reduceLT, Int.reduceLE, Int.reduceToNat, Int.reduceNeg, Int.reduceEq, Int.reduceMul, reduceCtorEq, Int.reduceBEq, Int.reduceBNe, Int.reduceAdd, Int.reduceSub, ltT, ltF, leT, leF, s1, s2, h1, h2, hv, hn]
  · simp only [Col.av, Col.nextR, hv] at h1 h2 ⊢
    refine (callFL_eq fn31 rfl (by simp [Try.f31])).trans ?_
    simp (maxSteps := 1000000) (implicitDefEqProofs := false) (disch := first | rfl | omega | assumption) only [go_sem, ↓reduceIte, Nat.reduceEqDiff, Nat.reduceAdd, Nat.reduceLeDiff, Nat.reduceBEq, Nat.reduceMul, Nat.reduceLT, Int.reduceLT, Int.reduceLE, Int.reduceToNat, Int.reduceNeg, Int.reduceEq, Int.reduceMul, reduceCtorEq, Int.reduceBEq, Int.reduceBNe, Int.reduceAdd, Int.reduceSub, ltT, ltF, leT, leF, s1, s2]
    rw [chkK_of]; rotate_left; kernel_rfl
    simp (maxSteps := 1000000) (implicitDefEqProofs := false) (disch := first | rfl | omega | assumption) only [go_sem, ↓reduceIte, Nat.reduceEqDiff, Nat.reduceAdd, Nat.reduceLeDiff, Nat.reduceBEq, Nat.reduceMul, Nat.reduceLT, Int.reduceLT, Int.reduceLE, Int.reduceToNat, Int.reduceNeg, Int.reduceEq, Int.reduceMul, reduceCtorEq, Int.reduceBEq, Int.reduceBNe, Int.reduceAdd, Int.reduceSub, ltT, ltF, leT, leF, s1, s2, h1, h2, hv]

end Go.Ab
/-
  Sets, and what they cost.
-/
namespace Go.Ab
open Go.Proofs
set_option linter.unusedSimpArgs false
set_option linter.unusedVariables false
set_option maxRecDepth 100000
set_option maxHeartbeats 1000000

variable {H : Heap}

theorem u64nat {n : Nat} (h : n < 18446744073709551615) : IntKind.u64.wrap ((n : Int) + 1) = ((n + 1 : Nat) : Int) := wrapU (n := n + 1) (by omega)

theorem co_sets_loop (N : Nat) (hN : N ≤ 1000) :
    ∀ (q j : Nat), j + q = N → ∀ (len : Nat), ∀ (xs : List AV), xs = (List.range j).map U → len = xs.length → ∀ E : Env, E.get 2 = .gsl H.length len → E.get 9 = U N → E.get 10 = U j →
    Option.map (finishC H.length) (execL cfg0 prog0 ⟨103, none, false, H.length⟩ (todoAt Try.f103 2) ⟨E, [], H ++ [.grow 1 xs], none⟩) = some ⟨.ret (.sl false ((List.range N).map U)), H, none⟩ := by
  intro q
  induction q with
  | zero =>
    intro j hj len xs hx hlen E g2 g9 g10
    have hk' : ¬ (j : Int) < ((N : Nat) : Int) := by omega
    have hx2 : xs = (List.range N).map U := by rw [hx, show j = N by omega]
    subst hlen
    simp only [loopIt, todoPast, todoAt, todoOf, firstReg, ↓reduceIte, Option.some.injEq, Nat.reduceEqDiff, reduceCtorEq, Try.f103]
    rw [execL_inLoop]
    simp (maxSteps := 1000000) (implicitDefEqProofs := false) (disch := first | rfl | omega | assumption) only [go_sem, ↓reduceIte, Nat.reduceEqDiff, Nat.reduceAdd, Nat.reduceLeDiff, Nat.reduceBEq, Nat.reduceMul, Nat.reduceLT, Int.reduceLT, Int.reduceLE, Int.reduceToNat, Int.reduceNeg, Int.reduceEq, Int.reduceMul, reduceCtorEq, Int.reduceBEq, Int.reduceBNe, Int.reduceAdd, Int.reduceSub, g2, g9, g10, ltT, ltF, leT, leF, hk']
    rw [← hx2]
  | succ q ih =>
    intro j hj len xs hx hlen E g2 g9 g10
    have hk' : (j : Int) < ((N : Nat) : Int) := by omega
    have hk2 : j < N := by omega
    have hxl : xs.length = j := by rw [hx]; simp
    have hof : addElem (H ++ [.grow 1 xs]) 1 false (.gsl H.length len) [U j] = some (.gsl H.length (len + 1), H ++ [.grow 1 (xs ++ [U j])]) := by
      rw [add_gsl (by simp [get_at]) hlen.symm rfl rfl (by simp; omega), set_at]
      rfl
    have hw := u64nat (n := j) (by omega)
    simp only [loopIt, todoPast, todoAt, todoOf, firstReg, ↓reduceIte, Option.some.injEq, Nat.reduceEqDiff, reduceCtorEq, Try.f103]
    rw [execL_inLoop]
    simp (maxSteps := 1000000) (implicitDefEqProofs := false) (disch := first | rfl | omega | assumption) only [go_sem, ↓reduceIte, Nat.reduceEqDiff, Nat.reduceAdd, Nat.reduceLeDiff, Nat.reduceBEq, Nat.reduceMul, Nat.reduceLT, Int.reduceLT, Int.reduceLE, Int.reduceToNat, Int.reduceNeg, Int.reduceEq, Int.reduceMul, reduceCtorEq, Int.reduceBEq, Int.reduceBNe, Int.reduceAdd, Int.reduceSub, g2, g9, g10, ltT, ltF, leT, leF, hk', hof, hw]
    exact ih (j + 1) (by omega) (len + 1) _ (by rw [List.range_succ, hx, List.map_append]; rfl) (by rw [hlen]; simp) _ (by rfl) (by exact g9) (by rfl)

theorem co_sets {l lm : Nat} {c : Col} {vw vp vo : AV} (h : ShopAt H l c vw vp vo lm) (hw : c.ws.length ≤ 6) :
    callFL cfg0 prog0 false 103 [.ptr l 0] H none = some ⟨.ret (.sl false ((List.range (2 ^ c.ws.length)).map U)), H, none⟩ := by
  have hl : l < H.length := (List.getElem?_eq_some_iff.1 h.box).1
  have hb := h.box
  have hp : (2 : Nat) ^ c.ws.length ≤ 2 ^ 6 := Nat.pow_le_pow_right (by omega) hw
  have h1 : IntKind.u64.wrap (1 * 2 ^ min c.ws.length 64) = ((2 ^ c.ws.length : Nat) : Int) := shlU hw
  have h2 := co_sets_loop (H := H) (2 ^ c.ws.length) (by omega) (2 ^ c.ws.length) 0 (by omega) 0 [] rfl rfl
  have z : ¬ (c.ws.length : Int) < 0 := by omega
  refine (callFL_eq fn103 rfl (by simp [Try.f103])).trans ?_
  simp (maxSteps := 1000000) (implicitDefEqProofs := false) (disch := first | rfl | omega | assumption) only [go_sem, ↓reduceIte, Nat.reduceEqDiff, Nat.reduceAdd, Nat.reduceLeDiff, Nat.reduceBEq, Nat.reduceMul, Nat.reduceLT, Int.reduceLT, Int.reduceLE, Int.reduceToNat, Int.reduceNeg, Int.reduceEq, Int.reduceMul, reduceCtorEq, Int.reduceBEq, Int.reduceBNe, Int.reduceAdd, Int.reduceSub, ltT, ltF, leT, leF, get_lt hl, hb, h.own.len, h1, z]
  exact h2 _ (by rfl) (by rfl) (by rfl)

def M0 : Nat := 6148914691236517205
def M1 : Nat := 3689348814741910323
def M2 : Nat := 1085102592571150095
def y1 (x : Nat) : Nat := (x / 2 &&& M0) + (x &&& M0)
def y2 (x : Nat) : Nat := (y1 x / 4 &&& M1) + (y1 x &&& M1)
def y3 (x : Nat) : Nat := (y2 x / 16 + y2 x) &&& M2
def y4 (x : Nat) : Nat := y3 x + y3 x / 256
def y5 (x : Nat) : Nat := y4 x + y4 x / 65536
def y6 (x : Nat) : Nat := y5 x + y5 x / 4294967296

theorem y_bd : ∀ x < 64, y1 x < 64 ∧ y2 x < 64 ∧ y3 x < 64 ∧ y4 x < 64 ∧ y5 x < 64 ∧ y6 x < 64 ∧ (y6 x &&& 127) = pop x := by decide +kernel

theorem bitsAndI {a b : Nat} (ha : a < 2 ^ 63) (hb : b < 2 ^ 63) : bitsOp .and .i64 (a : Int) (b : Int) = some ((a &&& b : Nat) : Int) := by
  have h : a &&& b ≤ a := Nat.and_le_left
  have e : ∀ n : Nat, n < 2 ^ 63 → (BitVec.ofInt 64 (n : Int)).toNat = n := by
    intro n hn
    rw [BitVec.ofInt_natCast, BitVec.toNat_ofNat, Nat.mod_eq_of_lt (by omega)]
  show some (IntKind.i64.wrap (((BitVec.ofInt 64 (a : Int) &&& BitVec.ofInt 64 (b : Int)) : BitVec 64).toNat : Int)) = _
  rw [BitVec.toNat_and, e a ha, e b hb, w64 (by omega) (by omega)]

theorem fdivN (x k : Nat) : (x : Int).fdiv (k : Int) = ((x / k : Nat) : Int) := by rw [Int.fdiv_eq_ediv_of_nonneg _ (Int.natCast_nonneg _)]; rfl

theorem ones64 {x : Nat} (hx : x < 64) : callFL cfg0 prog0 false 132 [U x] H none = some ⟨.ret (I (pop x)), H, none⟩ := by
  obtain ⟨b1, b2, b3, b4, b5, b6, b7⟩ := y_bd x hx
  have f1 : (x : Int).fdiv (2 ^ min 1 64) = ((x / 2 : Nat) : Int) := fdivN x 2
  have f2 : (y1 x : Int).fdiv (2 ^ min 2 64) = ((y1 x / 4 : Nat) : Int) := fdivN (y1 x) 4
  have f3 : (y2 x : Int).fdiv (2 ^ min 4 64) = ((y2 x / 16 : Nat) : Int) := fdivN (y2 x) 16
  have f4 : (y3 x : Int).fdiv (2 ^ min 8 64) = ((y3 x / 256 : Nat) : Int) := fdivN (y3 x) 256
  have f5 : (y4 x : Int).fdiv (2 ^ min 16 64) = ((y4 x / 65536 : Nat) : Int) := fdivN (y4 x) 65536
  have f6 : (y5 x : Int).fdiv (2 ^ min 32 64) = ((y5 x / 4294967296 : Nat) : Int) := fdivN (y5 x) 4294967296
  have g1 : bitsOp .and .u64 ((x / 2 : Nat) : Int) 6148914691236517205 = some ((x / 2 &&& M0 : Nat) : Int) := bitsAnd (b := M0) (by omega) (by decide)
  have g2 : bitsOp .and .u64 (x : Int) 6148914691236517205 = some ((x &&& M0 : Nat) : Int) := bitsAnd (b := M0) (by omega) (by decide)
  have g3 : bitsOp .and .u64 ((y1 x / 4 : Nat) : Int) 3689348814741910323 = some ((y1 x / 4 &&& M1 : Nat) : Int) := bitsAnd (b := M1) (by omega) (by decide)
  have g4 : bitsOp .and .u64 (y1 x : Int) 3689348814741910323 = some ((y1 x &&& M1 : Nat) : Int) := bitsAnd (b := M1) (by omega) (by decide)
  have g5 : bitsOp .and .u64 ((y2 x / 16 + y2 x : Nat) : Int) 1085102592571150095 = some (y3 x : Int) := bitsAnd (b := M2) (by omega) (by decide)
  have g6 : bitsOp .and .i64 (y6 x : Int) 127 = some (pop x : Int) := by rw [← b7]; exact bitsAndI (b := 127) (by omega) (by decide)
  have k1 : IntKind.u64.wrap (((x / 2 &&& M0 : Nat) : Int) + ((x &&& M0 : Nat) : Int)) = (y1 x : Int) := wrapU (n := y1 x) (by omega)
  have k2 : IntKind.u64.wrap (((y1 x / 4 &&& M1 : Nat) : Int) + ((y1 x &&& M1 : Nat) : Int)) = (y2 x : Int) := wrapU (n := y2 x) (by omega)
  have k3 : IntKind.u64.wrap (((y2 x / 16 : Nat) : Int) + (y2 x : Int)) = ((y2 x / 16 + y2 x : Nat) : Int) := wrapU (n := y2 x / 16 + y2 x) (by omega)
  have k4 : IntKind.u64.wrap ((y3 x : Int) + ((y3 x / 256 : Nat) : Int)) = (y4 x : Int) := wrapU (n := y4 x) (by omega)
  have k5 : IntKind.u64.wrap ((y4 x : Int) + ((y4 x / 65536 : Nat) : Int)) = (y5 x : Int) := wrapU (n := y5 x) (by omega)
  have k6 : IntKind.u64.wrap ((y5 x : Int) + ((y5 x / 4294967296 : Nat) : Int)) = (y6 x : Int) := wrapU (n := y6 x) (by omega)
  have k7 : IntKind.i64.wrap (y6 x : Int) = (y6 x : Int) := w64 (by omega) (by omega)
  refine (callFL_eq fn132 rfl (by simp [Try.f132])).trans ?_
  simp (maxSteps := 1000000) (implicitDefEqProofs := false) (disch := first | rfl | omega | assumption) only [go_sem, ↓reduceIte, Nat.reduceEqDiff, Nat.reduceAdd, Nat.reduceLeDiff, Nat.reduceBEq, Nat.reduceMul, Nat.reduceLT, Int.reduceLT, Int.reduceLE, Int.reduceToNat, Int.reduceNeg, Int.reduceEq, Int.reduceMul, reduceCtorEq, Int.reduceBEq, Int.reduceBNe, Int.reduceAdd, Int.reduceSub, f1, f2, f3, f4, f5, f6, g1, g2, g3, g4, g5, g6, k1, k2, k3, k4, k5, k6, k7]

theorem ones {x : Nat} (hx : x < 64) : callFL cfg0 prog0 false 130 [U x] H none = some ⟨.ret (I (pop x)), H, none⟩ := by
  have h1 := fun G : Heap => ones64 (H := G) hx
  have h2 : IntKind.u64.wrap (x : Int) = x := wrapU (by omega)
  refine (callFL_eq fn130 rfl (by simp [Try.f130])).trans ?_
  simp (maxSteps := 1000000) (implicitDefEqProofs := false) (disch := first | rfl | omega | assumption) only [go_sem, ↓reduceIte, Nat.reduceEqDiff, Nat.reduceAdd, Nat.reduceLeDiff, Nat.reduceBEq, Nat.reduceMul, Nat.reduceLT, Int.reduceLT, Int.reduceLE, Int.reduceToNat, Int.reduceNeg, Int.reduceEq, Int.reduceMul, reduceCtorEq, Int.reduceBEq, Int.reduceBNe, Int.reduceAdd, Int.reduceSub, h1, h2]

theorem each_of {x : Nat} (hx : x < 64) : callFL cfg0 prog0 false 129 [.agg [], U x] H none = some ⟨.ret (I (pop x)), H, none⟩ := by
  have h1 := fun G : Heap => ones (H := G) hx
  refine (callFL_eq fn129 rfl (by simp [Try.f129])).trans ?_
  simp (maxSteps := 1000000) (implicitDefEqProofs := false) (disch := first | rfl | omega | assumption) only [go_sem, ↓reduceIte, Nat.reduceEqDiff, Nat.reduceAdd, Nat.reduceLeDiff, Nat.reduceBEq, Nat.reduceMul, Nat.reduceLT, Int.reduceLT, Int.reduceLE, Int.reduceToNat, Int.reduceNeg, Int.reduceEq, Int.reduceMul, reduceCtorEq, Int.reduceBEq, Int.reduceBNe, Int.reduceAdd, Int.reduceSub, h1]

theorem co_sum_loop {vl : AV} (l : List Int) (h : SlOk H 1 vl (l.map I)) (hb : ∀ x ∈ l, 0 ≤ x ∧ x ≤ 50) (hl : l.length ≤ 1000) (r : Int) :
    ∀ (q j : Nat), j + q = l.length → ∀ (n : Int), n + (l.drop j).sum = r → 0 ≤ n ∧ n ≤ 50 * j → ∀ E : Env, E.get 2 = I n → E.get 5 = vl → E.get 6 = I l.length → E.get 7 = I j →
    Option.map (finishC H.length) (execL cfg0 prog0 ⟨134, none, false, H.length⟩ (todoAt Try.f134 2) ⟨E, [], H, none⟩) = some ⟨.ret (I r), H, none⟩ := by
  intro q
  obtain ⟨a1, a2, a3, a4⟩ := h.fI
  induction q with
  | zero =>
    intro j hj n hr hn E g2 g5 g6 g7
    have hk' : ¬ (j : Int) < ((l.length : Nat) : Int) := by omega
    have hjn : j = l.length := by omega
    rw [hjn, List.drop_length, List.sum_nil, Int.add_zero] at hr
    subst hr
    simp only [loopIt, todoPast, todoAt, todoOf, firstReg, ↓reduceIte, Option.some.injEq, Nat.reduceEqDiff, reduceCtorEq, Try.f134]
    rw [execL_inLoop]
    simp (maxSteps := 1000000) (implicitDefEqProofs := false) (disch := first | rfl | omega | assumption) only [go_sem, ↓reduceIte, Nat.reduceEqDiff, Nat.reduceAdd, Nat.reduceLeDiff, Nat.reduceBEq, Nat.reduceMul, Nat.reduceLT, Int.reduceLT, Int.reduceLE, Int.reduceToNat, Int.reduceNeg, Int.reduceEq, Int.reduceMul, reduceCtorEq, Int.reduceBEq, Int.reduceBNe, Int.reduceAdd, Int.reduceSub, g2, g5, g6, g7, ltT, ltF, leT, leF, hk']
  | succ q ih =>
    intro j hj n hr hn E g2 g5 g6 g7
    have hk' : (j : Int) < ((l.length : Nat) : Int) := by omega
    have hk2 : j < l.length := by omega
    have e : l.getD j 0 = l[j] := by simp [hk2]
    have hx := hb _ (List.getElem_mem hk2)
    rw [← e] at hx
    rw [List.drop_eq_getElem_cons hk2, List.sum_cons, ← e] at hr
    simp only [loopIt, todoPast, todoAt, todoOf, firstReg, ↓reduceIte, Option.some.injEq, Nat.reduceEqDiff, reduceCtorEq, Try.f134]
    rw [execL_inLoop]
    simp (maxSteps := 1000000) (implicitDefEqProofs := false) (disch := first | rfl | omega | assumption) only [go_sem, ↓reduceIte, Nat.reduceEqDiff, Nat.reduceAdd, Nat.reduceLeDiff, Nat.reduceBEq, Nat.reduceMul, Nat.reduceLT, Int.reduceLT, Int.reduceLE, Int.reduceToNat, Int.reduceNeg, Int.reduceEq, Int.reduceMul, reduceCtorEq, Int.reduceBEq, Int.reduceBNe, Int.reduceAdd, Int.reduceSub, g2, g5, g6, g7, ltT, ltF, leT, leF, hk', a2, a4]
    exact ih (j + 1) (by omega) (n + l.getD j 0) (by omega) (by omega) _ (by rfl) (by exact g5) (by exact g6) (by rfl)

theorem co_sum {vl : AV} (l : List Int) (h : SlOk H 1 vl (l.map I)) (hb : ∀ x ∈ l, 0 ≤ x ∧ x ≤ 50) (hl : l.length ≤ 1000) : callFL cfg0 prog0 false 134 [vl] H none = some ⟨.ret (I l.sum), H, none⟩ := by
  have h1 := co_sum_loop l h hb hl l.sum l.length 0 (by omega) 0 (by simp) (by omega)
  refine (callFL_eq fn134 rfl (by simp [Try.f134])).trans ?_
  simp (maxSteps := 1000000) (implicitDefEqProofs := false) (disch := first | rfl | omega | assumption) only [go_sem, ↓reduceIte, Nat.reduceEqDiff, Nat.reduceAdd, Nat.reduceLeDiff, Nat.reduceBEq, Nat.reduceMul, Nat.reduceLT, Int.reduceLT, Int.reduceLE, Int.reduceToNat, Int.reduceNeg, Int.reduceEq, Int.reduceMul, reduceCtorEq, Int.reduceBEq, Int.reduceBNe, Int.reduceAdd, Int.reduceSub, ltT, ltF, leT, leF, h.len]
  exact h1 _ (by rfl) (by rfl) (by rfl) (by rfl)

/-- The prices of a set, in order. -/
def Col.tags (c : Col) (s : Nat) : Nat → List Int
  | 0 => []
  | j + 1 => c.tags s j ++ (if s.testBit j then [c.ps.getD j 0] else [])

theorem Col.tags_sum (c : Col) (s : Nat) : ∀ j, (c.tags s j).sum = foldF (c.costA s) 0 0 j
  | 0 => rfl
  | j + 1 => by
    rw [foldF_snoc, Col.tags, List.sum_append, c.tags_sum s j, Nat.zero_add, Col.costA]
    split <;> simp

theorem Col.tags_len (c : Col) (s : Nat) : ∀ j, (c.tags s j).length ≤ j
  | 0 => by simp [Col.tags]
  | j + 1 => by
    have := c.tags_len s j
    rw [Col.tags, List.length_append]
    split <;> simp <;> omega

theorem Col.tags_bd {c : Col} (ho : c.Ok) (s : Nat) : ∀ j, j ≤ c.ps.length → ∀ x ∈ c.tags s j, 0 ≤ x ∧ x ≤ 50
  | 0, _, x, hx => by simp [Col.tags] at hx
  | j + 1, hj, x, hx => by
    rw [Col.tags, List.mem_append] at hx
    rcases hx with hx | hx
    · exact c.tags_bd ho s j (by omega) x hx
    · split at hx
      · rw [List.mem_singleton] at hx
        subst hx
        exact ho.ps j (by have := ho.plen; omega)
      · cases hx

theorem and_one {s j : Nat} : (((s / 2 ^ j &&& 1 : Nat) : Int) == 1) = s.testBit j := by
  rw [Nat.and_one_is_mod, Nat.testBit_eq_decide_div_mod_eq]
  have : s / 2 ^ j % 2 = 0 ∨ s / 2 ^ j % 2 = 1 := by omega
  rcases this with h | h <;> rw [h] <;> rfl

theorem shrU {s j : Nat} (hj : j ≤ 6) : (s : Int).fdiv (2 ^ min j 64) = ((s / 2 ^ j : Nat) : Int) := by
  rw [← fdivN, Nat.min_eq_left (by omega), Int.natCast_pow]
  rfl

theorem tagged_loop {c : Col} {vp : AV} (h : SlOk H 1 vp (c.ps.map I)) (ho : c.Ok) {s : Nat} (hs : s < 64) :
    ∀ (q j : Nat), j + q = c.ps.length → ∀ (len : Nat), ∀ (xs : List AV), xs = (c.tags s j).map I → len = xs.length → ∀ E : Env, E.get 1 = U s → E.get 5 = .gsl (H.length + 1) len → E.get 9 = vp → E.get 10 = I c.ps.length → E.get 11 = I j →
    Option.map (finishC H.length) (execL cfg0 prog0 ⟨133, none, false, H.length⟩ (todoAt Try.f133 3) ⟨E, [], H ++ [.box (.agg [vp]), .grow 1 xs], none⟩) = some ⟨.ret (I (c.cost s)), H, none⟩ := by
  intro q
  have lw := ho.len
  have lp := ho.plen
  obtain ⟨a1, a2, a3, a4⟩ := h.fI
  induction q with
  | zero =>
    intro j hj len xs hx hlen E g1 g5 g9 g10 g11
    have hk' : ¬ (j : Int) < ((c.ps.length : Nat) : Int) := by omega
    have hx2 : xs = (c.tags s c.ps.length).map I := by rw [hx, show j = c.ps.length by omega]
    have hsm := co_sum (H := H ++ [.box (.agg [vp]), .grow 1 xs]) (vl := .gsl (H.length + 1) len) (c.tags s c.ps.length) ⟨by rw [← hx2]; exact ⟨by rw [get_at']; rfl, hlen⟩, by simp [I, AV.cells]⟩ (c.tags_bd ho s _ (Nat.le_refl _)) (by have := c.tags_len s c.ps.length; omega)
    rw [c.tags_sum] at hsm
    simp only [loopIt, todoPast, todoAt, todoOf, firstReg, ↓reduceIte, Option.some.injEq, Nat.reduceEqDiff, reduceCtorEq, Try.f133]
    rw [execL_inLoop]
    simp (maxSteps := 1000000) (implicitDefEqProofs := false) (disch := first | rfl | omega | assumption) only [go_sem, ↓reduceIte, Nat.reduceEqDiff, Nat.reduceAdd, Nat.reduceLeDiff, Nat.reduceBEq, Nat.reduceMul, Nat.reduceLT, Int.reduceLT, Int.reduceLE, Int.reduceToNat, Int.reduceNeg, Int.reduceEq, Int.reduceMul, reduceCtorEq, Int.reduceBEq, Int.reduceBNe, Int.reduceAdd, Int.reduceSub, g1, g5, g9, g10, g11, ltT, ltF, leT, leF, hk', hsm, Col.cost]
  | succ q ih =>
    intro j hj len xs hx hlen E g1 g5 g9 g10 g11
    have hk' : (j : Int) < ((c.ps.length : Nat) : Int) := by omega
    have hk2 : j < c.ps.length := by omega
    have hxl : xs.length ≤ j := by rw [hx, List.length_map]; exact c.tags_len s j
    have hof : addElem (H ++ [.box (.agg [vp]), .grow 1 xs]) 1 false (.gsl (H.length + 1) len) [I (c.ps.getD j 0)] = some (.gsl (H.length + 1) (len + 1), H ++ [.box (.agg [vp]), .grow 1 (xs ++ [I (c.ps.getD j 0)])]) := by
      rw [add_gsl (by simp [get_at']) hlen.symm rfl rfl (by simp; omega), set_at']
      rfl
    have e1 := shrU (s := s) (j := j) (by omega)
    have e2 : s / 2 ^ j ≤ s := Nat.div_le_self _ _
    have e3 : bitsOp .and .u64 ((s / 2 ^ j : Nat) : Int) 1 = some ((s / 2 ^ j &&& 1 : Nat) : Int) := bitsAnd (b := 1) (by omega) (by decide)
    have e4 := and_one (s := s) (j := j)
    have z : ¬ (j : Int) < 0 := by omega
    simp only [loopIt, todoPast, todoAt, todoOf, firstReg, ↓reduceIte, Option.some.injEq, Nat.reduceEqDiff, reduceCtorEq, Try.f133]
    rw [execL_inLoop]
    rcases Bool.eq_false_or_eq_true (s.testBit j) with ht | ht
    · simp (maxSteps := 1000000) (implicitDefEqProofs := false) (disch := first | rfl | omega | assumption) only [go_sem, ↓reduceIte, Nat.reduceEqDiff, Nat.reduceAdd, Nat.reduceLeDiff, Nat.reduceBEq, Nat.reduceMul, Nat.reduceLT, Int.reduceLT, Int.reduceLE, Int.reduceToNat, Int.reduceNeg, Int.reduceEq, Int.reduceMul, reduceCtorEq, Int.reduceBEq, Int.reduceBNe, Int.reduceAdd, Int.reduceSub, g1, g5, g9, g10, g11, ltT, ltF, leT, leF, hk', a1, a2, a3, a4, e1, e3, e4, ht, hof, z]
      exact ih (j + 1) (by omega) (len + 1) _ (by rw [Col.tags, ht, if_pos rfl, List.map_append, hx]; rfl) (by rw [hlen]; simp) _ (by exact g1) (by rfl) (by exact g9) (by exact g10) (by rfl)
    · simp (maxSteps := 1000000) (implicitDefEqProofs := false) (disch := first | rfl | omega | assumption) only [go_sem, ↓reduceIte, Nat.reduceEqDiff, Nat.reduceAdd, Nat.reduceLeDiff, Nat.reduceBEq, Nat.reduceMul, Nat.reduceLT, Int.reduceLT, Int.reduceLE, Int.reduceToNat, Int.reduceNeg, Int.reduceEq, Int.reduceMul, reduceCtorEq, Int.reduceBEq, Int.reduceBNe, Int.reduceAdd, Int.reduceSub, g1, g5, g9, g10, g11, ltT, ltF, leT, leF, hk', a1, a2, a3, a4, e1, e3, e4, ht, z]
      exact ih (j + 1) (by omega) len xs (by rw [Col.tags, ht, if_neg (by simp), List.append_nil, hx]) hlen _ (by exact g1) (by exact g5) (by exact g9) (by exact g10) (by rfl)

theorem tagged_of {c : Col} {vp : AV} (h : SlOk H 1 vp (c.ps.map I)) (ho : c.Ok) {s : Nat} (hs : s < 64) : callFL cfg0 prog0 false 133 [.agg [vp], U s] H none = some ⟨.ret (I (c.cost s)), H, none⟩ := by
  have s1 := h.scal
  have h1 := tagged_loop h ho hs c.ps.length 0 (by omega) 0 [] rfl rfl
  refine (callFL_eq fn133 rfl (by simp [Try.f133])).trans ?_
  simp (maxSteps := 1000000) (implicitDefEqProofs := false) (disch := first | rfl | omega | assumption) only [go_sem, ↓reduceIte, Nat.reduceEqDiff, Nat.reduceAdd, Nat.reduceLeDiff, Nat.reduceBEq, Nat.reduceMul, Nat.reduceLT, Int.reduceLT, Int.reduceLE, Int.reduceToNat, Int.reduceNeg, Int.reduceEq, Int.reduceMul, reduceCtorEq, Int.reduceBEq, Int.reduceBNe, Int.reduceAdd, Int.reduceSub, ltT, ltF, leT, leF, s1, h.len]
  exact h1 _ (by rfl) (by rfl) (by rfl) (by rfl) (by rfl)

/-- The best of what can be chosen: the first that costs least. -/
def bst (can : Nat → Bool) (cost : Nat → Int) (st : Nat × Int × Bool) (x : Nat) : Nat × Int × Bool :=
  if (!st.2.2 || decide (cost x < st.2.1)) && can x then (x, cost x, true) else st

theorem cheapU_loop {vl : AV} (l : List Nat) (h : SlOk H 1 vl (l.map U)) (hl : l.length ≤ 1000) (can : Nat → Bool) (cost : Nat → Int) (f1 f2 : Fn) (x1 x2 c1 c2 : List AV) (hcan : ∀ G : Heap, ∀ x ∈ l, callVL cfg0 prog0 false f1 (x1 ++ [U x]) c1 (H ++ G) none = some ⟨.ret (.bool (can x)), H ++ G, none⟩) (hcost : ∀ G : Heap, ∀ x ∈ l, callVL cfg0 prog0 false f2 (x2 ++ [U x]) c2 (H ++ G) none = some ⟨.ret (I (cost x)), H ++ G, none⟩) (r : Nat × Int × Bool) :
    ∀ (q j : Nat), j + q = l.length → ∀ (st : Nat × Int × Bool), (l.drop j).foldl (bst can cost) st = r → ∀ E : Env, E.get 3 = .ptr H.length 0 → E.get 4 = U st.1 → E.get 5 = I st.2.1 → E.get 6 = .bool st.2.2 → E.get 10 = vl → E.get 11 = I l.length → E.get 12 = I j →
    Option.map (finishC H.length) (execL cfg0 prog0 ⟨102, none, false, H.length⟩ (todoAt Try.f102 2) ⟨E, [], H ++ [.box (.agg [.func f1 x1 c1, .func f2 x2 c2])], none⟩) = some ⟨.ret (.tup [U r.1, I r.2.1, .bool r.2.2]), H, none⟩ := by
  intro q
  induction q with
  | zero =>
    intro j hj st hr E g3 g4 g5 g6 g10 g11 g12
    have hk' : ¬ (j : Int) < ((l.length : Nat) : Int) := by omega
    have hjn : j = l.length := by omega
    rw [hjn, List.drop_length, List.foldl_nil] at hr
    subst hr
    simp only [loopIt, todoPast, todoAt, todoOf, firstReg, ↓reduceIte, Option.some.injEq, Nat.reduceEqDiff, reduceCtorEq, Try.f102]
    rw [execL_inLoop]
    simp (maxSteps := 1000000) (implicitDefEqProofs := false) (disch := first | rfl | omega | assumption) only [go_sem, ↓reduceIte, Nat.reduceEqDiff, Nat.reduceAdd, Nat.reduceLeDiff, Nat.reduceBEq, Nat.reduceMul, Nat.reduceLT, Int.reduceLT, Int.reduceLE, Int.reduceToNat, Int.reduceNeg, Int.reduceEq, Int.reduceMul, reduceCtorEq, Int.reduceBEq, Int.reduceBNe, Int.reduceAdd, Int.reduceSub, g3, g4, g5, g6, g10, g11, g12, ltT, ltF, leT, leF, hk']
  | succ q ih =>
    intro j hj st hr E g3 g4 g5 g6 g10 g11 g12
    have hk' : (j : Int) < ((l.length : Nat) : Int) := by omega
    have hk2 : j < l.length := by omega
    obtain ⟨a1, a2, a3, a4, a5⟩ := h.at (k := (j : Int)) (x := U l[j]) (by omega) (by simp [hk2])
    have k1 := fun G => hcan G l[j] (List.getElem_mem hk2)
    have k2 := fun G => hcost G l[j] (List.getElem_mem hk2)
    rw [List.drop_eq_getElem_cons hk2, List.foldl_cons] at hr
    obtain ⟨s1, s2, s3⟩ := st
    simp only [bst] at hr
    simp only [loopIt, todoPast, todoAt, todoOf, firstReg, ↓reduceIte, Option.some.injEq, Nat.reduceEqDiff, reduceCtorEq, Try.f102]
    rw [execL_inLoop]
    rcases Bool.eq_false_or_eq_true (can l[j]) with hc | hc
    · cases s3 with
      | false =>
        simp only [hc, Bool.not_false, Bool.true_or, Bool.and_self, if_true] at hr
        simp (maxSteps := 1000000) (implicitDefEqProofs := false) (disch := first | rfl | omega | assumption) only [go_sem, ↓reduceIte, Nat.reduceEqDiff, Nat.reduceAdd, Nat.reduceLeDiff, Nat.reduceBEq, Nat.reduceMul, Nat.reduceLT, Int.reduceLT, Int.reduceLE, Int.reduceToNat, Int.reduceNeg, Int.reduceEq, Int.reduceMul, reduceCtorEq, Int.reduceBEq, Int.reduceBNe, Int.reduceAdd, Int.reduceSub, g3, g4, g5, g6, g10, g11, g12, ltT, ltF, leT, leF, hk', a1, a2, a3, a4, a5, k1, k2, hc]
        exact ih (j + 1) (by omega) _ hr _ (by exact g3) (by rfl) (by rfl) (by rfl) (by exact g10) (by exact g11) (by rfl)
      | true =>
        by_cases hd : cost l[j] < s2
        · simp only [hc, hd, Bool.not_true, Bool.false_or, decide_true, Bool.and_self, if_true] at hr
          simp (maxSteps := 1000000) (implicitDefEqProofs := false) (disch := first | rfl | omega | assumption) only [go_sem, ↓reduceIte, Nat.reduceEqDiff, Nat.reduceAdd, Nat.reduceLeDiff, Nat.reduceBEq, Nat.reduceMul, Nat.reduceLT, Int.reduceLT, Int.reduceLE, Int.reduceToNat, Int.reduceNeg, Int.reduceEq, Int.reduceMul, reduceCtorEq, Int.reduceBEq, Int.reduceBNe, Int.reduceAdd, Int.reduceSub, g3, g4, g5, g6, g10, g11, g12, ltT, ltF, leT, leF, hk', a1, a2, a3, a4, a5, k1, k2, hc, hd]
          exact ih (j + 1) (by omega) _ hr _ (by exact g3) (by rfl) (by rfl) (by rfl) (by exact g10) (by exact g11) (by rfl)
        · simp only [hc, hd, Bool.not_true, Bool.false_or, decide_false, Bool.false_and, Bool.false_eq_true, if_false] at hr
          simp (maxSteps := 1000000) (implicitDefEqProofs := false) (disch := first | rfl | omega | assumption) only [go_sem, ↓reduceIte, Nat.reduceEqDiff, Nat.reduceAdd, Nat.reduceLeDiff, Nat.reduceBEq, Nat.reduceMul, Nat.reduceLT, Int.reduceLT, Int.reduceLE, Int.reduceToNat, Int.reduceNeg, Int.reduceEq, Int.reduceMul, reduceCtorEq, Int.reduceBEq, Int.reduceBNe, Int.reduceAdd, Int.reduceSub, g3, g4, g5, g6, g10, g11, g12, ltT, ltF, leT, leF, hk', a1, a2, a3, a4, a5, k1, k2, hc, hd]
          exact ih (j + 1) (by omega) _ hr _ (by exact g3) (by exact g4) (by exact g5) (by exact g6) (by exact g10) (by exact g11) (by rfl)
    · simp only [hc, Bool.and_false, Bool.false_eq_true, if_false] at hr
      cases s3 with
      | false =>
        simp (maxSteps := 1000000) (implicitDefEqProofs := false) (disch := first | rfl | omega | assumption) only [go_sem, ↓reduceIte, Nat.reduceEqDiff, Nat.reduceAdd, Nat.reduceLeDiff, Nat.reduceBEq, Nat.reduceMul, Nat.reduceLT, Int.reduceLT, Int.reduceLE, Int.reduceToNat, Int.reduceNeg, Int.reduceEq, Int.reduceMul, reduceCtorEq, Int.reduceBEq, Int.reduceBNe, Int.reduceAdd, Int.reduceSub, g3, g4, g5, g6, g10, g11, g12, ltT, ltF, leT, leF, hk', a1, a2, a3, a4, a5, k1, k2, hc]
        exact ih (j + 1) (by omega) _ hr _ (by exact g3) (by exact g4) (by exact g5) (by exact g6) (by exact g10) (by exact g11) (by rfl)
      | true =>
        by_cases hd : cost l[j] < s2
        · simp (maxSteps := 1000000) (implicitDefEqProofs := false) (disch := first | rfl | omega | assumption) only [go_sem, ↓reduceIte, Nat.reduceEqDiff, Nat.reduceAdd, Nat.reduceLeDiff, Nat.reduceBEq, Nat.reduceMul, Nat.reduceLT, Int.reduceLT, Int.reduceLE, Int.reduceToNat, Int.reduceNeg, Int.reduceEq, Int.reduceMul, reduceCtorEq, Int.reduceBEq, Int.reduceBNe, Int.reduceAdd, Int.reduceSub, g3, g4, g5, g6, g10, g11, g12, ltT, ltF, leT, leF, hk', a1, a2, a3, a4, a5, k1, k2, hc, hd]
          exact ih (j + 1) (by omega) _ hr _ (by exact g3) (by exact g4) (by exact g5) (by exact g6) (by exact g10) (by exact g11) (by rfl)
        · simp (maxSteps := 1000000) (implicitDefEqProofs := false) (disch := first | rfl | omega | assumption) only [go_sem, ↓reduceIte, Nat.reduceEqDiff, Nat.reduceAdd, Nat.reduceLeDiff, Nat.reduceBEq, Nat.reduceMul, Nat.reduceLT, Int.reduceLT, Int.reduceLE, Int.reduceToNat, Int.reduceNeg, Int.reduceEq, Int.reduceMul, reduceCtorEq, Int.reduceBEq, Int.reduceBNe, Int.reduceAdd, Int.reduceSub, g3, g4, g5, g6, g10, g11, g12, ltT, ltF, leT, leF, hk', a1, a2, a3, a4, a5, k1, k2, hc, hd]
          exact ih (j + 1) (by omega) _ hr _ (by exact g3) (by exact g4) (by exact g5) (by exact g6) (by exact g10) (by exact g11) (by rfl)

theorem cheapU {vl : AV} (l : List Nat) (h : SlOk H 1 vl (l.map U)) (hl : l.length ≤ 1000) (can : Nat → Bool) (cost : Nat → Int) (f1 f2 : Fn) (x1 x2 c1 c2 : List AV)
    (hcan : ∀ G : Heap, ∀ x ∈ l, callVL cfg0 prog0 false f1 (x1 ++ [U x]) c1 (H ++ G) none = some ⟨.ret (.bool (can x)), H ++ G, none⟩)
    (hcost : ∀ G : Heap, ∀ x ∈ l, callVL cfg0 prog0 false f2 (x2 ++ [U x]) c2 (H ++ G) none = some ⟨.ret (I (cost x)), H ++ G, none⟩) :
    callFL cfg0 prog0 false 102 [vl, .agg [.func f1 x1 c1, .func f2 x2 c2]] H none = some ⟨.ret (.tup [U (l.foldl (bst can cost) (0, 0, false)).1, I (l.foldl (bst can cost) (0, 0, false)).2.1, .bool (l.foldl (bst can cost) (0, 0, false)).2.2]), H, none⟩ := by
  have h1 := cheapU_loop l h hl can cost f1 f2 x1 x2 c1 c2 hcan hcost _ l.length 0 (by omega) (0, 0, false) rfl
  rw [List.drop_zero] at h1
  refine (callFL_eq fn102 rfl (by simp [Try.f102])).trans ?_
  simp (maxSteps := 1000000) (implicitDefEqProofs := false) (disch := first | rfl | omega | assumption) only [go_sem, ↓reduceIte, Nat.reduceEqDiff, Nat.reduceAdd, Nat.reduceLeDiff, Nat.reduceBEq, Nat.reduceMul, Nat.reduceLT, Int.reduceLT, Int.reduceLE, Int.reduceToNat, Int.reduceNeg, Int.reduceEq, Int.reduceMul, reduceCtorEq, Int.reduceBEq, Int.reduceBNe, Int.reduceAdd, Int.reduceSub, ltT, ltF, leT, leF, h.len]
  exact h1 _ (by rfl) (by rfl) (by rfl) (by rfl) (by rfl) (by rfl) (by rfl)

theorem cheapI_loop {vl : AV} (l : List Nat) (h : SlOk H 1 vl (l.map fun n : Nat => I n)) (hl : l.length ≤ 1000) (can : Nat → Bool) (cost : Nat → Int) (f1 f2 : Fn) (x1 x2 c1 c2 : List AV) (hcan : ∀ G : Heap, ∀ x ∈ l, callVL cfg0 prog0 false f1 (x1 ++ [I x]) c1 (H ++ G) none = some ⟨.ret (.bool (can x)), H ++ G, none⟩) (hcost : ∀ G : Heap, ∀ x ∈ l, callVL cfg0 prog0 false f2 (x2 ++ [I x]) c2 (H ++ G) none = some ⟨.ret (I (cost x)), H ++ G, none⟩) (r : Nat × Int × Bool) :
    ∀ (q j : Nat), j + q = l.length → ∀ (st : Nat × Int × Bool), (l.drop j).foldl (bst can cost) st = r → ∀ E : Env, E.get 3 = .ptr H.length 0 → E.get 4 = I st.1 → E.get 5 = I st.2.1 → E.get 6 = .bool st.2.2 → E.get 10 = vl → E.get 11 = I l.length → E.get 12 = I j →
    Option.map (finishC H.length) (execL cfg0 prog0 ⟨80, none, false, H.length⟩ (todoAt Try.f80 2) ⟨E, [], H ++ [.box (.agg [.func f1 x1 c1, .func f2 x2 c2])], none⟩) = some ⟨.ret (.tup [I r.1, I r.2.1, .bool r.2.2]), H, none⟩ := by
  intro q
  induction q with
  | zero =>
    intro j hj st hr E g3 g4 g5 g6 g10 g11 g12
    have hk' : ¬ (j : Int) < ((l.length : Nat) : Int) := by omega
    have hjn : j = l.length := by omega
    rw [hjn, List.drop_length, List.foldl_nil] at hr
    subst hr
    simp only [loopIt, todoPast, todoAt, todoOf, firstReg, ↓reduceIte, Option.some.injEq, Nat.reduceEqDiff, reduceCtorEq, Try.f80]
    rw [execL_inLoop]
    simp (maxSteps := 1000000) (implicitDefEqProofs := false) (disch := first | rfl | omega | assumption) only [go_sem, ↓reduceIte, Nat.reduceEqDiff, Nat.reduceAdd, Nat.reduceLeDiff, Nat.reduceBEq, Nat.reduceMul, Nat.reduceLT, Int.reduceLT, Int.reduceLE, Int.reduceToNat, Int.reduceNeg, Int.reduceEq, Int.reduceMul, reduceCtorEq, Int.reduceBEq, Int.reduceBNe, Int.reduceAdd, Int.reduceSub, g3, g4, g5, g6, g10, g11, g12, ltT, ltF, leT, leF, hk']
  | succ q ih =>
    intro j hj st hr E g3 g4 g5 g6 g10 g11 g12
    have hk' : (j : Int) < ((l.length : Nat) : Int) := by omega
    have hk2 : j < l.length := by omega
    obtain ⟨a1, a2, a3, a4, a5⟩ := h.at (k := (j : Int)) (x := I l[j]) (by omega) (by simp [hk2])
    have k1 := fun G => hcan G l[j] (List.getElem_mem hk2)
    have k2 := fun G => hcost G l[j] (List.getElem_mem hk2)
    rw [List.drop_eq_getElem_cons hk2, List.foldl_cons] at hr
    obtain ⟨s1, s2, s3⟩ := st
    simp only [bst] at hr
    simp only [loopIt, todoPast, todoAt, todoOf, firstReg, ↓reduceIte, Option.some.injEq, Nat.reduceEqDiff, reduceCtorEq, Try.f80]
    rw [execL_inLoop]
    rcases Bool.eq_false_or_eq_true (can l[j]) with hc | hc
    · cases s3 with
      | false =>
        simp only [hc, Bool.not_false, Bool.true_or, Bool.and_self, if_true] at hr
        simp (maxSteps := 1000000) (implicitDefEqProofs := false) (disch := first | rfl | omega | assumption) only [go_sem, ↓reduceIte, Nat.reduceEqDiff, Nat.reduceAdd, Nat.reduceLeDiff, Nat.reduceBEq, Nat.reduceMul, Nat.reduceLT, Int.reduceLT, Int.reduceLE, Int.reduceToNat, Int.reduceNeg, Int.reduceEq, Int.reduceMul, reduceCtorEq, Int.reduceBEq, Int.reduceBNe, Int.reduceAdd, Int.reduceSub, g3, g4, g5, g6, g10, g11, g12, ltT, ltF, leT, leF, hk', a1, a2, a3, a4, a5, k1, k2, hc]
        exact ih (j + 1) (by omega) _ hr _ (by exact g3) (by rfl) (by rfl) (by rfl) (by exact g10) (by exact g11) (by rfl)
      | true =>
        by_cases hd : cost l[j] < s2
        · simp only [hc, hd, Bool.not_true, Bool.false_or, decide_true, Bool.and_self, if_true] at hr
          simp (maxSteps := 1000000) (implicitDefEqProofs := false) (disch := first | rfl | omega | assumption) only [go_sem, ↓reduceIte, Nat.reduceEqDiff, Nat.reduceAdd, Nat.reduceLeDiff, Nat.reduceBEq, Nat.reduceMul, Nat.reduceLT, Int.reduceLT, Int.reduceLE, Int.reduceToNat, Int.reduceNeg, Int.reduceEq, Int.reduceMul, reduceCtorEq, Int.reduceBEq, Int.reduceBNe, Int.reduceAdd, Int.reduceSub, g3, g4, g5, g6, g10, g11, g12, ltT, ltF, leT, leF, hk', a1, a2, a3, a4, a5, k1, k2, hc, hd]
          exact ih (j + 1) (by omega) _ hr _ (by exact g3) (by rfl) (by rfl) (by rfl) (by exact g10) (by exact g11) (by rfl)
        · simp only [hc, hd, Bool.not_true, Bool.false_or, decide_false, Bool.false_and, Bool.false_eq_true, if_false] at hr
          simp (maxSteps := 1000000) (implicitDefEqProofs := false) (disch := first | rfl | omega | assumption) only [go_sem, ↓reduceIte, Nat.reduceEqDiff, Nat.reduceAdd, Nat.reduceLeDiff, Nat.reduceBEq, Nat.reduceMul, Nat.reduceLT, Int.reduceLT, Int.reduceLE, Int.reduceToNat, Int.reduceNeg, Int.reduceEq, Int.reduceMul, reduceCtorEq, Int.reduceBEq, Int.reduceBNe, Int.reduceAdd, Int.reduceSub, g3, g4, g5, g6, g10, g11, g12, ltT, ltF, leT, leF, hk', a1, a2, a3, a4, a5, k1, k2, hc, hd]
          exact ih (j + 1) (by omega) _ hr _ (by exact g3) (by exact g4) (by exact g5) (by exact g6) (by exact g10) (by exact g11) (by rfl)
    · simp only [hc, Bool.and_false, Bool.false_eq_true, if_false] at hr
      cases s3 with
      | false =>
        simp (maxSteps := 1000000) (implicitDefEqProofs := false) (disch := first | rfl | omega | assumption) only [go_sem, ↓reduceIte, Nat.reduceEqDiff, Nat.reduceAdd, Nat.reduceLeDiff, Nat.reduceBEq, Nat.reduceMul, Nat.reduceLT, Int.reduceLT, Int.reduceLE, Int.reduceToNat, Int.reduceNeg, Int.reduceEq, Int.reduceMul, reduceCtorEq, Int.reduceBEq, Int.reduceBNe, Int.reduceAdd, Int.reduceSub, g3, g4, g5, g6, g10, g11, g12, ltT, ltF, leT, leF, hk', a1, a2, a3, a4, a5, k1, k2, hc]
        exact ih (j + 1) (by omega) _ hr _ (by exact g3) (by exact g4) (by exact g5) (by exact g6) (by exact g10) (by exact g11) (by rfl)
      | true =>
        by_cases hd : cost l[j] < s2
        · simp (maxSteps := 1000000) (implicitDefEqProofs := false) (disch := first | rfl | omega | assumption) only [go_sem, ↓reduceIte, Nat.reduceEqDiff, Nat.reduceAdd, Nat.reduceLeDiff, Nat.reduceBEq, Nat.reduceMul, Nat.reduceLT, Int.reduceLT, Int.reduceLE, Int.reduceToNat, Int.reduceNeg, Int.reduceEq, Int.reduceMul, reduceCtorEq, Int.reduceBEq, Int.reduceBNe, Int.reduceAdd, Int.reduceSub, g3, g4, g5, g6, g10, g11, g12, ltT, ltF, leT, leF, hk', a1, a2, a3, a4, a5, k1, k2, hc, hd]
          exact ih (j + 1) (by omega) _ hr _ (by exact g3) (by exact g4) (by exact g5) (by exact g6) (by exact g10) (by exact g11) (by rfl)
        · simp (maxSteps := 1000000) (implicitDefEqProofs := false) (disch := first | rfl | omega | assumption) only [go_sem, ↓reduceIte, Nat.reduceEqDiff, Nat.reduceAdd, Nat.reduceLeDiff, Nat.reduceBEq, Nat.reduceMul, Nat.reduceLT, Int.reduceLT, Int.reduceLE, Int.reduceToNat, Int.reduceNeg, Int.reduceEq, Int.reduceMul, reduceCtorEq, Int.reduceBEq, Int.reduceBNe, Int.reduceAdd, Int.reduceSub, g3, g4, g5, g6, g10, g11, g12, ltT, ltF, leT, leF, hk', a1, a2, a3, a4, a5, k1, k2, hc, hd]
          exact ih (j + 1) (by omega) _ hr _ (by exact g3) (by exact g4) (by exact g5) (by exact g6) (by exact g10) (by exact g11) (by rfl)

theorem cheapI {vl : AV} (l : List Nat) (h : SlOk H 1 vl (l.map fun n : Nat => I n)) (hl : l.length ≤ 1000) (can : Nat → Bool) (cost : Nat → Int) (f1 f2 : Fn) (x1 x2 c1 c2 : List AV)
    (hcan : ∀ G : Heap, ∀ x ∈ l, callVL cfg0 prog0 false f1 (x1 ++ [I x]) c1 (H ++ G) none = some ⟨.ret (.bool (can x)), H ++ G, none⟩)
    (hcost : ∀ G : Heap, ∀ x ∈ l, callVL cfg0 prog0 false f2 (x2 ++ [I x]) c2 (H ++ G) none = some ⟨.ret (I (cost x)), H ++ G, none⟩) :
    callFL cfg0 prog0 false 80 [vl, .agg [.func f1 x1 c1, .func f2 x2 c2]] H none = some ⟨.ret (.tup [I (l.foldl (bst can cost) (0, 0, false)).1, I (l.foldl (bst can cost) (0, 0, false)).2.1, .bool (l.foldl (bst can cost) (0, 0, false)).2.2]), H, none⟩ := by
  have h1 := cheapI_loop l h hl can cost f1 f2 x1 x2 c1 c2 hcan hcost _ l.length 0 (by omega) (0, 0, false) rfl
  rw [List.drop_zero] at h1
  refine (callFL_eq fn80 rfl (by simp [Try.f80])).trans ?_
  simp (maxSteps := 1000000) (implicitDefEqProofs := false) (disch := first | rfl | omega | assumption) only [go_sem, ↓reduceIte, Nat.reduceEqDiff, Nat.reduceAdd, Nat.reduceLeDiff, Nat.reduceBEq, Nat.reduceMul, Nat.reduceLT, Int.reduceLT, Int.reduceLE, Int.reduceToNat, Int.reduceNeg, Int.reduceEq, Int.reduceMul, reduceCtorEq, Int.reduceBEq, Int.reduceBNe, Int.reduceAdd, Int.reduceSub, ltT, ltF, leT, leF, h.len]
  exact h1 _ (by rfl) (by rfl) (by rfl) (by rfl) (by rfl) (by rfl) (by rfl)

end Go.Ab
/-
  The best sets.
-/
namespace Go.Ab
open Go.Proofs
set_option linter.unusedSimpArgs false
set_option linter.unusedVariables false
set_option maxRecDepth 100000
set_option maxHeartbeats 1000000

variable {H : Heap}

/-- A set parts all. -/
def Col.allP (c : Col) (s : Nat) : Bool := (itA c s (fun (_ : Unit) _ _ => ((), false)) () 0 c.manyN).2

/-- The best set by a price. -/
def Col.bestP (c : Col) (cost : Nat → Int) : Nat × Int × Bool := (List.range (2 ^ c.ws.length)).foldl (bst c.allP cost) (0, 0, false)

theorem range_lt {c : Col} (ho : c.Ok) {x : Nat} (hx : x ∈ List.range (2 ^ c.ws.length)) : x < 64 := by
  have h2 : (2 : Nat) ^ c.ws.length ≤ 2 ^ 6 := Nat.pow_le_pow_right (by omega) ho.len.2
  have := List.mem_range.1 hx
  omega

theorem best_lt {c : Col} (ho : c.Ok) (cost : Nat → Int) : (c.bestP cost).1 < 64 := by
  have key : ∀ (l : List Nat) (st : Nat × Int × Bool), st.1 < 64 → (∀ x ∈ l, x < 64) → (l.foldl (bst c.allP cost) st).1 < 64 := by
    intro l
    induction l with
    | nil => intro st h _; exact h
    | cons x r ih =>
      intro st h hl
      rw [List.foldl_cons]
      refine ih _ ?_ (fun y hy => hl y (List.mem_cons_of_mem _ hy))
      simp only [bst]
      split
      · exact hl x (List.mem_cons_self ..)
      · exact h
  exact key _ _ (by decide) (fun x hx => range_lt ho hx)

theorem best_cl {p t : Nat} {v : AV} {k x : Nat} (hp : H[p]? = some (.box (.iface t v))) (n : Int) (hof : callVL cfg0 prog0 false (.method "blockworks/colour.of") [.iface t v, U x] [] H none = some ⟨.ret (I n), H, none⟩) :
    callVL cfg0 prog0 false (.func 104) [U x] [.ptr p 0] H none = some ⟨.ret (I n), H, none⟩ := by
  rw [callVL_func]
  rw [callVL_method] at hof
  simp only [List.cons_append, List.nil_append]
  refine (callFL_eq fn104 rfl (by simp [Try.f104])).trans ?_
  simp (maxSteps := 1000000) (implicitDefEqProofs := false) (disch := first | rfl | omega | assumption) only [go_sem, ↓reduceIte, Nat.reduceEqDiff, Nat.reduceAdd, Nat.reduceLeDiff, Nat.reduceBEq, Nat.reduceMul, Nat.reduceLT, Int.reduceLT, Int.reduceLE, Int.reduceToNat, Int.reduceNeg, Int.reduceEq, Int.reduceMul, reduceCtorEq, Int.reduceBEq, Int.reduceBNe, Int.reduceAdd, Int.reduceSub, hp, hof]

theorem co_best {l lm : Nat} {c : Col} {vw vp vo : AV} (h : Full H l lm c vw vp vo) (ho : c.Ok) (t : TypeId) (v : AV) (cost : Nat → Int)
    (hof : ∀ (G : Heap) (x : Nat), x < 64 → callVL cfg0 prog0 false (.method "blockworks/colour.of") [.iface t v, U x] [] (H ++ G) none = some ⟨.ret (I (cost x)), H ++ G, none⟩) :
    callFL cfg0 prog0 false 70 [.ptr l 0, .iface t v] H none = some ⟨if (c.bestP cost).2.2 then .ret (.tup [I (c.bestP cost).2.1, I (c.bestP cost).1]) else .pan (errA 4), H, none⟩ := by
  have hS := fun G : Heap => co_sets (h.app G).shop ho.len.2
  have hl2 : (2 : Nat) ^ c.ws.length ≤ 2 ^ 6 := Nat.pow_le_pow_right (by omega) ho.len.2
  have hsl : SlOk (H ++ [.box (.iface t v)]) 1 (.sl false ((List.range (2 ^ c.ws.length)).map U)) ((List.range (2 ^ c.ws.length)).map U) := ⟨rfl, by simp [U, AV.cells]⟩
  have hC := cheapU (H := H ++ [.box (.iface t v)]) (List.range (2 ^ c.ws.length)) hsl (by simp; omega) c.allP cost (.func 76) (.func 104) [.ptr l 0] [] [] [.ptr H.length 0]
    (fun G x hx => by
      rw [callVL_func]
      exact co_partsAll ((h.app _).app G) ho (range_lt ho hx))
    (fun G x hx => by
      refine best_cl (k := 0) (by rw [List.append_assoc, get_at]; rfl) (cost x) ?_
      rw [List.append_assoc]
      exact hof _ x (range_lt ho hx))
  change callFL _ _ _ _ _ _ _ = some ⟨.ret (.tup [U (c.bestP cost).1, I (c.bestP cost).2.1, .bool (c.bestP cost).2.2]), _, _⟩ at hC
  have hlt := best_lt ho cost
  have hcv : IntKind.i64.wrap ((c.bestP cost).1 : Int) = (c.bestP cost).1 := w64 (by omega) (by omega)
  generalize c.bestP cost = r at hC hlt hcv ⊢
  obtain ⟨r1, r2, r3⟩ := r
  refine (callFL_eq fn70 rfl (by simp [Try.f70])).trans ?_
  cases r3 with
  | true => simp (maxSteps := 1000000) (implicitDefEqProofs := false) (disch := first | rfl | omega | assumption) only [go_sem, ↓reduceIte, Nat.reduceEqDiff, Nat.reduceAdd, Nat.reduceLeDiff, Nat.reduceBEq, Nat.reduceMul, Nat.reduceLT, Int.reduceLT, Int.reduceLE, Int.reduceToNat, Int.reduceNeg, Int.reduceEq, Int.reduceMul, reduceCtorEq, Int.reduceBEq, Int.reduceBNe, Int.reduceAdd, Int.reduceSub, hS, hC, co_must, hcv]
  | false => simp (maxSteps := 1000000) (implicitDefEqProofs := false) (disch := first | rfl | omega | assumption) only [go_sem, ↓reduceIte, Nat.reduceEqDiff, Nat.reduceAdd, Nat.reduceLeDiff, Nat.reduceBEq, Nat.reduceMul, Nat.reduceLT, Int.reduceLT, Int.reduceLE, Int.reduceToNat, Int.reduceNeg, Int.reduceEq, Int.reduceMul, reduceCtorEq, Int.reduceBEq, Int.reduceBNe, Int.reduceAdd, Int.reduceSub, hS, hC, co_must, hcv, errA]

theorem isSet0 {c : Col} (ho : c.Ok) : c.isSet 0 = true := by
  have := Nat.pow_pos (n := c.ws.length) (show 0 < 2 by omega)
  exact wi_iff.2 ⟨by omega, by omega⟩

def Col.few (c : Col) (cost : Nat → Int) : Int × Int × Int := if c.valid then (if (c.bestP cost).2.2 then ((c.bestP cost).2.1, (c.bestP cost).1, 0) else (0, 0, 4)) else (0, 0, 1)

theorem co_Fewest {c : Col} {vw vp : AV} (h : ColAt H c vw vp) (hl : c.ws.length ≤ 1000 ∧ c.ps.length ≤ 1000) :
    callFL cfg0 prog0 false 24 [c.av vw vp] H none = some ⟨.ret (.tup [I (c.few fun s => pop s).1, I (c.few fun s => pop s).2.1, I (c.few fun s => pop s).2.2]), H, none⟩ := by
  have s1 := h.ws.scal
  have s2 := h.ps.scal
  have hL := co_look (H := H ++ [.box (c.av vw vp), .box (I 0)]) (h.app _) hl 0
  have hN := fun (G : Heap) => dn_Fewest (H.length + 1) G
  have hS := fun (e : Int) (x : AO) (G : Heap) => ds_Fewest (H.length + 1) e 0 (H ++ (x :: .box (I 0) :: G)) (by rw [get_at' 1]; rfl)
  simp only [errA] at hS
  rcases Bool.eq_false_or_eq_true c.valid with hv | hv
  · have ho := c.valid_iff.1 hv
    have hF := fun G : Heap => Col.seen_full (H := H ++ [.box (c.av vw vp), .box (I 0)]) (vw := vw) (vp := vp) (c := c) 0 G
    have hB := fun G : Heap => co_best (hF G) ho 90 (.agg []) (fun s => pop s) (fun G' x hx => by
      rw [callVL_method, meth129]
      exact each_of hx)
    simp only [hv, isSet0 ho, if_true, Col.seen, Col.av, List.length_append, List.length_cons, List.length_nil, List.append_assoc, List.cons_append, List.nil_append, Nat.add_assoc, Nat.reduceAdd, Nat.zero_add, errA] at hL hB
    simp only [Col.few, hv, if_true, Col.av]
    generalize c.bestP (fun s => pop s) = r at hB ⊢
    obtain ⟨r1, r2, r3⟩ := r
    refine (callFL_eq fn24 rfl (by simp [Try.f24])).trans ?_
    cases r3 with
    | true =>
      simp only [if_true] at hB
      simp (maxSteps := 1000000) (implicitDefEqProofs := false) (disch := first | rfl | omega | assumption) only [go_sem, ↓reduceIte, Nat.reduceEqDiff, Nat.reduceAdd, Nat.reduceLeDiff, Nat.reduceBEq, Nat.reduceMul, Nat.reduceLT, Int.reduceLT, Int.reduceLE, Int.reduceToNat, Int.reduceNeg, Int.reduceEq, Int.reduceMul, reduceCtorEq, Int.reduceBEq, Int.reduceBNe, Int.reduceAdd, Int.reduceSub, s1, s2, hL, hB, hN]
    | false =>
      simp only [Bool.false_eq_true, if_false] at hB
      simp (maxSteps := 1000000) (implicitDefEqProofs := false) (disch := first | rfl | omega | assumption) only [go_sem, ↓reduceIte, Nat.reduceEqDiff, Nat.reduceAdd, Nat.reduceLeDiff, Nat.reduceBEq, Nat.reduceMul, Nat.reduceLT, Int.reduceLT, Int.reduceLE, Int.reduceToNat, Int.reduceNeg, Int.reduceEq, Int.reduceMul, reduceCtorEq, Int.reduceBEq, Int.reduceBNe, Int.reduceAdd, Int.reduceSub, s1, s2, hL, hB, hS]
  · simp only [hv, if_false, Bool.false_eq_true, Col.av, List.length_append, List.length_cons, List.length_nil, List.append_assoc, List.cons_append, List.nil_append, Nat.add_assoc, Nat.reduceAdd, Nat.zero_add, errA] at hL
    simp only [Col.few, hv, if_false, Bool.false_eq_true, Col.av]
    refine (callFL_eq fn24 rfl (by simp [Try.f24])).trans ?_
    simp (maxSteps := 1000000) (implicitDefEqProofs := false) (disch := first | rfl | omega | assumption) only [go_sem, ↓reduceIte, Nat.reduceEqDiff, Nat.reduceAdd, Nat.reduceLeDiff, Nat.reduceBEq, Nat.reduceMul, Nat.reduceLT, Int.reduceLT, Int.reduceLE, Int.reduceToNat, Int.reduceNeg, Int.reduceEq, Int.reduceMul, reduceCtorEq, Int.reduceBEq, Int.reduceBNe, Int.reduceAdd, Int.reduceSub, s1, s2, hL, hS]

theorem co_Cheapest {c : Col} {vw vp : AV} (h : ColAt H c vw vp) (hl : c.ws.length ≤ 1000 ∧ c.ps.length ≤ 1000) :
    callFL cfg0 prog0 false 26 [c.av vw vp] H none = some ⟨.ret (.tup [I (c.few c.cost).1, I (c.few c.cost).2.1, I (c.few c.cost).2.2]), H, none⟩ := by
  have s1 := h.ws.scal
  have s2 := h.ps.scal
  have hL := co_look (H := H ++ [.box (c.av vw vp), .box (I 0)]) (h.app _) hl 0
  have hN := fun (G : Heap) => dn_Cheapest (H.length + 1) G
  have hS := fun (e : Int) (x : AO) (G : Heap) => ds_Cheapest (H.length + 1) e 0 (H ++ (x :: .box (I 0) :: G)) (by rw [get_at' 1]; rfl)
  simp only [errA] at hS
  rcases Bool.eq_false_or_eq_true c.valid with hv | hv
  · have ho := c.valid_iff.1 hv
    have hF := fun G : Heap => Col.seen_full (H := H ++ [.box (c.av vw vp), .box (I 0)]) (vw := vw) (vp := vp) (c := c) 0 G
    have hB := fun G : Heap => co_best (hF G) ho 92 (.agg [vp]) c.cost (fun G' x hx => by
      rw [callVL_method, meth133]
      simp only [List.append_assoc]
      exact tagged_of (h.ps.app _) ho hx)
    simp only [hv, isSet0 ho, if_true, Col.seen, Col.av, List.length_append, List.length_cons, List.length_nil, List.append_assoc, List.cons_append, List.nil_append, Nat.add_assoc, Nat.reduceAdd, Nat.zero_add, errA] at hL hB
    simp only [Col.few, hv, if_true, Col.av]
    generalize c.bestP c.cost = r at hB ⊢
    obtain ⟨r1, r2, r3⟩ := r
    refine (callFL_eq fn26 rfl (by simp [Try.f26])).trans ?_
    cases r3 with
    | true =>
      simp only [if_true] at hB
      simp (maxSteps := 1000000) (implicitDefEqProofs := false) (disch := first | rfl | omega | assumption) only [go_sem, ↓reduceIte, Nat.reduceEqDiff, Nat.reduceAdd, Nat.reduceLeDiff, Nat.reduceBEq, Nat.reduceMul, Nat.reduceLT, Int.reduceLT, Int.reduceLE, Int.reduceToNat, Int.reduceNeg, Int.reduceEq, Int.reduceMul, reduceCtorEq, Int.reduceBEq, Int.reduceBNe, Int.reduceAdd, Int.reduceSub, s1, s2, h.ps.cel, hL, hB]
      rw [chkK_of]; rotate_left; kernel_rfl
      simp (maxSteps := 1000000) (implicitDefEqProofs := false) (disch := first | rfl | omega | assumption) only [go_sem, ↓reduceIte, Nat.reduceEqDiff, Nat.reduceAdd, Nat.reduceLeDiff, Nat.reduceBEq, Nat.reduceMul, Nat.reduceLT, Int.reduceLT, Int.reduceLE, Int.reduceToNat, Int.reduceNeg, Int.reduceEq, Int.reduceMul, reduceCtorEq, Int.reduceBEq, Int.reduceBNe, Int.reduceAdd, Int.reduceSub, s1, s2, h.ps.cel, hL, hB, hN]
    | false =>
      simp only [Bool.false_eq_true, if_false] at hB
      simp (maxSteps := 1000000) (implicitDefEqProofs := false) (disch := first | rfl | omega | assumption) only [go_sem, ↓reduceIte, Nat.reduceEqDiff, Nat.reduceAdd, Nat.reduceLeDiff, Nat.reduceBEq, Nat.reduceMul, Nat.reduceLT, Int.reduceLT, Int.reduceLE, Int.reduceToNat, Int.reduceNeg, Int.reduceEq, Int.reduceMul, reduceCtorEq, Int.reduceBEq, Int.reduceBNe, Int.reduceAdd, Int.reduceSub, s1, s2, h.ps.cel, hL, hB]
      rw [chkK_of]; rotate_left; kernel_rfl
      simp (maxSteps := 1000000) (implicitDefEqProofs := false) (disch := first | rfl | omega | assumption) only [go_sem, ↓reduceIte, Nat.reduceEqDiff, Nat.reduceAdd, Nat.reduceLeDiff, Nat.reduceBEq, Nat.reduceMul, Nat.reduceLT, Int.reduceLT, Int.reduceLE, Int.reduceToNat, Int.reduceNeg, Int.reduceEq, Int.reduceMul, reduceCtorEq, Int.reduceBEq, Int.reduceBNe, Int.reduceAdd, Int.reduceSub, s1, s2, h.ps.cel, hL, hB, hS]
  · simp only [hv, if_false, Bool.false_eq_true, Col.av, List.length_append, List.length_cons, List.length_nil, List.append_assoc, List.cons_append, List.nil_append, Nat.add_assoc, Nat.reduceAdd, Nat.zero_add, errA] at hL
    simp only [Col.few, hv, if_false, Bool.false_eq_true, Col.av]
    refine (callFL_eq fn26 rfl (by simp [Try.f26])).trans ?_
    simp (maxSteps := 1000000) (implicitDefEqProofs := false) (disch := first | rfl | omega | assumption) only [go_sem, ↓reduceIte, Nat.reduceEqDiff, Nat.reduceAdd, Nat.reduceLeDiff, Nat.reduceBEq, Nat.reduceMul, Nat.reduceLT, Int.reduceLT, Int.reduceLE, Int.reduceToNat, Int.reduceNeg, Int.reduceEq, Int.reduceMul, reduceCtorEq, Int.reduceBEq, Int.reduceBNe, Int.reduceAdd, Int.reduceSub, s1, s2, h.ps.cel, hL]
    rw [chkK_of]; rotate_left; kernel_rfl
    simp (maxSteps := 1000000) (implicitDefEqProofs := false) (disch := first | rfl | omega | assumption) only [go_sem, ↓reduceIte, Nat.reduceEqDiff, Nat.reduceAdd, Nat.reduceLeDiff, Nat.reduceBEq, Nat.reduceMul, Nat.reduceLT, Int.reduceLT, Int.reduceLE, Int.reduceToNat, Int.reduceNeg, Int.reduceEq, Int.reduceMul, reduceCtorEq, Int.reduceBEq, Int.reduceBNe, Int.reduceAdd, Int.reduceSub, s1, s2, h.ps.cel, hL, hS]

end Go.Ab
