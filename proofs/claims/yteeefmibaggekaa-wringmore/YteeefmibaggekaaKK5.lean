/-
  The reference, walked: stacks, films, what holds.
-/
import Derived.Test.YteeefmibaggekaaKK4
namespace Go.Ab
open Go.Proofs
set_option linter.unusedSimpArgs false
set_option linter.unusedVariables false
set_option maxRecDepth 100000
set_option maxHeartbeats 2000000

variable {H : Heap}


/-- No joint of the places breaks a rule. -/
def Wg.hld (w : Wg) (b : Bool) (xs : List Pc) : Bool := !anyF (fun i => w.jt b (pcA xs i) (pcA xs (i + 1)) != 0) 0 (xs.length - 1)

end Go.Ab
/-
  The reference, walked: Film, Check, Holds, Length.
-/
namespace Go.Ab
open Go.Proofs
set_option linter.unusedSimpArgs false
set_option linter.unusedVariables false
set_option maxRecDepth 100000
set_option maxHeartbeats 2000000

variable {H : Heap}


def Wg.flA (w : Wg) (xs : List Pc) (a : Int × Int) (i : Nat) : Int × Int := (a.1 + ((w.fa (pcA xs i)).lo + (w.fb (pcA xs (i + 1))).lo), a.2 + ((w.fa (pcA xs i)).hi + (w.fb (pcA xs (i + 1))).hi))
/-- The films of a stack. -/
def Wg.flm (w : Wg) (xs : List Pc) : Int × Int := foldF (w.flA xs) (0, 0) 0 (xs.length - 1)

def bd2 (K : Int) (a : Int × Int) : Prop := 0 ≤ a.1 ∧ a.1 ≤ K ∧ 0 ≤ a.2 ∧ a.2 ≤ K

end Go.Ab
/-
  The reference, walked: Check, Holds, Length.
-/
namespace Go.Ab
open Go.Proofs
set_option linter.unusedSimpArgs false
set_option linter.unusedVariables false
set_option maxRecDepth 100000
set_option maxHeartbeats 2000000

variable {H : Heap}


theorem brk_hld {w : Wg} (b : Bool) (xs : List Pc) : w.hld b xs = decide ((w.brk b xs).2 = 0) := by
  by_cases h : (w.brk b xs).2 = 0
  · rw [decide_eq_true h]
    simp only [Wg.hld, Bool.not_eq_true', anyF_false]
    intro i h1 h2
    simp only [Wg.brk] at h
    cases hf : findF (w.brkF b xs) 0 (xs.length - 1) with
    | none =>
      have := (findF_none _ _ _).1 hf i h1 h2
      simp only [Wg.brkF] at this
      split at this
      · rename_i hc; rw [hc]; rfl
      · cases this
    | some x =>
      rw [hf] at h
      obtain ⟨k, k1, k2, k3, k4⟩ := (findF_some _ _ _ _).1 hf
      simp only [Wg.brkF] at k3
      split at k3
      · cases k3
      · rename_i hc
        cases k3
        exact absurd h hc
  · rw [decide_eq_false h]
    simp only [Wg.hld, Bool.not_eq_false', anyF_iff]
    simp only [Wg.brk] at h
    cases hf : findF (w.brkF b xs) 0 (xs.length - 1) with
    | none => rw [hf] at h; exact absurd rfl h
    | some x =>
      obtain ⟨k, k1, k2, k3, k4⟩ := (findF_some _ _ _ _).1 hf
      refine ⟨k, k1, k2, ?_⟩
      simp only [Wg.brkF] at k3
      split at k3
      · cases k3
      · rename_i hc; exact bne_iff_ne.2 hc

end Go.Ab
/-
  The reference, walked: Length.
-/
namespace Go.Ab
open Go.Proofs
set_option linter.unusedSimpArgs false
set_option linter.unusedVariables false
set_option maxRecDepth 100000
set_option maxHeartbeats 2000000

variable {H : Heap}


def Wg.lnA (w : Wg) (xs : List Pc) (a : Int × Int) (i : Nat) : Int × Int := (a.1 + (w.b (pcA xs i).b.toNat).lo, a.2 + (w.b (pcA xs i).b.toNat).hi)

end Go.Ab
/-
  The sample; what is alive.
-/
namespace Go.Ab
open Go.Proofs
set_option linter.unusedSimpArgs false
set_option linter.unusedVariables false
set_option maxRecDepth 100000
set_option maxHeartbeats 2000000

variable {H : Heap}


theorem law_span (a b : Int) (H : Heap) : callFL cfg0 prog0 false 36 [I a, I b] H none = some ⟨.ret (.agg [I a, I b]), H, none⟩ := by
  refine (callFL_eq fn36 rfl (by simp [Try.f36])).trans ?_
  simp (maxSteps := 1000000) (implicitDefEqProofs := false) (disch := first | rfl | omega | assumption) only [go_sem, ltT, ltF, leT, leF]

theorem law_face (a b c : Int) (H : Heap) : callFL cfg0 prog0 false 88 [I a, I b, I c] H none = some ⟨.ret (.agg [I a, I b, I c]), H, none⟩ := by
  have h1 := fun G : Heap => law_span a b G
  refine (callFL_eq fn88 rfl (by simp [Try.f88])).trans ?_
  simp (maxSteps := 1000000) (implicitDefEqProofs := false) (disch := first | rfl | omega | assumption) only [go_sem, ltT, ltF, leT, leF, h1]

theorem law_block (a b : Int) (x y : Fc) (H : Heap) : callFL cfg0 prog0 false 87 [I a, I b, x.av, y.av] H none = some ⟨.ret (Bk.av ⟨a, b, x, y⟩), H, none⟩ := by
  have h1 := fun G : Heap => law_span a b G
  obtain ⟨x1, x2, x3⟩ := x
  obtain ⟨y1, y2, y3⟩ := y
  simp only [Fc.av, Bk.av]
  refine (callFL_eq fn87 rfl (by simp [Try.f87])).trans ?_
  simp (maxSteps := 1000000) (implicitDefEqProofs := false) (disch := first | rfl | omega | assumption) only [go_sem, ltT, ltF, leT, leF]
  rw [chkK_of]; rotate_left; kernel_rfl
  simp (maxSteps := 1000000) (implicitDefEqProofs := false) (disch := first | rfl | omega | assumption) only [go_sem, ltT, ltF, leT, leF, h1]

def smpB : List Bk := [⟨10, 10, ⟨1, 1, 0⟩, ⟨0, 2, 2⟩⟩, ⟨20, 21, ⟨1, 1, 0⟩, ⟨2, 2, 0⟩⟩, ⟨5, 5, ⟨0, 0, 1⟩, ⟨3, 3, 0⟩⟩]

theorem law_sample {v : AV} {ps : List Ap} (hv : SlOk H 2 v (ps.map Ap.av)) : callFL cfg0 prog0 false 33 [v] H none = some ⟨.ret (.agg [.sl true (smpB.map Bk.av), v]), H, none⟩ := by
  have s0 := hv.scal
  have t0 := hv.lt0
  have hf := fun (a b c : Int) (G : Heap) => law_face a b c G
  have hb := fun (a b x1 x2 x3 y1 y2 y3 : Int) (G : Heap) => law_block a b ⟨x1, x2, x3⟩ ⟨y1, y2, y3⟩ G
  have t1 := hv.sld
  have t2 := hv.ltn 1
  have c0 := hv.cel
  simp only [Fc.av, Bk.av] at hb
  simp only [smpB, List.map_cons, List.map_nil, Bk.av]
  refine (callFL_eq fn33 rfl (by simp [Try.f33])).trans ?_
  simp (maxSteps := 1000000) (implicitDefEqProofs := false) (disch := first | rfl | omega | assumption) only [go_sem, ltT, ltF, leT, leF, s0, t0, hf, hb, t1, t2, c0]
  done

/-- The blocks of places, and what is up, in turn. -/
def flatP (l : List Pc) : List Int := l.flatMap fun p => [p.b, p.u]

theorem flatP_len : ∀ l : List Pc, (flatP l).length = 2 * l.length
  | [] => rfl
  | p :: r => by
    have := flatP_len r
    simp only [flatP, List.flatMap_cons, List.length_append, List.length_cons, List.length_nil] at this ⊢
    omega

theorem flatP_at : ∀ (l : List Pc) (j : Nat), j < l.length → (flatP l).getD (2 * j) 0 = (pcA l j).b ∧ (flatP l).getD (2 * j + 1) 0 = (pcA l j).u
  | [], j, h => by simp at h
  | p :: r, 0, _ => by simp [flatP, pcA]
  | p :: r, j + 1, h => by
    have := flatP_at r j (by simpa using h)
    have e1 : 2 * (j + 1) = 2 * j + 2 := by omega
    rw [e1]
    simp only [flatP, pcA, List.flatMap_cons, List.cons_append, List.nil_append, List.getD_cons_succ] at this ⊢
    exact this

theorem stc_loop {v : AV} {l : List Pc} (hv : SlOk H 1 v ((flatP l).map I)) (hl : l.length ≤ 1000) :
    ∀ (q j : Nat), j + q = l.length → ∀ (L : List Pc), L = l.take j → ∀ E : Env, E.get 0 = v → E.get 2 = .gsl H.length j → E.get 3 = I (2 * j : Nat) →
    Option.map (finishC H.length) (execL cfg0 prog0 ⟨34, none, false, H.length⟩ (todoAt Try.f34 2) ⟨E, [], H ++ [.grow 2 (L.map Pc.av)], none⟩) = some ⟨.ret (.sl false (l.map Pc.av)), H, none⟩ := by
  intro q
  have n0 := hv.len
  rw [List.length_map, flatP_len] at n0
  have s0 := hv.scal
  induction q with
  | zero =>
    intro j hj L hL E g0 g2 g3
    have hk' : ¬ (j : Int) < ((l.length : Nat) : Int) := by omega
    have ej : j = l.length := by omega
    subst ej
    subst hL
    rw [List.take_length]
    simp only [loopIt, todoPast, todoAt, todoOf, firstReg, ↓reduceIte, Option.some.injEq, Nat.reduceEqDiff, reduceCtorEq, Try.f34]
    rw [execL_inLoop]
    have hz : ¬ ((2 * l.length : Nat) : Int) + 1 < ((2 * l.length : Nat) : Int) := by omega
    have la : (l.map Pc.av).length = l.length := List.length_map _
    have t3 : ltL H.length (l.map Pc.av) = true := ltL_map (fun _ => rfl) l
    have t4 : ltL 0 (l.map Pc.av) = true := ltL_map (fun _ => rfl) l
    simp (maxSteps := 1000000) (implicitDefEqProofs := false) (disch := first | rfl | omega | assumption) only [go_sem, g0, g2, g3, ltT, ltF, leT, leF, hk', n0, s0, hz, la, t3, t4]
    done
  | succ q ih =>
    intro j hj L hL E g0 g2 g3
    have hk' : (j : Int) < ((l.length : Nat) : Int) := by omega
    have hk2 : j < l.length := by omega
    subst hL
    have hz : ((2 * j : Nat) : Int) + 1 < ((2 * l.length : Nat) : Int) := by omega
    obtain ⟨a1, a2, a3, a4⟩ := hv.fI
    rw [flatP_len] at a1 a2 a3 a4
    obtain ⟨e1, e2⟩ := flatP_at l j hk2
    have x1 : (((2 * j : Nat) : Int)).toNat = 2 * j := by omega
    have x2 : (((2 * j : Nat) : Int) + 1).toNat = 2 * j + 1 := by omega
    have x3 : IntKind.i64.wrap (((2 * j : Nat) : Int) + 1) = ((2 * j : Nat) : Int) + 1 := w64 (by omega) (by omega)
    have x4 : IntKind.i64.wrap (((2 * j : Nat) : Int) + 2) = ((2 * (j + 1) : Nat) : Int) := by rw [w64 (by omega) (by omega)]; omega
    have o1 := hv.old
    have o2 := fun (k : Int) (off : Nat) => ptrOf_elA (k := k) (off := off) hv
    have la : ((l.take j).map Pc.av).length = j := by simp; omega
    have htk : l.take (j + 1) = l.take j ++ [pcA l j] := by
      rw [List.take_succ_eq_append_getElem hk2]
      simp [pcA, hk2]
    have key := ih (j + 1) (by omega) (l.take j ++ [pcA l j]) htk.symm
    generalize pcA l j = p at *
    obtain ⟨pb, pu⟩ := p
    have hadd : addElem (H ++ [.grow 2 ((l.take j).map Pc.av)]) 2 true (.gsl H.length j) [.agg [I pb, I pu]] = some (.gsl H.length (j + 1), H ++ [.grow 2 ((l.take j ++ [(⟨pb, pu⟩ : Pc)]).map Pc.av)]) := by
      rw [add_gsl (xs := (l.take j).map Pc.av) (by rw [get_at]; rfl) la rfl rfl (by simp; omega), set_at, List.map_append]
      rfl
    simp only at e1 e2
    simp only [loopIt, todoPast, todoAt, todoOf, firstReg, ↓reduceIte, Option.some.injEq, Nat.reduceEqDiff, reduceCtorEq, Try.f34]
    rw [execL_inLoop]
    simp (maxSteps := 1000000) (implicitDefEqProofs := false) (disch := first | rfl | omega | assumption) only [go_sem, g0, g2, g3, ltT, ltF, leT, leF, hk', n0, s0, hz, x3]
    rw [chkK_of]; rotate_left; kernel_rfl
    simp (maxSteps := 1000000) (implicitDefEqProofs := false) (disch := first | rfl | omega | assumption) only [go_sem, g0, g2, g3, ltT, ltF, leT, leF, hk', n0, s0, hz, a1, a2, a3, a4, x1, x2, x3, x4, e1, e2, o1, o2, ld_ne, ld_eq, or_none', hadd]
    exact key _ (by exact g0) (by rfl) (by rfl)

theorem law_stack {v : AV} {l : List Pc} (hv : SlOk H 1 v ((flatP l).map I)) (hl : l.length ≤ 1000) : callFL cfg0 prog0 false 34 [v] H none = some ⟨.ret (.sl false (l.map Pc.av)), H, none⟩ := by
  have h1 := stc_loop hv hl l.length 0 (by omega) [] rfl
  have s0 := hv.scal
  refine (callFL_eq fn34 rfl (by simp [Try.f34])).trans ?_
  simp (maxSteps := 1000000) (implicitDefEqProofs := false) (disch := first | rfl | omega | assumption) only [go_sem, ltT, ltF, leT, leF, s0]
  exact h1 _ (by rfl) (by rfl) (by rfl)

end Go.Ab
/-
  What is alive.
-/
namespace Go.Ab
open Go.Proofs
set_option linter.unusedSimpArgs false
set_option linter.unusedVariables false
set_option maxRecDepth 100000
set_option maxHeartbeats 2000000

variable {H : Heap}


deriving instance DecidableEq for Pc

def smp : Wg := ⟨smpB, []⟩
def smpX : Wg := ⟨smpB, [⟨0, 1⟩]⟩

theorem v_check : smp.check [⟨0, 0⟩, ⟨1, 0⟩, ⟨2, 1⟩] = (1, 2, 0) := by decide +kernel
theorem v_holds : smp.holds [⟨0, 0⟩, ⟨1, 0⟩, ⟨2, 1⟩] = (1, 0) := by decide +kernel
theorem v_length : smp.length [⟨0, 1⟩, ⟨1, 0⟩] = ((32, 35), 0) := by decide +kernel
theorem v_count : smp.count = (4, 0) := by decide +kernel
theorem v_best : smp.best = (7, some [⟨0, 0⟩, ⟨1, 0⟩, ⟨2, 0⟩], 0) := by decide +kernel
theorem v_hope : smpX.hope = (1, 0) := by decide +kernel
theorem v_most : smpX.most = (2, 5, 0) := by decide +kernel
theorem v_polish : smpX.polish = (1, 16, 0) := by decide +kernel
theorem v_holds2 : smp.holds [⟨0, 0⟩, ⟨1, 0⟩, ⟨2, 0⟩] = (2, 0) := by decide +kernel

def neP (x y : Pc) : Bool := !(x.b == y.b && x.u == y.u)
/-- Two lists of places are the same. -/
def sameP (xs ys : List Pc) : Bool := decide (xs.length = ys.length) && !anyF (fun i => neP (pcA xs i) (pcA ys i)) 0 xs.length

theorem same_loop {v1 v2 : AV} {xs ys : List Pc} (h1 : SlOk H 2 v1 (xs.map Pc.av)) (h2 : SlOk H 2 v2 (ys.map Pc.av)) (hx : xs.length ≤ 1000) (hy : ys.length = xs.length) (r : Bool) :
    ∀ (q j : Nat), j + q = xs.length → (!anyF (fun i => neP (pcA xs i) (pcA ys i)) j q) = r → ∀ E : Env, E.get 0 = v1 → E.get 1 = v2 → E.get 5 = I j →
    Option.map (finishC H.length) (execL cfg0 prog0 ⟨27, none, false, H.length⟩ (todoAt Try.f27 4) ⟨E, [], H, none⟩) = some ⟨.ret (.bool r), H, none⟩ := by
  intro q
  obtain ⟨a1, a2, a3, a4, a5⟩ := h1.fF (d := pc0)
  obtain ⟨b1, b2, b3, b4, b5⟩ := h2.fF (d := pc0)
  have n1 := h1.len
  rw [List.length_map] at n1
  rw [hy] at b1 b2 b3 b4
  induction q with
  | zero =>
    intro j hj hr E g0 g1 g5
    have hk' : ¬ (j : Int) < ((xs.length : Nat) : Int) := by omega
    simp only [anyF, Bool.not_false] at hr
    subst hr
    simp only [loopIt, todoPast, todoAt, todoOf, firstReg, ↓reduceIte, Option.some.injEq, Nat.reduceEqDiff, reduceCtorEq, Try.f27]
    rw [execL_inLoop]
    simp (maxSteps := 1000000) (implicitDefEqProofs := false) (disch := first | rfl | omega | assumption) only [go_sem, g0, g1, g5, ltT, ltF, leT, leF, hk', n1]
    done
  | succ q ih =>
    intro j hj hr E g0 g1 g5
    have hk' : (j : Int) < ((xs.length : Nat) : Int) := by omega
    have hk2 : j < xs.length := by omega
    have hu : anyF (fun i => neP (pcA xs i) (pcA ys i)) j (q + 1) = (neP (pcA xs j) (pcA ys j) || anyF (fun i => neP (pcA xs i) (pcA ys i)) (j + 1) q) := rfl
    rw [hu] at hr
    obtain ⟨⟨xb, xu⟩, hxe⟩ : ∃ x, xs.getD j pc0 = x := ⟨_, rfl⟩
    obtain ⟨⟨yb, yu⟩, hye⟩ : ∃ x, ys.getD j pc0 = x := ⟨_, rfl⟩
    have e : neP (pcA xs j) (pcA ys j) = !(xb == yb && xu == yu) := by
      show neP (xs.getD j pc0) (ys.getD j pc0) = _
      rw [hxe, hye]; rfl
    rw [e] at hr
    have hrd : ∀ (a b : Int) (o : Nat) (ty : Ty), readPart (Pc.av ⟨a, b⟩).cells o ty = readPart [I a, I b] o ty := fun _ _ _ _ => rfl
    have hsm : sameL [I xb, I xu] [I yb, I yu] = (xb == yb && xu == yu) := by simp [sameL, AV.same]
    cases c1 : (xb == yb)
    · rw [c1] at hr
      simp only [Bool.false_and, Bool.not_false, Bool.true_or, Bool.not_true] at hr
      subst hr
      simp only [loopIt, todoPast, todoAt, todoOf, firstReg, ↓reduceIte, Option.some.injEq, Nat.reduceEqDiff, reduceCtorEq, Try.f27]
      rw [execL_inLoop]
      simp (maxSteps := 1000000) (implicitDefEqProofs := false) (disch := first | rfl | omega | assumption) only [go_sem, g0, g1, g5, ltT, ltF, leT, leF, hk', n1]
      rw [chkK_of]; rotate_left; kernel_rfl
      simp (maxSteps := 1000000) (implicitDefEqProofs := false) (disch := first | rfl | omega | assumption) only [go_sem, g0, g1, g5, ltT, ltF, leT, leF, hk', n1, a2, a4, b2, b4, hxe, hye, hrd, c1, hsm]
      done
    · cases c2 : (xu == yu)
      · rw [c1, c2] at hr
        simp only [Bool.and_false, Bool.not_false, Bool.true_or, Bool.not_true] at hr
        subst hr
        simp only [loopIt, todoPast, todoAt, todoOf, firstReg, ↓reduceIte, Option.some.injEq, Nat.reduceEqDiff, reduceCtorEq, Try.f27]
        rw [execL_inLoop]
        simp (maxSteps := 1000000) (implicitDefEqProofs := false) (disch := first | rfl | omega | assumption) only [go_sem, g0, g1, g5, ltT, ltF, leT, leF, hk', n1]
        rw [chkK_of]; rotate_left; kernel_rfl
        simp (maxSteps := 1000000) (implicitDefEqProofs := false) (disch := first | rfl | omega | assumption) only [go_sem, g0, g1, g5, ltT, ltF, leT, leF, hk', n1, a2, a4, b2, b4, hxe, hye, hrd, c1, c2, hsm]
        done
      · rw [c1, c2] at hr
        simp only [Bool.and_self, Bool.not_true, Bool.false_or] at hr
        simp only [loopIt, todoPast, todoAt, todoOf, firstReg, ↓reduceIte, Option.some.injEq, Nat.reduceEqDiff, reduceCtorEq, Try.f27]
        rw [execL_inLoop]
        simp (maxSteps := 1000000) (implicitDefEqProofs := false) (disch := first | rfl | omega | assumption) only [go_sem, g0, g1, g5, ltT, ltF, leT, leF, hk', n1]
        rw [chkK_of]; rotate_left; kernel_rfl
        simp (maxSteps := 1000000) (implicitDefEqProofs := false) (disch := first | rfl | omega | assumption) only [go_sem, g0, g1, g5, ltT, ltF, leT, leF, hk', n1, a2, a4, b2, b4, hxe, hye, hrd, c1, c2, hsm]
        exact ih (j + 1) (by omega) hr _ (by exact g0) (by exact g1) (by rfl)

theorem ref_Same {v1 v2 : AV} {xs ys : List Pc} (h1 : SlOk H 2 v1 (xs.map Pc.av)) (h2 : SlOk H 2 v2 (ys.map Pc.av)) (hx : xs.length ≤ 1000) (hy : ys.length ≤ 1000) : callFL cfg0 prog0 false 27 [v1, v2] H none = some ⟨.ret (.bool (sameP xs ys)), H, none⟩ := by
  have n1 := h1.len
  have n2 := h2.len
  rw [List.length_map] at n1 n2
  simp only [sameP]
  by_cases h : xs.length = ys.length
  · rw [decide_eq_true h, Bool.true_and]
    have hb : (((xs.length : Int)) != (ys.length : Int)) = false := by simp [h]
    have h3 := same_loop h1 h2 hx h.symm _ xs.length 0 (by omega) rfl
    refine (callFL_eq fn27 rfl (by simp [Try.f27])).trans ?_
    simp (maxSteps := 1000000) (implicitDefEqProofs := false) (disch := first | rfl | omega | assumption) only [go_sem, ltT, ltF, leT, leF, n1, n2, hb]
    exact h3 _ (by rfl) (by rfl) (by rfl)
  · rw [decide_eq_false h, Bool.false_and]
    have hb : (((xs.length : Int)) != (ys.length : Int)) = true := by simp; omega
    refine (callFL_eq fn27 rfl (by simp [Try.f27])).trans ?_
    simp (maxSteps := 1000000) (implicitDefEqProofs := false) (disch := first | rfl | omega | assumption) only [go_sem, ltT, ltF, leT, leF, n1, n2, hb]
    done

theorem law_apart (H : Heap) : callFL cfg0 prog0 false 35 [] H none = some ⟨.ret (.agg [.sl true (smpB.map Bk.av), .sl true [.agg [I 0, I 1]]]), H, none⟩ := by
  have h1 := fun G : Heap => law_sample (H := G) (v := .sl true [.agg [I 0, I 1]]) (ps := [⟨0, 1⟩]) ⟨rfl, fun x hx => by obtain ⟨i, _, rfl⟩ := List.mem_map.1 hx; rfl⟩
  simp only [smpB, List.map_cons, List.map_nil, Bk.av] at h1 ⊢
  refine (callFL_eq fn35 rfl (by simp [Try.f35])).trans ?_
  simp (maxSteps := 1000000) (implicitDefEqProofs := false) (disch := first | rfl | omega | assumption) only [go_sem, ltT, ltF, leT, leF, h1]

theorem smp_at (H : Heap) : WgAt H smp (.sl true (smpB.map Bk.av)) (.sl true []) := ⟨⟨rfl, fun x hx => by obtain ⟨i, _, rfl⟩ := List.mem_map.1 hx; rfl⟩, ⟨rfl, fun x hx => by cases hx⟩⟩
theorem smpX_at (H : Heap) : WgAt H smpX (.sl true (smpB.map Bk.av)) (.sl true [.agg [I 0, I 1]]) := ⟨⟨rfl, fun x hx => by obtain ⟨i, _, rfl⟩ := List.mem_map.1 hx; rfl⟩, ⟨rfl, fun x hx => by
  obtain ⟨i, _, rfl⟩ := List.mem_map.1 hx; rfl⟩⟩

theorem law_sample0 (H : Heap) : callFL cfg0 prog0 false 33 [.sl true []] H none = some ⟨.ret (.agg [.sl true (smpB.map Bk.av), .sl true []]), H, none⟩ := law_sample (ps := []) ⟨rfl, fun x hx => by cases hx⟩

theorem stk_at (H : Heap) (l : List Pc) : SlOk H 1 (.sl true ((flatP l).map I)) ((flatP l).map I) := ⟨rfl, fun x hx => by obtain ⟨i, _, rfl⟩ := List.mem_map.1 hx; rfl⟩

theorem law_alive (H : Heap) : callFL cfg0 prog0 false 14 [] H none = some ⟨.ret (.bool true), H, none⟩ := by
  have l1 : smp.bs.length ≤ 1000 ∧ smp.ps.length ≤ 1000 := by decide
  have l2 : smpX.bs.length ≤ 1000 ∧ smpX.ps.length ≤ 1000 := by decide
  have hs := fun G : Heap => law_sample0 G
  have hx := fun G : Heap => law_apart G
  have s1 := fun G : Heap => law_stack (H := G) (stk_at G [⟨0, 0⟩, ⟨1, 0⟩, ⟨2, 1⟩]) (by decide)
  have s2 := fun G : Heap => law_stack (H := G) (stk_at G [⟨0, 1⟩, ⟨1, 0⟩]) (by decide)
  have s3 := fun G : Heap => law_stack (H := G) (stk_at G [⟨0, 0⟩, ⟨1, 0⟩, ⟨2, 0⟩]) (by decide)
  have r1 := fun G : Heap => wr_Check (smp_at G) l1 false [⟨0, 0⟩, ⟨1, 0⟩, ⟨2, 1⟩] (by decide)
  have r2 := fun G : Heap => wr_Holds (smp_at G) l1 false [⟨0, 0⟩, ⟨1, 0⟩, ⟨2, 1⟩] (by decide)
  have r3 := fun G : Heap => wr_Length (smp_at G) l1 false [⟨0, 1⟩, ⟨1, 0⟩] (by decide)
  have r4 := fun G : Heap => wr_Count (smp_at G) l1
  have r5 := fun G : Heap => wr_Best (smp_at G) l1
  have r6 := fun G : Heap => wr_Hope (smpX_at G) l2
  have r7 := fun G : Heap => wr_Most (smpX_at G) l2
  have r8 := fun G : Heap => wr_Polish (smpX_at G) l2
  have r9 := fun G : Heap => wr_Holds (smp_at G) l1 false [⟨0, 0⟩, ⟨1, 0⟩, ⟨2, 0⟩] (by decide)
  have r0 := fun (o0 : AO) (G : Heap) => ref_Same (H := H ++ (o0 :: .grow 2 (([⟨0, 0⟩, ⟨1, 0⟩, ⟨2, 0⟩] : List Pc).map Pc.av) :: G)) (v1 := .gsl (H.length + 1) 3) (xs := [⟨0, 0⟩, ⟨1, 0⟩, ⟨2, 0⟩]) ⟨⟨by simp [get_at'], by simp⟩, by simp [Pc.av, AV.cells]⟩ (slP (b := false) [⟨0, 0⟩, ⟨1, 0⟩, ⟨2, 0⟩]) (by decide) (by decide)
  have e0 : sameP [⟨0, 0⟩, ⟨1, 0⟩, ⟨2, 0⟩] [⟨0, 0⟩, ⟨1, 0⟩, ⟨2, 0⟩] = true := by decide
  have hsp := fun (a b : Int) (G : Heap) => law_span a b G
  rw [v_check] at r1
  rw [v_holds] at r2
  rw [v_length] at r3
  rw [v_count] at r4
  rw [v_best] at r5
  rw [v_hope] at r6
  rw [v_most] at r7
  rw [v_polish] at r8
  rw [v_holds2] at r9
  rw [e0] at r0
  simp only [smpB, plG, plH, List.length_cons, List.length_nil, Nat.zero_add, Nat.reduceAdd, flatP, List.map_cons, List.map_nil, Bk.av, Pc.av, List.flatMap_cons, List.flatMap_nil, List.cons_append, List.nil_append, List.append_nil] at hs hx s1 s2 s3 r1 r2 r3 r4 r5 r6 r7 r8 r9 r0
  refine (callFL_eq fn14 rfl (by simp [Try.f14])).trans ?_
  simp (maxSteps := 1000000) (implicitDefEqProofs := false) (disch := first | rfl | omega | assumption) only [go_sem, ltT, ltF, leT, leF, hs, hx, s1, s2, s3, r1, r2, r3, r4, r5, r6, r7, r8, r9]
  rw [chkK_of]; rotate_left; kernel_rfl
  simp (maxSteps := 1000000) (implicitDefEqProofs := false) (disch := first | rfl | omega | assumption) only [go_sem, ltT, ltF, leT, leF, hs, hx, s1, s2, s3, r1, r2, r3, r4, r5, r6, r7, r8, r9, r0, hsp]
  done

end Go.Ab
/-
  WringTells.
-/
namespace Go.Ab
open Go.Proofs
set_option linter.unusedSimpArgs false
set_option linter.unusedVariables false
set_option maxRecDepth 100000
set_option maxHeartbeats 2000000

variable {H : Heap}


def sumF (f : Nat → Int) : Nat → Nat → Int
  | _, 0 => 0
  | j, q + 1 => f j + sumF f (j + 1) q

theorem law_long {w : Wg} {vb va : AV} (h : WgAt H w vb va) {v : AV} {xs : List Pc} (hs : SlOk H 2 v (xs.map Pc.av)) :
    callFL cfg0 prog0 false 13 [.agg [vb, va], v] H none = some ⟨.ret (.bool (decide (40 < w.bs.length ∨ 40 < w.ps.length ∨ 40 < xs.length))), H, none⟩ := by
  have s0 := hs.scal
  have s1 := h.bs.scal
  have s2 := h.ps.scal
  have n0 := hs.len
  have n1 := h.bs.len
  have n2 := h.ps.len
  have c1 := h.bs.cel
  have c2 := h.ps.cel
  rw [List.length_map] at n0 n1 n2
  have e : decide (40 < w.bs.length ∨ 40 < w.ps.length ∨ 40 < xs.length) = decide ((40 : Int) < if (if (w.bs.length : Int) < w.ps.length then (w.ps.length : Int) else w.bs.length) < xs.length then (xs.length : Int) else if (w.bs.length : Int) < w.ps.length then (w.ps.length : Int) else w.bs.length) := by
    congr 1
    apply propext
    omega
  rw [e]
  refine (callFL_eq fn13 rfl (by simp [Try.f13])).trans ?_
  simp (maxSteps := 1000000) (implicitDefEqProofs := false) (disch := first | rfl | omega | assumption) only [go_sem, s0, s1, s2, n0, n1, n2, c1, c2]

end Go.Ab
