/-
  The reference, walked: can, Count, Hope, Best.
-/
import Derived.Test.YteeefmibaggekaaKK5
import Derived.Test.YteeefmibaggekaaKK3
namespace Go.Ab
open Go.Proofs
set_option linter.unusedSimpArgs false
set_option linter.unusedVariables false
set_option maxRecDepth 100000
set_option maxHeartbeats 2000000

variable {H : Heap}


def minF (f : List Pc → Int) (L : List (List Pc)) (m : List Pc) (j q : Nat) : List Pc := foldF (fun m i => if f (L.getD i []) < f m then L.getD i [] else m) m j q

end Go.Ab
/-
  Polish.
-/
namespace Go.Ab
open Go.Proofs
set_option linter.unusedSimpArgs false
set_option linter.unusedVariables false
set_option maxRecDepth 100000
set_option maxHeartbeats 2000000

variable {H : Heap}


def z0 (b : Bk) : Bk := ⟨b.lo, b.hi, ⟨b.f0.lo, b.f0.hi, 0⟩, b.f1⟩
def z1 (b : Bk) : Bk := ⟨b.lo, b.hi, b.f0, ⟨b.f1.lo, b.f1.hi, 0⟩⟩
/-- A block with the faces of a set polished. -/
def polB (s i : Nat) (b : Bk) : Bk := if s.testBit (2 * i + 1) then z1 (if s.testBit (2 * i) then z0 b else b) else if s.testBit (2 * i) then z0 b else b
def polS (s : Nat) (L : List Bk) (i : Nat) : List Bk := L.set i (polB s i (L.getD i bk0))
def polL (s : Nat) (L : List Bk) : List Bk := foldF (polS s) L 0 L.length

theorem st_4 {n b : Nat} {o0 o1 : AO} {z : Option Value} {M : List Bk} {j : Nat} (hM : M.length = n) (hj : j < n) : evStore b (H ++ [o0, o1, .grow 8 (M.map Bk.av)]) ⟨.int .i64, 1, 8, z⟩ (elA (.gsl (H.length + 2) n) (j : Int) 4) (.int .i64 0) = some (H ++ [o0, o1, .grow 8 ((M.set j (z0 (M.getD j bk0))).map Bk.av)]) := by
  subst hM
  have h1 : (M.map Bk.av)[j]? = some (M.getD j bk0).av := by simp [hj]
  have h2 : (H ++ [o0, o1, .grow 8 (M.map Bk.av)])[H.length + 2]? = some (.grow 8 (M.map Bk.av)) := by rw [get_at']; rfl
  simp only [elA, Int.toNat_natCast, evStore, h2, List.length_map, h1, Bk.av]
  simp [AV.lt, writePart, allScalar, AV.cells, AV.scalar, splice, AV.withCells, List.map_set, z0, set_at', Bk.av]

theorem st_7 {n b : Nat} {o0 o1 : AO} {z : Option Value} {M : List Bk} {j : Nat} (hM : M.length = n) (hj : j < n) : evStore b (H ++ [o0, o1, .grow 8 (M.map Bk.av)]) ⟨.int .i64, 1, 8, z⟩ (elA (.gsl (H.length + 2) n) (j : Int) 7) (.int .i64 0) = some (H ++ [o0, o1, .grow 8 ((M.set j (z1 (M.getD j bk0))).map Bk.av)]) := by
  subst hM
  have h1 : (M.map Bk.av)[j]? = some (M.getD j bk0).av := by simp [hj]
  have h2 : (H ++ [o0, o1, .grow 8 (M.map Bk.av)])[H.length + 2]? = some (.grow 8 (M.map Bk.av)) := by rw [get_at']; rfl
  simp only [elA, Int.toNat_natCast, evStore, h2, List.length_map, h1, Bk.av]
  simp [AV.lt, writePart, allScalar, AV.cells, AV.scalar, splice, AV.withCells, List.map_set, z1, set_at', Bk.av]

theorem polS_len (s : Nat) (L : List Bk) (i : Nat) : (polS s L i).length = L.length := by simp [polS]
theorem set_self' (L : List Bk) (j : Nat) : L.set j (L.getD j bk0) = L := by
  apply List.ext_getElem?
  intro i
  rw [List.getElem?_set]
  by_cases h : j = i
  · subst h
    by_cases h2 : j < L.length
    · simp [h2]
    · simp [h2]
  · simp [h]
theorem getD_set (L : List Bk) {j : Nat} (h : j < L.length) (x : Bk) : (L.set j x).getD j bk0 = x := by simp [h]

theorem pol_loop {va vb : AV} (s1 : vb.scalar = true) (s2 : va.scalar = true) (tv : va.lt H.length = true) (hsv : ∀ A : Heap, sealG A H.length va = va) (s : Nat) (hs : s < 1024) (n : Nat) (hn : n ≤ 5) (r : List Bk) :
    ∀ (q j : Nat), j + q = n → ∀ (L : List Bk), L.length = n → foldF (polS s) L j q = r → ∀ E : Env, E.get 1 = U s → E.get 2 = .ptr H.length 0 → E.get 4 = .ptr (H.length + 1) 0 → E.get 5 = .gsl (H.length + 2) n → E.get 17 = I n → E.get 18 = I j →
    Option.map (finishC H.length) (execL cfg0 prog0 ⟨85, none, false, H.length⟩ (todoAt Try.f85 4) ⟨E, [], H ++ [.box (.agg [vb, va]), .box (.agg [.sl true [], .sl true []]), .grow 8 (L.map Bk.av)], none⟩) = some ⟨.ret (.agg [.sl false (r.map Bk.av), va]), H, none⟩ := by
  intro q
  skip
  induction q with
  | zero =>
    intro j hj L hL hr E g1 g2 g4 g5 g17 g18
    have hk' : ¬ (j : Int) < ((n : Nat) : Int) := by omega
    simp only [foldF] at hr
    subst hr
    have la : (L.map Bk.av).length = n := by rw [List.length_map, hL]
    have t3 : ltL H.length (L.map Bk.av) = true := ltL_map (fun _ => rfl) L
    have t4 : ltL 0 (L.map Bk.av) = true := ltL_map (fun _ => rfl) L
    simp only [loopIt, todoPast, todoAt, todoOf, firstReg, ↓reduceIte, Option.some.injEq, Nat.reduceEqDiff, reduceCtorEq, Try.f85]
    rw [execL_inLoop]
    simp (maxSteps := 1000000) (implicitDefEqProofs := false) (disch := first | rfl | omega | assumption) only [go_sem, g1, g2, g4, g5, g17, g18, ltT, ltF, leT, leF, hk', s1, s2, la, t3, t4, tv, hsv]
    done
  | succ q ih =>
    intro j hj L hL hr E g1 g2 g4 g5 g17 g18
    have hk' : (j : Int) < ((n : Nat) : Int) := by omega
    have hk2 : j < n := by omega
    simp only [foldF] at hr
    have key := ih (j + 1) (by omega) (polS s L j) (by rw [polS_len]; exact hL) hr
    have f1 := @SlOk.fF (H ++ [.box (.agg [vb, va]), .box (.agg [.sl true [], .sl true []]), .grow 8 (L.map Bk.av)]) Bk Bk.av bk0 8 (.gsl (H.length + 2) n) L ⟨⟨by rw [get_at']; rfl, by rw [List.length_map, hL]⟩, fun x hx => by obtain ⟨i, _, rfl⟩ := List.mem_map.1 hx; rfl⟩
    obtain ⟨-, a2, -, -, a5⟩ := f1
    have f2 := @SlOk.fF (H ++ [.box (.agg [vb, va]), .box (.agg [.sl true [], .sl true []]), .grow 8 ((L.set j (z0 (L.getD j bk0))).map Bk.av)]) Bk Bk.av bk0 8 (.gsl (H.length + 2) n) (L.set j (z0 (L.getD j bk0))) ⟨⟨by rw [get_at']; rfl, by rw [List.length_map, List.length_set, hL]⟩, fun x hx => by obtain ⟨i, _, rfl⟩ := List.mem_map.1 hx; rfl⟩
    obtain ⟨-, b2, -, -, b5⟩ := f2
    rw [hL] at a2
    rw [List.length_set, hL] at b2
    have h0 := shrN (s := s) (j := 2 * j) (by omega)
    have h1 := shrN (s := s) (j := 2 * j + 1) (by omega)
    have k0 := bitU (s := s) (j := 2 * j) (by omega)
    have k1 := bitU (s := s) (j := 2 * j + 1) (by omega)
    have m0 := and_one (s := s) (j := 2 * j)
    have m1 := and_one (s := s) (j := 2 * j + 1)
    have x0 : IntKind.i64.wrap (2 * (j : Int)) = ((2 * j : Nat) : Int) := by rw [w64 (by omega) (by omega)]; omega
    have x1 : IntKind.i64.wrap (((2 * j : Nat) : Int) + 0) = ((2 * j : Nat) : Int) := by rw [w64 (by omega) (by omega)]; omega
    have x2 : IntKind.i64.wrap (((2 * j : Nat) : Int) + 1) = ((2 * j + 1 : Nat) : Int) := by rw [w64 (by omega) (by omega)]; omega
    have z2 : ¬ ((2 * j : Nat) : Int) < 0 := by omega
    have z3 : ¬ ((2 * j + 1 : Nat) : Int) < 0 := by omega
    have hjn : j < n := hk2
    have u1 := fun (o0 o1 : AO) (b : Nat) (z : Option Value) => @st_4 H n b o0 o1 z L j hL hjn
    have u2 := fun (o0 o1 : AO) (b : Nat) (z : Option Value) => @st_7 H n b o0 o1 z L j hL hjn
    have u3 := fun (o0 o1 : AO) (b : Nat) (z : Option Value) => @st_7 H n b o0 o1 z (L.set j (z0 (L.getD j bk0))) j (by rw [List.length_set]; exact hL) hjn
    rw [getD_set L (by omega)] at u3
    rw [List.set_set] at u3
    have hself := set_self' L j
    simp only [polS] at key
    generalize L.getD j bk0 = bj at *
    cases c0 : s.testBit (2 * j)
    · rw [c0] at m0
      cases c1 : s.testBit (2 * j + 1)
      · rw [c1] at m1
        have e : polB s j bj = bj := by simp only [polB, c0, c1, if_true, Bool.false_eq_true, if_false]
        rw [e, hself] at key
        simp only [loopIt, todoPast, todoAt, todoOf, firstReg, ↓reduceIte, Option.some.injEq, Nat.reduceEqDiff, reduceCtorEq, Try.f85]
        rw [execL_inLoop]
        simp (maxSteps := 1000000) (implicitDefEqProofs := false) (disch := first | rfl | omega | assumption) only [go_sem, g1, g2, g4, g5, g17, g18, ltT, ltF, leT, leF, hk', s1, s2, h0, h1, k0, k1, m0, m1, x0, x1, x2, z2, z3, a2, a5, b2, b5, u1, u2, u3]
        rw [execL_inLoop]
        simp (maxSteps := 1000000) (implicitDefEqProofs := false) (disch := first | rfl | omega | assumption) only [go_sem, g1, g2, g4, g5, g17, g18, ltT, ltF, leT, leF, hk', s1, s2, h0, h1, k0, k1, m0, m1, x0, x1, x2, z2, z3, a2, a5, b2, b5, u1, u2, u3]
        rw [execL_inLoop]
        simp (maxSteps := 1000000) (implicitDefEqProofs := false) (disch := first | rfl | omega | assumption) only [go_sem, g1, g2, g4, g5, g17, g18, ltT, ltF, leT, leF, hk', s1, s2, h0, h1, k0, k1, m0, m1, x0, x1, x2, z2, z3, a2, a5, b2, b5, u1, u2, u3]
        rw [execL_inLoop]
        simp (maxSteps := 1000000) (implicitDefEqProofs := false) (disch := first | rfl | omega | assumption) only [go_sem, g1, g2, g4, g5, g17, g18, ltT, ltF, leT, leF, hk', s1, s2, h0, h1, k0, k1, m0, m1, x0, x1, x2, z2, z3, a2, a5, b2, b5, u1, u2, u3]
        exact key _ (by exact g1) (by exact g2) (by exact g4) (by exact g5) (by exact g17) (by rfl)
      · rw [c1] at m1
        have e : polB s j bj = z1 bj := by simp only [polB, c0, c1, if_true, Bool.false_eq_true, if_false]
        rw [e] at key
        simp only [loopIt, todoPast, todoAt, todoOf, firstReg, ↓reduceIte, Option.some.injEq, Nat.reduceEqDiff, reduceCtorEq, Try.f85]
        rw [execL_inLoop]
        simp (maxSteps := 1000000) (implicitDefEqProofs := false) (disch := first | rfl | omega | assumption) only [go_sem, g1, g2, g4, g5, g17, g18, ltT, ltF, leT, leF, hk', s1, s2, h0, h1, k0, k1, m0, m1, x0, x1, x2, z2, z3, a2, a5, b2, b5, u1, u2, u3]
        rw [execL_inLoop]
        simp (maxSteps := 1000000) (implicitDefEqProofs := false) (disch := first | rfl | omega | assumption) only [go_sem, g1, g2, g4, g5, g17, g18, ltT, ltF, leT, leF, hk', s1, s2, h0, h1, k0, k1, m0, m1, x0, x1, x2, z2, z3, a2, a5, b2, b5, u1, u2, u3]
        rw [execL_inLoop]
        simp (maxSteps := 1000000) (implicitDefEqProofs := false) (disch := first | rfl | omega | assumption) only [go_sem, g1, g2, g4, g5, g17, g18, ltT, ltF, leT, leF, hk', s1, s2, h0, h1, k0, k1, m0, m1, x0, x1, x2, z2, z3, a2, a5, b2, b5, u1, u2, u3]
        rw [execL_inLoop]
        simp (maxSteps := 1000000) (implicitDefEqProofs := false) (disch := first | rfl | omega | assumption) only [go_sem, g1, g2, g4, g5, g17, g18, ltT, ltF, leT, leF, hk', s1, s2, h0, h1, k0, k1, m0, m1, x0, x1, x2, z2, z3, a2, a5, b2, b5, u1, u2, u3]
        exact key _ (by exact g1) (by exact g2) (by exact g4) (by exact g5) (by exact g17) (by rfl)
    · rw [c0] at m0
      cases c1 : s.testBit (2 * j + 1)
      · rw [c1] at m1
        have e : polB s j bj = z0 bj := by simp only [polB, c0, c1, if_true, Bool.false_eq_true, if_false]
        rw [e] at key
        simp only [loopIt, todoPast, todoAt, todoOf, firstReg, ↓reduceIte, Option.some.injEq, Nat.reduceEqDiff, reduceCtorEq, Try.f85]
        rw [execL_inLoop]
        simp (maxSteps := 1000000) (implicitDefEqProofs := false) (disch := first | rfl | omega | assumption) only [go_sem, g1, g2, g4, g5, g17, g18, ltT, ltF, leT, leF, hk', s1, s2, h0, h1, k0, k1, m0, m1, x0, x1, x2, z2, z3, a2, a5, b2, b5, u1, u2, u3]
        rw [execL_inLoop]
        simp (maxSteps := 1000000) (implicitDefEqProofs := false) (disch := first | rfl | omega | assumption) only [go_sem, g1, g2, g4, g5, g17, g18, ltT, ltF, leT, leF, hk', s1, s2, h0, h1, k0, k1, m0, m1, x0, x1, x2, z2, z3, a2, a5, b2, b5, u1, u2, u3]
        rw [execL_inLoop]
        simp (maxSteps := 1000000) (implicitDefEqProofs := false) (disch := first | rfl | omega | assumption) only [go_sem, g1, g2, g4, g5, g17, g18, ltT, ltF, leT, leF, hk', s1, s2, h0, h1, k0, k1, m0, m1, x0, x1, x2, z2, z3, a2, a5, b2, b5, u1, u2, u3]
        rw [execL_inLoop]
        simp (maxSteps := 1000000) (implicitDefEqProofs := false) (disch := first | rfl | omega | assumption) only [go_sem, g1, g2, g4, g5, g17, g18, ltT, ltF, leT, leF, hk', s1, s2, h0, h1, k0, k1, m0, m1, x0, x1, x2, z2, z3, a2, a5, b2, b5, u1, u2, u3]
        exact key _ (by exact g1) (by exact g2) (by exact g4) (by exact g5) (by exact g17) (by rfl)
      · rw [c1] at m1
        have e : polB s j bj = z1 (z0 bj) := by simp only [polB, c0, c1, if_true, Bool.false_eq_true, if_false]
        rw [e] at key
        simp only [loopIt, todoPast, todoAt, todoOf, firstReg, ↓reduceIte, Option.some.injEq, Nat.reduceEqDiff, reduceCtorEq, Try.f85]
        rw [execL_inLoop]
        simp (maxSteps := 1000000) (implicitDefEqProofs := false) (disch := first | rfl | omega | assumption) only [go_sem, g1, g2, g4, g5, g17, g18, ltT, ltF, leT, leF, hk', s1, s2, h0, h1, k0, k1, m0, m1, x0, x1, x2, z2, z3, a2, a5, b2, b5, u1, u2, u3]
        rw [execL_inLoop]
        simp (maxSteps := 1000000) (implicitDefEqProofs := false) (disch := first | rfl | omega | assumption) only [go_sem, g1, g2, g4, g5, g17, g18, ltT, ltF, leT, leF, hk', s1, s2, h0, h1, k0, k1, m0, m1, x0, x1, x2, z2, z3, a2, a5, b2, b5, u1, u2, u3]
        rw [execL_inLoop]
        simp (maxSteps := 1000000) (implicitDefEqProofs := false) (disch := first | rfl | omega | assumption) only [go_sem, g1, g2, g4, g5, g17, g18, ltT, ltF, leT, leF, hk', s1, s2, h0, h1, k0, k1, m0, m1, x0, x1, x2, z2, z3, a2, a5, b2, b5, u1, u2, u3]
        rw [execL_inLoop]
        simp (maxSteps := 1000000) (implicitDefEqProofs := false) (disch := first | rfl | omega | assumption) only [go_sem, g1, g2, g4, g5, g17, g18, ltT, ltF, leT, leF, hk', s1, s2, h0, h1, k0, k1, m0, m1, x0, x1, x2, z2, z3, a2, a5, b2, b5, u1, u2, u3]
        exact key _ (by exact g1) (by exact g2) (by exact g4) (by exact g5) (by exact g17) (by rfl)

theorem polF_len (s : Nat) : ∀ (q j : Nat) (L : List Bk), (foldF (polS s) L j q).length = L.length
  | 0, _, _ => rfl
  | q + 1, j, L => by rw [foldF, polF_len s q, polS_len]

theorem polF_at (s i : Nat) : ∀ (q j : Nat) (L : List Bk), j + q ≤ L.length → (foldF (polS s) L j q).getD i bk0 = if j ≤ i ∧ i < j + q then polB s i (L.getD i bk0) else L.getD i bk0
  | 0, j, L, h => by
    rw [if_neg (by omega)]; rfl
  | q + 1, j, L, h => by
    rw [foldF, polF_at s i q (j + 1) (polS s L j) (by rw [polS_len]; omega)]
    have e : (polS s L j).getD i bk0 = if j = i then polB s i (L.getD i bk0) else L.getD i bk0 := by
      by_cases hji : j = i
      · subst hji
        rw [if_pos rfl, polS, getD_set L (by omega)]
      · rw [if_neg hji]
        simp [polS, List.getElem?_set_ne hji]
    rw [e]
    by_cases h1 : j = i
    · subst h1
      rw [if_neg (by omega), if_pos rfl, if_pos (by omega)]
    · rw [if_neg h1]
      by_cases h2 : j + 1 ≤ i ∧ i < j + 1 + q
      · rw [if_pos h2, if_pos (by omega)]
      · rw [if_neg h2, if_neg (by omega)]

/-- A wring, some of whose faces were polished. -/
def Wg.pol (w : Wg) (s : Nat) : Wg := ⟨polL s w.bs, w.ps⟩
theorem pol_n (w : Wg) (s : Nat) : (w.pol s).bs.length = w.bs.length := polF_len s _ _ _
theorem pol_b (w : Wg) (s : Nat) {i : Nat} (h : i < w.bs.length) : (w.pol s).b i = polB s i (w.b i) := by
  have := polF_at s i w.bs.length 0 w.bs (by omega)
  rw [if_pos (by omega)] at this
  exact this

theorem polB_keep (s i : Nat) (b : Bk) : (polB s i b).lo = b.lo ∧ (polB s i b).hi = b.hi ∧ (polB s i b).f0.lo = b.f0.lo ∧ (polB s i b).f0.hi = b.f0.hi ∧ (polB s i b).f1.lo = b.f1.lo ∧ (polB s i b).f1.hi = b.f1.hi ∧ (polB s i b).f0.st = (if s.testBit (2 * i) then 0 else b.f0.st) ∧ (polB s i b).f1.st = (if s.testBit (2 * i + 1) then 0 else b.f1.st) := by
  simp only [polB]
  cases s.testBit (2 * i) <;> cases s.testBit (2 * i + 1) <;> simp [z0, z1]

theorem pol_ok {w : Wg} (ho : w.Ok) (s : Nat) : (w.pol s).Ok := by
  have hn := pol_n w s
  refine ⟨by simp only [Wg.n, hn]; exact ho.n, ho.np, fun i hi => ?_, fun i hi => ?_, fun i hi => ?_, fun i hi => ?_⟩
  · simp only [Wg.n, hn] at hi
    obtain ⟨k1, k2, -⟩ := polB_keep s i (w.b i)
    rw [pol_b w s hi, k1, k2]
    exact ho.sp i hi
  · simp only [Wg.n, hn] at hi
    obtain ⟨-, -, k1, k2, -, -, k3, -⟩ := polB_keep s i (w.b i)
    have h0 := ho.f0 i hi
    rw [pol_b w s hi]
    refine ⟨by rw [k1, k2]; exact h0.sp, ?_⟩
    rw [k3]
    split
    · omega
    · exact h0.st
  · simp only [Wg.n, hn] at hi
    obtain ⟨-, -, -, -, k1, k2, -, k3⟩ := polB_keep s i (w.b i)
    have h0 := ho.f1 i hi
    rw [pol_b w s hi]
    refine ⟨by rw [k1, k2]; exact h0.sp, ?_⟩
    rw [k3]
    split
    · omega
    · exact h0.st
  · have := ho.ap i hi
    simp only [Wg.n] at this ⊢
    rw [hn]
    exact this

def bkV (L : List Bk) : AV := .sl false (L.map Bk.av)

theorem pol_at {w : Wg} {vb va : AV} (h : WgAt H w vb va) (s : Nat) : WgAt H (w.pol s) (bkV (w.pol s).bs) va := ⟨⟨rfl, fun x hx => by obtain ⟨i, _, rfl⟩ := List.mem_map.1 hx; rfl⟩, h.ps⟩

theorem wr_polished {w : Wg} {vb va : AV} (h : WgAt H w vb va) (hl : w.bs.length ≤ 5) (s : Nat) (hs : s < 1024) :
    callFL cfg0 prog0 false 85 [.agg [vb, va], U s] H none = some ⟨.ret (.agg [bkV (w.pol s).bs, va]), H, none⟩ := by
  have s1 := h.bs.scal
  have s2 := h.ps.scal
  have n1 := h.bs.len
  rw [List.length_map] at n1
  have c1 := h.bs.cel
  have he := fun G : Heap => (h.bs.app G).elems
  have he2 : ltL 0 (w.bs.map Bk.av) = true := ltL_map (fun _ => rfl) _
  have he3 := elemsOk_map (f := Bk.av) (sz := 8) (a := true) (fun _ => rfl) w.bs
  have h1 := pol_loop (H := H) (vb := vb) s1 s2 h.ps.lt0 (fun A => h.ps.sld A) s hs w.bs.length hl (polL s w.bs) w.bs.length 0 (by omega) w.bs rfl rfl
  have e1 : bkV (w.pol s).bs = .sl false ((polL s w.bs).map Bk.av) := rfl
  rw [e1]
  refine (callFL_eq fn85 rfl (by simp [Try.f85])).trans ?_
  simp (maxSteps := 1000000) (implicitDefEqProofs := false) (disch := first | rfl | omega | assumption) only [go_sem, ltT, ltF, leT, leF, s1, s2, n1, c1, evCopy, he, he2, he3, List.length_replicate]
  exact h1 _ (by rfl) (by rfl) (by rfl) (by rfl) (by rfl) (by rfl)

end Go.Ab
/-
  Polish.
-/
namespace Go.Ab
open Go.Proofs
set_option linter.unusedSimpArgs false
set_option linter.unusedVariables false
set_option maxRecDepth 100000
set_option maxHeartbeats 2000000

variable {H : Heap}


/-- Whether all blocks can be wrung with some faces polished. -/
def Wg.canP (w : Wg) (s : Nat) : Bool := decide (0 < ((w.pol s).tal false ⟨2 ^ w.bs.length - 1, pc0, false⟩).1)

theorem wr_pol2 {w : Wg} {vb va : AV} {l m pa pb : Nat} {b : Bool} (hS : ShAt H l m w b vb va) (ho : w.Ok) (hA : H[pa]? = some (.box (.agg [vb, va]))) (hB : H[pb]? = some (.box (.ptr l 0))) (s : Nat) (hs : s < 1024) :
    callFL cfg0 prog0 false 84 [U s, .ptr pa 0, .ptr pb 0] H none = some ⟨.ret (.bool (w.canP s)), H, none⟩ := by
  have h5 := ho.n.2
  simp only [Wg.n] at h5
  have hp := wr_polished hS.wat h5 s hs
  have hpk := pol_ok ho s
  have hO := wr_openA (pol_at hS.wat s) ⟨by rw [pol_n]; omega, by have := ho.np; simp only [Wg.pol]; omega⟩ (((w.pol s).valid_iff).2 hpk)
  have hAl := fun G => wr_all (hS.app G) ho.n.2
  have hC := wr_can (opG_at (pol_at hS.wat s)) hpk (s := 2 ^ w.bs.length - 1) (by rw [pol_n]; exact full_lt w)
  have e : w.canP s = decide (0 < ((w.pol s).tal false ⟨2 ^ w.bs.length - 1, pc0, false⟩).1) := rfl
  rw [← e] at hC
  simp only [opG, Wg.n] at hO hAl hC
  have lA := (List.getElem?_eq_some_iff.1 hA).1
  have lB := (List.getElem?_eq_some_iff.1 hB).1
  have hB' := fun G : Heap => (by rw [List.getElem?_append_left lB]; exact hB : (H ++ G)[pb]? = some (.box (.ptr l 0)))
  refine (callFL_eq fn84 rfl (by simp [Try.f84])).trans ?_
  simp (maxSteps := 1000000) (implicitDefEqProofs := false) (disch := first | rfl | omega | assumption) only [go_sem, ltT, ltF, leT, leF, hA, hB]
  rw [chkK_of]; rotate_left; kernel_rfl
  simp (maxSteps := 1000000) (implicitDefEqProofs := false) (disch := first | rfl | omega | assumption) only [go_sem, ltT, ltF, leT, leF, hA, hB, hB', hp, hO, hAl, hC]
  done

def Wg.polishS (w : Wg) : Option Nat := firstF w.canP (setL (2 * w.bs.length)) 0 (setL (2 * w.bs.length)).length
/-- What Polish answers. -/
def Wg.polish (w : Wg) : Int × Int × Int := if w.valid then (match w.polishS with
  | some x => ((pop x : Nat), (x : Nat), 0)
  | none => (0, 0, 4)) else (0, 0, 1)

theorem wr_Polish {w : Wg} {vb va : AV} (h : WgAt H w vb va) (hl : w.bs.length ≤ 1000 ∧ w.ps.length ≤ 1000) :
    callFL cfg0 prog0 false 31 [.agg [vb, va]] H none = some ⟨.ret (.tup [I w.polish.1, I w.polish.2.1, I w.polish.2.2]), H, none⟩ := by
  have s1 := h.bs.scal
  have s2 := h.ps.scal
  have n1 := h.bs.len
  rw [List.length_map] at n1
  have c1 := h.bs.cel
  have hN := fun G => wd_Polishn (H.length + 1) G
  have hD := fun (e : Int) (a : AO) (G : Heap) => wd_Polishs (H.length + 1) e 0 (H ++ (a :: .box (I 0) :: G)) (by rw [get_at' 1]; rfl)
  simp only [Wg.polish]
  cases hv : w.valid
  · have hO := wr_openX (h.app [.box (.agg [vb, va]), .box (I 0)]) hl hv
    simp only [Bool.false_eq_true, if_false]
    refine (callFL_eq fn31 rfl (by simp [Try.f31])).trans ?_
    simp (maxSteps := 1000000) (implicitDefEqProofs := false) (disch := first | rfl | omega | assumption) only [go_sem, ltT, ltF, leT, leF, s1, s2, hO, hD]
    done
  have ho := w.valid_iff.1 hv
  have h5 := ho.n.2
  simp only [Wg.n] at h5
  have hp2 : (2 : Nat) ^ (2 * w.bs.length) ≤ 2 ^ 10 := Nat.pow_le_pow_right (by omega) (by omega)
  have hO := wr_openA (h.app [.box (.agg [vb, va]), .box (I 0)]) hl hv
  have hS := opG_in (H := H) (G0 := [.box (.agg [vb, va]), .box (I 0)]) (n := H.length + 2) (by simp) h
  have hSe := fun G => wr_sets (2 * w.bs.length) (by omega) G
  have hsl : SlOk (H ++ [.box (.agg [vb, va]), .box (I 0), .box (.agg [vb, va]), .map 71 (apM w.ps), .box (.agg (shC vb va (fcsN w.b) (vwA false) (H.length + 3))), .box (.ptr (H.length + 4) 0), .grow 1 ((setL (2 * w.bs.length)).map U)]) 1 (.gsl (H.length + 6) (2 ^ (2 * w.bs.length))) ((setL (2 * w.bs.length)).map U) :=
    ⟨⟨by rw [get_at']; rfl, by rw [List.length_map, setL_len]⟩, fun x hx => by obtain ⟨i, _, rfl⟩ := List.mem_map.1 hx; rfl⟩
  have hF := wr_firstU hsl (by rw [setL_len]; omega) (.func 84) [] [.ptr H.length 0, .ptr (H.length + 5) 0] w.canP rfl (fun j G hj => by
    have hc := wr_pol2 (pa := H.length) (pb := H.length + 5) (hS (.box (.ptr (H.length + 4) 0) :: .grow 1 ((setL (2 * w.bs.length)).map U) :: G)) ho (by rw [get_at]; rfl) (by rw [get_at' 5]; rfl) ((setL (2 * w.bs.length)).getD j 0) (by have := setL_lt (2 * w.bs.length) j hj; omega)
    rw [callVL_func]
    simp only [opG, List.append_assoc, List.cons_append, List.nil_append, Nat.add_assoc, Nat.reduceAdd] at hc ⊢
    exact hc)
  have hmS : w.polishS = firstF w.canP (setL (2 * w.bs.length)) 0 (setL (2 * w.bs.length)).length := rfl
  rw [← hmS] at hF
  have x0 : IntKind.i64.wrap (2 * (w.bs.length : Int)) = ((2 * w.bs.length : Nat) : Int) := by rw [w64 (by omega) (by omega)]; omega
  simp only [if_true]
  simp only [opG, List.length_append, List.length_cons, List.length_nil, Nat.zero_add, Nat.reduceAdd, Nat.add_assoc, List.append_assoc, List.cons_append, List.nil_append, List.append_nil] at hO ⊢
  cases hm : w.polishS with
  | none =>
    rw [hm] at hF
    simp only [firA] at hF ⊢
    refine (callFL_eq fn31 rfl (by simp [Try.f31])).trans ?_
    simp (maxSteps := 1000000) (implicitDefEqProofs := false) (disch := first | rfl | omega | assumption) only [go_sem, ltT, ltF, leT, leF, s1, s2, hO]
    simp (maxSteps := 1000000) (implicitDefEqProofs := false) (disch := first | rfl | omega | assumption) only [go_sem, ltT, ltF, leT, leF, s1, s2, n1, c1, x0, hO, hSe, hF, wr_must, hD]
    done
  | some x =>
    rw [hm] at hF
    have hxl := firstF_lt (setL_lt (2 * w.bs.length)) (hmS.symm.trans hm)
    have hOn := fun G : Heap => ones (H := G) (x := x) (by omega)
    simp only [firA] at hF ⊢
    refine (callFL_eq fn31 rfl (by simp [Try.f31])).trans ?_
    simp (maxSteps := 1000000) (implicitDefEqProofs := false) (disch := first | rfl | omega | assumption) only [go_sem, ltT, ltF, leT, leF, s1, s2, hO]
    simp (maxSteps := 1000000) (implicitDefEqProofs := false) (disch := first | rfl | omega | assumption) only [go_sem, ltT, ltF, leT, leF, s1, s2, n1, c1, x0, hO, hSe, hF, hOn, wr_must, hN]
    done

end Go.Ab
/-
  The reference, walked: Most, Polished, Polish.
-/
namespace Go.Ab
open Go.Proofs
set_option linter.unusedSimpArgs false
set_option linter.unusedVariables false
set_option maxRecDepth 100000
set_option maxHeartbeats 2000000

variable {H : Heap}


def mostF (w : Wg) (m : Nat) (j q : Nat) : Nat := foldF (fun m i => if decide (pop m < pop i) && w.canS i then i else m) m j q

/-- What the reference's Most answers. -/
def Wg.mostR (w : Wg) : Nat := mostF w 1 1 (2 ^ w.bs.length - 1)

/-! ### Polished -/

theorem polB_two (s i : Nat) (b : Bk) : polB s i b = if s.testBit (2 * i + 1) then z1 (if s.testBit (2 * i) then z0 b else b) else if s.testBit (2 * i) then z0 b else b := rfl

theorem polL_eq (w : Wg) (s : Nat) : (w.pol s).bs = (List.range w.bs.length).map fun i => polB s i (w.b i) := by
  apply List.ext_getElem
  · rw [pol_n]; simp
  · intro i h1 h2
    have hi : i < w.bs.length := by rw [← pol_n w s]; exact h1
    have := pol_b w s hi
    simp only [Wg.b] at this
    rw [List.getElem_map, List.getElem_range, ← this]
    simp [h1]

theorem rp_in (s : Nat) (hs : s < 2 ^ 60) {l4 : AO} (i : Nat) (hi : i ≤ 10) (bi : Bk) (acc : List Bk) {vb va : AV} (s1 : vb.scalar = true) (s2 : va.scalar = true) (r : Bk) (K : List Item) (R : Option Done) (hK : ∀ E : Env, E.get 1 = I s → E.get 2 = .ptr H.length 0 → E.get 4 = .ptr (H.length + 1) 0 → E.get 5 = .ptr (H.length + 2) 0 → E.get 6 = I i → E.get 7 = .ptr (H.length + 4) 0 → Option.map (finishC H.length) (execL cfg0 prog0 ⟨47, none, false, H.length⟩ K ⟨E, [], H ++ [.box (.agg [vb, va]), l4, .box (.agg [.gsl (H.length + 3) acc.length, va]), .grow 8 (acc.map Bk.av), .box r.av], none⟩) = R)  :
    ∀ (q j : Nat), j + q = 2 → ∀ (b : Bk), b = (if 2 ≤ j then polB s i bi else if 1 ≤ j then (if s.testBit (2 * i) then z0 bi else bi) else bi) → polB s i bi = r → ∀ E : Env, E.get 1 = I s → E.get 2 = .ptr H.length 0 → E.get 4 = .ptr (H.length + 1) 0 → E.get 5 = .ptr (H.length + 2) 0 → E.get 6 = I i → E.get 7 = .ptr (H.length + 4) 0 → E.get 8 = I j →
    Option.map (finishC H.length) (execL cfg0 prog0 ⟨47, none, false, H.length⟩ (loopIt Try.f47 7 :: .inBlock 2 :: K) ⟨E, [], H ++ [.box (.agg [vb, va]), l4, .box (.agg [.gsl (H.length + 3) acc.length, va]), .grow 8 (acc.map Bk.av), .box b.av], none⟩) = R := by
  intro q
  skip
  induction q with
  | zero =>
    intro j hj b hb hr E g1 g2 g4 g5 g6 g7 g8
    have hk' : ¬ (j : Int) < ((2 : Nat) : Int) := by omega
    have ej : j = 2 := by omega
    subst ej
    rw [if_pos (by omega), hr] at hb
    subst hb
    simp only [loopIt, todoPast, todoAt, todoOf, firstReg, ↓reduceIte, Option.some.injEq, Nat.reduceEqDiff, reduceCtorEq, Try.f47]
    rw [execL_inLoop]
    simp (maxSteps := 1000000) (implicitDefEqProofs := false) (disch := first | rfl | omega | assumption) only [go_sem, g1, g2, g4, g5, g6, g7, g8, ltT, ltF, leT, leF, hk']
    exact hK _ (by exact g1) (by exact g2) (by exact g4) (by exact g5) (by exact g6) (by exact g7)
  | succ q ih =>
    intro j hj b hb hr E g1 g2 g4 g5 g6 g7 g8
    have hk' : (j : Int) < ((2 : Nat) : Int) := by omega
    have hk2 : j < 2 := by omega
    have x0 : IntKind.i64.wrap (2 * (i : Int)) = ((2 * i : Nat) : Int) := by rw [w64 (by omega) (by omega)]; omega
    have x1 : IntKind.i64.wrap (((2 * i : Nat) : Int) + (j : Int)) = ((2 * i + j : Nat) : Int) := by rw [w64 (by omega) (by omega)]; omega
    have hH := fun G : Heap => ref_Has (H := G) (s := s) (n := 2 * i + j) hs (by omega)
    have hj2 : j = 0 ∨ j = 1 := by omega
    cases c : s.testBit (2 * i + j)
    · rw [c] at hH
      have hb' : b = (if 2 ≤ j + 1 then polB s i bi else if 1 ≤ j + 1 then (if s.testBit (2 * i) then z0 bi else bi) else bi) := by
        rcases hj2 with rfl | rfl
        · simp only [Nat.add_zero] at c
          simpa [c] using hb
        · rw [hb]; simp [polB_two, c]
      clear hb
      obtain ⟨lo, hi', ⟨a1, a2, a3⟩, ⟨b1, b2, b3⟩⟩ := b
      simp only [Bk.av]
      simp only [loopIt, todoPast, todoAt, todoOf, firstReg, ↓reduceIte, Option.some.injEq, Nat.reduceEqDiff, reduceCtorEq, Try.f47]
      rw [execL_inLoop]
      simp (maxSteps := 1000000) (implicitDefEqProofs := false) (disch := first | rfl | omega | assumption) only [go_sem, g1, g2, g4, g5, g6, g7, g8, ltT, ltF, leT, leF, hk', x0, x1, hH]
      have key := ih (j + 1) (by omega) _ hb' hr
      exact key _ (by exact g1) (by exact g2) (by exact g4) (by exact g5) (by exact g6) (by exact g7) (by rfl)
    · rw [c] at hH
      rcases hj2 with rfl | rfl
      · simp only [Nat.add_zero] at c
        have hb' : z0 b = (if 2 ≤ 0 + 1 then polB s i bi else if 1 ≤ 0 + 1 then (if s.testBit (2 * i) then z0 bi else bi) else bi) := by
          rw [hb]; simp [c]
        clear hb
        have key := ih (0 + 1) (by omega) _ hb' hr
        obtain ⟨lo, hi', ⟨a1, a2, a3⟩, ⟨b1, b2, b3⟩⟩ := b
        simp only [Bk.av, z0] at key ⊢
        have e0 : ((2 * i : Nat) : Int) + 0 = ((2 * i : Nat) : Int) := by omega
        simp only [Nat.add_zero] at hH
        simp only [loopIt, todoPast, todoAt, todoOf, firstReg, ↓reduceIte, Option.some.injEq, Nat.reduceEqDiff, reduceCtorEq, Try.f47]
        rw [execL_inLoop]
        simp (maxSteps := 1000000) (implicitDefEqProofs := false) (disch := first | rfl | omega | assumption) only [go_sem, g1, g2, g4, g5, g6, g7, g8, ltT, ltF, leT, leF, hk', x0, e0, hH]
        exact key _ (by exact g1) (by exact g2) (by exact g4) (by exact g5) (by exact g6) (by exact g7) (by rfl)
      · have hb' : z1 b = (if 2 ≤ 1 + 1 then polB s i bi else if 1 ≤ 1 + 1 then (if s.testBit (2 * i) then z0 bi else bi) else bi) := by
          rw [hb]; simp [polB_two, c]
        clear hb
        have key := ih (1 + 1) (by omega) _ hb' hr
        obtain ⟨lo, hi', ⟨a1, a2, a3⟩, ⟨b1, b2, b3⟩⟩ := b
        simp only [Bk.av, z1] at key ⊢
        have e0 : ((2 * i : Nat) : Int) + 1 = ((2 * i + 1 : Nat) : Int) := by omega
        simp only [loopIt, todoPast, todoAt, todoOf, firstReg, ↓reduceIte, Option.some.injEq, Nat.reduceEqDiff, reduceCtorEq, Try.f47]
        rw [execL_inLoop]
        simp (maxSteps := 1000000) (implicitDefEqProofs := false) (disch := first | rfl | omega | assumption) only [go_sem, g1, g2, g4, g5, g6, g7, g8, ltT, ltF, leT, leF, hk', x0, e0, hH]
        exact key _ (by exact g1) (by exact g2) (by exact g4) (by exact g5) (by exact g6) (by exact g7) (by rfl)

def polUp (w : Wg) (s j : Nat) : List Bk := (List.range j).map fun i => polB s i (w.b i)

theorem rp_out {w : Wg} {vb va : AV} (h : WgAt H w vb va) (hw : w.bs.length ≤ 5) (s : Nat) (hs : s < 2 ^ 60) {l4 : AO} (hl4 : l4 = .box (.agg [.sl true [], .sl true []])) :
    ∀ (q j : Nat), j + q = w.bs.length → ∀ (G : Heap), ∀ (acc : List Bk), acc = polUp w s j → ∀ E : Env, E.get 1 = I s → E.get 2 = .ptr H.length 0 → E.get 4 = .ptr (H.length + 1) 0 → E.get 5 = .ptr (H.length + 2) 0 → E.get 6 = I j →
    Option.map (finishC H.length) (execL cfg0 prog0 ⟨47, none, false, H.length⟩ (todoAt Try.f47 3) ⟨E, [], H ++ (.box (.agg [vb, va]) :: l4 :: .box (.agg [.gsl (H.length + 3) acc.length, va]) :: .grow 8 (acc.map Bk.av) :: G), none⟩) = some ⟨.ret (.agg [bkV (w.pol s).bs, va]), H, none⟩ := by
  intro q
  have s1 := h.bs.scal
  have s2 := h.ps.scal
  have n1 := h.bs.len
  rw [List.length_map] at n1
  have c1 := h.bs.cel
  have t1 := h.bs.ltn 4
  have t2 := h.ps.ltn 4
  have t3 := h.bs.lt0
  have t4 := h.ps.lt0
  have hsv := fun A : Heap => h.ps.sld A
  induction q with
  | zero =>
    intro j hj G acc hacc E g1 g2 g4 g5 g6
    have hk' : ¬ (j : Int) < ((w.bs.length : Nat) : Int) := by omega
    have ej : j = w.bs.length := by omega
    subst ej
    rw [polUp, ← polL_eq] at hacc
    subst hl4
    have la : (acc.map Bk.av).length = acc.length := List.length_map _
    have m3 : ltL H.length (acc.map Bk.av) = true := ltL_map (fun _ => rfl) acc
    have m4 : ltL 0 (acc.map Bk.av) = true := ltL_map (fun _ => rfl) acc
    have m5 : ltL (H.length + 4) (acc.map Bk.av) = true := ltL_map (fun _ => rfl) acc
    have e1 : bkV (w.pol s).bs = .sl false (acc.map Bk.av) := by rw [hacc]; rfl
    simp only [loopIt, todoPast, todoAt, todoOf, firstReg, ↓reduceIte, Option.some.injEq, Nat.reduceEqDiff, reduceCtorEq, Try.f47]
    rw [execL_inLoop]
    rw [e1]
    simp (maxSteps := 1000000) (implicitDefEqProofs := false) (disch := first | rfl | omega | assumption) only [go_sem, g1, g2, g4, g5, g6, ltT, ltF, leT, leF, hk', s1, s2, n1, c1, t1, t2, t3, t4, la, m3, m4, m5, hsv]
    done
  | succ q ih =>
    intro j hj G acc hacc E g1 g2 g4 g5 g6
    have hk' : (j : Int) < ((w.bs.length : Nat) : Int) := by omega
    have hk2 : j < w.bs.length := by omega
    subst hl4
    have m4 : ltL 0 (acc.map Bk.av) = true := ltL_map (fun _ => rfl) acc
    have f1 := @SlOk.fF (H ++ [.box (.agg [vb, va]), .box (.agg [.sl true [], .sl true []]), .box (.agg [.gsl (H.length + 3) acc.length, va]), .grow 8 (acc.map Bk.av)]) Bk Bk.av bk0 8 vb w.bs (h.bs.app _)
    obtain ⟨a1, a2, a3, a4, a5⟩ := f1
    obtain ⟨x, hxx⟩ : ∃ x, w.bs.getD j bk0 = x := ⟨_, rfl⟩
    obtain ⟨y, hyy⟩ : ∃ y, polB s j x = y := ⟨_, rfl⟩
    have hacc' : acc ++ [y] = polUp w s (j + 1) := by
      rw [hacc, ← hyy, ← hxx]
      simp [polUp, List.range_succ, Wg.b]
    have key := fun G => ih (j + 1) (by omega) G (acc ++ [y]) hacc'
    have hav : ∀ x : Bk, x.av.cells = [I x.lo, I x.hi, I x.f0.lo, I x.f0.hi, I x.f0.st, I x.f1.lo, I x.f1.hi, I x.f1.st] := fun _ => rfl
    have haz : ∀ x : Bk, x.av = .agg [I x.lo, I x.hi, I x.f0.lo, I x.f0.hi, I x.f0.st, I x.f1.lo, I x.f1.hi, I x.f1.st] := fun _ => rfl
    have hadd : ∀ (o0 o1 o2 : AO) (G : Heap) (y : Bk), addElem (H ++ (o0 :: o1 :: o2 :: .grow 8 (acc.map Bk.av) :: G)) 8 true (.gsl (H.length + 3) acc.length) [y.av] = some (.gsl (H.length + 3) (acc.length + 1), H ++ (o0 :: o1 :: o2 :: .grow 8 ((acc ++ [y]).map Bk.av) :: G)) := fun o0 o1 o2 G y => by
      rw [add_gsl (xs := acc.map Bk.av) (by rw [get_at']; rfl) (by simp) (by rfl) (by rfl) (by
        have : acc.length = j := by rw [hacc]; simp [polUp]
        simp; omega), set_at']
      simp
    have hal : (acc ++ [y]).length = acc.length + 1 := by simp
    rw [hal] at key
    simp only [loopIt, todoPast, todoAt, todoOf, firstReg, ↓reduceIte, Option.some.injEq, Nat.reduceEqDiff, reduceCtorEq, Try.f47]
    rw [execL_inLoop]
    simp (maxSteps := 1000000) (implicitDefEqProofs := false) (disch := first | rfl | omega | assumption) only [go_sem, g1, g2, g4, g5, g6, ltT, ltF, leT, leF, hk', s1, s2, n1, c1, t1, t2, m4, a1, a2, a3, a4, a5, hxx, hav]
    refine rp_in s hs j (by omega) x acc s1 s2 y _ _ (fun E k1 k2 k4 k5 k6 k7 => ?_) 2 0 (by omega) x (by simp) hyy _ (by rfl) (by rfl) (by rfl) (by rfl) (by rfl) (by rfl) (by rfl)
    have hadd' := fun (o0 o1 o2 : AO) (G : Heap) => hadd o0 o1 o2 G y
    clear hyy hacc' hadd
    obtain ⟨acc', hac'⟩ : ∃ acc', acc ++ [y] = acc' := ⟨_, rfl⟩
    rw [hac'] at key hadd'
    clear hac'
    obtain ⟨y1, y2, ⟨y3, y4, y5⟩, ⟨y6, y7, y8⟩⟩ := y
    simp only [Bk.av] at hadd' ⊢
    simp (maxSteps := 1000000) (implicitDefEqProofs := false) (disch := first | rfl | omega | assumption) only [go_sem, g1, g2, g4, g5, g6, hk', k1, k2, k4, k5, k6, k7, hadd', s1, s2]
    exact key _ _ (by exact k1) (by exact k2) (by exact k4) (by exact k5) (by rfl)

theorem ref_Polished {w : Wg} {vb va : AV} (h : WgAt H w vb va) (hw : w.bs.length ≤ 5) (s : Nat) (hs : s < 2 ^ 60) :
    callFL cfg0 prog0 false 47 [.agg [vb, va], I s] H none = some ⟨.ret (.agg [bkV (w.pol s).bs, va]), H, none⟩ := by
  have s1 := h.bs.scal
  have s2 := h.ps.scal
  have t1 := h.bs.ltn 3
  have t2 := h.ps.ltn 3
  have h1 := rp_out h hw s hs rfl w.bs.length 0 (by omega) [] [] rfl
  simp only [List.map_nil, List.length_nil] at h1
  have c2 := h.ps.cel
  refine (callFL_eq fn47 rfl (by simp [Try.f47])).trans ?_
  simp (maxSteps := 1000000) (implicitDefEqProofs := false) (disch := first | rfl | omega | assumption) only [go_sem, ltT, ltF, leT, leF, s1, s2, t1, t2, c2]
  exact h1 _ (by rfl) (by rfl) (by rfl) (by rfl) (by rfl)

def polishF (w : Wg) (m : Nat) (j q : Nat) : Nat := foldF (fun m i => if decide (pop i < pop m) && w.canP i then i else m) m j q

/-- What the reference's Polish answers. -/
def Wg.polishR (w : Wg) : Nat := polishF w (2 ^ (2 * w.bs.length) - 1) 0 (2 ^ (2 * w.bs.length))

end Go.Ab
/-
  The greatest set of blocks, the least one of faces.
-/
namespace Go.Ab
open Go.Proofs
set_option linter.unusedSimpArgs false
set_option linter.unusedVariables false
set_option maxRecDepth 100000
set_option maxHeartbeats 2000000

variable {H : Heap}


theorem jt_zero {w : Wg} {b : Bool} {x y : Pc} : w.jt b x y = 0 ↔ w.ap x.b y.b = false ∧ (w.fa x).st ≤ lvl b ∧ (w.fb y).st ≤ lvl b := by
  simp only [Wg.jt]
  cases w.ap x.b y.b
  · by_cases h1 : (w.fa x).st ≤ lvl b
    · by_cases h2 : (w.fb y).st ≤ lvl b <;> simp [h1, h2]
    · simp [h1]
  · simp

theorem pok_n {w w' : Wg} (hn : w'.bs.length = w.bs.length) {x : Pc} : w'.pok x ↔ w.pok x := by simp only [Wg.pok, Wg.n, hn]
theorem plOk_n {w w' : Wg} (hn : w'.bs.length = w.bs.length) {p : Pl} (h : p.Ok w) : p.Ok w' := ⟨by rw [hn]; exact h.1, fun hs => (pok_n hn).2 (h.2 hs)⟩

theorem goes_mono {w w' : Wg} (ho : w.Ok) {b b' : Bool} (hn : w'.bs.length = w.bs.length) (hj : ∀ x y, w.pok x → w.pok y → w.jt b x y = 0 → w'.jt b' x y = 0) : ∀ (l : List Pc) (p : Pl), p.Ok w → w.goes b p l → w'.goes b' p l
  | [], p, hp, h => h
  | x :: r, p, hp, h => by
    obtain ⟨h1, h2⟩ := h
    obtain ⟨k1, k2, k3⟩ := plL_iff.1 h1
    exact ⟨plL_iff.2 ⟨(pok_n hn).2 k1, k2, fun hs => hj _ _ (hp.top hs) k1 (k3 hs)⟩, goes_mono ho hn hj r (p.next x) (next_ok ho hp h1).1 h2⟩

theorem tal_pos {w : Wg} (ho : w.Ok) {b : Bool} {p : Pl} (hp : p.Ok w) : 0 < (w.tal b p).1 ↔ ∃ l, w.goes b p l := by
  obtain ⟨_, h2, h3⟩ := tal_least ho (b := b) hp
  exact ⟨fun h => by obtain ⟨l, l1, _⟩ := h3 h; exact ⟨l, l1⟩, fun ⟨l, hl⟩ => (h2 l hl).1⟩

theorem pop_small : ∀ k < 11, ∀ x < 2 ^ k, pop x ≤ k ∧ (pop x = k → x = 2 ^ k - 1) := by decide +kernel
theorem pop_full : ∀ k < 11, pop (2 ^ k - 1) = k := by decide +kernel
theorem pop_pos : ∀ x < 1024, pop x = 0 → x = 0 := by decide +kernel
/-! ### Polish -/

theorem fa_pol {w : Wg} (s : Nat) {x : Pc} (hx : w.pok x) : ((w.pol s).fa x).st = if s.testBit (2 * x.b.toNat + x.u.toNat) then 0 else (w.fa x).st := by
  obtain ⟨h1, h2, h3, h4⟩ := hx
  simp only [Wg.n] at h2
  obtain ⟨-, -, -, -, -, -, k1, k2⟩ := polB_keep s x.b.toNat (w.b x.b.toNat)
  simp only [Wg.fa]
  rw [pol_b w s (by omega)]
  have : x.u.toNat = 0 ∨ x.u.toNat = 1 := by omega
  rcases this with e | e
  · rw [e]; simp only [Bk.fc, if_true, Nat.add_zero]; exact k1
  · rw [e]; simp only [Bk.fc, Nat.one_ne_zero, if_false]; exact k2

theorem fb_pol {w : Wg} (s : Nat) {x : Pc} (hx : w.pok x) : ((w.pol s).fb x).st = if s.testBit (2 * x.b.toNat + (1 - x.u.toNat)) then 0 else (w.fb x).st := by
  obtain ⟨h1, h2, h3, h4⟩ := hx
  simp only [Wg.n] at h2
  obtain ⟨-, -, -, -, -, -, k1, k2⟩ := polB_keep s x.b.toNat (w.b x.b.toNat)
  simp only [Wg.fb]
  rw [pol_b w s (by omega)]
  have : x.u.toNat = 0 ∨ x.u.toNat = 1 := by omega
  rcases this with e | e
  · rw [e]; simp only [Bk.fc, Nat.sub_zero, Nat.one_ne_zero, if_false]; exact k2
  · rw [e]; simp only [Bk.fc, Nat.sub_self, if_true, Nat.add_zero]; exact k1

theorem pol_jt {w : Wg} (s s' : Nat) (hss : ∀ i, i < 2 * w.bs.length → s.testBit i = true → s'.testBit i = true) {x y : Pc} (hx : w.pok x) (hy : w.pok y) (h : (w.pol s).jt false x y = 0) : (w.pol s').jt false x y = 0 := by
  obtain ⟨h1, h2, h3⟩ := jt_zero.1 h
  rw [fa_pol s hx] at h2
  rw [fb_pol s hy] at h3
  refine jt_zero.2 ⟨h1, ?_, ?_⟩
  · rw [fa_pol s' hx]
    have := hss (2 * x.b.toNat + x.u.toNat) (by have := hx.1; have := hx.2; simp only [Wg.n] at this; omega)
    cases hb : s'.testBit (2 * x.b.toNat + x.u.toNat)
    · cases hc : s.testBit (2 * x.b.toNat + x.u.toNat)
      · rw [hc] at h2; simpa using h2
      · rw [this hc] at hb; cases hb
    · simp [lvl]
  · rw [fb_pol s' hy]
    have := hss (2 * y.b.toNat + (1 - y.u.toNat)) (by have := hy.1; have := hy.2; simp only [Wg.n] at this; omega)
    cases hb : s'.testBit (2 * y.b.toNat + (1 - y.u.toNat))
    · cases hc : s.testBit (2 * y.b.toNat + (1 - y.u.toNat))
      · rw [hc] at h3; simpa using h3
      · rw [this hc] at hb; cases hb
    · simp [lvl]

theorem canP_iff {w : Wg} (ho : w.Ok) (s : Nat) : w.canP s = true ↔ ∃ l, (w.pol s).goes false w.full l := by
  simp only [Wg.canP, decide_eq_true_eq]
  exact tal_pos (pol_ok ho s) (p := w.full) (plOk_n (pol_n w s) (full_ok w))

theorem canP_mono {w : Wg} (ho : w.Ok) {s s' : Nat} (hss : ∀ i, i < 2 * w.bs.length → s.testBit i = true → s'.testBit i = true) (h : w.canP s = true) : w.canP s' = true := by
  obtain ⟨l, hl⟩ := (canP_iff ho s).1 h
  refine (canP_iff ho s').2 ⟨l, goes_mono (pol_ok ho s) (by rw [pol_n, pol_n]) (fun x y hx hy => pol_jt s s' hss ((pok_n (pol_n w s)).1 hx) ((pok_n (pol_n w s)).1 hy)) l w.full (plOk_n (pol_n w s) (full_ok w)) hl⟩

theorem canP_every {w : Wg} (ho : w.Ok) {s : Nat} (h : w.canP s = true) : w.canP (2 ^ (2 * w.bs.length) - 1) = true :=
  canP_mono ho (fun i hi _ => by rw [Nat.testBit_two_pow_sub_one, decide_eq_true hi]) h

theorem polishR_is {w : Wg} (ho : w.Ok) (hc : w.canP (2 ^ (2 * w.bs.length) - 1) = true) : w.canP w.polishR = true ∧ w.polishR < 2 ^ (2 * w.bs.length) ∧ ∀ i, i < 2 ^ (2 * w.bs.length) → w.canP i = true → pop w.polishR < pop i ∨ (pop w.polishR = pop i ∧ w.polishR ≤ i) := by
  have h5 := ho.n.2
  simp only [Wg.n] at h5
  have hpos : 0 < 2 ^ (2 * w.bs.length) := Nat.two_pow_pos _
  have key := foldF_inv (fun m i => if decide (pop i < pop m) && w.canP i then i else m) (fun j m => w.canP m = true ∧ m < 2 ^ (2 * w.bs.length) ∧ (m ≤ j ∨ m = 2 ^ (2 * w.bs.length) - 1) ∧ ∀ i, i < j → w.canP i = true → pop m < pop i ∨ (pop m = pop i ∧ m ≤ i)) (2 ^ (2 * w.bs.length)) 0 (2 ^ (2 * w.bs.length) - 1)
    ⟨hc, by omega, .inr rfl, fun i hi => by omega⟩ (fun j m hj1 hj2 ⟨h1, h2, h3, h4⟩ => by
      cases hcj : w.canP j
      · rw [Bool.and_false]
        simp only [Bool.false_eq_true, if_false]
        refine ⟨h1, h2, by omega, fun i i2 i3 => ?_⟩
        by_cases e : i = j
        · subst e; rw [hcj] at i3; cases i3
        · exact h4 i (by omega) i3
      · by_cases hp : pop j < pop m
        · simp only [hp, decide_true, Bool.and_true, if_true]
          refine ⟨hcj, by omega, by omega, fun i i2 i3 => ?_⟩
          by_cases e : i = j
          · subst e; exact .inr ⟨rfl, Nat.le_refl _⟩
          · have := h4 i (by omega) i3
            omega
        · simp only [hp, decide_false, Bool.and_true, Bool.false_eq_true, if_false]
          refine ⟨h1, h2, by omega, fun i i2 i3 => ?_⟩
          by_cases e : i = j
          · subst e
            by_cases hq : pop m = pop i
            · refine .inr ⟨hq, ?_⟩
              rcases h3 with h3 | h3
              · exact h3
              · have f := pop_full (2 * w.bs.length) (by omega)
                have g := (pop_small (2 * w.bs.length) (by omega) i (by omega)).2
                rw [h3] at hq ⊢
                have := g (by omega)
                omega
            · omega
          · exact h4 i (by omega) i3)
  simp only [Nat.zero_add] at key
  exact ⟨key.1, key.2.1, key.2.2.2⟩

theorem polishS_is {w : Wg} (ho : w.Ok) : (w.polishS = none ∧ ∀ i, i < 2 ^ (2 * w.bs.length) → w.canP i = false) ∨ ∃ x, w.polishS = some x ∧ w.canP x = true ∧ x < 2 ^ (2 * w.bs.length) ∧ ∀ i, i < 2 ^ (2 * w.bs.length) → w.canP i = true → pop x < pop i ∨ (pop x = pop i ∧ x ≤ i) := by
  have h5 := ho.n.2
  simp only [Wg.n] at h5
  have hsr := setL_up (n := 2 * w.bs.length) (by omega)
  have hlt := setL_lt (2 * w.bs.length)
  have hp := pow_le (show 2 * w.bs.length ≤ 10 by omega)
  cases hm : w.polishS with
  | none =>
    refine .inl ⟨rfl, fun i hi => ?_⟩
    obtain ⟨k, k1, k2⟩ := setL_has hi
    have := (findF_none _ _ _).1 hm k (by omega) (by rw [setL_len]; omega)
    simp only [gt] at k2
    rw [k2] at this
    cases hc : w.canP i
    · rfl
    · rw [hc] at this; cases this
  | some x =>
    obtain ⟨k, k1, k2, k3, k4⟩ := (findF_some _ _ _ _).1 hm
    rw [setL_len] at k2
    have hx : w.canP ((setL (2 * w.bs.length)).getD k 0) = true ∧ (setL (2 * w.bs.length)).getD k 0 = x := by
      cases hc : w.canP ((setL (2 * w.bs.length)).getD k 0)
      · rw [hc] at k3; cases k3
      · rw [hc] at k3; exact ⟨rfl, by simpa using k3⟩
    have hxl : x < 2 ^ (2 * w.bs.length) := by rw [← hx.2]; exact hlt k (by rw [setL_len]; omega)
    refine .inr ⟨x, rfl, by rw [← hx.2]; exact hx.1, hxl, fun i hi hci => ?_⟩
    obtain ⟨l, l1, l2⟩ := setL_has hi
    simp only [gt] at l2
    by_cases hkl : l < k
    · have := k4 l (by omega) hkl
      rw [l2, hci] at this
      cases this
    · by_cases e : l = k
      · subst e
        rw [hx.2] at l2
        exact .inr ⟨by rw [l2], by omega⟩
      · have hs := hsr k l (by omega) l1
        simp only [gt, hx.2, l2, rkP] at hs
        omega

theorem polish_eq {w : Wg} (ho : w.Ok) : w.polishS = if w.canP (2 ^ (2 * w.bs.length) - 1) then some w.polishR else none := by
  have hpos : 0 < 2 ^ (2 * w.bs.length) := Nat.two_pow_pos _
  rcases polishS_is ho with ⟨h1, h2⟩ | ⟨x, h1, h2, h3, h4⟩
  · rw [h2 _ (by omega), h1]; rfl
  · rw [canP_every ho h2, if_pos rfl, h1]
    obtain ⟨r1, r2, r3⟩ := polishR_is ho (canP_every ho h2)
    have a := h4 _ r2 r1
    have b := r3 x h3 h2
    congr 1
    omega

end Go.Ab
/-
  The sample; what is alive.
-/
namespace Go.Ab
open Go.Proofs
set_option linter.unusedSimpArgs false
set_option linter.unusedVariables false
set_option maxRecDepth 100000
set_option maxHeartbeats 2000000

variable {H : Heap}


theorem law_span (a b : Int) (H : Heap) : callFL cfg0 prog0 false 36 [I a, I b] H none = some ⟨.ret (.agg [I a, I b]), H, none⟩ := by
  refine (callFL_eq fn36 rfl (by simp [Try.f36])).trans ?_
  simp (maxSteps := 1000000) (implicitDefEqProofs := false) (disch := first | rfl | omega | assumption) only [go_sem, ltT, ltF, leT, leF]

theorem law_face (a b c : Int) (H : Heap) : callFL cfg0 prog0 false 88 [I a, I b, I c] H none = some ⟨.ret (.agg [I a, I b, I c]), H, none⟩ := by
  have h1 := fun G : Heap => law_span a b G
  refine (callFL_eq fn88 rfl (by simp [Try.f88])).trans ?_
  simp (maxSteps := 1000000) (implicitDefEqProofs := false) (disch := first | rfl | omega | assumption) only [go_sem, ltT, ltF, leT, leF, h1]

theorem law_block (a b : Int) (x y : Fc) (H : Heap) : callFL cfg0 prog0 false 87 [I a, I b, x.av, y.av] H none = some ⟨.ret (Bk.av ⟨a, b, x, y⟩), H, none⟩ := by
  have h1 := fun G : Heap => law_span a b G
  obtain ⟨x1, x2, x3⟩ := x
  obtain ⟨y1, y2, y3⟩ := y
  simp only [Fc.av, Bk.av]
  refine (callFL_eq fn87 rfl (by simp [Try.f87])).trans ?_
  simp (maxSteps := 1000000) (implicitDefEqProofs := false) (disch := first | rfl | omega | assumption) only [go_sem, ltT, ltF, leT, leF]
  rw [chkK_of]; rotate_left; kernel_rfl
  simp (maxSteps := 1000000) (implicitDefEqProofs := false) (disch := first | rfl | omega | assumption) only [go_sem, ltT, ltF, leT, leF, h1]

def smpB : List Bk := [⟨10, 10, ⟨1, 1, 0⟩, ⟨0, 2, 2⟩⟩, ⟨20, 21, ⟨1, 1, 0⟩, ⟨2, 2, 0⟩⟩, ⟨5, 5, ⟨0, 0, 1⟩, ⟨3, 3, 0⟩⟩]

theorem law_sample {v : AV} {ps : List Ap} (hv : SlOk H 2 v (ps.map Ap.av)) : callFL cfg0 prog0 false 33 [v] H none = some ⟨.ret (.agg [.sl true (smpB.map Bk.av), v]), H, none⟩ := by
  have s0 := hv.scal
  have t0 := hv.lt0
  have hf := fun (a b c : Int) (G : Heap) => law_face a b c G
  have hb := fun (a b x1 x2 x3 y1 y2 y3 : Int) (G : Heap) => law_block a b ⟨x1, x2, x3⟩ ⟨y1, y2, y3⟩ G
  have t1 := hv.sld
  have t2 := hv.ltn 1
  have c0 := hv.cel
  simp only [Fc.av, Bk.av] at hb
  simp only [smpB, List.map_cons, List.map_nil, Bk.av]
  refine (callFL_eq fn33 rfl (by simp [Try.f33])).trans ?_
  simp (maxSteps := 1000000) (implicitDefEqProofs := false) (disch := first | rfl | omega | assumption) only [go_sem, ltT, ltF, leT, leF, s0, t0, hf, hb, t1, t2, c0]
  done

/-- The blocks of places, and what is up, in turn. -/
def flatP (l : List Pc) : List Int := l.flatMap fun p => [p.b, p.u]

theorem flatP_len : ∀ l : List Pc, (flatP l).length = 2 * l.length
  | [] => rfl
  | p :: r => by
    have := flatP_len r
    simp only [flatP, List.flatMap_cons, List.length_append, List.length_cons, List.length_nil] at this ⊢
    omega

theorem flatP_at : ∀ (l : List Pc) (j : Nat), j < l.length → (flatP l).getD (2 * j) 0 = (pcA l j).b ∧ (flatP l).getD (2 * j + 1) 0 = (pcA l j).u
  | [], j, h => by simp at h
  | p :: r, 0, _ => by simp [flatP, pcA]
  | p :: r, j + 1, h => by
    have := flatP_at r j (by simpa using h)
    have e1 : 2 * (j + 1) = 2 * j + 2 := by omega
    rw [e1]
    simp only [flatP, pcA, List.flatMap_cons, List.cons_append, List.nil_append, List.getD_cons_succ] at this ⊢
    exact this

theorem stc_loop {v : AV} {l : List Pc} (hv : SlOk H 1 v ((flatP l).map I)) (hl : l.length ≤ 1000) :
    ∀ (q j : Nat), j + q = l.length → ∀ (L : List Pc), L = l.take j → ∀ E : Env, E.get 0 = v → E.get 2 = .gsl H.length j → E.get 3 = I (2 * j : Nat) →
    Option.map (finishC H.length) (execL cfg0 prog0 ⟨34, none, false, H.length⟩ (todoAt Try.f34 2) ⟨E, [], H ++ [.grow 2 (L.map Pc.av)], none⟩) = some ⟨.ret (.sl false (l.map Pc.av)), H, none⟩ := by
  intro q
  have n0 := hv.len
  rw [List.length_map, flatP_len] at n0
  have s0 := hv.scal
  induction q with
  | zero =>
    intro j hj L hL E g0 g2 g3
    have hk' : ¬ (j : Int) < ((l.length : Nat) : Int) := by omega
    have ej : j = l.length := by omega
    subst ej
    subst hL
    rw [List.take_length]
    simp only [loopIt, todoPast, todoAt, todoOf, firstReg, ↓reduceIte, Option.some.injEq, Nat.reduceEqDiff, reduceCtorEq, Try.f34]
    rw [execL_inLoop]
    have hz : ¬ ((2 * l.length : Nat) : Int) + 1 < ((2 * l.length : Nat) : Int) := by omega
    have la : (l.map Pc.av).length = l.length := List.length_map _
    have t3 : ltL H.length (l.map Pc.av) = true := ltL_map (fun _ => rfl) l
    have t4 : ltL 0 (l.map Pc.av) = true := ltL_map (fun _ => rfl) l
    simp (maxSteps := 1000000) (implicitDefEqProofs := false) (disch := first | rfl | omega | assumption) only [go_sem, g0, g2, g3, ltT, ltF, leT, leF, hk', n0, s0, hz, la, t3, t4]
    done
  | succ q ih =>
    intro j hj L hL E g0 g2 g3
    have hk' : (j : Int) < ((l.length : Nat) : Int) := by omega
    have hk2 : j < l.length := by omega
    subst hL
    have hz : ((2 * j : Nat) : Int) + 1 < ((2 * l.length : Nat) : Int) := by omega
    obtain ⟨a1, a2, a3, a4⟩ := hv.fI
    rw [flatP_len] at a1 a2 a3 a4
    obtain ⟨e1, e2⟩ := flatP_at l j hk2
    have x1 : (((2 * j : Nat) : Int)).toNat = 2 * j := by omega
    have x2 : (((2 * j : Nat) : Int) + 1).toNat = 2 * j + 1 := by omega
    have x3 : IntKind.i64.wrap (((2 * j : Nat) : Int) + 1) = ((2 * j : Nat) : Int) + 1 := w64 (by omega) (by omega)
    have x4 : IntKind.i64.wrap (((2 * j : Nat) : Int) + 2) = ((2 * (j + 1) : Nat) : Int) := by rw [w64 (by omega) (by omega)]; omega
    have o1 := hv.old
    have o2 := fun (k : Int) (off : Nat) => ptrOf_elA (k := k) (off := off) hv
    have la : ((l.take j).map Pc.av).length = j := by simp; omega
    have htk : l.take (j + 1) = l.take j ++ [pcA l j] := by
      rw [List.take_succ_eq_append_getElem hk2]
      simp [pcA, hk2]
    have key := ih (j + 1) (by omega) (l.take j ++ [pcA l j]) htk.symm
    generalize pcA l j = p at *
    obtain ⟨pb, pu⟩ := p
    have hadd : addElem (H ++ [.grow 2 ((l.take j).map Pc.av)]) 2 true (.gsl H.length j) [.agg [I pb, I pu]] = some (.gsl H.length (j + 1), H ++ [.grow 2 ((l.take j ++ [(⟨pb, pu⟩ : Pc)]).map Pc.av)]) := by
      rw [add_gsl (xs := (l.take j).map Pc.av) (by rw [get_at]; rfl) la rfl rfl (by simp; omega), set_at, List.map_append]
      rfl
    simp only at e1 e2
    simp only [loopIt, todoPast, todoAt, todoOf, firstReg, ↓reduceIte, Option.some.injEq, Nat.reduceEqDiff, reduceCtorEq, Try.f34]
    rw [execL_inLoop]
    simp (maxSteps := 1000000) (implicitDefEqProofs := false) (disch := first | rfl | omega | assumption) only [go_sem, g0, g2, g3, ltT, ltF, leT, leF, hk', n0, s0, hz, x3]
    rw [chkK_of]; rotate_left; kernel_rfl
    simp (maxSteps := 1000000) (implicitDefEqProofs := false) (disch := first | rfl | omega | assumption) only [go_sem, g0, g2, g3, ltT, ltF, leT, leF, hk', n0, s0, hz, a1, a2, a3, a4, x1, x2, x3, x4, e1, e2, o1, o2, ld_ne, ld_eq, or_none', hadd]
    exact key _ (by exact g0) (by rfl) (by rfl)

theorem law_stack {v : AV} {l : List Pc} (hv : SlOk H 1 v ((flatP l).map I)) (hl : l.length ≤ 1000) : callFL cfg0 prog0 false 34 [v] H none = some ⟨.ret (.sl false (l.map Pc.av)), H, none⟩ := by
  have h1 := stc_loop hv hl l.length 0 (by omega) [] rfl
  have s0 := hv.scal
  refine (callFL_eq fn34 rfl (by simp [Try.f34])).trans ?_
  simp (maxSteps := 1000000) (implicitDefEqProofs := false) (disch := first | rfl | omega | assumption) only [go_sem, ltT, ltF, leT, leF, s0]
  exact h1 _ (by rfl) (by rfl) (by rfl)

end Go.Ab
/-
  What is alive.
-/
namespace Go.Ab
open Go.Proofs
set_option linter.unusedSimpArgs false
set_option linter.unusedVariables false
set_option maxRecDepth 100000
set_option maxHeartbeats 2000000

variable {H : Heap}


deriving instance DecidableEq for Pc

def smp : Wg := ⟨smpB, []⟩
def smpX : Wg := ⟨smpB, [⟨0, 1⟩]⟩

theorem v_check : smp.check [⟨0, 0⟩, ⟨1, 0⟩, ⟨2, 1⟩] = (1, 2, 0) := by decide +kernel
theorem v_holds : smp.holds [⟨0, 0⟩, ⟨1, 0⟩, ⟨2, 1⟩] = (1, 0) := by decide +kernel
theorem v_length : smp.length [⟨0, 1⟩, ⟨1, 0⟩] = ((32, 35), 0) := by decide +kernel
theorem v_count : smp.count = (4, 0) := by decide +kernel
theorem v_best : smp.best = (7, some [⟨0, 0⟩, ⟨1, 0⟩, ⟨2, 0⟩], 0) := by decide +kernel
theorem v_hope : smpX.hope = (1, 0) := by decide +kernel
theorem v_most : smpX.most = (2, 5, 0) := by decide +kernel
theorem v_polish : smpX.polish = (1, 16, 0) := by decide +kernel
theorem v_holds2 : smp.holds [⟨0, 0⟩, ⟨1, 0⟩, ⟨2, 0⟩] = (2, 0) := by decide +kernel

def neP (x y : Pc) : Bool := !(x.b == y.b && x.u == y.u)
/-- Two lists of places are the same. -/
def sameP (xs ys : List Pc) : Bool := decide (xs.length = ys.length) && !anyF (fun i => neP (pcA xs i) (pcA ys i)) 0 xs.length

theorem same_loop {v1 v2 : AV} {xs ys : List Pc} (h1 : SlOk H 2 v1 (xs.map Pc.av)) (h2 : SlOk H 2 v2 (ys.map Pc.av)) (hx : xs.length ≤ 1000) (hy : ys.length = xs.length) (r : Bool) :
    ∀ (q j : Nat), j + q = xs.length → (!anyF (fun i => neP (pcA xs i) (pcA ys i)) j q) = r → ∀ E : Env, E.get 0 = v1 → E.get 1 = v2 → E.get 5 = I j →
    Option.map (finishC H.length) (execL cfg0 prog0 ⟨27, none, false, H.length⟩ (todoAt Try.f27 4) ⟨E, [], H, none⟩) = some ⟨.ret (.bool r), H, none⟩ := by
  intro q
  obtain ⟨a1, a2, a3, a4, a5⟩ := h1.fF (d := pc0)
  obtain ⟨b1, b2, b3, b4, b5⟩ := h2.fF (d := pc0)
  have n1 := h1.len
  rw [List.length_map] at n1
  rw [hy] at b1 b2 b3 b4
  induction q with
  | zero =>
    intro j hj hr E g0 g1 g5
    have hk' : ¬ (j : Int) < ((xs.length : Nat) : Int) := by omega
    simp only [anyF, Bool.not_false] at hr
    subst hr
    simp only [loopIt, todoPast, todoAt, todoOf, firstReg, ↓reduceIte, Option.some.injEq, Nat.reduceEqDiff, reduceCtorEq, Try.f27]
    rw [execL_inLoop]
    simp (maxSteps := 1000000) (implicitDefEqProofs := false) (disch := first | rfl | omega | assumption) only [go_sem, g0, g1, g5, ltT, ltF, leT, leF, hk', n1]
    done
  | succ q ih =>
    intro j hj hr E g0 g1 g5
    have hk' : (j : Int) < ((xs.length : Nat) : Int) := by omega
    have hk2 : j < xs.length := by omega
    have hu : anyF (fun i => neP (pcA xs i) (pcA ys i)) j (q + 1) = (neP (pcA xs j) (pcA ys j) || anyF (fun i => neP (pcA xs i) (pcA ys i)) (j + 1) q) := rfl
    rw [hu] at hr
    obtain ⟨⟨xb, xu⟩, hxe⟩ : ∃ x, xs.getD j pc0 = x := ⟨_, rfl⟩
    obtain ⟨⟨yb, yu⟩, hye⟩ : ∃ x, ys.getD j pc0 = x := ⟨_, rfl⟩
    have e : neP (pcA xs j) (pcA ys j) = !(xb == yb && xu == yu) := by
      show neP (xs.getD j pc0) (ys.getD j pc0) = _
      rw [hxe, hye]; rfl
    rw [e] at hr
    have hrd : ∀ (a b : Int) (o : Nat) (ty : Ty), readPart (Pc.av ⟨a, b⟩).cells o ty = readPart [I a, I b] o ty := fun _ _ _ _ => rfl
    have hsm : sameL [I xb, I xu] [I yb, I yu] = (xb == yb && xu == yu) := by simp [sameL, AV.same]
    cases c1 : (xb == yb)
    · rw [c1] at hr
      simp only [Bool.false_and, Bool.not_false, Bool.true_or, Bool.not_true] at hr
      subst hr
      simp only [loopIt, todoPast, todoAt, todoOf, firstReg, ↓reduceIte, Option.some.injEq, Nat.reduceEqDiff, reduceCtorEq, Try.f27]
      rw [execL_inLoop]
      simp (maxSteps := 1000000) (implicitDefEqProofs := false) (disch := first | rfl | omega | assumption) only [go_sem, g0, g1, g5, ltT, ltF, leT, leF, hk', n1]
      rw [chkK_of]; rotate_left; kernel_rfl
      simp (maxSteps := 1000000) (implicitDefEqProofs := false) (disch := first | rfl | omega | assumption) only [go_sem, g0, g1, g5, ltT, ltF, leT, leF, hk', n1, a2, a4, b2, b4, hxe, hye, hrd, c1, hsm]
      done
    · cases c2 : (xu == yu)
      · rw [c1, c2] at hr
        simp only [Bool.and_false, Bool.not_false, Bool.true_or, Bool.not_true] at hr
        subst hr
        simp only [loopIt, todoPast, todoAt, todoOf, firstReg, ↓reduceIte, Option.some.injEq, Nat.reduceEqDiff, reduceCtorEq, Try.f27]
        rw [execL_inLoop]
        simp (maxSteps := 1000000) (implicitDefEqProofs := false) (disch := first | rfl | omega | assumption) only [go_sem, g0, g1, g5, ltT, ltF, leT, leF, hk', n1]
        rw [chkK_of]; rotate_left; kernel_rfl
        simp (maxSteps := 1000000) (implicitDefEqProofs := false) (disch := first | rfl | omega | assumption) only [go_sem, g0, g1, g5, ltT, ltF, leT, leF, hk', n1, a2, a4, b2, b4, hxe, hye, hrd, c1, c2, hsm]
        done
      · rw [c1, c2] at hr
        simp only [Bool.and_self, Bool.not_true, Bool.false_or] at hr
        simp only [loopIt, todoPast, todoAt, todoOf, firstReg, ↓reduceIte, Option.some.injEq, Nat.reduceEqDiff, reduceCtorEq, Try.f27]
        rw [execL_inLoop]
        simp (maxSteps := 1000000) (implicitDefEqProofs := false) (disch := first | rfl | omega | assumption) only [go_sem, g0, g1, g5, ltT, ltF, leT, leF, hk', n1]
        rw [chkK_of]; rotate_left; kernel_rfl
        simp (maxSteps := 1000000) (implicitDefEqProofs := false) (disch := first | rfl | omega | assumption) only [go_sem, g0, g1, g5, ltT, ltF, leT, leF, hk', n1, a2, a4, b2, b4, hxe, hye, hrd, c1, c2, hsm]
        exact ih (j + 1) (by omega) hr _ (by exact g0) (by exact g1) (by rfl)

theorem ref_Same {v1 v2 : AV} {xs ys : List Pc} (h1 : SlOk H 2 v1 (xs.map Pc.av)) (h2 : SlOk H 2 v2 (ys.map Pc.av)) (hx : xs.length ≤ 1000) (hy : ys.length ≤ 1000) : callFL cfg0 prog0 false 27 [v1, v2] H none = some ⟨.ret (.bool (sameP xs ys)), H, none⟩ := by
  have n1 := h1.len
  have n2 := h2.len
  rw [List.length_map] at n1 n2
  simp only [sameP]
  by_cases h : xs.length = ys.length
  · rw [decide_eq_true h, Bool.true_and]
    have hb : (((xs.length : Int)) != (ys.length : Int)) = false := by simp [h]
    have h3 := same_loop h1 h2 hx h.symm _ xs.length 0 (by omega) rfl
    refine (callFL_eq fn27 rfl (by simp [Try.f27])).trans ?_
    simp (maxSteps := 1000000) (implicitDefEqProofs := false) (disch := first | rfl | omega | assumption) only [go_sem, ltT, ltF, leT, leF, n1, n2, hb]
    exact h3 _ (by rfl) (by rfl) (by rfl)
  · rw [decide_eq_false h, Bool.false_and]
    have hb : (((xs.length : Int)) != (ys.length : Int)) = true := by simp; omega
    refine (callFL_eq fn27 rfl (by simp [Try.f27])).trans ?_
    simp (maxSteps := 1000000) (implicitDefEqProofs := false) (disch := first | rfl | omega | assumption) only [go_sem, ltT, ltF, leT, leF, n1, n2, hb]
    done

theorem law_apart (H : Heap) : callFL cfg0 prog0 false 35 [] H none = some ⟨.ret (.agg [.sl true (smpB.map Bk.av), .sl true [.agg [I 0, I 1]]]), H, none⟩ := by
  have h1 := fun G : Heap => law_sample (H := G) (v := .sl true [.agg [I 0, I 1]]) (ps := [⟨0, 1⟩]) ⟨rfl, fun x hx => by obtain ⟨i, _, rfl⟩ := List.mem_map.1 hx; rfl⟩
  simp only [smpB, List.map_cons, List.map_nil, Bk.av] at h1 ⊢
  refine (callFL_eq fn35 rfl (by simp [Try.f35])).trans ?_
  simp (maxSteps := 1000000) (implicitDefEqProofs := false) (disch := first | rfl | omega | assumption) only [go_sem, ltT, ltF, leT, leF, h1]

theorem smp_at (H : Heap) : WgAt H smp (.sl true (smpB.map Bk.av)) (.sl true []) := ⟨⟨rfl, fun x hx => by obtain ⟨i, _, rfl⟩ := List.mem_map.1 hx; rfl⟩, ⟨rfl, fun x hx => by cases hx⟩⟩
theorem smpX_at (H : Heap) : WgAt H smpX (.sl true (smpB.map Bk.av)) (.sl true [.agg [I 0, I 1]]) := ⟨⟨rfl, fun x hx => by obtain ⟨i, _, rfl⟩ := List.mem_map.1 hx; rfl⟩, ⟨rfl, fun x hx => by
  obtain ⟨i, _, rfl⟩ := List.mem_map.1 hx; rfl⟩⟩

theorem law_sample0 (H : Heap) : callFL cfg0 prog0 false 33 [.sl true []] H none = some ⟨.ret (.agg [.sl true (smpB.map Bk.av), .sl true []]), H, none⟩ := law_sample (ps := []) ⟨rfl, fun x hx => by cases hx⟩

theorem stk_at (H : Heap) (l : List Pc) : SlOk H 1 (.sl true ((flatP l).map I)) ((flatP l).map I) := ⟨rfl, fun x hx => by obtain ⟨i, _, rfl⟩ := List.mem_map.1 hx; rfl⟩

theorem law_alive (H : Heap) : callFL cfg0 prog0 false 14 [] H none = some ⟨.ret (.bool true), H, none⟩ := by
  have l1 : smp.bs.length ≤ 1000 ∧ smp.ps.length ≤ 1000 := by decide
  have l2 : smpX.bs.length ≤ 1000 ∧ smpX.ps.length ≤ 1000 := by decide
  have hs := fun G : Heap => law_sample0 G
  have hx := fun G : Heap => law_apart G
  have s1 := fun G : Heap => law_stack (H := G) (stk_at G [⟨0, 0⟩, ⟨1, 0⟩, ⟨2, 1⟩]) (by decide)
  have s2 := fun G : Heap => law_stack (H := G) (stk_at G [⟨0, 1⟩, ⟨1, 0⟩]) (by decide)
  have s3 := fun G : Heap => law_stack (H := G) (stk_at G [⟨0, 0⟩, ⟨1, 0⟩, ⟨2, 0⟩]) (by decide)
  have r1 := fun G : Heap => wr_Check (smp_at G) l1 false [⟨0, 0⟩, ⟨1, 0⟩, ⟨2, 1⟩] (by decide)
  have r2 := fun G : Heap => wr_Holds (smp_at G) l1 false [⟨0, 0⟩, ⟨1, 0⟩, ⟨2, 1⟩] (by decide)
  have r3 := fun G : Heap => wr_Length (smp_at G) l1 false [⟨0, 1⟩, ⟨1, 0⟩] (by decide)
  have r4 := fun G : Heap => wr_Count (smp_at G) l1
  have r5 := fun G : Heap => wr_Best (smp_at G) l1
  have r6 := fun G : Heap => wr_Hope (smpX_at G) l2
  have r7 := fun G : Heap => wr_Most (smpX_at G) l2
  have r8 := fun G : Heap => wr_Polish (smpX_at G) l2
  have r9 := fun G : Heap => wr_Holds (smp_at G) l1 false [⟨0, 0⟩, ⟨1, 0⟩, ⟨2, 0⟩] (by decide)
  have r0 := fun G : Heap => ref_Same (H := G) (slP (H := G) (b := false) [⟨0, 0⟩, ⟨1, 0⟩, ⟨2, 0⟩]) (slP (H := G) (b := false) [⟨0, 0⟩, ⟨1, 0⟩, ⟨2, 0⟩]) (by decide) (by decide)
  have e0 : sameP [⟨0, 0⟩, ⟨1, 0⟩, ⟨2, 0⟩] [⟨0, 0⟩, ⟨1, 0⟩, ⟨2, 0⟩] = true := by decide
  have hsp := fun (a b : Int) (G : Heap) => law_span a b G
  rw [v_check] at r1
  rw [v_holds] at r2
  rw [v_length] at r3
  rw [v_count] at r4
  rw [v_best] at r5
  rw [v_hope] at r6
  rw [v_most] at r7
  rw [v_polish] at r8
  rw [v_holds2] at r9
  rw [e0] at r0
  simp only [smpB, plA, flatP, List.map_cons, List.map_nil, Bk.av, Pc.av, List.flatMap_cons, List.flatMap_nil, List.cons_append, List.nil_append, List.append_nil] at hs hx s1 s2 s3 r1 r2 r3 r4 r5 r6 r7 r8 r9 r0
  refine (callFL_eq fn14 rfl (by simp [Try.f14])).trans ?_
  simp (maxSteps := 1000000) (implicitDefEqProofs := false) (disch := first | rfl | omega | assumption) only [go_sem, ltT, ltF, leT, leF, hs, hx, s1, s2, s3, r1, r2, r3, r4, r5, r6, r7, r8, r9]
  rw [chkK_of]; rotate_left; kernel_rfl
  simp (maxSteps := 1000000) (implicitDefEqProofs := false) (disch := first | rfl | omega | assumption) only [go_sem, ltT, ltF, leT, leF, hs, hx, s1, s2, s3, r1, r2, r3, r4, r5, r6, r7, r8, r9, r0, hsp]
  done

end Go.Ab
