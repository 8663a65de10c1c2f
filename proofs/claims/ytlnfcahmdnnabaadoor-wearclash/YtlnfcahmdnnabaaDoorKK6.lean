/-
  WearClash, walked.
-/
import Derived.Test.YtlnfcahmdnnabaaDoorKK5
namespace Go.Ab
open Go.Proofs
set_option linter.unusedSimpArgs false
set_option linter.unusedVariables false
set_option maxRecDepth 100000

variable {H : Heap}

theorem flt_loop {w : Wea} {ve : AV} (h : WeaAt H w ve) (hv : w.valid = true) (s : Nat) (hs : s < 2 ^ 60) :
    ∀ (q j : Nat), j + q = w.es.length → ∀ (G : Heap), ∀ (m : Nat), m = (w.flt s j).length → ∀ (xs : List AV), xs = (w.flt s j).map Ev.av → ∀ E : Env, E.get 0 = I s → E.get 4 = .ptr H.length 0 → E.get 12 = ve → E.get 13 = I w.es.length → E.get 14 = I j →
    Option.map (finishC H.length) (execL cfg0 prog0 ⟨36, none, false, H.length⟩ (todoAt Tryd.f36 4) ⟨E, [], H ++ (.box (.agg [I w.llo, I w.lhi, I w.ulo, I w.uhi, .gsl (H.length + 1) m]) :: .grow 4 xs :: G), none⟩) = some ⟨.ret (.bool (!w.canB s w.L)), H, none⟩ := by
  intro q
  have ho := w.valid_iff.1 hv
  have h8 := ho.many
  have s1 := h.es.scal
  have t1 := h.es.ltn 2
  have t3 := fun j => evz_lt 0 (w.flt s j)
  obtain ⟨a1, a2, a3, a4, a5⟩ := h.es.fA (d := ev0)
  induction q with
  | zero =>
    intro j hj G m hm xs hx E g0 g4 g12 g13 g14
    have hk' : ¬ (j : Int) < ((w.es.length : Nat) : Int) := by omega
    have ej : j = w.es.length := by omega
    subst ej
    subst hx
    subst hm
    simp only [loopIt, todoPast, todoAt, todoOf, firstReg, ↓reduceIte, Option.some.injEq, Nat.reduceEqDiff, reduceCtorEq, Tryd.f36]
    rw [execL_inLoop]
    have hl := flt_len w s w.es.length
    have hY : ∀ G : Heap, WeaAt (H ++ (.box (.agg [I w.llo, I w.lhi, I w.ulo, I w.uhi, .gsl (H.length + 1) (w.flt s w.es.length).length]) :: .grow 4 ((w.flt s w.es.length).map Ev.av) :: G)) (w.sub s) (.gsl (H.length + 1) (w.flt s w.es.length).length) := fun G => ⟨⟨by simp [get_at']; rfl, by simp [Wea.sub]⟩, by simp [Ev.av, AV.cells]⟩
    have hL := fun G : Heap => we_Lost (hY G) (by show (w.flt s w.es.length).length ≤ 1000; omega)
    have e1 : (w.sub s).av (.gsl (H.length + 1) (w.flt s w.es.length).length) = .agg [I w.llo, I w.lhi, I w.ulo, I w.uhi, .gsl (H.length + 1) (w.flt s w.es.length).length] := rfl
    have hvy : (w.sub s).valid = true := (w.sub s).valid_iff.2 (sub_ok ho s)
    have hcy := sub_can ho s
    simp only [e1, Wea.gate, hvy, hcy, if_true, (show (0 : Int) ≤ 10 by decide)] at hL
    cases hc : w.canB s w.L
    · simp only [hc, Bool.false_eq_true, if_false] at hL
      simp (maxSteps := 1000000) (implicitDefEqProofs := false) (disch := first | rfl | omega | assumption) only [go_sem, ↓reduceIte, Nat.reduceEqDiff, Nat.reduceAdd, Nat.reduceLeDiff, Nat.reduceBEq, Nat.reduceMul, Nat.reduceLT, Int.reduceLT, Int.reduceLE, Int.reduceToNat, Int.reduceNeg, Int.reduceEq, Int.reduceMul, reduceCtorEq, Int.reduceBEq, Int.reduceBNe, Int.reduceAdd, Int.reduceSub, g0, g4, g12, g13, g14, ltT, ltF, leT, leF, hk', s1, t1, t3, hL]
      done
    · simp only [hc, if_true] at hL
      simp (maxSteps := 1000000) (implicitDefEqProofs := false) (disch := first | rfl | omega | assumption) only [go_sem, ↓reduceIte, Nat.reduceEqDiff, Nat.reduceAdd, Nat.reduceLeDiff, Nat.reduceBEq, Nat.reduceMul, Nat.reduceLT, Int.reduceLT, Int.reduceLE, Int.reduceToNat, Int.reduceNeg, Int.reduceEq, Int.reduceMul, reduceCtorEq, Int.reduceBEq, Int.reduceBNe, Int.reduceAdd, Int.reduceSub, g0, g4, g12, g13, g14, ltT, ltF, leT, leF, hk', s1, t1, t3, hL]
      done
  | succ q ih =>
    intro j hj G m hm xs hx E g0 g4 g12 g13 g14
    have hk' : (j : Int) < ((w.es.length : Nat) : Int) := by omega
    have hk2 : j < w.es.length := by omega
    have hr := fun e : Ev => (show readPart e.av.cells 0 ⟨.struct [(0, 3), (1, 3), (2, 23)], 4, 32, some (.agg #[.int .i64 0, .int .i64 0, .int .i64 0, .int .i64 0])⟩ = some (.agg [I e.k, I e.u, I e.lo, I e.hi]) from rfl)
    have hb1 := bitI (j := j) hs
    have hsh := shrN (s := s) (j := j) (by omega)
    have hfs := flt_succ w s j
    have hl := flt_len w s j
    have hkp : w.kp s j = (!decide ((w.ev j).k = 1) || s.testBit j) := rfl
    obtain ⟨e, he⟩ : ∃ e, w.es.getD j ev0 = e := ⟨_, rfl⟩
    have he' : w.ev j = e := he
    rw [he'] at hfs hkp
    have ih' := ih (j + 1) (by omega)
    have hlx : xs.length = m := by rw [hx, hm]; simp
    have hof : ∀ (o : AO), addElem (H ++ [.box (.agg [I w.llo, I w.lhi, I w.ulo, I w.uhi, .gsl (H.length + 1) m]), .grow 4 xs, o]) 4 true (.gsl (H.length + 1) m) [.agg [I e.k, I e.u, I e.lo, I e.hi]] = some (.gsl (H.length + 1) (m + 1), H ++ [.box (.agg [I w.llo, I w.lhi, I w.ulo, I w.uhi, .gsl (H.length + 1) m]), .grow 4 (xs ++ [.agg [I e.k, I e.u, I e.lo, I e.hi]]), o]) := by
      intro o
      rw [add_gsl (xs := xs) (by rw [get_at']; rfl) hlx rfl rfl (by simp; omega), set_at']
      rfl
    have t4 : ltL 0 xs = true := by rw [hx]; exact t3 j
    cases hk : w.kp s j
    · rw [hk] at hfs hkp
      simp only [Bool.false_eq_true, if_false] at hfs
      have hk2 : e.k = 1 ∧ s.testBit j = false := by
        have := hkp.symm
        simpa using this
      have z1 : (e.k != 1) = false := by simp [hk2.1]
      have hb2 := hk2.2
      rw [hfs] at ih'
      simp only [loopIt, todoPast, todoAt, todoOf, firstReg, ↓reduceIte, Option.some.injEq, Nat.reduceEqDiff, reduceCtorEq, Tryd.f36]
      rw [execL_inLoop]
      simp (maxSteps := 1000000) (implicitDefEqProofs := false) (disch := first | rfl | omega | assumption) only [go_sem, ↓reduceIte, Nat.reduceEqDiff, Nat.reduceAdd, Nat.reduceLeDiff, Nat.reduceBEq, Nat.reduceMul, Nat.reduceLT, Int.reduceLT, Int.reduceLE, Int.reduceToNat, Int.reduceNeg, Int.reduceEq, Int.reduceMul, reduceCtorEq, Int.reduceBEq, Int.reduceBNe, Int.reduceAdd, Int.reduceSub, g0, g4, g12, g13, g14, ltT, ltF, leT, leF, hk', s1, t1, t4, a1, a2, a3, a4, he, hr, z1, hsh, hb1, and_one, hb2]
      exact ih' [.box (.agg [I e.k, I e.u, I e.lo, I e.hi])] m hm xs hx _ (by rfl) (by rfl) (by rfl) (by rfl) (by rfl)
    · rw [hk] at hfs hkp
      simp only [if_true] at hfs
      rw [hfs] at ih'
      by_cases k1 : e.k = 1
      · have z1 : (e.k != 1) = false := by simp [k1]
        have hb2 : s.testBit j = true := by
          have := hkp.symm
          simpa [k1] using this
        simp only [loopIt, todoPast, todoAt, todoOf, firstReg, ↓reduceIte, Option.some.injEq, Nat.reduceEqDiff, reduceCtorEq, Tryd.f36]
        rw [execL_inLoop]
        simp (maxSteps := 1000000) (implicitDefEqProofs := false) (disch := first | rfl | omega | assumption) only [go_sem, ↓reduceIte, Nat.reduceEqDiff, Nat.reduceAdd, Nat.reduceLeDiff, Nat.reduceBEq, Nat.reduceMul, Nat.reduceLT, Int.reduceLT, Int.reduceLE, Int.reduceToNat, Int.reduceNeg, Int.reduceEq, Int.reduceMul, reduceCtorEq, Int.reduceBEq, Int.reduceBNe, Int.reduceAdd, Int.reduceSub, g0, g4, g12, g13, g14, ltT, ltF, leT, leF, hk', s1, t1, t4, a1, a2, a3, a4, he, hr, z1, hsh, hb1, and_one, hb2, hof]
        exact ih' [.box (.agg [I e.k, I e.u, I e.lo, I e.hi])] (m + 1) (by rw [hm, List.length_append]; rfl) _ (by rw [hx, List.map_append]; rfl) _ (by rfl) (by rfl) (by rfl) (by rfl) (by rfl)
      · have z1 : (e.k != 1) = true := by simp [k1]
        simp only [loopIt, todoPast, todoAt, todoOf, firstReg, ↓reduceIte, Option.some.injEq, Nat.reduceEqDiff, reduceCtorEq, Tryd.f36]
        rw [execL_inLoop]
        simp (maxSteps := 1000000) (implicitDefEqProofs := false) (disch := first | rfl | omega | assumption) only [go_sem, ↓reduceIte, Nat.reduceEqDiff, Nat.reduceAdd, Nat.reduceLeDiff, Nat.reduceBEq, Nat.reduceMul, Nat.reduceLT, Int.reduceLT, Int.reduceLE, Int.reduceToNat, Int.reduceNeg, Int.reduceEq, Int.reduceMul, reduceCtorEq, Int.reduceBEq, Int.reduceBNe, Int.reduceAdd, Int.reduceSub, g0, g4, g12, g13, g14, ltT, ltF, leT, leF, hk', s1, t1, t4, a1, a2, a3, a4, he, hr, z1, hof]
        exact ih' [.box (.agg [I e.k, I e.u, I e.lo, I e.hi])] (m + 1) (by rw [hm, List.length_append]; rfl) _ (by rw [hx, List.map_append]; rfl) _ (by rfl) (by rfl) (by rfl) (by rfl) (by rfl)

theorem law_clash {w : Wea} {ve : AV} {p : Nat} (h : WeaAt H w ve) (hv : w.valid = true) (hp : H[p]? = some (.box (.agg [I w.llo, I w.lhi, I w.ulo, I w.uhi, ve]))) {s : Nat} (hs : s < 2 ^ 60) :
    callVL cfg0 prog0 false (.func 36) [I s] [.ptr p 0] H none = some ⟨.ret (.bool (!w.canB s w.L)), H, none⟩ := by
  have s1 := h.es.scal
  have s2 := h.es.len
  rw [List.length_map] at s2
  have lp : p < H.length := (List.getElem?_eq_some_iff.1 hp).1
  have g1 : ∀ G : Heap, (H ++ G)[p]? = some (.box (.agg [I w.llo, I w.lhi, I w.ulo, I w.uhi, ve])) := fun G => by rw [get_lt lp]; exact hp
  have hr := flt_loop h hv s hs w.es.length 0 (by omega) [] 0 rfl [] rfl
  simp only [callVL_func, List.append_nil, List.cons_append, List.nil_append]
  refine (callFL_eq fn36 rfl (by simp [Tryd.f36])).trans ?_
  simp (maxSteps := 1000000) (implicitDefEqProofs := false) (disch := first | rfl | omega | assumption) only [go_sem, ↓reduceIte, Nat.reduceEqDiff, Nat.reduceAdd, Nat.reduceLeDiff, Nat.reduceBEq, Nat.reduceMul, Nat.reduceLT, Int.reduceLT, Int.reduceLE, Int.reduceToNat, Int.reduceNeg, Int.reduceEq, Int.reduceMul, reduceCtorEq, Int.reduceBEq, Int.reduceBNe, Int.reduceAdd, Int.reduceSub, ltT, ltF, leT, leF, s1, s2, hp, g1]
  exact hr _ (by rfl) (by rfl) (by rfl) (by rfl) (by rfl)

end Go.Ab
/-
  WearClash, walked.
-/
namespace Go.Ab
open Go.Proofs
set_option linter.unusedSimpArgs false
set_option linter.unusedVariables false
set_option maxRecDepth 100000

variable {H : Heap}

theorem mask_loop {w : Wea} {ve : AV} (h : WeaAt H w ve) (h8 : w.es.length ≤ 8) (b : Int) (s : Nat) (lo : Int × Int) (K : List Item) (R : Option Done) (hK : ∀ E : Env, E.get 1 = .int .u8 b → E.get 2 = .ptr H.length 0 → E.get 5 = I s → E.get 9 = I w.rd → Option.map (finishC H.length) (execL cfg0 prog0 ⟨9, none, false, H.length⟩ K ⟨E, [], H ++ [.box (.agg [I w.llo, I w.lhi, I w.ulo, I w.uhi, ve]), .box (KV lo)], none⟩) = R)  :
    ∀ (q j : Nat), j + q = w.es.length → ∀ (G : Heap), ∀ E : Env, E.get 1 = .int .u8 b → E.get 2 = .ptr H.length 0 → E.get 5 = I s → E.get 9 = I (maskN (fun i => decide ((w.ev i).k = 1)) j) → E.get 51 = ve → E.get 52 = I w.es.length → E.get 53 = I j →
    Option.map (finishC H.length) (execL cfg0 prog0 ⟨9, none, false, H.length⟩ (loopIt Tryd.f9 11 :: .inBlock 0 :: K) ⟨E, [], H ++ (.box (.agg [I w.llo, I w.lhi, I w.ulo, I w.uhi, ve]) :: .box (KV lo) :: G), none⟩) = R := by
  intro q
  have s1 := h.es.scal
  have t1 := h.es.ltn 2
  obtain ⟨a1, a2, a3, a4, a5⟩ := h.es.fA (d := ev0)
  induction q with
  | zero =>
    intro j hj G E g1 g2 g5 g9 g51 g52 g53
    have hk' : ¬ (j : Int) < ((w.es.length : Nat) : Int) := by omega
    have ej : j = w.es.length := by omega
    subst ej
    simp only [loopIt, todoPast, todoAt, todoOf, firstReg, ↓reduceIte, Option.some.injEq, Nat.reduceEqDiff, reduceCtorEq, Tryd.f9]
    rw [execL_inLoop]
    simp (maxSteps := 1000000) (implicitDefEqProofs := false) (disch := first | rfl | omega | assumption) only [go_sem, ↓reduceIte, Nat.reduceEqDiff, Nat.reduceAdd, Nat.reduceLeDiff, Nat.reduceBEq, Nat.reduceMul, Nat.reduceLT, Int.reduceLT, Int.reduceLE, Int.reduceToNat, Int.reduceNeg, Int.reduceEq, Int.reduceMul, reduceCtorEq, Int.reduceBEq, Int.reduceBNe, Int.reduceAdd, Int.reduceSub, g1, g2, g5, g9, g51, g52, g53, ltT, ltF, leT, leF, hk', s1, t1]
    exact hK _ (by rfl) (by rfl) (by rfl) (by rfl)
  | succ q ih =>
    intro j hj G E g1 g2 g5 g9 g51 g52 g53
    have hk' : (j : Int) < ((w.es.length : Nat) : Int) := by omega
    have hk2 : j < w.es.length := by omega
    have hr := fun e : Ev => (show readPart e.av.cells 0 ⟨.struct [(0, 3), (1, 3), (2, 23)], 4, 32, some (.agg #[.int .i64 0, .int .i64 0, .int .i64 0, .int .i64 0])⟩ = some (.agg [I e.k, I e.u, I e.lo, I e.hi]) from rfl)
    have m1 := maskN_succ (fun i => decide ((w.ev i).k = 1)) j
    have l1 := maskN_lt (fun i => decide ((w.ev i).k = 1)) j
    have hp := two_pow_lt (show j < 60 by omega)
    have o1 := bitsOrI (a := maskN (fun i => decide ((w.ev i).k = 1)) j) (b := 2 ^ j) (by omega) (by omega)
    have sh := shlI (k := j) (by omega)
    have z : ¬ (j : Int) < 0 := by omega
    have ih' := ih (j + 1) (by omega)
    obtain ⟨e, he⟩ : ∃ e, w.es.getD j ev0 = e := ⟨_, rfl⟩
    have he' : w.ev j = e := he
    simp only [he'] at m1
    rw [m1] at ih'
    by_cases k1 : e.k = 1
    · have z1 : (e.k == 1) = true := by simp [k1]
      simp only [k1, decide_true, if_true] at ih'
      simp only [loopIt, todoPast, todoAt, todoOf, firstReg, ↓reduceIte, Option.some.injEq, Nat.reduceEqDiff, reduceCtorEq, Tryd.f9]
      rw [execL_inLoop]
      simp (maxSteps := 1000000) (implicitDefEqProofs := false) (disch := first | rfl | omega | assumption) only [go_sem, ↓reduceIte, Nat.reduceEqDiff, Nat.reduceAdd, Nat.reduceLeDiff, Nat.reduceBEq, Nat.reduceMul, Nat.reduceLT, Int.reduceLT, Int.reduceLE, Int.reduceToNat, Int.reduceNeg, Int.reduceEq, Int.reduceMul, reduceCtorEq, Int.reduceBEq, Int.reduceBNe, Int.reduceAdd, Int.reduceSub, g1, g2, g5, g9, g51, g52, g53, ltT, ltF, leT, leF, hk', s1, t1, a1, a2, a3, a4, he, hr, z1, o1, sh, z]
      exact ih' [.box (.agg [I e.k, I e.u, I e.lo, I e.hi])] _ (by rfl) (by rfl) (by rfl) (by rfl) (by rfl) (by rfl) (by rfl)
    · have z1 : (e.k == 1) = false := by simp [k1]
      simp only [k1, decide_false, Bool.false_eq_true, if_false] at ih'
      simp only [loopIt, todoPast, todoAt, todoOf, firstReg, ↓reduceIte, Option.some.injEq, Nat.reduceEqDiff, reduceCtorEq, Tryd.f9]
      rw [execL_inLoop]
      simp (maxSteps := 1000000) (implicitDefEqProofs := false) (disch := first | rfl | omega | assumption) only [go_sem, ↓reduceIte, Nat.reduceEqDiff, Nat.reduceAdd, Nat.reduceLeDiff, Nat.reduceBEq, Nat.reduceMul, Nat.reduceLT, Int.reduceLT, Int.reduceLE, Int.reduceToNat, Int.reduceNeg, Int.reduceEq, Int.reduceMul, reduceCtorEq, Int.reduceBEq, Int.reduceBNe, Int.reduceAdd, Int.reduceSub, g1, g2, g5, g9, g51, g52, g53, ltT, ltF, leT, leF, hk', s1, t1, a1, a2, a3, a4, he, hr, z1, o1, sh, z]
      exact ih' [.box (.agg [I e.k, I e.u, I e.lo, I e.hi])] _ (by rfl) (by rfl) (by rfl) (by rfl) (by rfl) (by rfl) (by rfl)

abbrev clF (p : Nat) : AV := .func (.func 36) [] [.ptr p 0]

theorem less_loop {w : Wea} {ve : AV} (h : WeaAt H w ve) (hv : w.valid = true) (hcan : w.can = false) (b : Int) (lo : Int × Int) (K : List Item) (R : Option Done) (hK : ∀ E : Env, E.get 1 = .int .u8 b → E.get 2 = .ptr H.length 0 → E.get 5 = I w.cs → E.get 9 = I w.rd → E.get 12 = clF H.length → Option.map (finishC H.length) (execL cfg0 prog0 ⟨9, none, false, H.length⟩ K ⟨E, [], H ++ [.box (.agg [I w.llo, I w.lhi, I w.ulo, I w.uhi, ve]), .box (KV lo)], none⟩) = R)  :
    ∀ (q j : Nat), j + q = w.es.length → ∀ E : Env, E.get 1 = .int .u8 b → E.get 2 = .ptr H.length 0 → E.get 5 = I w.cs → E.get 9 = I w.rd → E.get 12 = clF H.length → E.get 83 = I w.es.length → E.get 84 = I j →
    Option.map (finishC H.length) (execL cfg0 prog0 ⟨9, none, false, H.length⟩ (loopIt Tryd.f9 20 :: .inBlock 2 :: K) ⟨E, [], H ++ [.box (.agg [I w.llo, I w.lhi, I w.ulo, I w.uhi, ve]), .box (KV lo)], none⟩) = R := by
  intro q
  have ho := w.valid_iff.1 hv
  have h8 := ho.many
  have hcs := (cs_bad hcan).1
  have hp8 := pow_le h8
  induction q with
  | zero =>
    intro j hj  E g1 g2 g5 g9 g12 g83 g84
    have hk' : ¬ (j : Int) < ((w.es.length : Nat) : Int) := by omega
    simp only [loopIt, todoPast, todoAt, todoOf, firstReg, ↓reduceIte, Option.some.injEq, Nat.reduceEqDiff, reduceCtorEq, Tryd.f9]
    rw [execL_inLoop]
    simp (maxSteps := 1000000) (implicitDefEqProofs := false) (disch := first | rfl | omega | assumption) only [go_sem, ↓reduceIte, Nat.reduceEqDiff, Nat.reduceAdd, Nat.reduceLeDiff, Nat.reduceBEq, Nat.reduceMul, Nat.reduceLT, Int.reduceLT, Int.reduceLE, Int.reduceToNat, Int.reduceNeg, Int.reduceEq, Int.reduceMul, reduceCtorEq, Int.reduceBEq, Int.reduceBNe, Int.reduceAdd, Int.reduceSub, g1, g2, g5, g9, g12, g83, g84, ltT, ltF, leT, leF, hk']
    exact hK _ (by exact g1) (by exact g2) (by exact g5) (by exact g9) (by exact g12)
  | succ q ih =>
    intro j hj  E g1 g2 g5 g9 g12 g83 g84
    have hk' : (j : Int) < ((w.es.length : Nat) : Int) := by omega
    have hk2 : j < w.es.length := by omega
    simp only [loopIt, todoPast, todoAt, todoOf, firstReg, ↓reduceIte, Option.some.injEq, Nat.reduceEqDiff, reduceCtorEq, Tryd.f9]
    rw [execL_inLoop]
    have hsh := shrN (s := w.cs) (j := j) (by omega)
    have hb1 := bitI (s := w.cs) (j := j) (by omega)
    have hp := two_pow_lt (show j < 60 by omega)
    have sh := shlI (k := j) (by omega)
    have z : ¬ (j : Int) < 0 := by omega
    have bn := bitsNotI (a := w.cs) (b := 2 ^ j) (by omega) (by omega)
    have hdl := diffN_lt (a := w.cs) (b := 2 ^ j) (n := w.es.length) hcs
    have hC := fun (o : AO) => law_clash (H := H ++ [.box (.agg [I w.llo, I w.lhi, I w.ulo, I w.uhi, ve]), o]) (h.app _) hv (p := H.length) (by simp [get_at]) (s := diffN w.cs (2 ^ j)) (by omega)
    cases hb : w.cs.testBit j
    · simp (maxSteps := 1000000) (implicitDefEqProofs := false) (disch := first | rfl | omega | assumption) only [go_sem, ↓reduceIte, Nat.reduceEqDiff, Nat.reduceAdd, Nat.reduceLeDiff, Nat.reduceBEq, Nat.reduceMul, Nat.reduceLT, Int.reduceLT, Int.reduceLE, Int.reduceToNat, Int.reduceNeg, Int.reduceEq, Int.reduceMul, reduceCtorEq, Int.reduceBEq, Int.reduceBNe, Int.reduceAdd, Int.reduceSub, g1, g2, g5, g9, g12, g83, g84, ltT, ltF, leT, leF, hk', hsh, hb1, and_one, hb]
      exact ih (j + 1) (by omega) _ (by exact g1) (by exact g2) (by exact g5) (by exact g9) (by exact g12) (by exact g83) (by rfl)
    · have hl := cs_less ho hcan hk2 hb
      rw [hl] at hC
      simp (maxSteps := 1000000) (implicitDefEqProofs := false) (disch := first | rfl | omega | assumption) only [go_sem, ↓reduceIte, Nat.reduceEqDiff, Nat.reduceAdd, Nat.reduceLeDiff, Nat.reduceBEq, Nat.reduceMul, Nat.reduceLT, Int.reduceLT, Int.reduceLE, Int.reduceToNat, Int.reduceNeg, Int.reduceEq, Int.reduceMul, reduceCtorEq, Int.reduceBEq, Int.reduceBNe, Int.reduceAdd, Int.reduceSub, g1, g2, g5, g9, g12, g83, g84, ltT, ltF, leT, leF, hk', hsh, hb1, and_one, hb, sh, z, bn, hC]
      exact ih (j + 1) (by omega) _ (by exact g1) (by exact g2) (by exact g5) (by exact g9) (by exact g12) (by exact g83) (by rfl)

theorem law_WearClash {w : Wea} {ve : AV} (h : WeaAt H w ve) (b : Int) (hb : 0 ≤ b ∧ b ≤ 255) :
    callFL cfg0 prog0 false 9 [w.av ve, .int .u8 b] H none = some ⟨.ret (.bool true), H, none⟩ := by
  have s1 := h.es.scal
  have s2 := h.es.len
  rw [List.length_map] at s2
  have hF := fun G : Heap => law_fine (h.app G)
  have hav : w.av ve = .agg [I w.llo, I w.lhi, I w.ulo, I w.uhi, ve] := rfl
  rw [hav]
  cases hf : (!w.farB 0 && w.valid)
  · simp only [hf, Wea.av] at hF
    refine (callFL_eq fn9 rfl (by simp [Tryd.f9])).trans ?_
    simp (maxSteps := 1000000) (implicitDefEqProofs := false) (disch := first | rfl | omega | assumption) only [go_sem, ↓reduceIte, Nat.reduceEqDiff, Nat.reduceAdd, Nat.reduceLeDiff, Nat.reduceBEq, Nat.reduceMul, Nat.reduceLT, Int.reduceLT, Int.reduceLE, Int.reduceToNat, Int.reduceNeg, Int.reduceEq, Int.reduceMul, reduceCtorEq, Int.reduceBEq, Int.reduceBNe, Int.reduceAdd, Int.reduceSub, ltT, ltF, leT, leF, s1, hF, law_awake]
    done
  · simp only [Bool.and_eq_true, Bool.not_eq_true'] at hf
    obtain ⟨hfar, hv⟩ := hf
    have ho := w.valid_iff.1 hv
    have h8 := ho.many
    have hl : w.es.length ≤ 1000 := by omega
    have hCl := fun G : Heap => we_ClashA (h.app G) hl
    have hLo := fun G : Heap => we_Lost (h.app G) hl
    simp only [hfar, hv, hav, Bool.not_false, Bool.and_self] at hF
    simp only [hav, Wea.clA, hv, if_true] at hCl hLo
    cases hc : w.can
    rotate_left
    · have hg := gate_can hv hc
      simp only [hg, hc, if_true] at hCl hLo
      refine (callFL_eq fn9 rfl (by simp [Tryd.f9])).trans ?_
      simp (maxSteps := 1000000) (implicitDefEqProofs := false) (disch := first | rfl | omega | assumption) only [go_sem, ↓reduceIte, Nat.reduceEqDiff, Nat.reduceAdd, Nat.reduceLeDiff, Nat.reduceBEq, Nat.reduceMul, Nat.reduceLT, Int.reduceLT, Int.reduceLE, Int.reduceToNat, Int.reduceNeg, Int.reduceEq, Int.reduceMul, reduceCtorEq, Int.reduceBEq, Int.reduceBNe, Int.reduceAdd, Int.reduceSub, ltT, ltF, leT, leF, s1, s2, hF, hCl, hLo, law_awake]
      done
    · have hg : w.gate 0 true = 10 := by simp only [Wea.gate, hv, hc, if_true, if_false, Bool.false_eq_true, (show (0 : Int) ≤ 10 by decide)]
      simp only [hg, hc, Bool.false_eq_true, if_false] at hCl hLo
      have hbad := cs_bad hc
      have hcs := hbad.1
      have hp8 := pow_le h8
      have hpos := cs_pos ho hc
      have c1 : ¬ (w.cs : Int) < 1 := by omega
      have hrl := rd_lt2 w
      have bn := bitsNotI (a := w.cs) (b := w.rd) (by omega) (by omega)
      have hdz : diffN w.cs w.rd = 0 := by have := hbad.2.1; simpa [subP] using this
      rw [hdz] at bn
      have hC := fun (o : AO) => law_clash (H := H ++ [.box (.agg [I w.llo, I w.lhi, I w.ulo, I w.uhi, ve]), o]) (h.app _) hv (p := H.length) (by simp [get_at]) (s := w.cs) (by omega)
      rw [hbad.2.2] at hC
      have hbt : b = (b.toNat : Int) := by omega
      have wb : IntKind.i64.wrap b = (b.toNat : Int) := by rw [w64 (by omega) (by omega)]; exact hbt
      have ba := bitsAndI (a := b.toNat) (b := w.rd) (by omega) (by omega)
      have hol : b.toNat &&& w.rd ≤ w.rd := Nat.and_le_right
      have hC2 := fun (o : AO) => law_clash (H := H ++ [.box (.agg [I w.llo, I w.lhi, I w.ulo, I w.uhi, ve]), o]) (h.app _) hv (p := H.length) (by simp [get_at]) (s := b.toNat &&& w.rd) (by omega)
      have hob := own_bad (w := w) (b := b.toNat)
      obtain ⟨ow, how⟩ : ∃ ow, b.toNat &&& w.rd = ow := ⟨_, rfl⟩
      rw [how] at ba hC2 hob hol
      have z1 := fun G : Heap => ref_Size (H := G) (s := ow) (by omega)
      have z2 := fun G : Heap => ref_Size (H := G) (s := w.cs) (by omega)
      refine (callFL_eq fn9 rfl (by simp [Tryd.f9])).trans ?_
      simp (maxSteps := 1000000) (implicitDefEqProofs := false) (disch := first | rfl | omega | assumption) only [go_sem, ↓reduceIte, Nat.reduceEqDiff, Nat.reduceAdd, Nat.reduceLeDiff, Nat.reduceBEq, Nat.reduceMul, Nat.reduceLT, Int.reduceLT, Int.reduceLE, Int.reduceToNat, Int.reduceNeg, Int.reduceEq, Int.reduceMul, reduceCtorEq, Int.reduceBEq, Int.reduceBNe, Int.reduceAdd, Int.reduceSub, ltT, ltF, leT, leF, s1, s2, hF, hCl, hLo]
      refine mask_loop h h8 b w.cs w.lostP _ _ (fun E f1 f2 f5 f9 => ?_) w.es.length 0 (by omega) [] _ (by rfl) (by rfl) (by rfl) (by rfl) (by rfl) (by rfl) (by rfl)
      simp (maxSteps := 1000000) (implicitDefEqProofs := false) (disch := first | rfl | omega | assumption) only [go_sem, ↓reduceIte, Nat.reduceEqDiff, Nat.reduceAdd, Nat.reduceLeDiff, Nat.reduceBEq, Nat.reduceMul, Nat.reduceLT, Int.reduceLT, Int.reduceLE, Int.reduceToNat, Int.reduceNeg, Int.reduceEq, Int.reduceMul, reduceCtorEq, Int.reduceBEq, Int.reduceBNe, Int.reduceAdd, Int.reduceSub, ltT, ltF, leT, leF, f1, f2, f5, f9, s2, c1, bn, hC]
      refine less_loop h hv hc b w.lostP _ _ (fun E d1 d2 d5 d9 d12 => ?_) w.es.length 0 (by omega) _ (by exact f1) (by exact f2) (by exact f5) (by exact f9) (by rfl) (by rfl) (by rfl)
      cases hcb : w.canB ow w.L
      rotate_left
      · rw [hcb] at hC2
        simp (maxSteps := 1000000) (implicitDefEqProofs := false) (disch := first | rfl | omega | assumption) only [go_sem, ↓reduceIte, Nat.reduceEqDiff, Nat.reduceAdd, Nat.reduceLeDiff, Nat.reduceBEq, Nat.reduceMul, Nat.reduceLT, Int.reduceLT, Int.reduceLE, Int.reduceToNat, Int.reduceNeg, Int.reduceEq, Int.reduceMul, reduceCtorEq, Int.reduceBEq, Int.reduceBNe, Int.reduceAdd, Int.reduceSub, ltT, ltF, leT, leF, d1, d2, d5, d9, d12, wb, ba, hC2, law_awake]
        done
      · rw [hcb] at hC2
        by_cases k1 : pop w.cs < pop ow
        · have k1' : (pop w.cs : Int) < pop ow := by omega
          simp (maxSteps := 1000000) (implicitDefEqProofs := false) (disch := first | rfl | omega | assumption) only [go_sem, ↓reduceIte, Nat.reduceEqDiff, Nat.reduceAdd, Nat.reduceLeDiff, Nat.reduceBEq, Nat.reduceMul, Nat.reduceLT, Int.reduceLT, Int.reduceLE, Int.reduceToNat, Int.reduceNeg, Int.reduceEq, Int.reduceMul, reduceCtorEq, Int.reduceBEq, Int.reduceBNe, Int.reduceAdd, Int.reduceSub, ltT, ltF, leT, leF, d1, d2, d5, d9, d12, wb, ba, hC2, z1, z2, k1', law_awake]
          done
        · have hle := cs_least hc (hob hcb)
          have k3 : pop ow = pop w.cs ∧ w.cs ≤ ow := by
            rcases hle with rfl | g
            · exact ⟨rfl, Nat.le_refl _⟩
            · simp only [lx, popK] at g
              omega
          have k1' : ¬ (pop w.cs : Int) < pop ow := by omega
          have k2 : ((pop ow : Int) == (pop w.cs : Int)) = true := by simp [k3.1]
          have k4 : (w.cs : Int) ≤ ow := by omega
          simp (maxSteps := 1000000) (implicitDefEqProofs := false) (disch := first | rfl | omega | assumption) only [go_sem, ↓reduceIte, Nat.reduceEqDiff, Nat.reduceAdd, Nat.reduceLeDiff, Nat.reduceBEq, Nat.reduceMul, Nat.reduceLT, Int.reduceLT, Int.reduceLE, Int.reduceToNat, Int.reduceNeg, Int.reduceEq, Int.reduceMul, reduceCtorEq, Int.reduceBEq, Int.reduceBNe, Int.reduceAdd, Int.reduceSub, ltT, ltF, leT, leF, d1, d2, d5, d9, d12, wb, ba, hC2, z1, z2, k1', k2, k4, law_awake]
          done

end Go.Ab
