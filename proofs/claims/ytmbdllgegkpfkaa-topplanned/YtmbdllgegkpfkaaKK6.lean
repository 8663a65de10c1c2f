/-
  The references: plans; sets; Only, Every, Price; what is drawn.
-/
import Derived.Test.YtmbdllgegkpfkaaKK5
import Derived.Test.YtmbdllgegkpfkaaKK0
import Derived.ProofKit
import Derived.OpenShut
namespace Go.Ab
open Go.Proofs
set_option linter.unusedSimpArgs false
set_option linter.unusedVariables false
set_option maxRecDepth 100000
set_option maxHeartbeats 2000000

variable {H : Heap}


def bad3 (n : Pn) (i : Nat) : Bool := !wi (n.ps.getD i 0) 0 20
def Pn.okB (n : Pn) : Bool := n.pr.okB && (wi n.wide 0 40 && ((n.ps.length == n.pr.rs.length) && !anyF (bad3 n) 0 n.ps.length))

theorem okB_pr (p : Pr) : p.okB = true ↔ p.Ok := by
  simp only [Pr.okB, okZ, spOk, wi, Bool.and_eq_true, decide_eq_true_eq, Bool.not_eq_true', anyF_false, bad1, bad2]
  constructor
  · rintro ⟨⟨h1, h2⟩, h3, h4, ⟨h5, h6, h7, h8⟩, h9⟩
    refine ⟨by omega, by omega, fun i hi => ?_, by omega, by omega, fun i hi => ?_⟩
    · have := h4 i (by omega) (by omega)
      simp only [Bool.not_eq_false', Bool.and_eq_true, decide_eq_true_eq] at this
      omega
    · have := h9 i (by omega) (by omega)
      simp only [Bool.not_eq_false', Bool.and_eq_true, decide_eq_true_eq, bne_iff_ne, ne_eq] at this
      omega
  · intro h
    have hm := h.many
    have hr := h.reads
    have hz := h.zero
    have ha := h.rate
    refine ⟨by omega, by omega, fun i _ hi => ?_, ⟨by omega, by omega, by omega, by omega⟩, fun i _ hi => ?_⟩
    · have := h.blk i (by omega)
      simp only [Bool.not_eq_false', Bool.and_eq_true, decide_eq_true_eq]
      omega
    · have := h.rd i (by omega)
      simp only [Bool.not_eq_false', Bool.and_eq_true, decide_eq_true_eq, bne_iff_ne, ne_eq]
      omega

theorem okB_pn (n : Pn) : n.okB = true ↔ n.Ok := by
  simp only [Pn.okB, Bool.and_eq_true, okB_pr, wi, decide_eq_true_eq, beq_iff_eq, Bool.not_eq_true', anyF_false, bad3]
  constructor
  · rintro ⟨h1, h2, h3, h4⟩
    refine ⟨h1, by omega, h3, fun i hi => ?_⟩
    have := h4 i (by omega) (by omega)
    simp only [Bool.not_eq_false', Bool.and_eq_true, decide_eq_true_eq] at this
    omega
  · intro h
    refine ⟨h.pr, h.wide, h.len, fun i _ hi => ?_⟩
    have := h.price i (by omega)
    simp only [Bool.not_eq_false', Bool.and_eq_true, decide_eq_true_eq]
    omega

theorem pp_loop {n : Pn} {vb vr vp : AV} (h : PnAt H n vb vr vp) (hpl : n.ps.length ≤ 1000) (r : Bool) :
    ∀ (q j : Nat), j + q = n.ps.length → (!anyF (bad3 n) j q) = r → ∀ E : Env, E.get 1 = .ptr H.length 0 → E.get 3 = I j →
    Option.map (finishC H.length) (execL cfg0 prog0 ⟨4, none, false, H.length⟩ (todoAt Try.f4 4) ⟨E, [], H ++ [.box (n.av vb vr vp)], none⟩) = some ⟨.ret (.bool r), H, none⟩ := by
  intro q
  obtain ⟨a1, a2, a3, a4⟩ := h.ps.fI
  have l3 := h.ps.len
  rw [List.length_map] at l3
  have hs1 := h.pr.bs.scal
  have hs2 := h.pr.rs.scal
  have hs3 := h.ps.scal
  induction q with
  | zero =>
    intro j hj hr E g1 g3
    have hk' : ¬ (j : Int) < ((n.ps.length : Nat) : Int) := by omega
    simp only [anyF, Bool.not_false] at hr
    subst hr
    simp only [loopIt, todoPast, todoAt, todoOf, firstReg, ↓reduceIte, Option.some.injEq, Nat.reduceEqDiff, reduceCtorEq, Try.f4]
    rw [execL_inLoop]
    simp (maxSteps := 1000000) (implicitDefEqProofs := false) (disch := first | rfl | omega | assumption) only [go_sem, g1, g3, ltT, ltF, leT, leF, hk', Pn.av, l3, hs1, hs2, hs3]
    done
  | succ q ih =>
    intro j hj hr E g1 g3
    have hk' : (j : Int) < ((n.ps.length : Nat) : Int) := by omega
    have hk2 : j < n.ps.length := by omega
    obtain ⟨x, hxe⟩ : ∃ x, n.ps.getD j 0 = x := ⟨_, rfl⟩
    have hin := fun (G : Heap) => rf8_in x 0 20 G
    simp only [anyF, bad3, hxe] at hr
    cases c : wi x 0 20
    · simp only [c, Bool.not_false, Bool.true_or, Bool.not_true] at hr
      subst hr
      simp only [loopIt, todoPast, todoAt, todoOf, firstReg, ↓reduceIte, Option.some.injEq, Nat.reduceEqDiff, reduceCtorEq, Try.f4]
      rw [execL_inLoop]
      simp (maxSteps := 1000000) (implicitDefEqProofs := false) (disch := first | rfl | omega | assumption) only [go_sem, g1, g3, ltT, ltF, leT, leF, hk', Pn.av, l3, hs1, hs2, hs3, a1, a2, a3, a4, hxe, hin, c]
      done
    · simp only [c, Bool.not_true, Bool.false_or] at hr
      have key := ih (j + 1) (by omega) hr
      simp only [Pn.av] at key
      simp only [loopIt, todoPast, todoAt, todoOf, firstReg, ↓reduceIte, Option.some.injEq, Nat.reduceEqDiff, reduceCtorEq, Try.f4]
      rw [execL_inLoop]
      simp (maxSteps := 1000000) (implicitDefEqProofs := false) (disch := first | rfl | omega | assumption) only [go_sem, g1, g3, ltT, ltF, leT, leF, hk', Pn.av, l3, hs1, hs2, hs3, a1, a2, a3, a4, hxe, hin, c]
      exact key _ (by exact g1) (by rfl)

theorem rf_Plan {n : Pn} {vb vr vp : AV} (h : PnAt H n vb vr vp) (hbl : n.pr.bs.length ≤ 1000) (hrl : n.pr.rs.length ≤ 1000) (hpl : n.ps.length ≤ 1000) : callFL cfg0 prog0 false 4 [n.av vb vr vp] H none = some ⟨.ret (.bool n.okB), H, none⟩ := by
  have l2 := h.pr.rs.len
  rw [List.length_map] at l2
  have l3 := h.ps.len
  rw [List.length_map] at l3
  have hs1 := h.pr.bs.scal
  have hs2 := h.pr.rs.scal
  have hs3 := h.ps.scal
  have hpa := rf_Pair (H := H ++ [.box (n.av vb vr vp)]) (h.pr.app _) hbl hrl
  have hin := fun (G : Heap) => rf8_in n.wide 0 40 G
  obtain ⟨r, hr⟩ : ∃ r, n.okB = r := ⟨_, rfl⟩
  rw [hr]
  simp only [Pn.okB] at hr
  simp only [Pr.av, Pn.av] at hpa ⊢
  cases c1 : n.pr.okB
  · rw [c1] at hpa
    simp only [c1, Bool.false_and] at hr
    subst hr
    refine (callFL_eq fn4 rfl (by simp [Try.f4])).trans ?_
    simp (maxSteps := 1000000) (implicitDefEqProofs := false) (disch := first | rfl | omega | assumption) only [go_sem, ltT, ltF, leT, leF, hpa, hin, l2, l3, hs1, hs2, hs3]
    done
  · rw [c1] at hpa
    cases c2 : wi n.wide 0 40
    · simp only [c1, c2, Bool.false_and, Bool.true_and] at hr
      subst hr
      refine (callFL_eq fn4 rfl (by simp [Try.f4])).trans ?_
      simp (maxSteps := 1000000) (implicitDefEqProofs := false) (disch := first | rfl | omega | assumption) only [go_sem, ltT, ltF, leT, leF, hpa, hin, c2, l2, l3, hs1, hs2, hs3]
      done
    · by_cases c3 : n.ps.length = n.pr.rs.length
      · have c3' : ((n.ps.length : Int) != (n.pr.rs.length : Int)) = false := by simp [c3]
        have c3'' : (n.ps.length == n.pr.rs.length) = true := by simp [c3]
        simp only [c1, c2, c3'', Bool.true_and] at hr
        have key := pp_loop h hpl r n.ps.length 0 (by omega) hr
        simp only [Pn.av] at key
        refine (callFL_eq fn4 rfl (by simp [Try.f4])).trans ?_
        simp (maxSteps := 1000000) (implicitDefEqProofs := false) (disch := first | rfl | omega | assumption) only [go_sem, ltT, ltF, leT, leF, hpa, hin, c2, c3', l2, l3, hs1, hs2, hs3]
        exact key _ (by rfl) (by rfl)
      · have c3' : ((n.ps.length : Int) != (n.pr.rs.length : Int)) = true := by simp; omega
        have c3'' : (n.ps.length == n.pr.rs.length) = false := by simp [c3]
        simp only [c1, c2, c3'', Bool.true_and, Bool.false_and] at hr
        subst hr
        refine (callFL_eq fn4 rfl (by simp [Try.f4])).trans ?_
        simp (maxSteps := 1000000) (implicitDefEqProofs := false) (disch := first | rfl | omega | assumption) only [go_sem, ltT, ltF, leT, leF, hpa, hin, c2, c3', l2, l3, hs1, hs2, hs3]
        done

theorem pw_loop (k : Nat) (hk : k ≤ 60) :
    ∀ (q j : Nat), j + q = k → ∀ E : Env, E.get 0 = I k → E.get 3 = I (2 ^ j : Nat) → E.get 4 = I j →
    Option.map (finishC H.length) (execL cfg0 prog0 ⟨33, none, false, H.length⟩ (todoAt Try.f33 3) ⟨E, [], H, none⟩) = some ⟨.ret (I (2 ^ k : Nat)), H, none⟩ := by
  intro q
  induction q with
  | zero =>
    intro j hj  E g0 g3 g4
    have hk' : ¬ (j : Int) < ((k : Nat) : Int) := by omega
    have ej : j = k := by omega
    subst ej
    simp only [loopIt, todoPast, todoAt, todoOf, firstReg, ↓reduceIte, Option.some.injEq, Nat.reduceEqDiff, reduceCtorEq, Try.f33]
    rw [execL_inLoop]
    simp (maxSteps := 1000000) (implicitDefEqProofs := false) (disch := first | rfl | omega | assumption) only [go_sem, g0, g3, g4, ltT, ltF, leT, leF, hk']
    done
  | succ q ih =>
    intro j hj  E g0 g3 g4
    have hk' : (j : Int) < ((k : Nat) : Int) := by omega
    have hk2 : j < k := by omega
    simp only [loopIt, todoPast, todoAt, todoOf, firstReg, ↓reduceIte, Option.some.injEq, Nat.reduceEqDiff, reduceCtorEq, Try.f33]
    rw [execL_inLoop]
    have h61 : (2 : Nat) ^ (j + 1) ≤ 2 ^ 61 := Nat.pow_le_pow_right (by omega) (by omega)
    have e1 : IntKind.i64.wrap (2 * ((2 ^ j : Nat) : Int)) = ((2 ^ (j + 1) : Nat) : Int) := by
      rw [show 2 * ((2 ^ j : Nat) : Int) = ((2 ^ (j + 1) : Nat) : Int) by rw [Nat.pow_succ]; omega]
      generalize (2 : Nat) ^ (j + 1) = m at h61 ⊢
      exact w64 (by omega) (by omega)
    simp (maxSteps := 1000000) (implicitDefEqProofs := false) (disch := first | rfl | omega | assumption) only [go_sem, g0, g3, g4, ltT, ltF, leT, leF, hk', e1]
    exact ih (j + 1) (by omega) _ (by exact g0) (by rfl) (by rfl)

theorem rf_power (k : Nat) (hk : k ≤ 60) (H : Heap) : callFL cfg0 prog0 false 33 [I k] H none = some ⟨.ret (I (2 ^ k : Nat)), H, none⟩ := by
  have key := pw_loop (H := H) k hk k 0 (by omega)
  refine (callFL_eq fn33 rfl (by simp [Try.f33])).trans ?_
  simp (maxSteps := 1000000) (implicitDefEqProofs := false) (disch := first | rfl | omega | assumption) only [go_sem, ltT, ltF, leT, leF]
  exact key _ (by rfl) (by rfl) (by rfl)

theorem rf_Has {s k : Nat} (hs : s < 2 ^ 60) (hk : k ≤ 60) (H : Heap) : callFL cfg0 prog0 false 29 [I s, I k] H none = some ⟨.ret (.bool (s.testBit k)), H, none⟩ := by
  have hp := fun G : Heap => rf_power k hk G
  have hpos : 0 < 2 ^ k := Nat.pow_pos (by omega)
  have hz : ¬ ((2 ^ k : Nat) : Int) = 0 := by omega
  have e1 : (s : Int).tdiv ((2 ^ k : Nat) : Int) = ((s / 2 ^ k : Nat) : Int) := by rw [Int.tdiv_eq_ediv_of_nonneg (Int.natCast_nonneg _)]; rfl
  have e2 : ((s / 2 ^ k : Nat) : Int).tmod 2 = ((s / 2 ^ k % 2 : Nat) : Int) := by rw [Int.tmod_eq_emod_of_nonneg (Int.natCast_nonneg _)]; rfl
  have hd : s / 2 ^ k ≤ s := Nat.div_le_self _ _
  have hw : IntKind.i64.wrap ((s / 2 ^ k : Nat) : Int) = ((s / 2 ^ k : Nat) : Int) := by
    generalize s / 2 ^ k = m at hd ⊢
    exact w64 (by omega) (by omega)
  have e3 : (((s / 2 ^ k % 2 : Nat) : Int) == 1) = s.testBit k := by
    rw [Nat.testBit_eq_decide_div_mod_eq]
    have : s / 2 ^ k % 2 = 0 ∨ s / 2 ^ k % 2 = 1 := by omega
    rcases this with h | h <;> rw [h] <;> rfl
  refine (callFL_eq fn29 rfl (by simp [Try.f29])).trans ?_
  simp (maxSteps := 1000000) (implicitDefEqProofs := false) (disch := first | rfl | omega | assumption) only [go_sem, ltT, ltF, leT, leF, hp, hz, e1, hw, e2, e3]
  done

theorem rf_Every {n : Pn} {vb vr vp : AV} (h : PnAt H n vb vr vp) (hl : n.ps.length ≤ 60) : callFL cfg0 prog0 false 13 [n.av vb vr vp] H none = some ⟨.ret (I (2 ^ n.ps.length - 1 : Nat)), H, none⟩ := by
  have hs1 := h.pr.bs.scal
  have hs2 := h.pr.rs.scal
  have hs3 := h.ps.scal
  have l3 := h.ps.len
  rw [List.length_map] at l3
  have hp := fun G : Heap => rf_power n.ps.length hl G
  have hpos : 0 < 2 ^ n.ps.length := Nat.pow_pos (by omega)
  have hle : 2 ^ n.ps.length ≤ 2 ^ 60 := Nat.pow_le_pow_right (by omega) hl
  have e1 : IntKind.i64.wrap (((2 ^ n.ps.length : Nat) : Int) - 1) = ((2 ^ n.ps.length - 1 : Nat) : Int) := by
    rw [show ((2 ^ n.ps.length : Nat) : Int) - 1 = ((2 ^ n.ps.length - 1 : Nat) : Int) by omega]
    exact w64 (by omega) (by omega)
  simp only [Pn.av]
  refine (callFL_eq fn13 rfl (by simp [Try.f13])).trans ?_
  simp (maxSteps := 1000000) (implicitDefEqProofs := false) (disch := first | rfl | omega | assumption) only [go_sem, ltT, ltF, leT, leF, hs1, hs2, hs3, l3, hp, e1]
  done

theorem costP_succ (ps : List Int) (s j : Nat) : ((idxS (j + 1) s).map fun i => ps.getD i 0).sum = if s.testBit j then ((idxS j s).map fun i => ps.getD i 0).sum + ps.getD j 0 else ((idxS j s).map fun i => ps.getD i 0).sum := by
  rw [idx_succ]
  split
  · simp
  · rfl

theorem pc_loop {n : Pn} (ho : n.Ok) {vb vr vp : AV} (h : PnAt H n vb vr vp) {s : Nat} (hs : s < 2 ^ 60) :
    ∀ (q j : Nat), j + q = n.ps.length → ∀ (c : Int), c = ((idxS j s).map fun i => n.ps.getD i 0).sum → 0 ≤ c → c ≤ 20 * j → ∀ E : Env, E.get 1 = I s → E.get 2 = .ptr H.length 0 → E.get 5 = I c → E.get 6 = I j →
    Option.map (finishC H.length) (execL cfg0 prog0 ⟨16, none, false, H.length⟩ (todoAt Try.f16 3) ⟨E, [], H ++ [.box (n.av vb vr vp)], none⟩) = some ⟨.ret (I (costL n.ps s)), H, none⟩ := by
  intro q
  obtain ⟨a1, a2, a3, a4⟩ := h.ps.fI
  have l3 := h.ps.len
  rw [List.length_map] at l3
  have hs1 := h.pr.bs.scal
  have hs2 := h.pr.rs.scal
  have hs3 := h.ps.scal
  have h8 := ho.pr.reads
  have hln := ho.len
  induction q with
  | zero =>
    intro j hj c hc hb hb2 E g1 g2 g5 g6
    have hk' : ¬ (j : Int) < ((n.ps.length : Nat) : Int) := by omega
    have ej : j = n.ps.length := by omega
    subst ej
    have ec : c = costL n.ps s := hc
    subst ec
    simp only [loopIt, todoPast, todoAt, todoOf, firstReg, ↓reduceIte, Option.some.injEq, Nat.reduceEqDiff, reduceCtorEq, Try.f16]
    rw [execL_inLoop]
    simp (maxSteps := 1000000) (implicitDefEqProofs := false) (disch := first | rfl | omega | assumption) only [go_sem, g1, g2, g5, g6, ltT, ltF, leT, leF, hk', Pn.av, l3, hs1, hs2, hs3]
    done
  | succ q ih =>
    intro j hj c hc hb hb2 E g1 g2 g5 g6
    have hk' : (j : Int) < ((n.ps.length : Nat) : Int) := by omega
    have hk2 : j < n.ps.length := by omega
    have hha := fun G : Heap => rf_Has hs (show j ≤ 60 by omega) G
    have hsu := costP_succ n.ps s j
    have hpr := ho.price j (by omega)
    obtain ⟨x, hxe⟩ : ∃ x, n.ps.getD j 0 = x := ⟨_, rfl⟩
    rw [← hc, hxe] at hsu
    rw [hxe] at hpr
    cases cb : s.testBit j
    · rw [cb] at hha
      rw [cb, if_neg (by simp)] at hsu
      have key := ih (j + 1) (by omega) c hsu.symm hb (by omega)
      simp only [Pn.av] at key
      simp only [loopIt, todoPast, todoAt, todoOf, firstReg, ↓reduceIte, Option.some.injEq, Nat.reduceEqDiff, reduceCtorEq, Try.f16]
      rw [execL_inLoop]
      simp (maxSteps := 1000000) (implicitDefEqProofs := false) (disch := first | rfl | omega | assumption) only [go_sem, g1, g2, g5, g6, ltT, ltF, leT, leF, hk', Pn.av, l3, hs1, hs2, hs3, a1, a2, a3, a4, hxe, hha]
      exact key _ (by exact g1) (by exact g2) (by exact g5) (by rfl)
    · rw [cb] at hha
      rw [cb, if_pos rfl] at hsu
      have key := ih (j + 1) (by omega) (c + x) hsu.symm (by omega) (by omega)
      simp only [Pn.av] at key
      simp only [loopIt, todoPast, todoAt, todoOf, firstReg, ↓reduceIte, Option.some.injEq, Nat.reduceEqDiff, reduceCtorEq, Try.f16]
      rw [execL_inLoop]
      simp (maxSteps := 1000000) (implicitDefEqProofs := false) (disch := first | rfl | omega | assumption) only [go_sem, g1, g2, g5, g6, ltT, ltF, leT, leF, hk', Pn.av, l3, hs1, hs2, hs3, a1, a2, a3, a4, hxe, hha]
      exact key _ (by exact g1) (by exact g2) (by rfl) (by rfl)

theorem rf_Price {n : Pn} (ho : n.Ok) {vb vr vp : AV} (h : PnAt H n vb vr vp) {s : Nat} (hs : s < 2 ^ 60) : callFL cfg0 prog0 false 16 [n.av vb vr vp, I s] H none = some ⟨.ret (I (costL n.ps s)), H, none⟩ := by
  have key := pc_loop ho h hs n.ps.length 0 (by omega) 0 rfl (by omega) (by omega)
  have hs1 := h.pr.bs.scal
  have hs2 := h.pr.rs.scal
  have hs3 := h.ps.scal
  simp only [Pn.av] at key ⊢
  refine (callFL_eq fn16 rfl (by simp [Try.f16])).trans ?_
  simp (maxSteps := 1000000) (implicitDefEqProofs := false) (disch := first | rfl | omega | assumption) only [go_sem, ltT, ltF, leT, leF, hs1, hs2, hs3]
  exact key _ (by rfl) (by rfl) (by rfl) (by rfl)

end Go.Ab
/-
  The references: Only; a plan with the readings of a set alone; what is drawn.
-/
namespace Go.Ab
open Go.Proofs
set_option linter.unusedSimpArgs false
set_option linter.unusedVariables false
set_option maxRecDepth 100000
set_option maxHeartbeats 2000000

variable {H : Heap}


theorem sealAv {N : Nat} (l : List Pt) : ltL N (l.map Pt.av) = true := ltL_map (fun _ => rfl) l

theorem on_loop {n : Pn} {vb vp : AV} {fr : Bool} (h : PnAt H n vb (.sl fr (n.pr.rs.map Pt.av)) vp) (hrl : n.pr.rs.length ≤ 60) {s : Nat} (hs : s < 2 ^ 60) :
    ∀ (q j : Nat), j + q = n.pr.rs.length → ∀ E : Env, E.get 1 = I s → E.get 2 = .ptr H.length 0 → E.get 4 = .ptr (H.length + 1) 0 → E.get 5 = .ptr (H.length + 2) 0 → E.get 6 = I j →
    Option.map (finishC H.length) (execL cfg0 prog0 ⟨11, none, false, H.length⟩ (todoAt Try.f11 3) ⟨E, [], H ++ [.box (n.av vb (.sl fr (n.pr.rs.map Pt.av)) vp), .box (.agg [.sl true [], I 0, I 0, I 0, I 0, .sl true []]), .box (.agg [vb, I n.pr.zlo, I n.pr.zhi, I n.pr.rlo, I n.pr.rhi, .gsl (H.length + 3) (idxS j s).length]), .grow 5 ((idxS j s).map fun k => (n.pr.rs.getD k pt0).av)], none⟩) = some ⟨.ret (.agg [vb, I n.pr.zlo, I n.pr.zhi, I n.pr.rlo, I n.pr.rhi, .sl false ((rdS n.pr.rs s).map Pt.av)]), H, none⟩ := by
  intro q
  obtain ⟨a1, a2, a3, a4, a5⟩ := h.pr.rs.fF (d := pt0)
  have hs1 := h.pr.bs.scal
  have hs3 := h.ps.scal
  have t1 := h.pr.bs.ltn 0
  rw [Nat.add_zero] at t1
  have hse := h.pr.bs.seal
  have hln : (n.pr.rs.map Pt.av).length = n.pr.rs.length := List.length_map _
  induction q with
  | zero =>
    intro j hj  E g1 g2 g4 g5 g6
    have hk' : ¬ (j : Int) < ((n.pr.rs.length : Nat) : Int) := by omega
    have ej : j = n.pr.rs.length := by omega
    subst ej
    simp only [loopIt, todoPast, todoAt, todoOf, firstReg, ↓reduceIte, Option.some.injEq, Nat.reduceEqDiff, reduceCtorEq, Try.f11]
    rw [execL_inLoop]
    have ea : ((idxS n.pr.rs.length s).map fun k => (n.pr.rs.getD k pt0).av) = (rdS n.pr.rs s).map Pt.av := by simp only [rdS, List.map_map]; rfl
    have el : ((rdS n.pr.rs s).map Pt.av).length = (idxS n.pr.rs.length s).length := by rw [List.length_map, rdS, List.length_map]
    have ltp : ∀ N, ltL N ((rdS n.pr.rs s).map Pt.av) = true := fun N => ltL_map (fun _ => rfl) _
    rw [ea]
    generalize (rdS n.pr.rs s).map Pt.av = xs at *
    simp (maxSteps := 1000000) (implicitDefEqProofs := false) (disch := first | rfl | omega | assumption) only [go_sem, g1, g2, g4, g5, g6, ltT, ltF, leT, leF, hk', Pn.av, hs1, hs3, hln, t1, hse, elems, el, ltp, if_true]
    done
  | succ q ih =>
    intro j hj  E g1 g2 g4 g5 g6
    have hk' : (j : Int) < ((n.pr.rs.length : Nat) : Int) := by omega
    have hk2 : j < n.pr.rs.length := by omega
    have hha := fun G : Heap => rf_Has hs (show j ≤ 60 by omega) G
    have hsu := idx_succ s j
    obtain ⟨x, hxe⟩ : ∃ x, n.pr.rs.getD j pt0 = x := ⟨_, rfl⟩
    have hrd : readPart x.av.cells 0 ⟨.struct [(0, 3), (1, 3), (2, 3), (3, 24)], 5, 40, some (.agg #[.int .i64 0, .int .i64 0, .int .i64 0, .int .i64 0, .int .i64 0])⟩ = some (.agg [I x.a, I x.b, I x.m, I x.lo, I x.hi]) := rfl
    have hil := idx_len8 s j
    cases cb : s.testBit j
    · rw [cb] at hha
      rw [cb, if_neg (by simp)] at hsu
      have key := ih (j + 1) (by omega)
      rw [hsu] at key
      simp only [Pn.av] at key
      simp only [loopIt, todoPast, todoAt, todoOf, firstReg, ↓reduceIte, Option.some.injEq, Nat.reduceEqDiff, reduceCtorEq, Try.f11]
      rw [execL_inLoop]
      simp (maxSteps := 1000000) (implicitDefEqProofs := false) (disch := first | rfl | omega | assumption) only [go_sem, g1, g2, g4, g5, g6, ltT, ltF, leT, leF, hk', Pn.av, hs1, hs3, hln, hha]
      exact key _ (by exact g1) (by exact g2) (by exact g4) (by exact g5) (by rfl)
    · rw [cb] at hha
      rw [cb, if_pos rfl] at hsu
      have key := ih (j + 1) (by omega)
      have e1 : ((idxS (j + 1) s).map fun k => (n.pr.rs.getD k pt0).av) = ((idxS j s).map fun k => (n.pr.rs.getD k pt0).av) ++ [.agg [I x.a, I x.b, I x.m, I x.lo, I x.hi]] := by simp only [hsu, List.map_append, List.map_cons, List.map_nil, hxe]; rfl
      have e2 : (idxS (j + 1) s).length = (idxS j s).length + 1 := by rw [hsu]; simp
      rw [e1, e2] at key
      simp only [Pn.av] at key
      have lm : ((idxS j s).map fun k => (n.pr.rs.getD k pt0).av).length = (idxS j s).length := List.length_map _
      have hadd : ∀ a0 a1 a2, addElem (H ++ [a0, a1, a2, .grow 5 ((idxS j s).map fun k => (n.pr.rs.getD k pt0).av)]) 5 true (.gsl (H.length + 3) (idxS j s).length) [.agg [I x.a, I x.b, I x.m, I x.lo, I x.hi]] = some (.gsl (H.length + 3) ((idxS j s).length + 1), H ++ [a0, a1, a2, .grow 5 (((idxS j s).map fun k => (n.pr.rs.getD k pt0).av) ++ [.agg [I x.a, I x.b, I x.m, I x.lo, I x.hi]])]) := by
        intro a0 a1 a2
        rw [add_gsl (xs := (idxS j s).map fun k => (n.pr.rs.getD k pt0).av) (by rw [get_at']; rfl) lm rfl rfl (by simp; omega), set_at']
        rfl
      generalize ((idxS j s).map fun k => (n.pr.rs.getD k pt0).av) = xs at *
      generalize (idxS j s).length = k at *
      simp only [loopIt, todoPast, todoAt, todoOf, firstReg, ↓reduceIte, Option.some.injEq, Nat.reduceEqDiff, reduceCtorEq, Try.f11]
      rw [execL_inLoop]
      simp (maxSteps := 1000000) (implicitDefEqProofs := false) (disch := first | rfl | omega | assumption) only [go_sem, g1, g2, g4, g5, g6, ltT, ltF, leT, leF, hk', Pn.av, hs1, hs3, hln, hha]
      rw [chkK_of]; rotate_left; kernel_rfl
      simp (maxSteps := 1000000) (implicitDefEqProofs := false) (disch := first | rfl | omega | assumption) only [go_sem, g1, g2, g4, g5, g6, ltT, ltF, leT, leF, hk', Pn.av, hs1, hs3, hln, a1, a2, a3, a4, hxe, hrd, hadd]
      exact key _ (by exact g1) (by exact g2) (by exact g4) (by exact g5) (by rfl)

theorem rf_Only {n : Pn} {vb vp : AV} {fr : Bool} (h : PnAt H n vb (.sl fr (n.pr.rs.map Pt.av)) vp) (hrl : n.pr.rs.length ≤ 60) {s : Nat} (hs : s < 2 ^ 60) : callFL cfg0 prog0 false 11 [n.av vb (.sl fr (n.pr.rs.map Pt.av)) vp, I s] H none = some ⟨.ret (.agg [vb, I n.pr.zlo, I n.pr.zhi, I n.pr.rlo, I n.pr.rhi, .sl false ((rdS n.pr.rs s).map Pt.av)]), H, none⟩ := by
  have hs1 := h.pr.bs.scal
  have hs3 := h.ps.scal
  have t1 := h.pr.bs.ltn 3
  have t3 := h.ps.ltn 3
  have ltp := sealAv (N := H.length + 3) n.pr.rs
  have key := on_loop h hrl hs n.pr.rs.length 0 (by omega)
  have e0 : idxS 0 s = [] := rfl
  simp only [Pn.av, e0, List.map_nil, List.length_nil] at key ⊢
  refine (callFL_eq fn11 rfl (by simp [Try.f11])).trans ?_
  simp (maxSteps := 1000000) (implicitDefEqProofs := false) (disch := first | rfl | omega | assumption) only [go_sem, ltT, ltF, leT, leF, hs1, hs3, t1, t3, ltp, scal_cells hs1]
  exact key _ (by rfl) (by rfl) (by rfl) (by rfl) (by rfl)

/-- A plan with the readings of a set alone. -/
def partN (n : Pn) (s : Nat) : Pn := ⟨subP n.pr s, n.wide, (idxS n.ps.length s).map fun i => n.ps.getD i 0⟩
def partA (n : Pn) (vb : AV) (s : Nat) : AV := (partN n s).av vb (.sl false ((rdS n.pr.rs s).map Pt.av)) (.sl false ((cosX n.ps s n.ps.length).map I))

theorem pt_loop {n : Pn} {vb vp : AV} {fr : Bool} (h : PnAt H n vb (.sl fr (n.pr.rs.map Pt.av)) vp) (hpl : n.ps.length ≤ 60) {s : Nat} (hs : s < 2 ^ 60) (l : Nat) (vq : AV) :
    ∀ (q j : Nat), j + q = n.ps.length → ∀ (G : Heap), ∀ E : Env, E.get 0 = I s → E.get 1 = .ptr l 0 → E.get 3 = .ptr H.length 0 → E.get 4 = .ptr (H.length + 1) 0 → E.get 14 = vp → E.get 15 = I n.ps.length → E.get 16 = I j →
    Option.map (finishC H.length) (execL cfg0 prog0 ⟨10, none, false, H.length⟩ (todoAt Try.f10 4) ⟨E, [], H ++ (.box (.agg [.sl true [], I 0, I 0, I 0, I 0, .sl true [], I 0, .sl true []]) :: .box (.agg [vb, I n.pr.zlo, I n.pr.zhi, I n.pr.rlo, I n.pr.rhi, .sl false ((rdS n.pr.rs s).map Pt.av), I n.wide, .gsl (H.length + 2) (idxS j s).length]) :: .grow 1 ((cosX n.ps s j).map I) :: G), none⟩) = some ⟨.ret (partA n vb s), H, none⟩ := by
  intro q
  obtain ⟨a1, a2, a3, a4⟩ := h.ps.fI
  have hs1 := h.pr.bs.scal
  have hs3 := h.ps.scal
  have t1 := h.pr.bs.ltn 0
  rw [Nat.add_zero] at t1
  have hse := h.pr.bs.seal
  induction q with
  | zero =>
    intro j hj G E g0 g1 g3 g4 g14 g15 g16
    have hk' : ¬ (j : Int) < ((n.ps.length : Nat) : Int) := by omega
    have ej : j = n.ps.length := by omega
    subst ej
    simp only [loopIt, todoPast, todoAt, todoOf, firstReg, ↓reduceIte, Option.some.injEq, Nat.reduceEqDiff, reduceCtorEq, Try.f10]
    rw [execL_inLoop]
    have el : ((cosX n.ps s n.ps.length).map I).length = (idxS n.ps.length s).length := by rw [List.length_map, cosX_len]
    have ltp : ∀ N, ltL N ((cosX n.ps s n.ps.length).map I) = true := fun N => ltL_map (fun _ => rfl) _
    have ltr := sealAv (N := H.length) (rdS n.pr.rs s)
    simp only [partA, Pn.av, partN, subP]
    generalize (cosX n.ps s n.ps.length).map I = xs at *
    simp (maxSteps := 1000000) (implicitDefEqProofs := false) (disch := first | rfl | omega | assumption) only [go_sem, g0, g1, g3, g4, g14, g15, g16, ltT, ltF, leT, leF, hk', hs1, hs3, t1, hse, elems, el, ltp, ltr, if_true]
    done
  | succ q ih =>
    intro j hj G E g0 g1 g3 g4 g14 g15 g16
    have hk' : (j : Int) < ((n.ps.length : Nat) : Int) := by omega
    have hk2 : j < n.ps.length := by omega
    have hsh := shrN (s := s) (j := j) (by omega)
    have hand := bitI (s := s) (j := j) hs
    have hone := and_one (s := s) (j := j)
    have z : ¬ (j : Int) < 0 := by omega
    have hsu := idx_succ s j
    obtain ⟨x, hxe⟩ : ∃ x, n.ps.getD j 0 = x := ⟨_, rfl⟩
    have hil := idx_len8 s j
    cases cb : s.testBit j
    · rw [cb] at hone
      rw [cb, if_neg (by simp)] at hsu
      have key := ih (j + 1) (by omega) G
      simp only [cosX, hsu] at key ⊢
      simp only [loopIt, todoPast, todoAt, todoOf, firstReg, ↓reduceIte, Option.some.injEq, Nat.reduceEqDiff, reduceCtorEq, Try.f10]
      rw [execL_inLoop]
      simp (maxSteps := 1000000) (implicitDefEqProofs := false) (disch := first | rfl | omega | assumption) only [go_sem, g0, g1, g3, g4, g14, g15, g16, ltT, ltF, leT, leF, hk', hs1, hs3, a1, a2, a3, a4, hxe, hsh, hand, hone, z]
      exact key _ (by exact g0) (by exact g1) (by exact g3) (by exact g4) (by exact g14) (by exact g15) (by rfl)
    · rw [cb] at hone
      rw [cb, if_pos rfl] at hsu
      have key := ih (j + 1) (by omega) G
      have e1 : (cosX n.ps s (j + 1)).map I = (cosX n.ps s j).map I ++ [I x] := by simp only [cosX, hsu, List.map_append, List.map_cons, List.map_nil, hxe]
      have e2 : (idxS (j + 1) s).length = (idxS j s).length + 1 := by rw [hsu]; simp
      rw [e1, e2] at key
      have lm : ((cosX n.ps s j).map I).length = (idxS j s).length := by rw [List.length_map, cosX_len]
      have hadd : ∀ a0 a1 r, addElem (H ++ (a0 :: a1 :: .grow 1 ((cosX n.ps s j).map I) :: r)) 1 false (.gsl (H.length + 2) (idxS j s).length) [I x] = some (.gsl (H.length + 2) ((idxS j s).length + 1), H ++ (a0 :: a1 :: .grow 1 ((cosX n.ps s j).map I ++ [I x]) :: r)) := by
        intro a0 a1 r
        rw [add_gsl (xs := (cosX n.ps s j).map I) (by rw [get_at']; rfl) lm rfl rfl (by simp; omega), set_at']
        rfl
      generalize (cosX n.ps s j).map I = xs at *
      generalize (idxS j s).length = k at *
      simp only [loopIt, todoPast, todoAt, todoOf, firstReg, ↓reduceIte, Option.some.injEq, Nat.reduceEqDiff, reduceCtorEq, Try.f10]
      rw [execL_inLoop]
      simp (maxSteps := 1000000) (implicitDefEqProofs := false) (disch := first | rfl | omega | assumption) only [go_sem, g0, g1, g3, g4, g14, g15, g16, ltT, ltF, leT, leF, hk', hs1, hs3, a1, a2, a3, a4, hxe, hsh, hand, hone, z, hadd]
      exact key _ (by exact g0) (by exact g1) (by exact g3) (by exact g4) (by exact g14) (by exact g15) (by rfl)

theorem law_part {n : Pn} {vb vp : AV} {fr : Bool} (h : PnAt H n vb (.sl fr (n.pr.rs.map Pt.av)) vp) (hrl : n.pr.rs.length ≤ 60) (hpl : n.ps.length ≤ 60) {s : Nat} (hs : s < 2 ^ 60) {l : Nat} (hl : H[l]? = some (.box (n.av vb (.sl fr (n.pr.rs.map Pt.av)) vp))) : callFL cfg0 prog0 false 10 [I s, .ptr l 0] H none = some ⟨.ret (partA n vb s), H, none⟩ := by
  have hs1 := h.pr.bs.scal
  have hs3 := h.ps.scal
  have t1 := h.pr.bs.ltn 2
  have t3 := h.ps.ltn 2
  have hll : l < H.length := (List.getElem?_eq_some_iff.1 hl).1
  have hll2 : l < H.length + 2 := by omega
  have ltp := sealAv (N := H.length + 2) (rdS n.pr.rs s)
  have hon := fun G : Heap => rf_Only (H := H ++ G) (h.app G) hrl hs
  have l3 := h.ps.len
  rw [List.length_map] at l3
  have key := pt_loop h hpl hs l vp n.ps.length 0 (by omega) []
  have e0 : (idxS 0 s).length = 0 := rfl
  have e1 : (cosX n.ps s 0).map I = [] := rfl
  rw [e0, e1] at key
  simp only [Pn.av] at hl hon
  refine (callFL_eq fn10 rfl (by simp [Try.f10])).trans ?_
  simp (maxSteps := 1000000) (implicitDefEqProofs := false) (disch := first | rfl | omega | assumption) only [go_sem, ltT, ltF, leT, leF, hl, get_lt hll, hs1, hs3, t1, t3, hon, ltp, hll2, l3, if_true]
  exact key _ (by rfl) (by rfl) (by rfl) (by rfl) (by rfl) (by rfl) (by rfl)

end Go.Ab
/-
  TopPlanned: what is drawn; the sample.
-/
namespace Go.Ab
open Go.Proofs
set_option linter.unusedSimpArgs false
set_option linter.unusedVariables false
set_option maxRecDepth 100000
set_option maxHeartbeats 2000000

variable {H : Heap}


abbrev B16 (n : Int) : AV := .int .u16 n

/-- What is drawn of a span, the a-th time. -/
def drawZ (us : List Int) (a lo hi : Int) : Int := if us.length = 0 then lo else lo + (us.getD (a % (us.length : Int)).toNat 0 + 71 * a) % (hi - lo + 1)

theorem draw_bd {us : List Int} {a lo hi : Int} (h : lo ≤ hi) : lo ≤ drawZ us a lo hi ∧ drawZ us a lo hi ≤ hi := by
  simp only [drawZ]
  split
  · omega
  · have h1 := Int.emod_nonneg (us.getD (a % (us.length : Int)).toNat 0 + 71 * a) (show hi - lo + 1 ≠ 0 by omega)
    have h2 := Int.emod_lt_of_pos (us.getD (a % (us.length : Int)).toNat 0 + 71 * a) (show 0 < hi - lo + 1 by omega)
    omega

theorem sl16 (fl : Bool) (us : List Int) : SlOk H 1 (.sl fl (us.map B16)) (us.map B16) := ⟨rfl, fun x hx => by
  obtain ⟨i, _, rfl⟩ := List.mem_map.1 hx; rfl⟩

theorem law_draw {us : List Int} {fl : Bool} (hb : ∀ i, i < us.length → 0 ≤ us.getD i 0 ∧ us.getD i 0 ≤ 65535) (hl : us.length ≤ 9223372036854775807) {p1 p2 : Nat} {a : Int} (ha : 0 ≤ a ∧ a ≤ 1000) (h1 : H[p1]? = some (.box (I a))) (h2 : H[p2]? = some (.box (.sl fl (us.map B16)))) (hpp : p1 ≠ p2) {lo hi : Int} (hn : -1000 ≤ lo ∧ lo ≤ hi ∧ hi ≤ 1000) :
    callFL cfg0 prog0 false 20 [.agg [I lo, I hi], .ptr p1 0, .ptr p2 0] H none = some ⟨.ret (I (drawZ us (a + 1) lo hi)), H.set p1 (.box (I (a + 1))), none⟩ := by
  have hl1 : p1 < H.length := (List.getElem?_eq_some_iff.1 h1).1
  have hl2 : p2 < H.length := (List.getElem?_eq_some_iff.1 h2).1
  have g1 : ∀ A, (H ++ A)[p1]? = some (.box (I a)) := fun A => by rw [List.getElem?_append_left hl1]; exact h1
  have g2 : ∀ A, (H ++ A).set p1 (.box (I (a + 1))) = H.set p1 (.box (I (a + 1))) ++ A := fun A => by rw [List.set_append_left _ _ hl1]
  have hsl : (H.set p1 (.box (I (a + 1)))).length = H.length := List.length_set
  have g3 : ∀ A, (H.set p1 (.box (I (a + 1))) ++ A)[p2]? = some (.box (.sl fl (us.map B16))) := fun A => by rw [List.getElem?_append_left (by rw [hsl]; exact hl2), List.getElem?_set_ne hpp]; exact h2
  have g4 : ∀ A, (H.set p1 (.box (I (a + 1))) ++ A)[p1]? = some (.box (I (a + 1))) := fun A => by rw [List.getElem?_append_left (by rw [hsl]; exact hl1), List.getElem?_set_self hl1]
  have g5 : ∀ A, (H.set p1 (.box (I (a + 1))) ++ A)[H.length]? = A[0]? := fun A => by rw [← hsl, get_at]
  have g6 : ∀ A, (H.set p1 (.box (I (a + 1))) ++ A).take H.length = H.set p1 (.box (I (a + 1))) := fun A => by rw [← hsl, List.take_left]
  have hlm : (us.map B16).length = us.length := List.length_map _
  have zn : ¬ hi - lo + 1 = 0 := by omega
  by_cases h0 : us.length = 0
  · have hz : ((us.length : Int) == 0) = true := by simp [h0]
    have e1 : drawZ us (a + 1) lo hi = lo := by rw [drawZ, if_pos h0]
    rw [e1]
    refine (callFL_eq fn20 rfl (by simp [Try.f20])).trans ?_
    simp (maxSteps := 1000000) (implicitDefEqProofs := false) (disch := first | rfl | omega | assumption) only [go_sem, ltT, ltF, leT, leF, g1, g2, g3, g4, g5, g6, hlm, hz]
    done
  · have hz : ((us.length : Int) == 0) = false := by simp [h0]
    have zl : ¬ (us.length : Int) = 0 := by omega
    have q0 := Int.emod_nonneg (a + 1) zl
    have q1 := Int.emod_lt_of_pos (a + 1) (show (0 : Int) < us.length by omega)
    have e1 : (a + 1).tmod (us.length : Int) = (a + 1) % (us.length : Int) := Int.tmod_eq_emod_of_nonneg (by omega)
    have hbx := hb ((a + 1) % (us.length : Int)).toNat (by omega)
    have e2 : lo + (us.getD ((a + 1) % (us.length : Int)).toNat 0 + 71 * (a + 1)).tmod (hi - lo + 1) = drawZ us (a + 1) lo hi := by rw [drawZ, if_neg h0, Int.tmod_eq_emod_of_nonneg (by omega)]
    have hdb := draw_bd (us := us) (a := a + 1) hn.2.1
    have q2 := Int.emod_nonneg (us.getD ((a + 1) % (us.length : Int)).toNat 0 + 71 * (a + 1)) (show hi - lo + 1 ≠ 0 by omega)
    have q3 := Int.emod_lt_of_pos (us.getD ((a + 1) % (us.length : Int)).toNat 0 + 71 * (a + 1)) (show 0 < hi - lo + 1 by omega)
    have q4 : (us.getD ((a + 1) % (us.length : Int)).toNat 0 + 71 * (a + 1)).tmod (hi - lo + 1) = (us.getD ((a + 1) % (us.length : Int)).toNat 0 + 71 * (a + 1)) % (hi - lo + 1) := Int.tmod_eq_emod_of_nonneg (by omega)
    obtain ⟨a1, a2, a3, a4, a5⟩ := (sl16 (H := H.set p1 (.box (I (a + 1)))) fl us).fF (d := 0)
    generalize drawZ us (a + 1) lo hi = dz at *
    generalize (a + 1) % (us.length : Int) = k at *
    obtain ⟨u, hu⟩ : ∃ u, us.getD k.toNat 0 = u := ⟨_, rfl⟩
    rw [hu] at e2 hbx q2 q3 q4
    rw [← q4] at q2 q3
    have w1 : IntKind.i64.wrap (lo + (u + 71 * (a + 1)).tmod (hi - lo + 1)) = dz := by rw [e2]; exact w64 (by omega) (by omega)
    refine (callFL_eq fn20 rfl (by simp [Try.f20])).trans ?_
    simp (maxSteps := 1000000) (implicitDefEqProofs := false) (disch := first | rfl | omega | assumption) only [go_sem, ltT, ltF, leT, leF, g1, g2, g3, g4, g5, g6, hlm, hz, zn, zl, e1]
    rw [chkK_of]; rotate_left; kernel_rfl
    simp (maxSteps := 1000000) (implicitDefEqProofs := false) (disch := first | rfl | omega | assumption) only [go_sem, ltT, ltF, leT, leF, g1, g2, g3, g4, g5, g6, hlm, hz, zn, zl, e1, a1, a2, a3, a4, hu, w1]
    done

theorem law_draws (v : AV) (hv : v.scalar = true) (hs : ∃ b l, v = .sl b l) (H : Heap) : callFL cfg0 prog0 false 6 [v] H none = some ⟨.ret (.func (.func 20) [] [.ptr (H.length + 1) 0, .ptr H.length 0]), H ++ [.box v, .box (I 0)], none⟩ := by
  obtain ⟨b, l, rfl⟩ := hs
  refine (callFL_eq fn6 rfl (by simp [Try.f6])).trans ?_
  simp (maxSteps := 1000000) (implicitDefEqProofs := false) (disch := first | rfl | omega | assumption) only [go_sem, ltT, ltF, leT, leF]
  done

theorem law_span (lo hi : Int) (H : Heap) : callFL cfg0 prog0 false 8 [I lo, I hi] H none = some ⟨.ret (.agg [I lo, I hi]), H, none⟩ := by
  refine (callFL_eq fn8 rfl (by simp [Try.f8])).trans ?_
  simp (maxSteps := 1000000) (implicitDefEqProofs := false) (disch := first | rfl | omega | assumption) only [go_sem, ltT, ltF, leT, leF]
  done

theorem rf_down (n : Int) (hn : -100000 ≤ n ∧ n ≤ 100000) (H : Heap) : callFL cfg0 prog0 false 21 [I n] H none = some ⟨.ret (I (n / 10)), H, none⟩ := by
  by_cases h : 0 ≤ n
  · have e : n.tdiv 10 = n / 10 := Int.tdiv_eq_ediv_of_nonneg h
    have hb : -100000 ≤ n / 10 ∧ n / 10 ≤ 100000 := by omega
    refine (callFL_eq fn21 rfl (by simp [Try.f21])).trans ?_
    simp (maxSteps := 1000000) (implicitDefEqProofs := false) (disch := first | rfl | omega | assumption) only [go_sem, ltT, ltF, leT, leF, h, e]
    done
  · have e : (9 - n).tdiv 10 = (9 - n) / 10 := Int.tdiv_eq_ediv_of_nonneg (by omega)
    have hb : -100000 ≤ (9 - n) / 10 ∧ (9 - n) / 10 ≤ 100000 := by omega
    have e2 : 0 - (9 - n) / 10 = n / 10 := by omega
    have hb2 : -100000 ≤ n / 10 ∧ n / 10 ≤ 100000 := by omega
    refine (callFL_eq fn21 rfl (by simp [Try.f21])).trans ?_
    simp (maxSteps := 1000000) (implicitDefEqProofs := false) (disch := first | rfl | omega | assumption) only [go_sem, ltT, ltF, leT, leF, h, e, e2]
    done

theorem rf_Equal (v : AV) (hv : v.scalar = true) {z r m : Int} (hz : -10 ≤ z ∧ z ≤ 10) (hr : -5 ≤ r ∧ r ≤ 5) (hm : 0 ≤ m ∧ m ≤ 60) (H : Heap) : callFL cfg0 prog0 false 7 [.agg [v, I z, I r], I m] H none = some ⟨.ret (I (shw z r m)), H, none⟩ := by
  have h1 : r * m ≤ 300 := by
    have a1 : r * m ≤ 5 * m := Int.mul_le_mul_of_nonneg_right hr.2 hm.1
    omega
  have h2 : -300 ≤ r * m := by
    have a1 : -5 * m ≤ r * m := Int.mul_le_mul_of_nonneg_right hr.1 hm.1
    omega
  simp only [shw]
  have hd := fun G : Heap => rf_down (r * m) (by omega) G
  obtain ⟨k, hk⟩ : ∃ k, r * m = k := ⟨_, rfl⟩
  rw [hk] at h1 h2 ⊢
  simp only [hk] at hd
  have hb : -100 ≤ k / 10 ∧ k / 10 ≤ 100 := by omega
  have hvc := scal_cells hv
  refine (callFL_eq fn7 rfl (by simp [Try.f7])).trans ?_
  simp (maxSteps := 1000000) (implicitDefEqProofs := false) (disch := first | rfl | omega | assumption) only [go_sem, ltT, ltF, leT, leF, hv, hvc]
  rw [chkK_of]; rotate_left; kernel_rfl
  simp (maxSteps := 1000000) (implicitDefEqProofs := false) (disch := first | rfl | omega | assumption) only [go_sem, ltT, ltF, leT, leF, hv, hvc, hk, hd]
  done

/-- The sample. -/
def n0 : Pn := ⟨⟨[(0, 0), (-5, 5), (-5, 5)], 0, 1, 2, 2, [⟨1, 0, 0, 3, 4⟩, ⟨2, 0, 10, 3, 3⟩, ⟨1, 2, 20, 5, 7⟩]⟩, 2, [5, 4, 1]⟩

theorem hasT_of {n : Pn} (ho : n.Ok) (h : ∀ b, b < n.pr.bs.length → ∃ s, knownL n.pr n.pr.rs b = some s) : HasT n := by
  intro s b hb
  obtain ⟨sp, h1⟩ := h b hb
  have h5 := ho.pr.many
  obtain ⟨⟨lo, hi⟩, h2, _⟩ := known_sub (rdS_sub n.pr.rs s) ho.pr.inB (show b < 6 by omega) h1
  exact ⟨lo, hi, h2⟩

theorem n0_vals : n0.okB = true ∧ knownL n0.pr n0.pr.rs 0 = some (0, 0) ∧ knownL n0.pr n0.pr.rs 1 = some (2, 4) ∧ (knownL n0.pr n0.pr.rs 2).isSome = true ∧ enN n0 7 = true ∧ bestN n0 (fun _ => 0) = 3 := by decide +kernel

theorem n0_ok : n0.Ok := (okB_pn n0).1 n0_vals.1
theorem n0_has : HasT n0 := hasT_of n0_ok fun b hb => by
  have h3 : n0.pr.bs.length = 3 := rfl
  rw [h3] at hb
  match b, hb with
  | 0, _ => exact ⟨_, n0_vals.2.1⟩
  | 1, _ => exact ⟨_, n0_vals.2.2.1⟩
  | 2, _ => exact Option.isSome_iff_exists.1 n0_vals.2.2.2.1

theorem law_plan08 (H : Heap) : callFL cfg0 prog0 false 19 [] H none = some ⟨.ret (n0.av (.sl true (n0.pr.bs.map spA)) (.sl true (n0.pr.rs.map Pt.av)) (.sl true (n0.ps.map I))), H, none⟩ := by
  simp only [n0, Pn.av, List.map_cons, List.map_nil, spA, Pt.av]
  refine (callFL_eq fn19 rfl (by simp [Try.f19])).trans ?_
  simp (maxSteps := 1000000) (implicitDefEqProofs := false) (disch := first | rfl | omega | assumption) only [go_sem, ltT, ltF, leT, leF, law_span]
  done

theorem n0_at (H : Heap) : PnAt H n0 (.sl true (n0.pr.bs.map spA)) (.sl true (n0.pr.rs.map Pt.av)) (.sl true (n0.ps.map I)) :=
  ⟨⟨slS true _, ⟨rfl, fun x hx => by obtain ⟨i, _, rfl⟩ := List.mem_map.1 hx; rfl⟩⟩, slI true _⟩

theorem law_awake (H : Heap) : callFL cfg0 prog0 false 5 [] H none = some ⟨.ret (.bool true), H, none⟩ := by
  have hf := fun G : Heap => pl_Fewest (H := G) n0_ok n0_has (n0_at G)
  have hk : ∀ G : Heap, callFL cfg0 prog0 false 14 [n0.pr.av (.sl true (n0.pr.bs.map spA)) (.sl true (n0.pr.rs.map Pt.av)), I 1] G none = some ⟨.ret (.tup [.agg [I 2, I 4], I 0]), G, none⟩ := fun G => pr_Known (H := G) (n0_at G).pr n0_ok.pr (n := 1) (by decide) (2, 4) n0_vals.2.2.1
  have e7 : fullN n0 = 7 := rfl
  rw [e7] at hf
  simp only [n0_vals.2.2.2.2.1, n0_vals.2.2.2.2.2, if_true] at hf
  have hp := law_plan08
  simp only [n0, Pn.av, Pr.av, List.map_cons, List.map_nil, spA, Pt.av] at hf hk hp
  refine (callFL_eq fn5 rfl (by simp [Try.f5])).trans ?_
  simp (maxSteps := 1000000) (implicitDefEqProofs := false) (disch := first | rfl | omega | assumption) only [go_sem, ltT, ltF, leT, leF, hp, hf, hk]
  rw [chkK_of]; rotate_left; kernel_rfl
  simp (maxSteps := 1000000) (implicitDefEqProofs := false) (disch := first | rfl | omega | assumption) only [go_sem, ltT, ltF, leT, leF, hp, hf, hk, law_span]
  done

end Go.Ab
/-
  A plan that is handed in, and small numbers, as the evaluator takes them.
-/
namespace Go.Ab
set_option linter.unusedSimpArgs false
set_option linter.unusedVariables false
set_option maxRecDepth 100000
open Go.Proofs Go.ChangeShapes Go.RowKit Go.WideShapes

def shI : Sh := .int .i64
def shSpan : Sh := .cons shI (.cons shI .unit)
def shRd : Sh := .cons shI (.cons shI (.cons shI (.cons shSpan .unit)))
def shPr : Sh := .cons (.sl true shSpan) (.cons shSpan (.cons shSpan (.cons (.sl true shRd) .unit)))
def shPn : Sh := .cons shPr (.cons shI (.cons (.sl false shI) .unit))

theorem sh_two {l : List AV} (h : Shaped shSpan l) : ∃ a b, l = [I a, I b] := by
  obtain ⟨_, _, rfl, ⟨a, rfl, _⟩, _, _, rfl, ⟨b, rfl, _⟩, rfl⟩ := h
  exact ⟨a, b, rfl⟩

theorem sh_rd {l : List AV} (h : Shaped shRd l) : ∃ r : Pt, AV.agg l = r.av := by
  obtain ⟨_, _, rfl, ⟨a, rfl, _⟩, _, _, rfl, ⟨b, rfl, _⟩, _, _, rfl, ⟨m, rfl, _⟩, _, _, rfl, h1, rfl⟩ := h
  obtain ⟨lo, hi, rfl⟩ := sh_two h1
  exact ⟨⟨a, b, m, lo, hi⟩, rfl⟩

theorem sh_ints {f : Bool} {es : List AV} (h : ∀ x ∈ es, ∃ cs, Shaped shI cs ∧ x = pack false cs) : ∃ l : List Int, es = l.map I :=
  list_of (f := I) fun x hx => by
    obtain ⟨_, ⟨n, rfl, _⟩, rfl⟩ := h x hx
    exact ⟨n, rfl⟩

theorem sh_pn {l : List AV} (h : Shaped shPn l) : ∃ (n : Pn) (vb vr vp : AV), l = [vb, I n.pr.zlo, I n.pr.zhi, I n.pr.rlo, I n.pr.rhi, vr, I n.wide, vp] ∧ PnAt [] n vb vr vp := by
  obtain ⟨_, _, rfl, ⟨_, _, rfl, ⟨f, es, rfl, h1⟩, _, _, rfl, h2, _, _, rfl, h3, _, _, rfl, ⟨g, fs, rfl, h4⟩, rfl⟩, _, _, rfl, ⟨w, rfl, _⟩, _, _, rfl, ⟨k, gs, rfl, h5⟩, rfl⟩ := h
  obtain ⟨a, b, rfl⟩ := sh_two h2
  obtain ⟨c, d, rfl⟩ := sh_two h3
  obtain ⟨bs, rfl⟩ := list_of (f := spA) (es := es) fun x hx => by
    obtain ⟨cs, hc, rfl⟩ := h1 x hx
    obtain ⟨a, b, rfl⟩ := sh_two hc
    exact ⟨(a, b), rfl⟩
  obtain ⟨rs, rfl⟩ := list_of (f := Pt.av) (es := fs) fun x hx => by
    obtain ⟨cs, hc, rfl⟩ := h4 x hx
    obtain ⟨r, hr⟩ := sh_rd hc
    exact ⟨r, by simp only [pack, if_true]; exact hr⟩
  obtain ⟨ps, rfl⟩ := sh_ints (f := k) h5
  exact ⟨⟨⟨bs, a, b, c, d, rs⟩, w, ps⟩, .sl f (bs.map spA), .sl g (rs.map Pt.av), .sl k (ps.map I), rfl, ⟨⟨⟨rfl, fun x hx => by obtain ⟨i, _, rfl⟩ := List.mem_map.1 hx; rfl⟩, ⟨rfl, fun x hx => by obtain ⟨i, _, rfl⟩ := List.mem_map.1 hx; rfl⟩⟩, ⟨rfl, fun x hx => by obtain ⟨i, _, rfl⟩ := List.mem_map.1 hx; rfl⟩⟩⟩

theorem sh30 : shOf prog0 8 30 = some shPn := by kernel_rfl
theorem sh31 : shOf prog0 8 31 = some (.sl false (.int .u16)) := by kernel_rfl
theorem laid0 : laidOutB prog0 = true := by kernel_rfl

theorem arg_pn {T : Type} {enc : TypeId × Value → T} {W : World} {r : Reach} {b0 : Nat} {v : Value} {d : DataW T} {ps : List MemPlace} (hval : Value.okWide prog0 W r b0 30 v) (hd : DataW.Trod enc prog0 W 0 (fun _ => true) true 30 v d ps) :
    ∃ (n : Pn) (vb vr vp : AV), Rel (Cx.start W) (.agg [vb, I n.pr.zlo, I n.pr.zhi, I n.pr.rlo, I n.pr.rhi, vr, I n.wide, vp]) v ∧ PnAt [] n vb vr vp := by
  obtain ⟨avs, h1, h2⟩ := arg_agg Try.underlying30 sh30 hval hd
  obtain ⟨n, vb, vr, vp, rfl, h3⟩ := sh_pn h2
  exact ⟨n, vb, vr, vp, h1, h3⟩

theorem list_ofP {α : Type} {p : α → Prop} {f : α → AV} : ∀ {es : List AV}, (∀ x ∈ es, ∃ a, p a ∧ x = f a) → ∃ l : List α, es = l.map f ∧ ∀ a ∈ l, p a
  | [], _ => ⟨[], rfl, by simp⟩
  | x :: r, h => by
    obtain ⟨a, ha, rfl⟩ := h x (List.mem_cons_self ..)
    obtain ⟨l, rfl, hl⟩ := list_ofP fun y hy => h y (List.mem_cons_of_mem _ hy)
    refine ⟨a :: l, rfl, fun b hb => ?_⟩
    rcases List.mem_cons.1 hb with rfl | hb
    · exact ha
    · exact hl b hb

theorem len_of {T : Type} {enc : TypeId × Value → T} {W : World} {t e : TypeId} {v : Value} {d : DataW T} {ps : List MemPlace} {f : Bool} {es : List AV} (hu : prog0.underlying t = some (.slice e)) (h1 : Rel (Cx.start W) (.sl f es) v) (hd : DataW.Trod enc prog0 W 0 (fun _ => true) true t v d ps) : es.length ≤ 9223372036854775807 := by
  rw [Rel] at h1
  obtain ⟨a, cap, rfl, ⟨-, hc⟩, -, hy⟩ := h1
  obtain ⟨m, hm⟩ := hd
  cases m with
  | zero => simp [DataW.trod] at hm
  | succ m =>
    cases a with
    | none =>
      rcases hy with hy | ⟨b, o, sz, ys, hy, -⟩
      · have := congrArg List.length hy
        simp at this
        simp [this]
      · cases hy
    | some a =>
      simp only [DataW.trod, Value.cells, hu] at hm
      split at hm
      · rename_i h
        have : maxLen = 9223372036854775807 := rfl
        omega
      · cases hm

theorem arg_u16s {T : Type} {enc : TypeId × Value → T} {W : World} {r : Reach} {b0 : Nat} {v : Value} {d : DataW T} {ps : List MemPlace} (hval : Value.okWide prog0 W r b0 31 v) (hd : DataW.Trod enc prog0 W 0 (fun _ => true) true 31 v d ps) :
    ∃ (fl : Bool) (us : List Int), Rel (Cx.start W) (.sl fl (us.map B16)) v ∧ (us.length ≤ 9223372036854775807 ∧ ∀ i, i < us.length → 0 ≤ us.getD i 0 ∧ us.getD i 0 ≤ 65535) := by
  obtain ⟨f, es, h1, h2⟩ := arg_sl Try.underlying31 sh31 hval hd
  obtain ⟨ws, rfl, hw⟩ := list_ofP (p := fun n : Int => 0 ≤ n ∧ n ≤ 65535) (f := B16) (es := es) fun x hx => by
    obtain ⟨_, ⟨n, rfl, hn⟩, rfl⟩ := h2 x hx
    exact ⟨n, bounds_u16 hn, rfl⟩
  have hl := len_of Try.underlying31 h1 hd
  rw [List.length_map] at hl
  exact ⟨f, ws, h1, ⟨hl, fun i hi => hw _ (by simp [hi])⟩⟩

end Go.Ab
/-
  TopPlanned: the loops that make the truth and the readings.
-/
namespace Go.Ab
open Go.Proofs
set_option linter.unusedSimpArgs false
set_option linter.unusedVariables false
set_option maxRecDepth 100000
set_option maxHeartbeats 2000000

variable {H : Heap}


theorem lt16 (us : List Int) (N : Nat) : ltL N (us.map B16) = true := ltL_map (fun _ => rfl) _

def wayF (bs : List (Int × Int)) (x : Int) (i : Nat) : Int := x * ((bs.getD i (0, 0)).2 - (bs.getD i (0, 0)).1 + 1)

theorem way_bd {x d : Int} {j : Nat} (hj : j < 5) (hx : 0 ≤ x ∧ x ≤ 25 * 41 ^ j) (hd : 0 ≤ d ∧ d ≤ 41) : 0 ≤ x * d ∧ x * d ≤ 25 * 41 ^ (j + 1) ∧ x * d ≤ 9000000000 := by
  have h1 : 0 ≤ x * d := Int.mul_nonneg hx.1 hd.1
  have h2 : x * d ≤ 25 * 41 ^ j * 41 := Int.mul_le_mul hx.2 hd.2 hd.1 (by have := hx.1; have := hx.2; omega)
  have h3 : (25 : Int) * 41 ^ (j + 1) = 25 * 41 ^ j * 41 := by rw [Int.pow_succ, Int.mul_assoc]
  have h4 : ∀ j : Nat, j < 5 → (25 : Int) * 41 ^ (j + 1) ≤ 9000000000 := by decide
  have h5 := h4 j hj
  omega

theorem tl_l5 {n : Pn} (ho : n.Ok) {vb vr vp : AV} (h : PnAt H n vb vr vp) (fl : Bool) (us : List Int) (w : Int) (K : List Item) (R : Option Done) (hK : ∀ E : Env, E.get 1 = .sl fl (us.map B16) → E.get 2 = .ptr H.length 0 → E.get 5 = I w → Option.map (finishC H.length) (execL cfg0 prog0 ⟨3, none, false, H.length⟩ K ⟨E, [], H ++ [.box (n.av vb vr vp)], none⟩) = R)  :
    ∀ (q j : Nat), j + q = n.pr.bs.length → ∀ (x : Int), 0 ≤ x ∧ x ≤ 25 * 41 ^ j → foldF (wayF n.pr.bs) x j q = w → ∀ (G : Heap), ∀ E : Env, E.get 1 = .sl fl (us.map B16) → E.get 2 = .ptr H.length 0 → E.get 5 = I x → E.get 76 = vb → E.get 77 = I n.pr.bs.length → E.get 78 = I j →
    Option.map (finishC H.length) (execL cfg0 prog0 ⟨3, none, false, H.length⟩ (loopIt Try.f3 5 :: .inBlock 0 :: K) ⟨E, [], H ++ (.box (n.av vb vr vp) :: G), none⟩) = R := by
  intro q
  obtain ⟨a1, a2, a3, a4, a5⟩ := h.pr.bs.fF (d := (0, 0))
  have hs1 := h.pr.bs.scal
  have hs2 := h.pr.rs.scal
  have hs3 := h.ps.scal
  have t1 := h.pr.bs.ltn 1
  have t2 := h.pr.rs.ltn 1
  have t3 := h.ps.ltn 1
  have t4 := fun N => lt16 us N
  have h5 := ho.pr.many
  induction q with
  | zero =>
    intro j hj x hx hr G E g1 g2 g5 g76 g77 g78
    have hk' : ¬ (j : Int) < ((n.pr.bs.length : Nat) : Int) := by omega
    simp only [foldF] at hr
    subst hr
    simp only [loopIt, todoPast, todoAt, todoOf, firstReg, ↓reduceIte, Option.some.injEq, Nat.reduceEqDiff, reduceCtorEq, Try.f3]
    rw [execL_inLoop]
    simp only [Pn.av] at hK ⊢
    simp (maxSteps := 1000000) (implicitDefEqProofs := false) (disch := first | rfl | omega | assumption) only [go_sem, g1, g2, g5, g76, g77, g78, ltT, ltF, leT, leF, hk', hs1, hs2, hs3, t1, t2, t3, t4]
    exact hK _ (by rfl) (by rfl) (by rfl)
  | succ q ih =>
    intro j hj x hx hr G E g1 g2 g5 g76 g77 g78
    have hk' : (j : Int) < ((n.pr.bs.length : Nat) : Int) := by omega
    have hk2 : j < n.pr.bs.length := by omega
    obtain ⟨⟨lo, hi⟩, hxe⟩ : ∃ x, n.pr.bs.getD j (0, 0) = x := ⟨_, rfl⟩
    have hrd : readPart (spA (lo, hi)).cells 0 ⟨.struct [(0, 3), (1, 3)], 2, 16, some (.agg #[.int .i64 0, .int .i64 0])⟩ = some (.agg [I lo, I hi]) := rfl
    have hb := ho.pr.blk j (by omega)
    rw [hxe] at hb
    simp only at hb
    simp only [foldF, wayF, hxe] at hr
    have hwb := way_bd (show j < 5 by omega) hx (show 0 ≤ hi - lo + 1 ∧ hi - lo + 1 ≤ 41 by omega)
    have hw : IntKind.i64.wrap (x * (hi - lo + 1)) = x * (hi - lo + 1) := w64 (by omega) (by omega)
    have key := ih (j + 1) (by omega) (x * (hi - lo + 1)) ⟨hwb.1, hwb.2.1⟩ hr [.box (.agg [I lo, I hi])]
    simp only [Pn.av] at key ⊢
    simp only [loopIt, todoPast, todoAt, todoOf, firstReg, ↓reduceIte, Option.some.injEq, Nat.reduceEqDiff, reduceCtorEq, Try.f3]
    rw [execL_inLoop]
    simp (maxSteps := 1000000) (implicitDefEqProofs := false) (disch := first | rfl | omega | assumption) only [go_sem, g1, g2, g5, g76, g77, g78, ltT, ltF, leT, leF, hk', hs1, hs2, hs3, t1, t2, t3, t4, a1, a2, a3, a4, hxe, hrd, hw]
    exact key _ (by rfl) (by rfl) (by rfl) (by rfl) (by rfl) (by rfl)

/-- The blocks as they truly are, as they are drawn. -/
def xsP (n : Pn) (us : List Int) (j : Nat) : List Int := (List.range j).map fun (i : Nat) => drawZ us (3 + (i : Int)) (n.pr.bs.getD i (0, 0)).1 (n.pr.bs.getD i (0, 0)).2
theorem xsP_len (n : Pn) (us : List Int) (j : Nat) : (xsP n us j).length = j := by simp [xsP]
theorem xsP_succ (n : Pn) (us : List Int) (j : Nat) : xsP n us (j + 1) = xsP n us j ++ [drawZ us (3 + (j : Int)) (n.pr.bs.getD j (0, 0)).1 (n.pr.bs.getD j (0, 0)).2] := by simp [xsP, List.range_succ]

theorem tl_l14 {n : Pn} (ho : n.Ok) {vb vr vp : AV} (h : PnAt H n vb vr vp) (fl : Bool) (us : List Int) (hu : ∀ i, i < us.length → 0 ≤ us.getD i 0 ∧ us.getD i 0 ≤ 65535) (hul : us.length ≤ 9223372036854775807) (z r : Int) (K : List Item) (R : Option Done) (hK : ∀ E : Env, E.get 2 = .ptr H.length 0 → E.get 9 = .ptr (H.length + 3) 0 → Option.map (finishC H.length) (execL cfg0 prog0 ⟨3, none, false, H.length⟩ K ⟨E, [], H ++ [.box (n.av vb vr vp), .box (.sl fl (us.map B16)), .box (I (2 + (n.pr.bs.length : Int))), .box (.agg [.gsl (H.length + 4) n.pr.bs.length, I z, I r]), .grow 1 ((xsP n us n.pr.bs.length).map I)], none⟩) = R)  :
    ∀ (q j : Nat), j + q = n.pr.bs.length → ∀ (G : Heap), ∀ E : Env, E.get 2 = .ptr H.length 0 → E.get 8 = .func (.func 20) [] [.ptr (H.length + 2) 0, .ptr (H.length + 1) 0] → E.get 9 = .ptr (H.length + 3) 0 → E.get 109 = vb → E.get 110 = I n.pr.bs.length → E.get 111 = I j →
    Option.map (finishC H.length) (execL cfg0 prog0 ⟨3, none, false, H.length⟩ (loopIt Try.f3 14 :: .inBlock 2 :: K) ⟨E, [], H ++ (.box (n.av vb vr vp) :: .box (.sl fl (us.map B16)) :: .box (I (2 + (j : Int))) :: .box (.agg [.gsl (H.length + 4) j, I z, I r]) :: .grow 1 ((xsP n us j).map I) :: G), none⟩) = R := by
  intro q
  obtain ⟨a1, a2, a3, a4, a5⟩ := h.pr.bs.fF (d := (0, 0))
  have hs1 := h.pr.bs.scal
  have hs2 := h.pr.rs.scal
  have hs3 := h.ps.scal
  have t1 := h.pr.bs.ltn 5
  have t2 := h.pr.rs.ltn 5
  have t3 := h.ps.ltn 5
  have t4 := fun N => lt16 us N
  have t5 : ∀ N j, ltL N ((xsP n us j).map I) = true := fun N j => ltL_map (fun _ => rfl) _
  have h5 := ho.pr.many
  induction q with
  | zero =>
    intro j hj G E g2 g8 g9 g109 g110 g111
    have hk' : ¬ (j : Int) < ((n.pr.bs.length : Nat) : Int) := by omega
    have ej : j = n.pr.bs.length := by omega
    subst ej
    simp only [loopIt, todoPast, todoAt, todoOf, firstReg, ↓reduceIte, Option.some.injEq, Nat.reduceEqDiff, reduceCtorEq, Try.f3]
    rw [execL_inLoop]
    simp only [Pn.av] at hK ⊢
    simp (maxSteps := 1000000) (implicitDefEqProofs := false) (disch := first | rfl | omega | assumption) only [go_sem, g2, g8, g9, g109, g110, g111, ltT, ltF, leT, leF, hk', hs1, hs2, hs3, t1, t2, t3, t4, t5]
    exact hK _ (by rfl) (by rfl)
  | succ q ih =>
    intro j hj G E g2 g8 g9 g109 g110 g111
    have hk' : (j : Int) < ((n.pr.bs.length : Nat) : Int) := by omega
    have hk2 : j < n.pr.bs.length := by omega
    obtain ⟨⟨lo, hi⟩, hxe⟩ : ∃ x, n.pr.bs.getD j (0, 0) = x := ⟨_, rfl⟩
    have hrd : readPart (spA (lo, hi)).cells 0 ⟨.struct [(0, 3), (1, 3)], 2, 16, some (.agg #[.int .i64 0, .int .i64 0])⟩ = some (.agg [I lo, I hi]) := rfl
    have hb := ho.pr.blk j (by omega)
    rw [hxe] at hb
    simp only at hb
    have hdr := law_draw (H := H ++ [.box (n.av vb vr vp), .box (.sl fl (us.map B16)), .box (I (2 + (j : Int))), .box (.agg [.gsl (H.length + 4) j, I z, I r]), .grow 1 ((xsP n us j).map I), .box (.agg [I lo, I hi])]) (us := us) (fl := fl) hu hul (p1 := H.length + 2) (p2 := H.length + 1) (a := 2 + (j : Int)) (by omega) (by rw [get_at']; rfl) (by rw [get_at']; rfl) (by omega) (lo := lo) (hi := hi) (by omega)
    have hxs := xsP_succ n us j
    rw [hxe] at hxs
    have e3 : 2 + (j : Int) + 1 = 3 + (j : Int) := by omega
    have e4 : (2 : Int) + ((j + 1 : Nat) : Int) = 3 + (j : Int) := by omega
    have hxm : (xsP n us (j + 1)).map I = (xsP n us j).map I ++ [I (drawZ us (3 + (j : Int)) lo hi)] := by rw [hxs]; simp
    have lm : ((xsP n us j).map I).length = j := by rw [List.length_map, xsP_len]
    have key := ih (j + 1) (by omega) [.box (.agg [I lo, I hi])]
    rw [hxm, e4] at key
    rw [set_at'] at hdr
    simp only [e3, List.set_cons_zero, List.set_cons_succ] at hdr
    obtain ⟨d, hd⟩ : ∃ d, drawZ us (3 + (j : Int)) lo hi = d := ⟨_, rfl⟩
    rw [hd] at hdr key
    have hadd : ∀ a0 a1 a2 a3 r, addElem (H ++ (a0 :: a1 :: a2 :: a3 :: .grow 1 ((xsP n us j).map I) :: r)) 1 false (.gsl (H.length + 4) j) [I d] = some (.gsl (H.length + 4) (j + 1), H ++ (a0 :: a1 :: a2 :: a3 :: .grow 1 ((xsP n us j).map I ++ [I d]) :: r)) := by
      intro a0 a1 a2 a3 r
      rw [add_gsl (xs := (xsP n us j).map I) (by rw [get_at']; rfl) lm rfl rfl (by simp; omega), set_at']
      rfl
    have t5j := fun N => t5 N j
    clear t5
    generalize (xsP n us j).map I = xs at *
    simp only [Pn.av] at key hdr ⊢
    simp only [loopIt, todoPast, todoAt, todoOf, firstReg, ↓reduceIte, Option.some.injEq, Nat.reduceEqDiff, reduceCtorEq, Try.f3]
    rw [execL_inLoop]
    simp (maxSteps := 1000000) (implicitDefEqProofs := false) (disch := first | rfl | omega | assumption) only [go_sem, g2, g8, g9, g109, g110, g111, ltT, ltF, leT, leF, hk', hs1, hs2, hs3, t1, t2, t3, t4, t5j, a1, a2, a3, a4, hxe, hrd]
    rw [chkK_of]; rotate_left; kernel_rfl
    simp (maxSteps := 1000000) (implicitDefEqProofs := false) (disch := first | rfl | omega | assumption) only [go_sem, g2, g8, g9, g109, g110, g111, ltT, ltF, leT, leF, hk', hs1, hs2, hs3, t1, t2, t3, t4, t5j, a1, a2, a3, a4, hxe, hrd, hdr, hadd]
    exact key _ (by rfl) (by rfl) (by rfl) (by rfl) (by rfl) (by rfl)

end Go.Ab
/-
  TopPlanned: readings that are right; what is known of each block.
-/
namespace Go.Ab
open Go.Proofs
set_option linter.unusedSimpArgs false
set_option linter.unusedVariables false
set_option maxRecDepth 100000
set_option maxHeartbeats 2000000

variable {H : Heap}


/-- A reading that is right, as wide as another one. -/
def ownR (xs : List Int) (z r : Int) (x : Pt) : Pt :=
  ⟨x.a, x.b, x.m, xs.getD x.a.toNat 0 - xs.getD x.b.toNat 0 + shw z r x.m - (if x.hi - x.lo < 2 then x.hi - x.lo else 2), xs.getD x.a.toNat 0 - xs.getD x.b.toNat 0 + shw z r x.m⟩
def owP (n : Pn) (xs : List Int) (z r : Int) (j : Nat) : List Pt := (List.range j).map fun (i : Nat) => ownR xs z r (n.pr.rs.getD i pt0)
theorem owP_len (n : Pn) (xs : List Int) (z r : Int) (j : Nat) : (owP n xs z r j).length = j := by simp [owP]
theorem owP_succ (n : Pn) (xs : List Int) (z r : Int) (j : Nat) : owP n xs z r (j + 1) = owP n xs z r j ++ [ownR xs z r (n.pr.rs.getD j pt0)] := by simp [owP, List.range_succ]

theorem tl_l21 {n : Pn} (ho : n.Ok) {vb vr vp : AV} (h : PnAt H n vb vr vp) (fl : Bool) (us : List Int) (a : Int) {xs : List Int} (hxl : xs.length = n.pr.bs.length) (hxb : ∀ i, i < xs.length → -20 ≤ xs.getD i 0 ∧ xs.getD i 0 ≤ 20) {z r : Int} (hz : -10 ≤ z ∧ z ≤ 10) (hr : -5 ≤ r ∧ r ≤ 5) (K : List Item) (R : Option Done) (hK : ∀ E : Env, E.get 2 = .ptr H.length 0 → E.get 9 = .ptr (H.length + 3) 0 → E.get 12 = .ptr (H.length + 4) 0 → Option.map (finishC H.length) (execL cfg0 prog0 ⟨3, none, false, H.length⟩ K ⟨E, [], H ++ [.box (n.av vb vr vp), .box (.sl fl (us.map B16)), .box (I a), .box (.agg [.sl false (xs.map I), I z, I r]), .box (.agg [vb, I n.pr.zlo, I n.pr.zhi, I n.pr.rlo, I n.pr.rhi, .gsl (H.length + 5) n.pr.rs.length, I n.wide, vp]), .grow 5 ((owP n xs z r n.pr.rs.length).map Pt.av)], none⟩) = R)  :
    ∀ (q j : Nat), j + q = n.pr.rs.length → ∀ (G : Heap), ∀ E : Env, E.get 2 = .ptr H.length 0 → E.get 9 = .ptr (H.length + 3) 0 → E.get 12 = .ptr (H.length + 4) 0 → E.get 129 = vr → E.get 130 = I n.pr.rs.length → E.get 131 = I j →
    Option.map (finishC H.length) (execL cfg0 prog0 ⟨3, none, false, H.length⟩ (loopIt Try.f3 21 :: .inBlock 4 :: K) ⟨E, [], H ++ (.box (n.av vb vr vp) :: .box (.sl fl (us.map B16)) :: .box (I a) :: .box (.agg [.sl false (xs.map I), I z, I r]) :: .box (.agg [vb, I n.pr.zlo, I n.pr.zhi, I n.pr.rlo, I n.pr.rhi, .gsl (H.length + 5) j, I n.wide, vp]) :: .grow 5 ((owP n xs z r j).map Pt.av) :: G), none⟩) = R := by
  intro q
  obtain ⟨a1, a2, a3, a4, a5⟩ := h.pr.rs.fF (d := pt0)
  have hs1 := h.pr.bs.scal
  have hs2 := h.pr.rs.scal
  have hs3 := h.ps.scal
  have t1 := h.pr.bs.ltn 6
  have t2 := h.pr.rs.ltn 6
  have t3 := h.ps.ltn 6
  have t4 := fun N => lt16 us N
  have t5 : ∀ N j, ltL N ((owP n xs z r j).map Pt.av) = true := fun N j => sealAv _
  have t6 : ∀ N, ltL N (xs.map I) = true := fun N => ltL_map (fun _ => rfl) _
  have h5 := ho.pr.many
  have h8 := ho.pr.reads
  induction q with
  | zero =>
    intro j hj G E g2 g9 g12 g129 g130 g131
    have hk' : ¬ (j : Int) < ((n.pr.rs.length : Nat) : Int) := by omega
    have ej : j = n.pr.rs.length := by omega
    subst ej
    simp only [loopIt, todoPast, todoAt, todoOf, firstReg, ↓reduceIte, Option.some.injEq, Nat.reduceEqDiff, reduceCtorEq, Try.f3]
    rw [execL_inLoop]
    simp only [Pn.av] at hK ⊢
    simp (maxSteps := 1000000) (implicitDefEqProofs := false) (disch := first | rfl | omega | assumption) only [go_sem, g2, g9, g12, g129, g130, g131, ltT, ltF, leT, leF, hk', hs1, hs2, hs3, t1, t2, t3, t4, t5, t6]
    exact hK _ (by rfl) (by rfl) (by rfl)
  | succ q ih =>
    intro j hj G E g2 g9 g12 g129 g130 g131
    have hk' : (j : Int) < ((n.pr.rs.length : Nat) : Int) := by omega
    have hk2 : j < n.pr.rs.length := by omega
    obtain ⟨x, hxe⟩ : ∃ x, n.pr.rs.getD j pt0 = x := ⟨_, rfl⟩
    have hrd : readPart x.av.cells 0 ⟨.struct [(0, 3), (1, 3), (2, 3), (3, 24)], 5, 40, some (.agg #[.int .i64 0, .int .i64 0, .int .i64 0, .int .i64 0, .int .i64 0])⟩ = some (.agg [I x.a, I x.b, I x.m, I x.lo, I x.hi]) := rfl
    have hb := ho.pr.rd j (by omega)
    rw [hxe] at hb
    have hs := owP_succ n xs z r j
    rw [hxe] at hs
    have hxm : (owP n xs z r (j + 1)).map Pt.av = (owP n xs z r j).map Pt.av ++ [(ownR xs z r x).av] := by rw [hs]; simp
    have lm : ((owP n xs z r j).map Pt.av).length = j := by rw [List.length_map, owP_len]
    have heq := fun G : Heap => rf_Equal (.sl false (xs.map I)) rfl hz hr (m := x.m) (by omega) G
    have hsb := shw_bd hz hr (m := x.m) (by omega)
    have hpe : ∀ k, ptrOf (elA (.sl false (xs.map I)) k 0) = none := fun k => rfl
    obtain ⟨c1, c2, c3, c4⟩ := (slI (H := H) false xs).fI
    obtain ⟨u, hu⟩ : ∃ u, xs.getD x.a.toNat 0 = u := ⟨_, rfl⟩
    obtain ⟨v, hv⟩ : ∃ u, xs.getD x.b.toNat 0 = u := ⟨_, rfl⟩
    have hub := hxb x.a.toNat (by omega)
    have hvb := hxb x.b.toNat (by omega)
    have hal : x.a < (xs.length : Int) := by omega
    have hbl : x.b < (xs.length : Int) := by omega
    obtain ⟨sh, hsh⟩ : ∃ u, shw z r x.m = u := ⟨_, rfl⟩
    obtain ⟨mn, hmn⟩ : ∃ u, (if x.hi - x.lo < 2 then x.hi - x.lo else 2) = u := ⟨_, rfl⟩
    have hmb : 0 ≤ mn ∧ mn ≤ 2 := by rw [← hmn]; split <;> omega
    have e1 : (ownR xs z r x).av = .agg [I x.a, I x.b, I x.m, I (u - v + sh - mn), I (u - v + sh)] := by simp only [ownR, Pt.av, hu, hv, hsh, hmn]
    rw [hu] at hub
    rw [hv] at hvb
    rw [hsh] at hsb
    simp only [hsh] at heq
    have hsp := law_span (u - v + sh - mn) (u - v + sh)
    have key := ih (j + 1) (by omega) [.box (.agg [I x.a, I x.b, I x.m, I (u - v + sh - mn), I (u - v + sh)])]
    rw [hxm, e1] at key
    have hadd : ∀ a0 a1 a2 a3 a4 rr, addElem (H ++ (a0 :: a1 :: a2 :: a3 :: a4 :: .grow 5 ((owP n xs z r j).map Pt.av) :: rr)) 5 true (.gsl (H.length + 5) j) [.agg [I x.a, I x.b, I x.m, I (u - v + sh - mn), I (u - v + sh)]] = some (.gsl (H.length + 5) (j + 1), H ++ (a0 :: a1 :: a2 :: a3 :: a4 :: .grow 5 (((owP n xs z r j).map Pt.av) ++ [.agg [I x.a, I x.b, I x.m, I (u - v + sh - mn), I (u - v + sh)]]) :: rr)) := by
      intro a0 a1 a2 a3 a4 rr
      rw [add_gsl (xs := (owP n xs z r j).map Pt.av) (by rw [get_at']; rfl) lm rfl rfl (by simp; omega), set_at']
      rfl
    have t5j := fun N => t5 N j
    clear t5
    generalize ((owP n xs z r j).map Pt.av) = ys at *
    simp only [Pn.av] at key ⊢
    simp only [loopIt, todoPast, todoAt, todoOf, firstReg, ↓reduceIte, Option.some.injEq, Nat.reduceEqDiff, reduceCtorEq, Try.f3]
    rw [execL_inLoop]
    simp (maxSteps := 1000000) (implicitDefEqProofs := false) (disch := first | rfl | omega | assumption) only [go_sem, g2, g9, g12, g129, g130, g131, ltT, ltF, leT, leF, hk', hs1, hs2, hs3, t1, t2, t3, t4, t5j, t6, a1, a2, a3, a4, hxe, hrd]
    rw [chkK_of]; rotate_left; kernel_rfl
    simp (maxSteps := 1000000) (implicitDefEqProofs := false) (disch := first | rfl | omega | assumption) only [go_sem, g2, g9, g12, g129, g130, g131, ltT, ltF, leT, leF, hk', hs1, hs2, hs3, t1, t2, t3, t4, t5j, t6, a1, a2, a3, a4, c1, c2, c3, c4, hpe, hal, hbl, hu, hv, hxe, hrd, heq, hmn, hsp, hadd]
    exact key _ (by rfl) (by rfl) (by rfl) (by rfl) (by rfl) (by rfl)

end Go.Ab
/-
  TopPlanned: what follows for a plan of readings that are right; the loop over blocks.
-/
namespace Go.Ab
open Go.Proofs
set_option linter.unusedSimpArgs false
set_option linter.unusedVariables false
set_option maxRecDepth 100000
set_option maxHeartbeats 2000000

variable {H : Heap}


theorem tl_l39 {n m : Pn} (ho : n.Ok) (hm : m.Ok) {vb vr vp : AV} (h : PnAt H n vb vr vp) (hbs : m.pr.bs = n.pr.bs) (hps : m.ps = n.ps) (fl : Bool) (us : List Int) (a : Int) {xs : List Int} (hxl : xs.length = n.pr.bs.length) (z r : Int) (s : Nat) (hQ : ∀ j, j < xs.length → ∃ lo hi alo ahi, knownL m.pr (rdS m.pr.rs s) j = some (lo, hi) ∧ knownL m.pr m.pr.rs j = some (alo, ahi) ∧ alo ≤ xs.getD j 0 ∧ xs.getD j 0 ≤ ahi ∧ lo ≤ alo ∧ ahi ≤ hi ∧ hi - lo ≤ n.wide) (K : List Item) (R : Option Done) (hK : ∀ E : Env, E.get 2 = .ptr H.length 0 → E.get 12 = .ptr (H.length + 4) 0 → E.get 16 = I s → E.get 18 = .func (.func 10) [] [.ptr (H.length + 4) 0] → Option.map (finishC H.length) (execL cfg0 prog0 ⟨3, none, false, H.length⟩ K ⟨E, [], H ++ [.box (n.av vb vr vp), .box (.sl fl (us.map B16)), .box (I a), .box (.agg [.sl false (xs.map I), I z, I r]), .box (m.av vb (.sl false (m.pr.rs.map Pt.av)) vp), .box (partA m vb s)], none⟩) = R)  :
    ∀ (q j : Nat), j + q = xs.length → ∀ (G : Heap), ∀ E : Env, E.get 2 = .ptr H.length 0 → E.get 12 = .ptr (H.length + 4) 0 → E.get 16 = I s → E.get 18 = .func (.func 10) [] [.ptr (H.length + 4) 0] → E.get 19 = .ptr (H.length + 5) 0 → E.get 223 = .sl false (xs.map I) → E.get 224 = I xs.length → E.get 225 = I j →
    Option.map (finishC H.length) (execL cfg0 prog0 ⟨3, none, false, H.length⟩ (loopIt Try.f3 39 :: .inBlock 6 :: K) ⟨E, [], H ++ (.box (n.av vb vr vp) :: .box (.sl fl (us.map B16)) :: .box (I a) :: .box (.agg [.sl false (xs.map I), I z, I r]) :: .box (m.av vb (.sl false (m.pr.rs.map Pt.av)) vp) :: .box (partA m vb s) :: G), none⟩) = R := by
  intro q
  have hs1 := h.pr.bs.scal
  have hs2 := h.pr.rs.scal
  have hs3 := h.ps.scal
  have t1 := h.pr.bs.ltn 6
  have t2 := h.pr.rs.ltn 6
  have t3 := h.ps.ltn 6
  have t4 := fun N => lt16 us N
  have t5 : ∀ N (l : List Pt), ltL N (l.map Pt.av) = true := fun N l => sealAv _
  have t6 : ∀ N (l : List Int), ltL N (l.map I) = true := fun N l => ltL_map (fun _ => rfl) _
  have h5 := ho.pr.many
  induction q with
  | zero =>
    intro j hj G E g2 g12 g16 g18 g19 g223 g224 g225
    have hk' : ¬ (j : Int) < ((xs.length : Nat) : Int) := by omega
    simp only [loopIt, todoPast, todoAt, todoOf, firstReg, ↓reduceIte, Option.some.injEq, Nat.reduceEqDiff, reduceCtorEq, Try.f3]
    rw [execL_inLoop]
    simp only [Pn.av, partA, partN, subP] at hK ⊢
    simp (maxSteps := 1000000) (implicitDefEqProofs := false) (disch := first | rfl | omega | assumption) only [go_sem, g2, g12, g16, g18, g19, g223, g224, g225, ltT, ltF, leT, leF, hk', hs1, hs2, hs3, t1, t2, t3, t4, t5, t6]
    exact hK _ (by rfl) (by rfl) (by rfl) (by rfl)
  | succ q ih =>
    intro j hj G E g2 g12 g16 g18 g19 g223 g224 g225
    have hk' : (j : Int) < ((xs.length : Nat) : Int) := by omega
    have hk2 : j < xs.length := by omega
    obtain ⟨lo, hi, alo, ahi, q1, q2, q3, q4, q5, q6, q7⟩ := hQ j hk2
    obtain ⟨x, hxe⟩ : ∃ x, xs.getD j 0 = x := ⟨_, rfl⟩
    rw [hxe] at q3 q4
    have hjb : j < m.pr.bs.length := by rw [hbs]; omega
    have hb1 := known_bd hm.pr (fun x hx => rdS_mem hx) (show j < 5 by omega) q1
    have hmv : PrAt H m.pr vb (.sl false (m.pr.rs.map Pt.av)) := ⟨by rw [hbs]; exact h.pr.bs, ⟨rfl, fun x hx => by obtain ⟨i, _, rfl⟩ := List.mem_map.1 hx; rfl⟩⟩
    have k1 := fun G : Heap => pr_Known (H := H ++ G) ((hmv.app G).sub s) (sub_ok hm.pr s) (n := j) hjb (lo, hi) q1
    have k2 := fun G : Heap => pr_Known (H := H ++ G) (hmv.app G) hm.pr (n := j) hjb (alo, ahi) q2
    obtain ⟨c1, c2, c3, c4⟩ := (slI (H := H) false xs).fI
    have z1 : ¬ x < alo := by omega
    have z2 : ¬ ahi < x := by omega
    have z3 : ¬ alo < lo := by omega
    have z4 : ¬ hi < ahi := by omega
    have z5 : ¬ n.wide < hi - lo := by omega
    have key := ih (j + 1) (by omega) [.box (.agg [I lo, I hi]), .box (.agg [I alo, I ahi])]
    simp only [Pn.av, Pr.av, partA, partN, subP] at key k1 k2 ⊢
    simp only [loopIt, todoPast, todoAt, todoOf, firstReg, ↓reduceIte, Option.some.injEq, Nat.reduceEqDiff, reduceCtorEq, Try.f3]
    rw [execL_inLoop]
    simp (maxSteps := 1000000) (implicitDefEqProofs := false) (disch := first | rfl | omega | assumption) only [go_sem, g2, g12, g16, g18, g19, g223, g224, g225, ltT, ltF, leT, leF, hk', hs1, hs2, hs3, t1, t2, t3, t4, t5, t6, c1, c2, c3, c4, hxe, k1, k2, z1, z2, z3, z4, z5]
    exact key _ (by rfl) (by rfl) (by rfl) (by rfl) (by rfl) (by rfl) (by rfl) (by rfl)

/-- The plan of readings that are right. -/
def ownN (n : Pn) (xs : List Int) (z r : Int) : Pn := ⟨{ n.pr with rs := owP n xs z r n.pr.rs.length }, n.wide, n.ps⟩

theorem own_sound {n : Pn} (ho : n.Ok) {xs : List Int} (hxl : xs.length = n.pr.bs.length) (hxb : ∀ i, i < xs.length → (n.pr.bs.getD i (0, 0)).1 ≤ xs.getD i 0 ∧ xs.getD i 0 ≤ (n.pr.bs.getD i (0, 0)).2) {z r : Int} (hz : n.pr.zlo ≤ z ∧ z ≤ n.pr.zhi) (hr : n.pr.rlo ≤ r ∧ r ≤ n.pr.rhi) (hm : (ownN n xs z r).Ok) {b : Nat} (hb : b < n.pr.bs.length) :
    ∃ s, knownL (ownN n xs z r).pr (ownN n xs z r).pr.rs b = some s ∧ s.1 ≤ xs.getD b 0 ∧ xs.getD b 0 ≤ s.2 := by
  have h5 := ho.pr.many
  have hxv : ∀ i, i < 6 → -1000 ≤ xOf xs i ∧ xOf xs i ≤ 1000 := by
    intro i _
    simp only [xOf]
    split
    · by_cases hi : i < xs.length
      · have := hxb i hi
        have := ho.pr.blk i (by omega)
        omega
      · have : xs.getD i 0 = 0 := by simp [show xs.length ≤ i by omega]
        omega
    · omega
  have hx5 : ∀ i, i < n.pr.bs.length → xOf xs i = xs.getD i 0 := fun i hi => by simp only [xOf]; rw [if_pos (by omega)]
  have hsd : TSd (xOf xs) (tabL n.pr.bs (owP n xs z r n.pr.rs.length) z r) := by
    refine tab_sound rfl hxv h5.2 (fun i hi => ?_) hm.pr.inB (fun p hp => ?_)
    · rw [hx5 i hi]; exact hxb i (by omega)
    · simp only [owP, List.mem_map, List.mem_range] at hp
      obtain ⟨i, hi, rfl⟩ := hp
      have hrd := ho.pr.rd i hi
      generalize n.pr.rs.getD i pt0 = x at hrd ⊢
      simp only [ownR]
      rw [hx5 _ (by omega), hx5 _ (by omega)]
      split <;> omega
  obtain ⟨s, k1, k2, k3⟩ := known_sound (p := (ownN n xs z r).pr) (c := (z, r)) (mem_combs.2 ⟨hz, hr⟩) hsd rfl (b := b) (by omega)
  rw [hx5 b hb] at k2 k3
  exact ⟨s, k1, k2, k3⟩

theorem part_ok {m : Pn} (hm : m.Ok) {s : Nat} (hs : s < 2 ^ m.pr.rs.length) : (partN m s).Ok := by
  have h8 := hm.pr.reads
  refine ⟨sub_ok hm.pr s, hm.wide, ?_, fun i hi => ?_⟩
  · show ((idxS m.ps.length s).map _).length = (rdS m.pr.rs s).length
    rw [List.length_map, rdS, List.length_map, hm.len]
  · obtain ⟨k, hk, e⟩ := List.mem_map.1 (getD_mem' (d := 0) hi)
    have e2 : (partN m s).ps.getD i 0 = m.ps.getD k 0 := e.symm
    rw [e2]
    exact hm.price k (List.mem_range.1 ((idx_sub _ _).subset hk))

theorem part_hasT {m : Pn} (hm : m.Ok) (hT : HasT m) {s : Nat} (hs : s < 2 ^ m.pr.rs.length) : HasT (partN m s) := by
  refine hasT_of (part_ok hm hs) fun b hb => ?_
  obtain ⟨lo, hi, h⟩ := hT s b hb
  exact ⟨_, h⟩

theorem part_full {m : Pn} (hm : m.Ok) {s : Nat} (hs : s < 2 ^ m.pr.rs.length) (he : enN m s = true) : enN (partN m s) (fullN (partN m s)) = true := by
  have e : enN (partN m s) (fullN (partN m s)) = enoughL m.pr m.wide (rdS (rdS m.pr.rs s) (2 ^ (rdS m.pr.rs s).length - 1)) := rfl
  rw [e, rdS_all]
  exact he

theorem pn_at {m : Pn} {vb vp : AV} (h1 : SlOk H 2 vb (m.pr.bs.map spA)) (h2 : SlOk H 1 vp (m.ps.map I)) : PnAt H m vb (.sl false (m.pr.rs.map Pt.av)) vp :=
  ⟨⟨h1, ⟨rfl, fun x hx => by obtain ⟨i, _, rfl⟩ := List.mem_map.1 hx; rfl⟩⟩, h2⟩

theorem ndM_full (n : Pn) : ∀ k, (∀ i, i < k → enN n (diffN (fullN n) (2 ^ i)) = false) → (ndM n k).1 = 2 ^ k - 1
  | 0, _ => rfl
  | k + 1, h => by
    have ih := ndM_full n k fun i hi => h i (by omega)
    have hk := h k (by omega)
    have hp : 0 < 2 ^ k := Nat.pow_pos (by omega)
    have e : (2 ^ k - 1) ||| 2 ^ k = 2 ^ (k + 1) - 1 := by
      apply Nat.eq_of_testBit_eq
      intro i
      simp only [Nat.testBit_or, Nat.testBit_two_pow_sub_one, Nat.testBit_two_pow]
      by_cases h1 : i < k
      · simp [h1, show i < k + 1 by omega]
      · by_cases h2 : k = i
        · subst h2; simp
        · simp [h1, h2, show ¬ i < k + 1 by omega]
    simp only [ndM, hk, ih, e, Bool.false_eq_true, if_false]

/-- Of the readings of a least set alone all are needed. -/
theorem part_needed {m : Pn} (hm : m.Ok) {s : Nat} (hs : s < 2 ^ m.pr.rs.length) (hall : ∀ t, t < 2 ^ (rdS m.pr.rs s).length → enoughL m.pr m.wide (rdS (rdS m.pr.rs s) t) = true → t = 2 ^ (rdS m.pr.rs s).length - 1) : (ndM (partN m s) (partN m s).pr.rs.length).1 = fullN (partN m s) := by
  refine ndM_full (partN m s) _ fun i hi => ?_
  rw [← Bool.not_eq_true]
  intro he
  have hlt := diffN_lt (b := 2 ^ i) (fullN_lt (partN m s))
  have := hall _ hlt he
  have hb : (diffN (fullN (partN m s)) (2 ^ i)).testBit i = (fullN (partN m s)).testBit i := by
    rw [this]; rfl
  rw [diffN_bit, full_bit', decide_eq_true hi] at hb
  simp at hb

theorem part_fewest {m : Pn} (hm : m.Ok) {s : Nat} (hs : s < 2 ^ m.pr.rs.length) (he : enN m s = true) (hall : ∀ t, t < 2 ^ (rdS m.pr.rs s).length → enoughL m.pr m.wide (rdS (rdS m.pr.rs s) t) = true → t = 2 ^ (rdS m.pr.rs s).length - 1) : bestN (partN m s) (fun _ => 0) = fullN (partN m s) := by
  have hl := best_fewest (part_full hm hs he)
  exact hall _ hl.lt hl.ok

theorem part_every {m : Pn} (hm : m.Ok) (s : Nat) : 2 ^ (partN m s).ps.length - 1 = fullN (partN m s) := by
  have e : (partN m s).ps.length = (partN m s).pr.rs.length := by
    show ((idxS m.ps.length s).map _).length = (rdS m.pr.rs s).length
    rw [List.length_map, rdS, List.length_map, hm.len]
  rw [e, fullN]

end Go.Ab
