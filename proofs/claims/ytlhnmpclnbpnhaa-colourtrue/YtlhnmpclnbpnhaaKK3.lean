/-
  The references of the layer colour: what parts, what is alike, how many are left.
-/
import Derived.Test.YtlhnmpclnbpnhaaKK2
namespace Go.Ab
open Go.Proofs
set_option linter.unusedSimpArgs false
set_option linter.unusedVariables false
set_option maxRecDepth 100000

variable {H : Heap}

theorem wi_iff {n lo hi : Int} : wi n lo hi = true ↔ lo ≤ n ∧ n ≤ hi := by simp [wi]

def Col.isSet (c : Col) (n : Int) : Bool := wi n 0 ((2 ^ c.ws.length : Nat) - 1)

theorem Col.Ok.set_bd {c : Col} (h : c.Ok) {n : Int} (hn : c.isSet n = true) : n = (n.toNat : Int) ∧ n.toNat < 2 ^ c.ws.length ∧ n.toNat < 64 := by
  have h1 := h.len
  have h2 : (2 : Nat) ^ c.ws.length ≤ 2 ^ 6 := Nat.pow_le_pow_right (by omega) h1.2
  have h3 := wi_iff.1 hn
  have h4 : n < ((2 ^ c.ws.length : Nat) : Int) := by omega
  have h5 : n = (n.toNat : Int) := by omega
  have h6 : n.toNat < 2 ^ c.ws.length := by rw [h5] at h4; exact Int.ofNat_lt.1 h4
  exact ⟨h5, h6, by omega⟩

def Col.apart (c : Col) (k a b : Int) : Int × Int := if c.valid then (if wi k 0 (c.ws.length - 1) && (wi a 0 2000 && wi b 0 2000) then (apartZ (ptZ (c.ws.getD k.toNat 0) a) (ptZ (c.ws.getD k.toNat 0) b), 0) else (0, 2)) else (0, 1)

theorem ref_Apart {c : Col} {vw vp : AV} (h : ColAt H c vw vp) (hl : c.ws.length ≤ 1000) (k a b : Int) : callFL cfg0 prog0 false 15 [c.av vw vp, I k, I a, I b] H none = some ⟨.ret (.tup [I (c.apart k a b).1, I (c.apart k a b).2]), H, none⟩ := by
  have s1 := h.ws.scal
  have s2 := h.ps.scal
  have h1 := fun G : Heap => ref_Number (h.app G) hl k
  have h2 := fun G : Heap => ref_check (h.app G)
  rcases Bool.eq_false_or_eq_true c.valid with hv | hv
  · have hc := c.valid_iff.1 hv
    have h3 := fun (G : Heap) (k' : Nat) (hk : k = k' ∧ k' < c.ws.length) (ha : 0 ≤ a ∧ a ≤ 2000) (hb : 0 ≤ b ∧ b ≤ 2000) => ref_apart (h.app G) hc k' hk.2 a b ha hb
    simp only [Col.av, Col.apart, hv] at h1 h2 h3 ⊢
    refine (callFL_eq fn15 rfl (by simp [Try.f15])).trans ?_
    simp (maxSteps := 1000000) (implicitDefEqProofs := false) (disch := first | rfl | omega | assumption) only [go_sem, ↓reduceIte, Nat.reduceEqDiff, Nat.reduceAdd, Nat.reduceLeDiff, Nat.reduceBEq, Nat.reduceMul, Nat.reduceLT, Int.reduceLT, Int.reduceLE, Int.reduceToNat, Int.reduceNeg, Int.reduceEq, Int.reduceMul, reduceCtorEq, Int.reduceBEq, Int.reduceBNe, Int.reduceAdd, Int.reduceSub, ltT, ltF, leT, leF, s1, s2]
    rw [chkK_of]; rotate_left; kernel_rfl
    simp (maxSteps := 1000000) (implicitDefEqProofs := false) (disch := first | rfl | omega | assumption) only [go_sem, ↓reduceIte, Nat.reduceEqDiff, Nat.reduceAdd, Nat.reduceLeDiff, Nat.reduceBEq, Nat.reduceMul, Nat.reduceLT, Int.reduceLT, Int.reduceLE, Int.reduceToNat, Int.reduceNeg, Int.reduceEq, Int.reduceMul, reduceCtorEq, Int.reduceBEq, Int.reduceBNe, Int.reduceAdd, Int.reduceSub, ltT, ltF, leT, leF, s1, s2, h1, h2, hv, ref_in]
    repeat' ((with_reducible first
        | refine cond_ifb (fun hc hd he => ?_) (fun hc hd he => ?_)
        | refine guard_ifb (fun hc hd he => ?_) (fun hc hd he => ?_)
        | refine cond_dec (fun hc hd he => ?_) (fun hc hd he => ?_)
        | refine guard_dec (fun hc hd he => ?_) (fun hc hd he => ?_)
        | refine cond_ndec (fun hc hd he => ?_) (fun hc hd he => ?_)
        | refine guard_ndec (fun hc hd he => ?_) (fun hc hd he => ?_)
        | refine cond_not (fun hc hd he => ?_) (fun hc hd he => ?_)
        | refine guard_not (fun hc hd he => ?_) (fun hc hd he => ?_)
        | refine cond_beq (fun hc hd he => ?_) (fun hc hd he => ?_)
        | refine guard_beq (fun hc hd he => ?_) (fun hc hd he => ?_)
        | refine cond_bne (fun hc hd he => ?_) (fun hc hd he => ?_)
        | refine guard_bne (fun hc hd he => ?_) (fun hc hd he => ?_)
        | refine cond_split (fun hc hd he => ?_) (fun hc hd he => ?_)
        | refine guard_split (fun hc hd he => ?_) (fun hc hd he => ?_)
        | refine call_beq (fun hc hd he => ?_) (fun hc hd he => ?_)
        | refine call_ifb (fun hc hd he => ?_) (fun hc hd he => ?_)
        | refine call_ifd (fun hc hd he => ?_) (fun hc hd he => ?_)
        | refine call_dec (fun hc hd he => ?_) (fun hc hd he => ?_)) <;> try simp (maxSteps := 1000000) (implicitDefEqProofs := false) (disch := first | rfl | omega | assumption) only [go_sem, ↓reduceIte, Nat.reduceEqDiff, Nat.reduceAdd, Nat.reduceLeDiff, Nat.reduceBEq, Nat.reduceMul, Nat.reduceLT, Int.reduceLT, Int.reduceLE, Int.reduceToNat, Int.reduceNeg, Int.reduceEq, Int.reduceMul, reduceCtorEq, Int.reduceBEq, Int.reduceBNe, Int.reduceAdd, Int.reduceSub, ltT, ltF, leT, leF, hc, he, s1, s2, h1, h2, hv, ref_in])
    obtain ⟨hk1, hk2⟩ := wi_iff.1 (show wi k 0 _ = true by assumption)
    have h3' := fun G : Heap => h3 G k.toNat ⟨by omega, by omega⟩ (wi_iff.1 (show wi a 0 2000 = true by assumption)) (wi_iff.1 (show wi b 0 2000 = true by assumption))
    rw [Int.toNat_of_nonneg hk1] at h3'
    simp (maxSteps := 1000000) (implicitDefEqProofs := false) (disch := first | rfl | omega | assumption) only [go_sem, ↓reduceIte, Nat.reduceEqDiff, Nat.reduceAdd, Nat.reduceLeDiff, Nat.reduceBEq, Nat.reduceMul, Nat.reduceLT, Int.reduceLT, Int.reduceLE, Int.reduceToNat, Int.reduceNeg, Int.reduceEq, Int.reduceMul, reduceCtorEq, Int.reduceBEq, Int.reduceBNe, Int.reduceAdd, Int.reduceSub, ltT, ltF, leT, leF, s1, s2, h3']
  · simp only [Col.av, Col.apart, hv] at h1 h2 ⊢
    refine (callFL_eq fn15 rfl (by simp [Try.f15])).trans ?_
    simp (maxSteps := 1000000) (implicitDefEqProofs := false) (disch := first | rfl | omega | assumption) only [go_sem, ↓reduceIte, Nat.reduceEqDiff, Nat.reduceAdd, Nat.reduceLeDiff, Nat.reduceBEq, Nat.reduceMul, Nat.reduceLT, Int.reduceLT, Int.reduceLE, Int.reduceToNat, Int.reduceNeg, Int.reduceEq, Int.reduceMul, reduceCtorEq, Int.reduceBEq, Int.reduceBNe, Int.reduceAdd, Int.reduceSub, ltT, ltF, leT, leF, s1, s2]
    rw [chkK_of]; rotate_left; kernel_rfl
    simp (maxSteps := 1000000) (implicitDefEqProofs := false) (disch := first | rfl | omega | assumption) only [go_sem, ↓reduceIte, Nat.reduceEqDiff, Nat.reduceAdd, Nat.reduceLeDiff, Nat.reduceBEq, Nat.reduceMul, Nat.reduceLT, Int.reduceLT, Int.reduceLE, Int.reduceToNat, Int.reduceNeg, Int.reduceEq, Int.reduceMul, reduceCtorEq, Int.reduceBEq, Int.reduceBNe, Int.reduceAdd, Int.reduceSub, ltT, ltF, leT, leF, s1, s2, h1, h2, hv, ref_in]
    repeat' ((with_reducible first
        | refine cond_ifb (fun hc hd he => ?_) (fun hc hd he => ?_)
        | refine guard_ifb (fun hc hd he => ?_) (fun hc hd he => ?_)
        | refine cond_dec (fun hc hd he => ?_) (fun hc hd he => ?_)
        | refine guard_dec (fun hc hd he => ?_) (fun hc hd he => ?_)
        | refine cond_ndec (fun hc hd he => ?_) (fun hc hd he => ?_)
        | refine guard_ndec (fun hc hd he => ?_) (fun hc hd he => ?_)
        | refine cond_not (fun hc hd he => ?_) (fun hc hd he => ?_)
        | refine guard_not (fun hc hd he => ?_) (fun hc hd he => ?_)
        | refine cond_beq (fun hc hd he => ?_) (fun hc hd he => ?_)
        | refine guard_beq (fun hc hd he => ?_) (fun hc hd he => ?_)
        | refine cond_bne (fun hc hd he => ?_) (fun hc hd he => ?_)
        | refine guard_bne (fun hc hd he => ?_) (fun hc hd he => ?_)
        | refine cond_split (fun hc hd he => ?_) (fun hc hd he => ?_)
        | refine guard_split (fun hc hd he => ?_) (fun hc hd he => ?_)
        | refine call_beq (fun hc hd he => ?_) (fun hc hd he => ?_)
        | refine call_ifb (fun hc hd he => ?_) (fun hc hd he => ?_)
        | refine call_ifd (fun hc hd he => ?_) (fun hc hd he => ?_)
        | refine call_dec (fun hc hd he => ?_) (fun hc hd he => ?_)) <;> try simp (maxSteps := 1000000) (implicitDefEqProofs := false) (disch := first | rfl | omega | assumption) only [go_sem, ↓reduceIte, Nat.reduceEqDiff, Nat.reduceAdd, Nat.reduceLeDiff, Nat.reduceBEq, Nat.reduceMul, Nat.reduceLT, Int.reduceLT, Int.reduceLE, Int.reduceToNat, Int.reduceNeg, Int.reduceEq, Int.reduceMul, reduceCtorEq, Int.reduceBEq, Int.reduceBNe, Int.reduceAdd, Int.reduceSub, ltT, ltF, leT, leF, hc, he, s1, s2, h1, h2, hv, ref_in])

def Col.parts (c : Col) (n a b : Int) : Bool × Int := if c.valid then (if c.isSet n && (wi a 0 2000 && wi b 0 2000) then (c.partB n.toNat a b, 0) else (false, 2)) else (false, 1)

theorem ref_Set' {c : Col} {vw vp : AV} (h : ColAt H c vw vp) (hw : c.ws.length ≤ 60) (n : Int) : callFL cfg0 prog0 false 58 [c.av vw vp, I n] H none = some ⟨.ret (.bool (c.isSet n)), H, none⟩ := ref_Set h hw n

theorem ref_Parts {c : Col} {vw vp : AV} (h : ColAt H c vw vp) (hl : c.ws.length ≤ 60 ∨ c.valid = true) (k a b : Int) : callFL cfg0 prog0 false 17 [c.av vw vp, I k, I a, I b] H none = some ⟨.ret (.tup [.bool (c.parts k a b).1, I (c.parts k a b).2]), H, none⟩ := by
  have s1 := h.ws.scal
  have s2 := h.ps.scal
  have h2 := fun G : Heap => ref_check (h.app G)
  have hl' : c.ws.length ≤ 60 := by
    rcases hl with h | h
    · exact h
    · have := (c.valid_iff.1 h).len; omega
  have h1 := fun G : Heap => ref_Set' (h.app G) hl' k
  rcases Bool.eq_false_or_eq_true c.valid with hv | hv
  · have ho := c.valid_iff.1 hv
    have h3 := fun (G : Heap) (s : Nat) (hs : s < 1000000) (ha : 0 ≤ a ∧ a ≤ 2000) (hb : 0 ≤ b ∧ b ≤ 2000) => ref_parts (h.app G) ho s hs a b ha hb
    simp only [Col.av, Col.parts, hv] at h1 h2 h3 ⊢
    refine (callFL_eq fn17 rfl (by simp [Try.f17])).trans ?_
    simp (maxSteps := 1000000) (implicitDefEqProofs := false) (disch := first | rfl | omega | assumption) only [go_sem, ↓reduceIte, Nat.reduceEqDiff, Nat.reduceAdd, Nat.reduceLeDiff, Nat.reduceBEq, Nat.reduceMul, Nat.reduceLT, Int.reduceLT, Int.reduceLE, Int.reduceToNat, Int.reduceNeg, Int.reduceEq, Int.reduceMul, reduceCtorEq, Int.reduceBEq, Int.reduceBNe, Int.reduceAdd, Int.reduceSub, ltT, ltF, leT, leF, s1, s2]
    rw [chkK_of]; rotate_left; kernel_rfl
    simp (maxSteps := 1000000) (implicitDefEqProofs := false) (disch := first | rfl | omega | assumption) only [go_sem, ↓reduceIte, Nat.reduceEqDiff, Nat.reduceAdd, Nat.reduceLeDiff, Nat.reduceBEq, Nat.reduceMul, Nat.reduceLT, Int.reduceLT, Int.reduceLE, Int.reduceToNat, Int.reduceNeg, Int.reduceEq, Int.reduceMul, reduceCtorEq, Int.reduceBEq, Int.reduceBNe, Int.reduceAdd, Int.reduceSub, ltT, ltF, leT, leF, s1, s2, h1, h2, hv, ref_in]
    repeat' ((with_reducible first
        | refine cond_ifb (fun hc hd he => ?_) (fun hc hd he => ?_)
        | refine guard_ifb (fun hc hd he => ?_) (fun hc hd he => ?_)
        | refine cond_dec (fun hc hd he => ?_) (fun hc hd he => ?_)
        | refine guard_dec (fun hc hd he => ?_) (fun hc hd he => ?_)
        | refine cond_ndec (fun hc hd he => ?_) (fun hc hd he => ?_)
        | refine guard_ndec (fun hc hd he => ?_) (fun hc hd he => ?_)
        | refine cond_not (fun hc hd he => ?_) (fun hc hd he => ?_)
        | refine guard_not (fun hc hd he => ?_) (fun hc hd he => ?_)
        | refine cond_beq (fun hc hd he => ?_) (fun hc hd he => ?_)
        | refine guard_beq (fun hc hd he => ?_) (fun hc hd he => ?_)
        | refine cond_bne (fun hc hd he => ?_) (fun hc hd he => ?_)
        | refine guard_bne (fun hc hd he => ?_) (fun hc hd he => ?_)
        | refine cond_split (fun hc hd he => ?_) (fun hc hd he => ?_)
        | refine guard_split (fun hc hd he => ?_) (fun hc hd he => ?_)
        | refine call_beq (fun hc hd he => ?_) (fun hc hd he => ?_)
        | refine call_ifb (fun hc hd he => ?_) (fun hc hd he => ?_)
        | refine call_ifd (fun hc hd he => ?_) (fun hc hd he => ?_)
        | refine call_dec (fun hc hd he => ?_) (fun hc hd he => ?_)) <;> try simp (maxSteps := 1000000) (implicitDefEqProofs := false) (disch := first | rfl | omega | assumption) only [go_sem, ↓reduceIte, Nat.reduceEqDiff, Nat.reduceAdd, Nat.reduceLeDiff, Nat.reduceBEq, Nat.reduceMul, Nat.reduceLT, Int.reduceLT, Int.reduceLE, Int.reduceToNat, Int.reduceNeg, Int.reduceEq, Int.reduceMul, reduceCtorEq, Int.reduceBEq, Int.reduceBNe, Int.reduceAdd, Int.reduceSub, ltT, ltF, leT, leF, hc, he, s1, s2, h1, h2, hv, ref_in])
    obtain ⟨hk1, hk2, hk3⟩ := ho.set_bd (show c.isSet k = true by assumption)
    have h3' := fun G : Heap => h3 G k.toNat (by omega) (wi_iff.1 (show wi a 0 2000 = true by assumption)) (wi_iff.1 (show wi b 0 2000 = true by assumption))
    rw [← hk1] at h3'
    simp (maxSteps := 1000000) (implicitDefEqProofs := false) (disch := first | rfl | omega | assumption) only [go_sem, ↓reduceIte, Nat.reduceEqDiff, Nat.reduceAdd, Nat.reduceLeDiff, Nat.reduceBEq, Nat.reduceMul, Nat.reduceLT, Int.reduceLT, Int.reduceLE, Int.reduceToNat, Int.reduceNeg, Int.reduceEq, Int.reduceMul, reduceCtorEq, Int.reduceBEq, Int.reduceBNe, Int.reduceAdd, Int.reduceSub, ltT, ltF, leT, leF, s1, s2, h3']
  · simp only [Col.av, Col.parts, hv] at h1 h2 ⊢
    refine (callFL_eq fn17 rfl (by simp [Try.f17])).trans ?_
    simp (maxSteps := 1000000) (implicitDefEqProofs := false) (disch := first | rfl | omega | assumption) only [go_sem, ↓reduceIte, Nat.reduceEqDiff, Nat.reduceAdd, Nat.reduceLeDiff, Nat.reduceBEq, Nat.reduceMul, Nat.reduceLT, Int.reduceLT, Int.reduceLE, Int.reduceToNat, Int.reduceNeg, Int.reduceEq, Int.reduceMul, reduceCtorEq, Int.reduceBEq, Int.reduceBNe, Int.reduceAdd, Int.reduceSub, ltT, ltF, leT, leF, s1, s2]
    rw [chkK_of]; rotate_left; kernel_rfl
    simp (maxSteps := 1000000) (implicitDefEqProofs := false) (disch := first | rfl | omega | assumption) only [go_sem, ↓reduceIte, Nat.reduceEqDiff, Nat.reduceAdd, Nat.reduceLeDiff, Nat.reduceBEq, Nat.reduceMul, Nat.reduceLT, Int.reduceLT, Int.reduceLE, Int.reduceToNat, Int.reduceNeg, Int.reduceEq, Int.reduceMul, reduceCtorEq, Int.reduceBEq, Int.reduceBNe, Int.reduceAdd, Int.reduceSub, ltT, ltF, leT, leF, s1, s2, h1, h2, hv, ref_in]
    repeat' ((with_reducible first
        | refine cond_ifb (fun hc hd he => ?_) (fun hc hd he => ?_)
        | refine guard_ifb (fun hc hd he => ?_) (fun hc hd he => ?_)
        | refine cond_dec (fun hc hd he => ?_) (fun hc hd he => ?_)
        | refine guard_dec (fun hc hd he => ?_) (fun hc hd he => ?_)
        | refine cond_ndec (fun hc hd he => ?_) (fun hc hd he => ?_)
        | refine guard_ndec (fun hc hd he => ?_) (fun hc hd he => ?_)
        | refine cond_not (fun hc hd he => ?_) (fun hc hd he => ?_)
        | refine guard_not (fun hc hd he => ?_) (fun hc hd he => ?_)
        | refine cond_beq (fun hc hd he => ?_) (fun hc hd he => ?_)
        | refine guard_beq (fun hc hd he => ?_) (fun hc hd he => ?_)
        | refine cond_bne (fun hc hd he => ?_) (fun hc hd he => ?_)
        | refine guard_bne (fun hc hd he => ?_) (fun hc hd he => ?_)
        | refine cond_split (fun hc hd he => ?_) (fun hc hd he => ?_)
        | refine guard_split (fun hc hd he => ?_) (fun hc hd he => ?_)
        | refine call_beq (fun hc hd he => ?_) (fun hc hd he => ?_)
        | refine call_ifb (fun hc hd he => ?_) (fun hc hd he => ?_)
        | refine call_ifd (fun hc hd he => ?_) (fun hc hd he => ?_)
        | refine call_dec (fun hc hd he => ?_) (fun hc hd he => ?_)) <;> try simp (maxSteps := 1000000) (implicitDefEqProofs := false) (disch := first | rfl | omega | assumption) only [go_sem, ↓reduceIte, Nat.reduceEqDiff, Nat.reduceAdd, Nat.reduceLeDiff, Nat.reduceBEq, Nat.reduceMul, Nat.reduceLT, Int.reduceLT, Int.reduceLE, Int.reduceToNat, Int.reduceNeg, Int.reduceEq, Int.reduceMul, reduceCtorEq, Int.reduceBEq, Int.reduceBNe, Int.reduceAdd, Int.reduceSub, ltT, ltF, leT, leF, hc, he, s1, s2, h1, h2, hv, ref_in])

/-- The first two lengths that a set does not part. -/
def Col.alk1 (c : Col) (s i : Nat) (k : Nat) : Option (Int × Int) := if c.partB s (c.lenAt i) (c.lenAt k) then none else some (c.lenAt i, c.lenAt k)
def Col.alkR (c : Col) (s : Nat) : Option (Int × Int) := findF (fun i => findF (c.alk1 s i) (i + 1) (c.manyN - (i + 1))) 0 c.manyN

theorem sl_ok {b : Bool} (l : List Int) : SlOk H 1 (.sl b (l.map I)) (l.map I) := ⟨rfl, by simp [I, AV.cells]⟩

theorem ref_Alike_l2 {c : Col} {vw vp : AV} (h : ColAt H c vw vp) (hc : c.Ok) (s : Nat) (hs : s < 1000000) (i : Nat) (hi : i < c.manyN) (K : List Item) (R : Option Done) (hK : ∀ E : Env, E.get 1 = I s → E.get 2 = .ptr H.length 0 → E.get 8 = .sl false (c.lens.map I) → E.get 9 = I i → Option.map (finishC H.length) (execL cfg0 prog0 ⟨19, none, false, H.length⟩ K ⟨E, [], H ++ [.box (c.av vw vp)], none⟩) = R)  :
    ∀ (q j : Nat), j + q = c.manyN → ∀ E : Env, E.get 1 = I s → E.get 2 = .ptr H.length 0 → E.get 8 = .sl false (c.lens.map I) → E.get 9 = I i → E.get 10 = I j →
    Option.map (finishC H.length) (execL cfg0 prog0 ⟨19, none, false, H.length⟩ (loopIt Try.f19 9 :: .inBlock 2 :: K) ⟨E, [], H ++ [.box (c.av vw vp)], none⟩) = (match findF (c.alk1 s i) j q with | some p => some ⟨.ret (.tup [I p.1, I p.2, I 0]), H, none⟩ | none => R) := by
  intro q
  have s1 := h.ws.scal
  have s2 := h.ps.scal
  have mb := hc.many_bd
  have ll := c.lens_len
  have lg := fun j => c.lens_getD (j := j)
  obtain ⟨a1, a2, a3, a4⟩ := (sl_ok (H := H) (b := false) c.lens).fI
  have bi := hc.lenAt_bd hi
  simp only [Col.av] at hK ⊢
  induction q with
  | zero =>
    intro j hj  E g1 g2 g8 g9 g10
    have hk' : ¬ (j : Int) < ((c.manyN : Nat) : Int) := by omega
    simp only [loopIt, todoPast, todoAt, todoOf, firstReg, ↓reduceIte, Option.some.injEq, Nat.reduceEqDiff, reduceCtorEq, Try.f19]
    rw [execL_inLoop]
    simp (maxSteps := 1000000) (implicitDefEqProofs := false) (disch := first | rfl | omega | assumption) only [go_sem, ↓reduceIte, Nat.reduceEqDiff, Nat.reduceAdd, Nat.reduceLeDiff, Nat.reduceBEq, Nat.reduceMul, Nat.reduceLT, Int.reduceLT, Int.reduceLE, Int.reduceToNat, Int.reduceNeg, Int.reduceEq, Int.reduceMul, reduceCtorEq, Int.reduceBEq, Int.reduceBNe, Int.reduceAdd, Int.reduceSub, g1, g2, g8, g9, g10, ltT, ltF, leT, leF, hk', findF]
    exact hK _ (by exact g1) (by exact g2) (by exact g8) (by exact g9)
  | succ q ih =>
    intro j hj  E g1 g2 g8 g9 g10
    have hk' : (j : Int) < ((c.manyN : Nat) : Int) := by omega
    have hk2 : j < c.manyN := by omega
    have bj := hc.lenAt_bd hk2
    have hB := fun (G : Heap) => ref_parts (h.app G) hc s hs (c.lenAt i) (c.lenAt j) bi bj
    simp only [Col.av] at hB
    simp only [findF, Col.alk1]
    simp only [loopIt, todoPast, todoAt, todoOf, firstReg, ↓reduceIte, Option.some.injEq, Nat.reduceEqDiff, reduceCtorEq, Try.f19]
    rw [execL_inLoop]
    simp (maxSteps := 1000000) (implicitDefEqProofs := false) (disch := first | rfl | omega | assumption) only [go_sem, ↓reduceIte, Nat.reduceEqDiff, Nat.reduceAdd, Nat.reduceLeDiff, Nat.reduceBEq, Nat.reduceMul, Nat.reduceLT, Int.reduceLT, Int.reduceLE, Int.reduceToNat, Int.reduceNeg, Int.reduceEq, Int.reduceMul, reduceCtorEq, Int.reduceBEq, Int.reduceBNe, Int.reduceAdd, Int.reduceSub, g1, g2, g8, g9, g10, ltT, ltF, leT, leF, hk', s1, s2, a1, a2, a3, a4, ll, lg]
    rw [chkK_of]; rotate_left; kernel_rfl
    simp (maxSteps := 1000000) (implicitDefEqProofs := false) (disch := first | rfl | omega | assumption) only [go_sem, ↓reduceIte, Nat.reduceEqDiff, Nat.reduceAdd, Nat.reduceLeDiff, Nat.reduceBEq, Nat.reduceMul, Nat.reduceLT, Int.reduceLT, Int.reduceLE, Int.reduceToNat, Int.reduceNeg, Int.reduceEq, Int.reduceMul, reduceCtorEq, Int.reduceBEq, Int.reduceBNe, Int.reduceAdd, Int.reduceSub, g1, g2, g8, g9, g10, ltT, ltF, leT, leF, hk', s1, s2, hB, a1, a2, a3, a4, ll, lg]
    repeat' ((with_reducible first
        | refine cond_ifb (fun hc hd he => ?_) (fun hc hd he => ?_)
        | refine guard_ifb (fun hc hd he => ?_) (fun hc hd he => ?_)
        | refine cond_dec (fun hc hd he => ?_) (fun hc hd he => ?_)
        | refine guard_dec (fun hc hd he => ?_) (fun hc hd he => ?_)
        | refine cond_ndec (fun hc hd he => ?_) (fun hc hd he => ?_)
        | refine guard_ndec (fun hc hd he => ?_) (fun hc hd he => ?_)
        | refine cond_not (fun hc hd he => ?_) (fun hc hd he => ?_)
        | refine guard_not (fun hc hd he => ?_) (fun hc hd he => ?_)
        | refine cond_beq (fun hc hd he => ?_) (fun hc hd he => ?_)
        | refine guard_beq (fun hc hd he => ?_) (fun hc hd he => ?_)
        | refine cond_bne (fun hc hd he => ?_) (fun hc hd he => ?_)
        | refine guard_bne (fun hc hd he => ?_) (fun hc hd he => ?_)
        | refine cond_split (fun hc hd he => ?_) (fun hc hd he => ?_)
        | refine guard_split (fun hc hd he => ?_) (fun hc hd he => ?_)
        | refine call_beq (fun hc hd he => ?_) (fun hc hd he => ?_)
        | refine call_ifb (fun hc hd he => ?_) (fun hc hd he => ?_)
        | refine call_ifd (fun hc hd he => ?_) (fun hc hd he => ?_)
        | refine call_dec (fun hc hd he => ?_) (fun hc hd he => ?_)) <;> try simp (maxSteps := 1000000) (implicitDefEqProofs := false) (disch := first | rfl | omega | assumption) only [go_sem, ↓reduceIte, Nat.reduceEqDiff, Nat.reduceAdd, Nat.reduceLeDiff, Nat.reduceBEq, Nat.reduceMul, Nat.reduceLT, Int.reduceLT, Int.reduceLE, Int.reduceToNat, Int.reduceNeg, Int.reduceEq, Int.reduceMul, reduceCtorEq, Int.reduceBEq, Int.reduceBNe, Int.reduceAdd, Int.reduceSub, g1, g2, g8, g9, g10, ltT, ltF, leT, leF, hk', hc, he, s1, s2, hB, a1, a2, a3, a4, ll, lg])
    · rw [chkK_of]; rotate_left; kernel_rfl
      simp (maxSteps := 1000000) (implicitDefEqProofs := false) (disch := first | rfl | omega | assumption) only [go_sem, ↓reduceIte, Nat.reduceEqDiff, Nat.reduceAdd, Nat.reduceLeDiff, Nat.reduceBEq, Nat.reduceMul, Nat.reduceLT, Int.reduceLT, Int.reduceLE, Int.reduceToNat, Int.reduceNeg, Int.reduceEq, Int.reduceMul, reduceCtorEq, Int.reduceBEq, Int.reduceBNe, Int.reduceAdd, Int.reduceSub, g1, g2, g8, g9, g10, ltT, ltF, leT, leF, hk', s1, s2, a1, a2, a3, a4, ll, lg]
    · exact ih (j + 1) (by omega) _ (by exact g1) (by exact g2) (by exact g8) (by exact g9) (by rfl)

theorem ref_Alike_l1 {c : Col} {vw vp : AV} (h : ColAt H c vw vp) (hc : c.Ok) (s : Nat) (hs : s < 1000000) :
    ∀ (q j : Nat), j + q = c.manyN → ∀ E : Env, E.get 1 = I s → E.get 2 = .ptr H.length 0 → E.get 8 = .sl false (c.lens.map I) → E.get 9 = I j →
    Option.map (finishC H.length) (execL cfg0 prog0 ⟨19, none, false, H.length⟩ (todoAt Try.f19 6) ⟨E, [], H ++ [.box (c.av vw vp)], none⟩) = (match findF (fun i => findF (c.alk1 s i) (i + 1) (c.manyN - (i + 1))) j q with | some p => some ⟨.ret (.tup [I p.1, I p.2, I 0]), H, none⟩ | none => some ⟨.ret (.tup [I 0, I 0, I 4]), H, none⟩) := by
  intro q
  have s1 := h.ws.scal
  have s2 := h.ps.scal
  have mb := hc.many_bd
  have ll := c.lens_len
  simp only [Col.av]
  induction q with
  | zero =>
    intro j hj  E g1 g2 g8 g9
    have hk' : ¬ (j : Int) < ((c.manyN : Nat) : Int) := by omega
    simp only [loopIt, todoPast, todoAt, todoOf, firstReg, ↓reduceIte, Option.some.injEq, Nat.reduceEqDiff, reduceCtorEq, Try.f19]
    rw [execL_inLoop]
    simp (maxSteps := 1000000) (implicitDefEqProofs := false) (disch := first | rfl | omega | assumption) only [go_sem, ↓reduceIte, Nat.reduceEqDiff, Nat.reduceAdd, Nat.reduceLeDiff, Nat.reduceBEq, Nat.reduceMul, Nat.reduceLT, Int.reduceLT, Int.reduceLE, Int.reduceToNat, Int.reduceNeg, Int.reduceEq, Int.reduceMul, reduceCtorEq, Int.reduceBEq, Int.reduceBNe, Int.reduceAdd, Int.reduceSub, g1, g2, g8, g9, ltT, ltF, leT, leF, hk', s1, s2, findF, ll]
  | succ q ih =>
    intro j hj  E g1 g2 g8 g9
    have hk' : (j : Int) < ((c.manyN : Nat) : Int) := by omega
    have hk2 : j < c.manyN := by omega
    simp only [findF]
    simp only [loopIt, todoPast, todoAt, todoOf, firstReg, ↓reduceIte, Option.some.injEq, Nat.reduceEqDiff, reduceCtorEq, Try.f19]
    rw [execL_inLoop]
    simp (maxSteps := 1000000) (implicitDefEqProofs := false) (disch := first | rfl | omega | assumption) only [go_sem, ↓reduceIte, Nat.reduceEqDiff, Nat.reduceAdd, Nat.reduceLeDiff, Nat.reduceBEq, Nat.reduceMul, Nat.reduceLT, Int.reduceLT, Int.reduceLE, Int.reduceToNat, Int.reduceNeg, Int.reduceEq, Int.reduceMul, reduceCtorEq, Int.reduceBEq, Int.reduceBNe, Int.reduceAdd, Int.reduceSub, g1, g2, g8, g9, ltT, ltF, leT, leF, hk', s1, s2, ll]
    refine (ref_Alike_l2 h hc s hs j hk2 _ (match findF (fun i => findF (c.alk1 s i) (i + 1) (c.manyN - (i + 1))) (j + 1) q with | some p => some ⟨.ret (.tup [I p.1, I p.2, I 0]), H, none⟩ | none => some ⟨.ret (.tup [I 0, I 0, I 4]), H, none⟩) (fun E g1 g2 g8 g9 => ?_) (c.manyN - (j + 1)) (j + 1) (by omega) _ (by exact g1) (by exact g2) (by exact g8) (by exact g9) (by rfl)).trans ?_
    · simp only [Col.av]
      simp (maxSteps := 1000000) (implicitDefEqProofs := false) (disch := first | rfl | omega | assumption) only [go_sem, ↓reduceIte, Nat.reduceEqDiff, Nat.reduceAdd, Nat.reduceLeDiff, Nat.reduceBEq, Nat.reduceMul, Nat.reduceLT, Int.reduceLT, Int.reduceLE, Int.reduceToNat, Int.reduceNeg, Int.reduceEq, Int.reduceMul, reduceCtorEq, Int.reduceBEq, Int.reduceBNe, Int.reduceAdd, Int.reduceSub, g1, g2, g8, g9, ltT, ltF, leT, leF, hk']
      exact ih (j + 1) (by omega) _ (by exact g1) (by exact g2) (by exact g8) (by rfl)
    · cases findF (c.alk1 s j) (j + 1) (c.manyN - (j + 1)) <;> rfl

end Go.Ab
/-
  All pairs.
-/
namespace Go.Ab
open Go.Proofs
set_option linter.unusedSimpArgs false
set_option linter.unusedVariables false
set_option maxRecDepth 100000
set_option maxHeartbeats 1000000

variable {H : Heap}

theorem Col.Ok.many_eq {c : Col} (h : c.Ok) : c.many = (c.manyN : Int) := by
  have h1 := h.lo
  have h2 := h.ev
  have h3 : 0 ≤ (c.hi - c.lo) / c.ev := Int.ediv_nonneg (by omega) (by omega)
  simp only [Col.many, Col.manyN]
  omega

theorem Col.Ok.ws1 {c : Col} (h : c.Ok) : ∀ w ∈ c.ws, 1 ≤ w := by
  intro w hw
  obtain ⟨i, hi, rfl⟩ := List.mem_iff_getElem.1 hw
  have := h.ws i hi
  simp only [List.getD_eq_getElem?_getD, List.getElem?_eq_getElem hi, Option.getD_some] at this
  omega

theorem Col.Ok.ws_all {c : Col} (h : c.Ok) : c.ws.all (wi · 2 60) = true := by
  rw [List.all_eq_true]
  intro w hw
  obtain ⟨i, hi, rfl⟩ := List.mem_iff_getElem.1 hw
  have := h.ws i hi
  simp only [List.getD_eq_getElem?_getD, List.getElem?_eq_getElem hi, Option.getD_some] at this
  exact wi_iff.2 this

theorem ShopAt.mset {l lm : Nat} {c : Col} {vw vp vo : AV} {kt kt' : TypeId} {es es' : List (AV × AV)} (h : ShopAt H l c vw vp vo lm) (hm : H[lm]? = some (.map kt es)) : ShopAt (H.set lm (.map kt' es')) l c vw vp vo lm := by
  have hl : lm < H.length := (List.getElem?_eq_some_iff.1 hm).1
  have key : ∀ (k : Nat) (o : AO), H[k]? = some o → (∀ a b, o ≠ AO.map a b) → (H.set lm (.map kt' es'))[k]? = some o := by
    intro k o hk ho
    rw [List.getElem?_set]
    split
    · rename_i e; subst e; rw [hm] at hk; injection hk with hk; exact absurd hk.symm (ho _ _)
    · exact hk
  refine ⟨key _ _ h.box (by intro a b h; cases h), ?_⟩
  have ho := h.own
  obtain ⟨h1, h2⟩ := ho
  refine ⟨?_, h2⟩
  cases vo <;> simp only at h1 ⊢
  · exact h1
  · exact ⟨key _ _ h1.1 (by intro a b h; cases h), h1.2⟩

abbrev Col.ptsV (c : Col) (n : Int) : AV := .agg ((ptsA c.ws n).map I)
def Col.pl (c : Col) (j : Nat) : List AV := (List.range j).map fun i => c.ptsV (c.lenAt i)

theorem co_length' {l lm : Nat} {c : Col} {vw vp vo : AV} (h : ShopAt H l c vw vp vo lm) (ho : c.Ok) (j : Nat) (hj : j < c.manyN) : callFL cfg0 prog0 false 63 [.ptr l 0, I j] H none = some ⟨.ret (I (c.lenAt j)), H, none⟩ := by
  have := ho.lo
  have := ho.many_bd
  exact co_length h (by omega) ho.ev j (by omega)

theorem ptsV_ok (c : Col) (hl : c.ws.length ≤ 6) (n : Int) : elemsOk 6 true [c.ptsV n] = true ∧ ltL 0 [c.ptsV n] = true ∧ elemOk 6 true (c.ptsV n) = true ∧ (c.ptsV n).lt 0 = true := by
  obtain ⟨t1, t2, t3, t4⟩ := arr6 (ptsA_len (n := n) hl)
  have t5 := ltI (N := 0) (ptsA c.ws n)
  simp [Col.ptsV, elemsOk, elemOk, ltL, AV.lt, t2, t4, t5] <;> simpa using t2

theorem ptsV_cells (c : Col) (hl : c.ws.length ≤ 6) (n : Int) : (c.ptsV n).cells.length = 6 := by
  obtain ⟨t1, t2, t3, t4⟩ := arr6 (ptsA_len (n := n) hl)
  simpa [Col.ptsV, AV.cells] using t2

theorem co_all_l1 {l lm : Nat} {c : Col} {vw vp vo : AV} (h : ShopAt H l c vw vp vo lm) (ho : c.Ok) (K : List Item) (R : Option Done) (hK : ∀ E : Env, E.get 0 = .ptr l 0 → E.get 3 = .gsl H.length c.manyN → Option.map (finishC H.length) (execL cfg0 prog0 ⟨100, none, false, H.length⟩ K ⟨E, [], H ++ [.grow 6 (c.pl c.manyN)], none⟩) = R)  :
    ∀ (q j : Nat), j + q = c.manyN → ∀ (len : Nat), len = j → ∀ E : Env, E.get 0 = .ptr l 0 → E.get 3 = .gsl H.length len → E.get 8 = I c.manyN → E.get 9 = I j →
    Option.map (finishC H.length) (execL cfg0 prog0 ⟨100, none, false, H.length⟩ (loopIt Try.f100 3 :: .inBlock 0 :: K) ⟨E, [], H ++ [.grow 6 (c.pl j)], none⟩) = R := by
  intro q
  have mb := ho.many_bd
  have lw := ho.len
  induction q with
  | zero =>
    intro j hj len hlen E g0 g3 g8 g9
    have hk' : ¬ (j : Int) < ((c.manyN : Nat) : Int) := by omega
    have hjn : j = c.manyN := by omega
    subst hjn
    simp only [loopIt, todoPast, todoAt, todoOf, firstReg, ↓reduceIte, Option.some.injEq, Nat.reduceEqDiff, reduceCtorEq, Try.f100]
    rw [execL_inLoop]
    simp (maxSteps := 1000000) (implicitDefEqProofs := false) (disch := first | rfl | omega | assumption) only [go_sem, ↓reduceIte, Nat.reduceEqDiff, Nat.reduceAdd, Nat.reduceLeDiff, Nat.reduceBEq, Nat.reduceMul, Nat.reduceLT, Int.reduceLT, Int.reduceLE, Int.reduceToNat, Int.reduceNeg, Int.reduceEq, Int.reduceMul, reduceCtorEq, Int.reduceBEq, Int.reduceBNe, Int.reduceAdd, Int.reduceSub, g0, g3, g8, g9, ltT, ltF, leT, leF, hk']
    exact hK _ (by exact g0) (by rw [← hlen]; exact g3)
  | succ q ih =>
    intro j hj len hlen E g0 g3 g8 g9
    have hk' : (j : Int) < ((c.manyN : Nat) : Int) := by omega
    have hk2 : j < c.manyN := by omega
    have hb := ho.lenAt_bd hk2
    have hL := co_length' (h.app [.grow 6 (c.pl j)]) ho j hk2
    have hO := co_of (h.app [.grow 6 (c.pl j)]) (by omega) (c.lenAt j) (wi_iff.2 hb)
    rw [ho.ws_all, if_pos rfl] at hO
    obtain ⟨p1, p2, p3, p4⟩ := ptsV_ok c lw.2 (c.lenAt j)
    change callFL _ _ _ _ _ _ _ = some ⟨.ret (c.ptsV (c.lenAt j)), _, _⟩ at hO
    have hof : addElem (H ++ [.grow 6 (c.pl j)]) 6 true (.gsl H.length len) [c.ptsV (c.lenAt j)] = some (.gsl H.length (len + 1), H ++ [.grow 6 (c.pl (j + 1))]) := by
      rw [add_gsl (by rw [get_at]; rfl) (by simp [Col.pl, hlen]) p1 p2 (by simp; omega), set_at]
      simp [Col.pl, List.range_succ]
    simp only [loopIt, todoPast, todoAt, todoOf, firstReg, ↓reduceIte, Option.some.injEq, Nat.reduceEqDiff, reduceCtorEq, Try.f100]
    rw [execL_inLoop]
    have lp : (ptsA c.ws (c.lenAt j)).length = 6 := ptsA_len lw.2
    have t4 := (arr6 lp).2.2.2
    simp (maxSteps := 1000000) (implicitDefEqProofs := false) (disch := first | rfl | omega | assumption) only [go_sem, ↓reduceIte, Nat.reduceEqDiff, Nat.reduceAdd, Nat.reduceLeDiff, Nat.reduceBEq, Nat.reduceMul, Nat.reduceLT, Int.reduceLT, Int.reduceLE, Int.reduceToNat, Int.reduceNeg, Int.reduceEq, Int.reduceMul, reduceCtorEq, Int.reduceBEq, Int.reduceBNe, Int.reduceAdd, Int.reduceSub, g0, g3, g8, g9, ltT, ltF, leT, leF, hk', hL, hO, lp, t4, ltI, hof]
    exact ih (j + 1) (by omega) (len + 1) (by omega) _ (by exact g0) (by rfl) (by exact g8) (by rfl)

def pkey (a b : Nat) : AV := .agg [I a, I b]
/-- Which colours part the pairs below. -/
def Col.pes1 (c : Col) (b : Nat) (es : List (AV × AV)) (a : Nat) : List (AV × AV) := putM (pkey a b) (U (c.mask (c.lenAt a) (c.lenAt b))) es
def Col.pes2 (c : Col) (es : List (AV × AV)) (b : Nat) : List (AV × AV) := foldF (c.pes1 b) es 0 b
def Col.pes (c : Col) : List (AV × AV) := foldF c.pes2 [] 0 c.manyN

theorem pl_get (c : Col) {j : Nat} (hj : j < c.manyN) : (c.pl c.manyN)[j]? = some (c.ptsV (c.lenAt j)) := by simp [Col.pl, hj]

theorem pl_ok {l : Nat} (c : Col) (hl : c.ws.length ≤ 6) (K : Heap) (hK : K[l]? = some (.grow 6 (c.pl c.manyN))) : SlOk K 6 (.gsl l c.manyN) (c.pl c.manyN) := by
  refine ⟨⟨hK, by simp [Col.pl]⟩, fun x hx => ?_⟩
  simp only [Col.pl, List.mem_map] at hx
  obtain ⟨i, -, rfl⟩ := hx
  exact ptsV_cells c hl _

theorem co_all_l3 {l lm : Nat} {c : Col} {vw vp vo : AV} (h : ShopAt H l c vw vp vo lm) (ho : c.Ok) (hm : H[lm]? = some (.map 84 [])) (b : Nat) (hb : b < c.manyN) (r : List (AV × AV)) (K : List Item) (R : Option Done) (hK : ∀ E : Env, E.get 0 = .ptr l 0 → E.get 3 = .gsl H.length c.manyN → E.get 22 = I c.manyN → E.get 23 = I b → Option.map (finishC H.length) (execL cfg0 prog0 ⟨100, none, false, H.length⟩ K ⟨E, [], H.set lm (.map 84 r) ++ [.grow 6 (c.pl c.manyN)], none⟩) = R)  :
    ∀ (q j : Nat), j + q = b → ∀ (es : List (AV × AV)), foldF (c.pes1 b) es j q = r → ∀ E : Env, E.get 0 = .ptr l 0 → E.get 3 = .gsl H.length c.manyN → E.get 5 = I b → E.get 22 = I c.manyN → E.get 23 = I b → E.get 26 = I b → E.get 27 = I j →
    Option.map (finishC H.length) (execL cfg0 prog0 ⟨100, none, false, H.length⟩ (loopIt Try.f100 11 :: .inBlock 4 :: K) ⟨E, [], H.set lm (.map 84 es) ++ [.grow 6 (c.pl c.manyN)], none⟩) = R := by
  intro q
  have mb := ho.many_bd
  have lw := ho.len
  have hl : l < H.length := (List.getElem?_eq_some_iff.1 h.box).1
  have hlm : lm < H.length := (List.getElem?_eq_some_iff.1 hm).1
  induction q with
  | zero =>
    intro j hj es hr E g0 g3 g5 g22 g23 g26 g27
    have hk' : ¬ (j : Int) < ((b : Nat) : Int) := by omega
    simp only [foldF] at hr
    subst hr
    simp only [loopIt, todoPast, todoAt, todoOf, firstReg, ↓reduceIte, Option.some.injEq, Nat.reduceEqDiff, reduceCtorEq, Try.f100]
    rw [execL_inLoop]
    simp (maxSteps := 1000000) (implicitDefEqProofs := false) (disch := first | rfl | omega | assumption) only [go_sem, ↓reduceIte, Nat.reduceEqDiff, Nat.reduceAdd, Nat.reduceLeDiff, Nat.reduceBEq, Nat.reduceMul, Nat.reduceLT, Int.reduceLT, Int.reduceLE, Int.reduceToNat, Int.reduceNeg, Int.reduceEq, Int.reduceMul, reduceCtorEq, Int.reduceBEq, Int.reduceBNe, Int.reduceAdd, Int.reduceSub, g0, g3, g5, g22, g23, g26, g27, ltT, ltF, leT, leF, hk']
    exact hK _ (by exact g0) (by exact g3) (by exact g22) (by exact g23)
  | succ q ih =>
    intro j hj es hr E g0 g3 g5 g22 g23 g26 g27
    have hk' : (j : Int) < ((b : Nat) : Int) := by omega
    have hk2 : j < b := by omega
    have hS := (h.mset (kt' := 84) (es' := es) hm).app [.grow 6 (c.pl c.manyN)]
    have hP := co_parting hS lw.2 ho.er ho.ws1 (c.lenAt j) (c.lenAt b)
    have hbx := hS.box
    have hsl := pl_ok (l := H.length) c lw.2 (H.set lm (.map 84 es) ++ [.grow 6 (c.pl c.manyN)]) (by rw [get_atS]; rfl)
    obtain ⟨a1, a2, a3, -, -⟩ := hsl.at (k := (j : Int)) (x := c.ptsV (c.lenAt j)) (by omega) (by rw [Int.toNat_natCast]; exact pl_get c (by omega))
    obtain ⟨b1, b2, b3, -, -⟩ := hsl.at (k := (b : Int)) (x := c.ptsV (c.lenAt b)) (by omega) (by rw [Int.toNat_natCast]; exact pl_get c hb)
    have hget : (H.set lm (.map 84 es) ++ [.grow 6 (c.pl c.manyN)])[lm]? = some (.map 84 es) := by rw [List.getElem?_append_left (by simp [hlm]), List.getElem?_set_self hlm]
    have hset : ∀ o : AO, (H.set lm (.map 84 es) ++ [AO.grow 6 (c.pl c.manyN)]).set lm o = H.set lm o ++ [AO.grow 6 (c.pl c.manyN)] := by intro o; rw [List.set_append_left _ _ (by simp [hlm]), List.set_set]
    have q1 := arr6 (ptsA_len (n := c.lenAt j) lw.2)
    have q2 := arr6 (ptsA_len (n := c.lenAt b) lw.2)
    obtain ⟨q11, q12, q13, q14⟩ := q1
    obtain ⟨q21, q22, q23, q24⟩ := q2
    have lp1 : (ptsA c.ws (c.lenAt j)).length = 6 := ptsA_len lw.2
    have lp2 : (ptsA c.ws (c.lenAt b)).length = 6 := ptsA_len lw.2
    simp only [loopIt, todoPast, todoAt, todoOf, firstReg, ↓reduceIte, Option.some.injEq, Nat.reduceEqDiff, reduceCtorEq, Try.f100]
    rw [execL_inLoop]
    simp (maxSteps := 1000000) (implicitDefEqProofs := false) (disch := first | rfl | omega | assumption) only [go_sem, ↓reduceIte, Nat.reduceEqDiff, Nat.reduceAdd, Nat.reduceLeDiff, Nat.reduceBEq, Nat.reduceMul, Nat.reduceLT, Int.reduceLT, Int.reduceLE, Int.reduceToNat, Int.reduceNeg, Int.reduceEq, Int.reduceMul, reduceCtorEq, Int.reduceBEq, Int.reduceBNe, Int.reduceAdd, Int.reduceSub, g0, g3, g5, g22, g23, g26, g27, ltT, ltF, leT, leF, hk']
    rw [chkK_of]; rotate_left; kernel_rfl
    have hel := fun (k : Int) (off : Nat) => ptrOf_elA (k := k) (off := off) hsl
    simp (maxSteps := 1000000) (implicitDefEqProofs := false) (disch := first | rfl | omega | assumption) only [go_sem, ↓reduceIte, Nat.reduceEqDiff, Nat.reduceAdd, Nat.reduceLeDiff, Nat.reduceBEq, Nat.reduceMul, Nat.reduceLT, Int.reduceLT, Int.reduceLE, Int.reduceToNat, Int.reduceNeg, Int.reduceEq, Int.reduceMul, reduceCtorEq, Int.reduceBEq, Int.reduceBNe, Int.reduceAdd, Int.reduceSub, g0, g3, g5, g22, g23, g26, g27, ltT, ltF, leT, leF, hk', hbx, hel, hP, hget, hset, a1, a2, a3, b1, b2, b3, q11, q14, q21, q24, lp1, lp2]
    exact ih (j + 1) (by omega) (c.pes1 b es j) hr _ (by exact g0) (by exact g3) (by exact g5) (by exact g22) (by exact g23) (by exact g26) (by rfl)

theorem co_all_l2 {l lm : Nat} {c : Col} {vw vp vo : AV} (h : ShopAt H l c vw vp vo lm) (ho : c.Ok) (hm : H[lm]? = some (.map 84 [])) (r : List (AV × AV)) :
    ∀ (q j : Nat), j + q = c.manyN → ∀ (es : List (AV × AV)), foldF c.pes2 es j q = r → ∀ E : Env, E.get 0 = .ptr l 0 → E.get 3 = .gsl H.length c.manyN → E.get 22 = I c.manyN → E.get 23 = I j →
    Option.map (finishC H.length) (execL cfg0 prog0 ⟨100, none, false, H.length⟩ (todoAt Try.f100 8) ⟨E, [], H.set lm (.map 84 es) ++ [.grow 6 (c.pl c.manyN)], none⟩) = some ⟨.ret (.ptr l 0), H.set lm (.map 84 r), none⟩ := by
  intro q
  have mb := ho.many_bd
  have lw := ho.len
  have hl : l < H.length := (List.getElem?_eq_some_iff.1 h.box).1
  have hlm : lm < H.length := (List.getElem?_eq_some_iff.1 hm).1
  induction q with
  | zero =>
    intro j hj es hr E g0 g3 g22 g23
    have hk' : ¬ (j : Int) < ((c.manyN : Nat) : Int) := by omega
    simp only [foldF] at hr
    subst hr
    simp only [loopIt, todoPast, todoAt, todoOf, firstReg, ↓reduceIte, Option.some.injEq, Nat.reduceEqDiff, reduceCtorEq, Try.f100]
    rw [execL_inLoop]
    simp (maxSteps := 1000000) (implicitDefEqProofs := false) (disch := first | rfl | omega | assumption) only [go_sem, ↓reduceIte, Nat.reduceEqDiff, Nat.reduceAdd, Nat.reduceLeDiff, Nat.reduceBEq, Nat.reduceMul, Nat.reduceLT, Int.reduceLT, Int.reduceLE, Int.reduceToNat, Int.reduceNeg, Int.reduceEq, Int.reduceMul, reduceCtorEq, Int.reduceBEq, Int.reduceBNe, Int.reduceAdd, Int.reduceSub, g0, g3, g22, g23, ltT, ltF, leT, leF, hk', hl]
  | succ q ih =>
    intro j hj es hr E g0 g3 g22 g23
    have hk' : (j : Int) < ((c.manyN : Nat) : Int) := by omega
    have hk2 : j < c.manyN := by omega
    simp only [loopIt, todoPast, todoAt, todoOf, firstReg, ↓reduceIte, Option.some.injEq, Nat.reduceEqDiff, reduceCtorEq, Try.f100]
    rw [execL_inLoop]
    simp (maxSteps := 1000000) (implicitDefEqProofs := false) (disch := first | rfl | omega | assumption) only [go_sem, ↓reduceIte, Nat.reduceEqDiff, Nat.reduceAdd, Nat.reduceLeDiff, Nat.reduceBEq, Nat.reduceMul, Nat.reduceLT, Int.reduceLT, Int.reduceLE, Int.reduceToNat, Int.reduceNeg, Int.reduceEq, Int.reduceMul, reduceCtorEq, Int.reduceBEq, Int.reduceBNe, Int.reduceAdd, Int.reduceSub, g0, g3, g22, g23, ltT, ltF, leT, leF, hk']
    refine co_all_l3 h ho hm j hk2 (c.pes2 es j) _ _ (fun E g0 g3 g22 g23 => ?_) j 0 (by omega) es rfl _ (by exact g0) (by exact g3) (by rfl) (by exact g22) (by exact g23) (by rfl) (by rfl)
    simp (maxSteps := 1000000) (implicitDefEqProofs := false) (disch := first | rfl | omega | assumption) only [go_sem, ↓reduceIte, Nat.reduceEqDiff, Nat.reduceAdd, Nat.reduceLeDiff, Nat.reduceBEq, Nat.reduceMul, Nat.reduceLT, Int.reduceLT, Int.reduceLE, Int.reduceToNat, Int.reduceNeg, Int.reduceEq, Int.reduceMul, reduceCtorEq, Int.reduceBEq, Int.reduceBNe, Int.reduceAdd, Int.reduceSub, g0, g3, g22, g23, ltT, ltF, leT, leF, hk']
    exact ih (j + 1) (by omega) (c.pes2 es j) hr _ (by exact g0) (by exact g3) (by exact g22) (by rfl)

theorem co_all {l lm : Nat} {c : Col} {vw vp vo : AV} (h : ShopAt H l c vw vp vo lm) (ho : c.Ok) (hm : H[lm]? = some (.map 84 [])) :
    callFL cfg0 prog0 false 100 [.ptr l 0] H none = some ⟨.ret (.ptr l 0), H.set lm (.map 84 c.pes), none⟩ := by
  have mb := ho.many_bd
  have hM := fun G : Heap => co_many (h.app G) (by have := ho.lo; omega) (by have := ho.ev; omega)
  rw [ho.many_eq] at hM
  refine (callFL_eq fn100 rfl (by simp [Try.f100])).trans ?_
  simp (maxSteps := 1000000) (implicitDefEqProofs := false) (disch := first | rfl | omega | assumption) only [go_sem, ↓reduceIte, Nat.reduceEqDiff, Nat.reduceAdd, Nat.reduceLeDiff, Nat.reduceBEq, Nat.reduceMul, Nat.reduceLT, Int.reduceLT, Int.reduceLE, Int.reduceToNat, Int.reduceNeg, Int.reduceEq, Int.reduceMul, reduceCtorEq, Int.reduceBEq, Int.reduceBNe, Int.reduceAdd, Int.reduceSub, ltT, ltF, leT, leF, hM]
  refine co_all_l1 h ho _ _ (fun E g0 g3 => ?_) c.manyN 0 (by omega) 0 rfl _ (by rfl) (by rfl) (by rfl) (by rfl)
  simp (maxSteps := 1000000) (implicitDefEqProofs := false) (disch := first | rfl | omega | assumption) only [go_sem, ↓reduceIte, Nat.reduceEqDiff, Nat.reduceAdd, Nat.reduceLeDiff, Nat.reduceBEq, Nat.reduceMul, Nat.reduceLT, Int.reduceLT, Int.reduceLE, Int.reduceToNat, Int.reduceNeg, Int.reduceEq, Int.reduceMul, reduceCtorEq, Int.reduceBEq, Int.reduceBNe, Int.reduceAdd, Int.reduceSub, ltT, ltF, leT, leF, g0, g3]
  have := co_all_l2 h ho hm c.pes c.manyN 0 (by omega) [] rfl
  rw [set_self hm] at this
  exact this _ (by exact g0) (by exact g3) (by rfl) (by rfl)

end Go.Ab
/-
  The pairs that a set does not part, one after another.
-/
namespace Go.Ab
open Go.Proofs
set_option linter.unusedSimpArgs false
set_option linter.unusedVariables false
set_option maxRecDepth 100000
set_option maxHeartbeats 1000000

variable {H : Heap}

theorem lookup_put (k v k' : AV) : ∀ es : List (AV × AV), lookupM k' (putM k v es) = if k'.same k then some v else lookupM k' es
  | [] => by simp [putM, lookupM]
  | (k1, v1) :: r => by
    by_cases h : k.same k1
    · have := same_eq _ _ h
      subst this
      simp only [putM, h, if_true, lookupM]
      split <;> simp_all
    · simp only [putM, h, lookupM]
      by_cases h2 : k'.same k1
      · have := same_eq _ _ h2
        subst this
        have h3 : k'.same k = false := by
          cases h4 : k'.same k with
          | false => rfl
          | true =>
            have := same_eq _ _ h4
            subst this
            exact absurd (AV.same_refl _) h
        simp [h3, AV.same_refl, lookupM]
      · simp [h2, lookup_put k v k' r, lookupM]

theorem pkey_same (a b x y : Nat) : (pkey a b).same (pkey x y) = true ↔ a = x ∧ b = y := by
  constructor
  · intro h
    have := same_eq _ _ h
    simp only [pkey, I, AV.agg.injEq, List.cons.injEq, AV.int.injEq, true_and, and_true, Int.natCast_inj] at this
    exact this
  · rintro ⟨rfl, rfl⟩; exact AV.same_refl _

theorem pes1_look (c : Col) (b : Nat) (x y : Nat) : ∀ (q j : Nat) (es : List (AV × AV)), lookupM (pkey x y) (foldF (c.pes1 b) es j q) = if y = b ∧ j ≤ x ∧ x < j + q then some (U (c.mask (c.lenAt x) (c.lenAt b))) else lookupM (pkey x y) es
  | 0, j, es => by
    rw [if_neg (by omega)]; rfl
  | q + 1, j, es => by
    rw [foldF, pes1_look c b x y q (j + 1), Col.pes1, lookup_put]
    by_cases h1 : y = b ∧ j + 1 ≤ x ∧ x < j + 1 + q
    · rw [if_pos h1, if_pos (by omega)]
    · rw [if_neg h1]
      by_cases h2 : x = j ∧ y = b
      · rw [if_pos ((pkey_same _ _ _ _).2 h2), if_pos (by omega), h2.1]
      · rw [if_neg (by rw [pkey_same]; exact h2), if_neg (by omega)]

theorem pes2_look (c : Col) (x y : Nat) : ∀ (q j : Nat) (es : List (AV × AV)), lookupM (pkey x y) (foldF c.pes2 es j q) = if x < y ∧ j ≤ y ∧ y < j + q then some (U (c.mask (c.lenAt x) (c.lenAt y))) else lookupM (pkey x y) es
  | 0, j, es => by
    rw [if_neg (by omega)]; rfl
  | q + 1, j, es => by
    rw [foldF, pes2_look c x y q (j + 1), Col.pes2, pes1_look]
    by_cases h1 : x < y ∧ j + 1 ≤ y ∧ y < j + 1 + q
    · rw [if_pos h1, if_pos (by omega)]
    · rw [if_neg h1]
      by_cases h2 : y = j ∧ 0 ≤ x ∧ x < 0 + j
      · rw [if_pos h2, if_pos (by omega), h2.1]
      · rw [if_neg h2, if_neg (by omega)]

theorem pes_look (c : Col) {x y : Nat} (h1 : x < y) (h2 : y < c.manyN) : lookupM (.agg [I x, I y]) c.pes = some (U (c.mask (c.lenAt x) (c.lenAt y))) := by
  have := pes2_look c x y c.manyN 0 []
  rw [if_pos ⟨h1, by omega, by omega⟩] at this
  exact this

/-- A set parts the lengths a and b. -/
def Col.meet (c : Col) (s a b : Nat) : Bool := ((c.mask (c.lenAt a) (c.lenAt b) &&& s : Nat) : Int) != 0

def itB {β : Type} (c : Col) (s : Nat) (g : β → Nat → Nat → β × Bool) (a : Nat) : β → Nat → Nat → β × Bool
  | st, _, 0 => (st, true)
  | st, j, q + 1 => if c.meet s a j then itB c s g a st (j + 1) q else
      if (g st a j).2 then itB c s g a (g st a j).1 (j + 1) q else ((g st a j).1, false)

def itA {β : Type} (c : Col) (s : Nat) (g : β → Nat → Nat → β × Bool) : β → Nat → Nat → β × Bool
  | st, _, 0 => (st, true)
  | st, j, q + 1 => if (itB c s g j st (j + 1) (c.manyN - (j + 1))).2 then itA c s g (itB c s g j st (j + 1) (c.manyN - (j + 1))).1 (j + 1) q else ((itB c s g j st (j + 1) (c.manyN - (j + 1))).1, false)

/-- What the pairs are told to, with its heaps while it listens, and when it has had enough. -/
structure Hears {β : Type} (c : Col) (s : Nat) (l lm p1 p2 : Nat) (n : Nat) (y : Nat) (vw vp vo : AV) (Hr Hd : β → Heap) (g : β → Nat → Nat → β × Bool) : Prop where
  lr : ∀ st, (Hr st).length = n
  ld : ∀ st, (Hd st).length = n
  b1 : ∀ st, (Hr st)[p1]? = some (.box (.ptr l 0))
  b2 : ∀ st, (Hr st)[p2]? = some (.box (U s))
  shop : ∀ st, ShopAt (Hr st) l c vw vp vo lm
  mp : ∀ st, (Hr st)[lm]? = some (.map 84 c.pes)
  y : ∀ st a b, a < b → b < c.manyN → callVL cfg0 prog0 false (.yield y) [.agg [I a, I b]] [] (Hr st) none = some ⟨.ret (.bool (g st a b).2), if (g st a b).2 then Hr (g st a b).1 else Hd (g st a b).1, none⟩

theorem Col.mask_lt {c : Col} (ho : c.Ok) (a b : Int) : c.mask a b < 64 := by
  have h1 := maskN_lt (c.sep a b) c.ws.length
  have h2 : (2 : Nat) ^ c.ws.length ≤ 2 ^ 6 := Nat.pow_le_pow_right (by omega) ho.len.2
  simp only [Col.mask]
  omega

theorem alike_l2 {β : Type} {c : Col} (ho : c.Ok) {s : Nat} (hs : s < 64) {l lm p1 p2 n y : Nat} {vw vp vo : AV} {Hr Hd : β → Heap} {g : β → Nat → Nat → β × Bool} (hh : Hears c s l lm p1 p2 n y vw vp vo Hr Hd g) (i : Nat) (r : β × Bool) (R : Option Done) (hK : r.2 = true → ∀ E : Env, E.get 0 = .func (.yield y) [] [] → E.get 1 = .ptr p1 0 → E.get 2 = .ptr p2 0 → E.get 4 = I c.manyN → E.get 9 = I c.manyN → E.get 10 = I i → Option.map (finishC n) (execL cfg0 prog0 ⟨101, none, false, n⟩ (todoPast Try.f101 5) ⟨E, [], Hr r.1, none⟩) = R) (e1 : r.2 = false → R = some ⟨.ret (.tup []), Hd r.1, none⟩) :
    ∀ (q j : Nat), j + q = c.manyN → ∀ (st : β), itB c s g i st j q = r → i < j → ∀ E : Env, E.get 0 = .func (.yield y) [] [] → E.get 1 = .ptr p1 0 → E.get 2 = .ptr p2 0 → E.get 4 = I c.manyN → E.get 5 = I i → E.get 6 = I j → E.get 9 = I c.manyN → E.get 10 = I i →
    Option.map (finishC n) (execL cfg0 prog0 ⟨101, none, false, n⟩ (todoAt Try.f101 5) ⟨E, [], Hr st, none⟩) = R := by
  intro q
  have mb := ho.many_bd
  have tr : ∀ st, (Hr st).take n = Hr st := fun st => List.take_of_length_le (by rw [hh.lr]; exact Nat.le_refl _)
  have td : ∀ st, (Hd st).take n = Hd st := fun st => List.take_of_length_le (by rw [hh.ld]; exact Nat.le_refl _)
  simp only [loopIt, todoPast, todoAt, todoOf, firstReg, ↓reduceIte, Option.some.injEq, Nat.reduceEqDiff, reduceCtorEq, Try.f101] at hK
  induction q with
  | zero =>
    intro j hj st hr hij E g0 g1 g2 g4 g5 g6 g9 g10
    have hk' : ¬ (j : Int) < ((c.manyN : Nat) : Int) := by omega
    simp only [itB] at hr
    subst hr
    simp only [loopIt, todoPast, todoAt, todoOf, firstReg, ↓reduceIte, Option.some.injEq, Nat.reduceEqDiff, reduceCtorEq, Try.f101]
    rw [execL_inLoop]
    have hk2 := hK rfl ((17, .bool false) :: (16, I c.manyN) :: (15, I j) :: E) (by exact g0) (by exact g1) (by exact g2) (by exact g4) (by exact g9) (by exact g10)
    simp (maxSteps := 1000000) (implicitDefEqProofs := false) (disch := first | rfl | omega | assumption) only [go_sem, ↓reduceIte, Nat.reduceEqDiff, Nat.reduceAdd, Nat.reduceLeDiff, Nat.reduceBEq, Nat.reduceMul, Nat.reduceLT, Int.reduceLT, Int.reduceLE, Int.reduceToNat, Int.reduceNeg, Int.reduceEq, Int.reduceMul, reduceCtorEq, Int.reduceBEq, Int.reduceBNe, Int.reduceAdd, Int.reduceSub, g0, g1, g2, g4, g5, g6, g9, g10, ltT, ltF, leT, leF, hk']
    simp (maxSteps := 1000000) (implicitDefEqProofs := false) (disch := first | rfl | omega | assumption) only [go_sem, ↓reduceIte, Nat.reduceEqDiff, Nat.reduceAdd, Nat.reduceLeDiff, Nat.reduceBEq, Nat.reduceMul, Nat.reduceLT, Int.reduceLT, Int.reduceLE, Int.reduceToNat, Int.reduceNeg, Int.reduceEq, Int.reduceMul, reduceCtorEq, Int.reduceBEq, Int.reduceBNe, Int.reduceAdd, Int.reduceSub, g0, g1, g2, g4, g5, g6, g9, g10, ltT, ltF, leT, leF, hk'] at hk2
    exact hk2
  | succ q ih =>
    intro j hj st hr hij E g0 g1 g2 g4 g5 g6 g9 g10
    have hk' : (j : Int) < ((c.manyN : Nat) : Int) := by omega
    have hk2 : j < c.manyN := by omega
    have hb := (hh.shop st).box
    have hlk := pes_look c hij hk2
    have hm := c.mask_lt ho (c.lenAt i) (c.lenAt j)
    have hbit := bitsAnd (a := c.mask (c.lenAt i) (c.lenAt j)) (b := s) (by omega) (by omega)
    have hy := hh.y st i j hij hk2
    have hmt : (((c.mask (c.lenAt i) (c.lenAt j) &&& s : Nat) : Int) != 0) = c.meet s i j := rfl
    simp only [itB] at hr
    simp only [loopIt, todoPast, todoAt, todoOf, firstReg, ↓reduceIte, Option.some.injEq, Nat.reduceEqDiff, reduceCtorEq, Try.f101]
    rw [execL_inLoop]
    simp (maxSteps := 1000000) (implicitDefEqProofs := false) (disch := first | rfl | omega | assumption) only [go_sem, ↓reduceIte, Nat.reduceEqDiff, Nat.reduceAdd, Nat.reduceLeDiff, Nat.reduceBEq, Nat.reduceMul, Nat.reduceLT, Int.reduceLT, Int.reduceLE, Int.reduceToNat, Int.reduceNeg, Int.reduceEq, Int.reduceMul, reduceCtorEq, Int.reduceBEq, Int.reduceBNe, Int.reduceAdd, Int.reduceSub, g0, g1, g2, g4, g5, g6, g9, g10, ltT, ltF, leT, leF, hk']
    rw [chkK_of]; rotate_left; kernel_rfl
    rcases Bool.eq_false_or_eq_true (c.meet s i j) with hc | hc
    · rw [hc, if_pos rfl] at hr
      simp (maxSteps := 1000000) (implicitDefEqProofs := false) (disch := first | rfl | omega | assumption) only [go_sem, ↓reduceIte, Nat.reduceEqDiff, Nat.reduceAdd, Nat.reduceLeDiff, Nat.reduceBEq, Nat.reduceMul, Nat.reduceLT, Int.reduceLT, Int.reduceLE, Int.reduceToNat, Int.reduceNeg, Int.reduceEq, Int.reduceMul, reduceCtorEq, Int.reduceBEq, Int.reduceBNe, Int.reduceAdd, Int.reduceSub, g0, g1, g2, g4, g5, g6, g9, g10, ltT, ltF, leT, leF, hk', hh.b1, hh.b2, hb, hh.mp, hlk, hbit, hmt, hc]
      exact ih (j + 1) (by omega) st hr (by omega) _ (by exact g0) (by exact g1) (by exact g2) (by exact g4) (by exact g5) (by rfl) (by exact g9) (by exact g10)
    · rw [hc, if_neg (by simp)] at hr
      rcases Bool.eq_false_or_eq_true (g st i j).2 with hg | hg
      · rw [hg, if_pos rfl] at hr
        rw [hg, if_pos rfl] at hy
        simp (maxSteps := 1000000) (implicitDefEqProofs := false) (disch := first | rfl | omega | assumption) only [go_sem, ↓reduceIte, Nat.reduceEqDiff, Nat.reduceAdd, Nat.reduceLeDiff, Nat.reduceBEq, Nat.reduceMul, Nat.reduceLT, Int.reduceLT, Int.reduceLE, Int.reduceToNat, Int.reduceNeg, Int.reduceEq, Int.reduceMul, reduceCtorEq, Int.reduceBEq, Int.reduceBNe, Int.reduceAdd, Int.reduceSub, g0, g1, g2, g4, g5, g6, g9, g10, ltT, ltF, leT, leF, hk', hh.b1, hh.b2, hb, hh.mp, hlk, hbit, hmt, hc, hy]
        exact ih (j + 1) (by omega) _ hr (by omega) _ (by exact g0) (by exact g1) (by exact g2) (by exact g4) (by exact g5) (by rfl) (by exact g9) (by exact g10)
      · rw [hg, if_neg (by simp)] at hr
        rw [hg, if_neg (by simp)] at hy
        subst hr
        rw [e1 rfl]
        simp (maxSteps := 1000000) (implicitDefEqProofs := false) (disch := first | rfl | omega | assumption) only [go_sem, ↓reduceIte, Nat.reduceEqDiff, Nat.reduceAdd, Nat.reduceLeDiff, Nat.reduceBEq, Nat.reduceMul, Nat.reduceLT, Int.reduceLT, Int.reduceLE, Int.reduceToNat, Int.reduceNeg, Int.reduceEq, Int.reduceMul, reduceCtorEq, Int.reduceBEq, Int.reduceBNe, Int.reduceAdd, Int.reduceSub, g0, g1, g2, g4, g5, g6, g9, g10, ltT, ltF, leT, leF, hk', hh.b1, hh.b2, hb, hh.mp, hlk, hbit, hmt, hc, hy, tr, td]

theorem alike_l1 {β : Type} {c : Col} (ho : c.Ok) {s : Nat} (hs : s < 64) {l lm p1 p2 n y : Nat} {vw vp vo : AV} {Hr Hd : β → Heap} {g : β → Nat → Nat → β × Bool} (hh : Hears c s l lm p1 p2 n y vw vp vo Hr Hd g) (r : β × Bool) :
    ∀ (q j : Nat), j + q = c.manyN → ∀ (st : β), itA c s g st j q = r → ∀ E : Env, E.get 0 = .func (.yield y) [] [] → E.get 1 = .ptr p1 0 → E.get 2 = .ptr p2 0 → E.get 4 = I c.manyN → E.get 9 = I c.manyN → E.get 10 = I j →
    Option.map (finishC n) (execL cfg0 prog0 ⟨101, none, false, n⟩ (todoAt Try.f101 2) ⟨E, [], Hr st, none⟩) = some ⟨.ret (.tup []), if r.2 then Hr r.1 else Hd r.1, none⟩ := by
  intro q
  have mb := ho.many_bd
  have tr : ∀ st, (Hr st).take n = Hr st := fun st => List.take_of_length_le (by rw [hh.lr]; exact Nat.le_refl _)
  induction q with
  | zero =>
    intro j hj st hr E g0 g1 g2 g4 g9 g10
    have hk' : ¬ (j : Int) < ((c.manyN : Nat) : Int) := by omega
    simp only [itA] at hr
    subst hr
    simp only [loopIt, todoPast, todoAt, todoOf, firstReg, ↓reduceIte, Option.some.injEq, Nat.reduceEqDiff, reduceCtorEq, Try.f101]
    rw [execL_inLoop]
    simp (maxSteps := 1000000) (implicitDefEqProofs := false) (disch := first | rfl | omega | assumption) only [go_sem, ↓reduceIte, Nat.reduceEqDiff, Nat.reduceAdd, Nat.reduceLeDiff, Nat.reduceBEq, Nat.reduceMul, Nat.reduceLT, Int.reduceLT, Int.reduceLE, Int.reduceToNat, Int.reduceNeg, Int.reduceEq, Int.reduceMul, reduceCtorEq, Int.reduceBEq, Int.reduceBNe, Int.reduceAdd, Int.reduceSub, g0, g1, g2, g4, g9, g10, ltT, ltF, leT, leF, hk', tr]
  | succ q ih =>
    intro j hj st hr E g0 g1 g2 g4 g9 g10
    have hk' : (j : Int) < ((c.manyN : Nat) : Int) := by omega
    have hk2 : j < c.manyN := by omega
    simp only [itA] at hr
    simp only [loopIt, todoPast, todoAt, todoOf, firstReg, ↓reduceIte, Option.some.injEq, Nat.reduceEqDiff, reduceCtorEq, Try.f101]
    rw [execL_inLoop]
    simp (maxSteps := 1000000) (implicitDefEqProofs := false) (disch := first | rfl | omega | assumption) only [go_sem, ↓reduceIte, Nat.reduceEqDiff, Nat.reduceAdd, Nat.reduceLeDiff, Nat.reduceBEq, Nat.reduceMul, Nat.reduceLT, Int.reduceLT, Int.reduceLE, Int.reduceToNat, Int.reduceNeg, Int.reduceEq, Int.reduceMul, reduceCtorEq, Int.reduceBEq, Int.reduceBNe, Int.reduceAdd, Int.reduceSub, g0, g1, g2, g4, g9, g10, ltT, ltF, leT, leF, hk']
    refine alike_l2 ho hs hh j (itB c s g j st (j + 1) (c.manyN - (j + 1))) _ (fun hg E g0 g1 g2 g4 g9 g10 => ?_) (fun he => ?_) (c.manyN - (j + 1)) (j + 1) (by omega) st rfl (by omega) _ (by exact g0) (by exact g1) (by exact g2) (by exact g4) (by rfl) (by rfl) (by exact g9) (by exact g10)
    · rw [hg, if_pos rfl] at hr
      simp only [loopIt, todoPast, todoAt, todoOf, firstReg, ↓reduceIte, Option.some.injEq, Nat.reduceEqDiff, reduceCtorEq, Try.f101]
      simp (maxSteps := 1000000) (implicitDefEqProofs := false) (disch := first | rfl | omega | assumption) only [go_sem, ↓reduceIte, Nat.reduceEqDiff, Nat.reduceAdd, Nat.reduceLeDiff, Nat.reduceBEq, Nat.reduceMul, Nat.reduceLT, Int.reduceLT, Int.reduceLE, Int.reduceToNat, Int.reduceNeg, Int.reduceEq, Int.reduceMul, reduceCtorEq, Int.reduceBEq, Int.reduceBNe, Int.reduceAdd, Int.reduceSub, g0, g1, g2, g4, g9, g10, ltT, ltF, leT, leF, hk']
      exact ih (j + 1) (by omega) _ hr _ (by exact g0) (by exact g1) (by exact g2) (by exact g4) (by exact g9) (by rfl)
    · rw [he, if_neg (by simp)] at hr
      subst hr
      simp

theorem alike_it {β : Type} {c : Col} (ho : c.Ok) {s : Nat} (hs : s < 64) {l lm p1 p2 n y : Nat} {vw vp vo : AV} {Hr Hd : β → Heap} {g : β → Nat → Nat → β × Bool} (hh : Hears c s l lm p1 p2 n y vw vp vo Hr Hd g) (st : β) :
    callFL cfg0 prog0 false 101 [.func (.yield y) [] [], .ptr p1 0, .ptr p2 0] (Hr st) none = some ⟨.ret (.tup []), if (itA c s g st 0 c.manyN).2 then Hr (itA c s g st 0 c.manyN).1 else Hd (itA c s g st 0 c.manyN).1, none⟩ := by
  have hM := co_many (hh.shop st) (by have := ho.lo; omega) (by have := ho.ev; omega)
  rw [ho.many_eq] at hM
  have h1 := alike_l1 ho hs hh (itA c s g st 0 c.manyN) c.manyN 0 (by omega) st rfl
  have hl := hh.lr st
  refine (callFL_eq fn101 rfl (by simp [Try.f101])).trans ?_
  simp (maxSteps := 1000000) (implicitDefEqProofs := false) (disch := first | rfl | omega | assumption) only [go_sem, ↓reduceIte, Nat.reduceEqDiff, Nat.reduceAdd, Nat.reduceLeDiff, Nat.reduceBEq, Nat.reduceMul, Nat.reduceLT, Int.reduceLT, Int.reduceLE, Int.reduceToNat, Int.reduceNeg, Int.reduceEq, Int.reduceMul, reduceCtorEq, Int.reduceBEq, Int.reduceBNe, Int.reduceAdd, Int.reduceSub, ltT, ltF, leT, leF, hh.b1, hM, hl]
  exact h1 _ (by rfl) (by rfl) (by rfl) (by rfl) (by rfl) (by rfl)

theorem co_alikef {l : Nat} (s : Nat) (H : Heap) : callFL cfg0 prog0 false 62 [.ptr l 0, U s] H none = some ⟨.ret (.func (.func 101) [] [.ptr H.length 0, .ptr (H.length + 1) 0]), H ++ [.box (.ptr l 0), .box (U s)], none⟩ := by
  refine (callFL_eq fn62 rfl (by simp [Try.f62])).trans ?_
  simp (maxSteps := 1000000) (implicitDefEqProofs := false) (disch := first | rfl | omega | assumption) only [go_sem, ↓reduceIte, Nat.reduceEqDiff, Nat.reduceAdd, Nat.reduceLeDiff, Nat.reduceBEq, Nat.reduceMul, Nat.reduceLT, Int.reduceLT, Int.reduceLE, Int.reduceToNat, Int.reduceNeg, Int.reduceEq, Int.reduceMul, reduceCtorEq, Int.reduceBEq, Int.reduceBNe, Int.reduceAdd, Int.reduceSub, ltT, ltF, leT, leF]

end Go.Ab
/-
  Who listens to the pairs.
-/
namespace Go.Ab
open Go.Proofs
set_option linter.unusedSimpArgs false
set_option linter.unusedVariables false
set_option maxRecDepth 100000
set_option maxHeartbeats 1000000

variable {H : Heap}

/-- A shop that knows all pairs. -/
structure Full (H : Heap) (l lm : Nat) (c : Col) (vw vp vo : AV) : Prop where
  shop : ShopAt H l c vw vp vo lm
  mp : H[lm]? = some (.map 84 c.pes)

theorem Full.app {l lm : Nat} {c : Col} {vw vp vo : AV} (h : Full H l lm c vw vp vo) (G : Heap) : Full (H ++ G) l lm c vw vp vo :=
  ⟨h.shop.app G, by rw [List.getElem?_append_left (List.getElem?_eq_some_iff.1 h.mp).1]; exact h.mp⟩

theorem itB_true {β : Type} (c : Col) (s : Nat) (f : β → Nat → Nat → β) (a : Nat) : ∀ (q j : Nat) (st : β), itB c s (fun st a b => (f st a b, true)) a st j q = (foldF (fun st b => if c.meet s a b then st else f st a b) st j q, true)
  | 0, j, st => rfl
  | q + 1, j, st => by
    rw [itB, foldF]
    split
    · rw [itB_true c s f a q]
    · simp only [if_true]
      rw [itB_true c s f a q]

theorem itA_true {β : Type} (c : Col) (s : Nat) (f : β → Nat → Nat → β) : ∀ (q j : Nat) (st : β), itA c s (fun st a b => (f st a b, true)) st j q = (foldF (fun st a => foldF (fun st b => if c.meet s a b then st else f st a b) st (a + 1) (c.manyN - (a + 1))) st j q, true)
  | 0, j, st => rfl
  | q + 1, j, st => by
    rw [itA, foldF, itB_true]
    simp only [if_true]
    rw [itA_true c s f q]

/-- What is gathered over the pairs that a set does not part. -/
def foldP {β : Type} (c : Col) (s : Nat) (f : β → Nat → Nat → β) (st : β) : β :=
  foldF (fun st a => foldF (fun st b => if c.meet s a b then st else f st a b) st (a + 1) (c.manyN - (a + 1))) st 0 c.manyN

def w1 (n : Int) : Int := IntKind.i64.wrap (n + 1)

theorem co_left {l lm : Nat} {c : Col} {vw vp vo : AV} (h : Full H l lm c vw vp vo) (ho : c.Ok) {s : Nat} (hs : s < 64) :
    callFL cfg0 prog0 false 83 [.ptr l 0, U s] H none = some ⟨.ret (I (foldP c s (fun n _ _ => w1 n) 0)), H, none⟩ := by
  have hA := fun G : Heap => co_alikef (l := l) s G
  have hI := alike_it ho hs (l := l) (lm := lm) (p1 := H.length + 1) (p2 := H.length + 2) (n := H.length + 5) (y := H.length + 4) (vw := vw) (vp := vp) (vo := vo)
    (Hr := fun n : Int => H ++ [.box (I n), .box (.ptr l 0), .box (U s), .dfr, .loop (loopRec Try.f83 83 0 [(7, .func (.func 101) [] [.ptr (H.length + 1) 0, .ptr (H.length + 2) 0]), (6, U s), (5, .ptr l 0), (4, .ptr H.length 0), (0, .ptr l 0), (1, U s)] (H.length + 3))])
    (Hd := fun n : Int => H ++ [.box (I n), .box (.ptr l 0), .box (U s), .dfr, .dead]) (g := fun n _ _ => (w1 n, true))
    ⟨fun n => by simp, fun n => by simp, fun n => by rw [get_at']; rfl, fun n => by rw [get_at']; rfl, fun n => h.shop.app _, fun n => (h.app _).mp, fun n a b _ _ => by
      simp (maxSteps := 1000000) (implicitDefEqProofs := false) (disch := first | rfl | omega | assumption) only [go_sem, ↓reduceIte, Nat.reduceEqDiff, Nat.reduceAdd, Nat.reduceLeDiff, Nat.reduceBEq, Nat.reduceMul, Nat.reduceLT, Int.reduceLT, Int.reduceLE, Int.reduceToNat, Int.reduceNeg, Int.reduceEq, Int.reduceMul, reduceCtorEq, Int.reduceBEq, Int.reduceBNe, Int.reduceAdd, Int.reduceSub, ltT, ltF, leT, leF, loopRec, rangesOf, List.nil_append, List.append_nil, List.cons_append, List.getElem?_cons_zero, List.getElem?_cons_succ, Try.f83, w1]⟩ 0
  rw [itA_true] at hI
  simp only [loopRec, rangesOf, List.nil_append, List.append_nil, List.cons_append, List.getElem?_cons_zero, List.getElem?_cons_succ, Try.f83, if_true] at hI
  change callFL _ _ _ _ _ _ _ = some ⟨_, H ++ [.box (I (foldP c s (fun n _ _ => w1 n) 0)), _, _, _, _], _⟩ at hI
  refine (callFL_eq fn83 rfl (by simp [Try.f83])).trans ?_
  simp (maxSteps := 1000000) (implicitDefEqProofs := false) (disch := first | rfl | omega | assumption) only [go_sem, ↓reduceIte, Nat.reduceEqDiff, Nat.reduceAdd, Nat.reduceLeDiff, Nat.reduceBEq, Nat.reduceMul, Nat.reduceLT, Int.reduceLT, Int.reduceLE, Int.reduceToNat, Int.reduceNeg, Int.reduceEq, Int.reduceMul, reduceCtorEq, Int.reduceBEq, Int.reduceBNe, Int.reduceAdd, Int.reduceSub, ltT, ltF, leT, leF, hA, hI]

theorem co_partsAll {l lm : Nat} {c : Col} {vw vp vo : AV} (h : Full H l lm c vw vp vo) (ho : c.Ok) {s : Nat} (hs : s < 64) :
    callFL cfg0 prog0 false 76 [.ptr l 0, U s] H none = some ⟨.ret (.bool (itA c s (fun (_ : Unit) _ _ => ((), false)) () 0 c.manyN).2), H, none⟩ := by
  have hA := fun G : Heap => co_alikef (l := l) s G
  have hI := alike_it ho hs (l := l) (lm := lm) (p1 := H.length + 1) (p2 := H.length + 2) (n := H.length + 5) (y := H.length + 4) (vw := vw) (vp := vp) (vo := vo)
    (Hr := fun _ : Unit => H ++ [.box (.bool false), .box (.ptr l 0), .box (U s), .dfr, .loop (loopRec Try.f76 76 0 [(7, .func (.func 101) [] [.ptr (H.length + 1) 0, .ptr (H.length + 2) 0]), (6, U s), (5, .ptr l 0), (4, .ptr H.length 0), (0, .ptr l 0), (1, U s)] (H.length + 3))])
    (Hd := fun _ : Unit => H ++ [.box (.bool false), .box (.ptr l 0), .box (U s), .dfr, .loop { loopRec Try.f76 76 0 [(7, .func (.func 101) [] [.ptr (H.length + 1) 0, .ptr (H.length + 2) 0]), (6, U s), (5, .ptr l 0), (4, .ptr H.length 0), (0, .ptr l 0), (1, U s)] (H.length + 3) with state := .done, pending := some .ret }]) (g := fun _ _ _ => ((), false))
    ⟨fun n => by simp, fun n => by simp, fun n => by rw [get_at']; rfl, fun n => by rw [get_at']; rfl, fun n => h.shop.app _, fun n => (h.app _).mp, fun n a b _ _ => by
      simp (maxSteps := 1000000) (implicitDefEqProofs := false) (disch := first | rfl | omega | assumption) only [go_sem, ↓reduceIte, Nat.reduceEqDiff, Nat.reduceAdd, Nat.reduceLeDiff, Nat.reduceBEq, Nat.reduceMul, Nat.reduceLT, Int.reduceLT, Int.reduceLE, Int.reduceToNat, Int.reduceNeg, Int.reduceEq, Int.reduceMul, reduceCtorEq, Int.reduceBEq, Int.reduceBNe, Int.reduceAdd, Int.reduceSub, ltT, ltF, leT, leF, loopRec, rangesOf, List.nil_append, List.append_nil, List.cons_append, List.getElem?_cons_zero, List.getElem?_cons_succ, Try.f76]⟩ ()
  generalize itA c s (fun (_ : Unit) _ _ => ((), false)) () 0 c.manyN = r at hI ⊢
  simp only [loopRec, rangesOf, List.nil_append, List.append_nil, List.cons_append, List.getElem?_cons_zero, List.getElem?_cons_succ, Try.f76] at hI
  refine (callFL_eq fn76 rfl (by simp [Try.f76])).trans ?_
  obtain ⟨r1, r2⟩ := r
  cases r2 with
  | true =>
    simp only [if_true] at hI
    simp (maxSteps := 1000000) (implicitDefEqProofs := false) (disch := first | rfl | omega | assumption) only [go_sem, ↓reduceIte, Nat.reduceEqDiff, Nat.reduceAdd, Nat.reduceLeDiff, Nat.reduceBEq, Nat.reduceMul, Nat.reduceLT, Int.reduceLT, Int.reduceLE, Int.reduceToNat, Int.reduceNeg, Int.reduceEq, Int.reduceMul, reduceCtorEq, Int.reduceBEq, Int.reduceBNe, Int.reduceAdd, Int.reduceSub, ltT, ltF, leT, leF, hA, hI]
  | false =>
    simp only [Bool.false_eq_true, if_false] at hI
    simp (maxSteps := 1000000) (implicitDefEqProofs := false) (disch := first | rfl | omega | assumption) only [go_sem, ↓reduceIte, Nat.reduceEqDiff, Nat.reduceAdd, Nat.reduceLeDiff, Nat.reduceBEq, Nat.reduceMul, Nat.reduceLT, Int.reduceLT, Int.reduceLE, Int.reduceToNat, Int.reduceNeg, Int.reduceEq, Int.reduceMul, reduceCtorEq, Int.reduceBEq, Int.reduceBNe, Int.reduceAdd, Int.reduceSub, ltT, ltF, leT, leF, hA, hI]

end Go.Ab
/-
  A colour that is looked at.
-/
namespace Go.Ab
open Go.Proofs
set_option linter.unusedSimpArgs false
set_option linter.unusedVariables false
set_option maxRecDepth 100000
set_option maxHeartbeats 2000000

variable {H : Heap}

/-- What open makes. -/
def Col.made (c : Col) (vw vp : AV) (n : Nat) : Heap := [.box (c.av vw vp), .map 84 [], .grow 1 (c.ws.map I), .box (.agg [vw, vp, I c.lo, I c.hi, I c.ev, I c.er, .gsl (n + 2) c.ws.length, .map (n + 1)])]

def errA (e : Int) : AV := .iface 115 (.agg [I e])

theorem co_open_loop {c : Col} {vw vp : AV} (h : ColAt H c vw vp) (hl : c.ps.length ≤ 6) (fn : Fn) (cap : List AV) (K : List Item) (R : Option Done) (hK : ∀ E : Env, E.get 1 = .func fn [] cap → E.get 2 = .ptr H.length 0 → E.get 5 = .ptr (H.length + 3) 0 → Option.map (finishC H.length) (execL cfg0 prog0 ⟨44, none, false, H.length⟩ K ⟨E, [], H ++ c.made vw vp H.length, none⟩) = R)  :
    ∀ (q j : Nat), j + q = c.ps.length → ∀ E : Env, E.get 1 = .func fn [] cap → E.get 2 = .ptr H.length 0 → E.get 5 = .ptr (H.length + 3) 0 → E.get 39 = vp → E.get 40 = I c.ps.length → E.get 41 = I j →
    Option.map (finishC H.length) (execL cfg0 prog0 ⟨44, none, false, H.length⟩ (loopIt Try.f44 5 :: .inBlock 0 :: K) ⟨E, [], H ++ c.made vw vp H.length, none⟩) = (if anyF (fun i => !wi (c.ps.getD i 0) 0 50) j q then some ⟨.pan (errA 1), H, none⟩ else R) := by
  intro q
  obtain ⟨b1, b2, b3, b4⟩ := h.ps.fI
  simp only [Col.made] at hK ⊢
  induction q with
  | zero =>
    intro j hj  E g1 g2 g5 g39 g40 g41
    have hk' : ¬ (j : Int) < ((c.ps.length : Nat) : Int) := by omega
    simp only [loopIt, todoPast, todoAt, todoOf, firstReg, ↓reduceIte, Option.some.injEq, Nat.reduceEqDiff, reduceCtorEq, Try.f44]
    rw [execL_inLoop]
    simp (maxSteps := 1000000) (implicitDefEqProofs := false) (disch := first | rfl | omega | assumption) only [go_sem, ↓reduceIte, Nat.reduceEqDiff, Nat.reduceAdd, Nat.reduceLeDiff, Nat.reduceBEq, Nat.reduceMul, Nat.reduceLT, Int.reduceLT, Int.reduceLE, Int.reduceToNat, Int.reduceNeg, Int.reduceEq, Int.reduceMul, reduceCtorEq, Int.reduceBEq, Int.reduceBNe, Int.reduceAdd, Int.reduceSub, g1, g2, g5, g39, g40, g41, ltT, ltF, leT, leF, hk', anyF]
    exact hK _ (by exact g1) (by exact g2) (by exact g5)
  | succ q ih =>
    intro j hj  E g1 g2 g5 g39 g40 g41
    have hk' : (j : Int) < ((c.ps.length : Nat) : Int) := by omega
    have hk2 : j < c.ps.length := by omega
    simp only [anyF]
    simp only [loopIt, todoPast, todoAt, todoOf, firstReg, ↓reduceIte, Option.some.injEq, Nat.reduceEqDiff, reduceCtorEq, Try.f44]
    rw [execL_inLoop]
    simp (maxSteps := 1000000) (implicitDefEqProofs := false) (disch := first | rfl | omega | assumption) only [go_sem, ↓reduceIte, Nat.reduceEqDiff, Nat.reduceAdd, Nat.reduceLeDiff, Nat.reduceBEq, Nat.reduceMul, Nat.reduceLT, Int.reduceLT, Int.reduceLE, Int.reduceToNat, Int.reduceNeg, Int.reduceEq, Int.reduceMul, reduceCtorEq, Int.reduceBEq, Int.reduceBNe, Int.reduceAdd, Int.reduceSub, g1, g2, g5, g39, g40, g41, ltT, ltF, leT, leF, hk', b1, b2, b3, b4, co_within]
    rcases Bool.eq_false_or_eq_true (wi (c.ps.getD j 0) 0 50) with hc | hc
    · simp (maxSteps := 1000000) (implicitDefEqProofs := false) (disch := first | rfl | omega | assumption) only [go_sem, ↓reduceIte, Nat.reduceEqDiff, Nat.reduceAdd, Nat.reduceLeDiff, Nat.reduceBEq, Nat.reduceMul, Nat.reduceLT, Int.reduceLT, Int.reduceLE, Int.reduceToNat, Int.reduceNeg, Int.reduceEq, Int.reduceMul, reduceCtorEq, Int.reduceBEq, Int.reduceBNe, Int.reduceAdd, Int.reduceSub, g1, g2, g5, g39, g40, g41, ltT, ltF, leT, leF, hk', co_must, hc]
      exact ih (j + 1) (by omega) _ (by exact g1) (by exact g2) (by exact g5) (by exact g39) (by exact g40) (by rfl)
    · simp (maxSteps := 1000000) (implicitDefEqProofs := false) (disch := first | rfl | omega | assumption) only [go_sem, ↓reduceIte, Nat.reduceEqDiff, Nat.reduceAdd, Nat.reduceLeDiff, Nat.reduceBEq, Nat.reduceMul, Nat.reduceLT, Int.reduceLT, Int.reduceLE, Int.reduceToNat, Int.reduceNeg, Int.reduceEq, Int.reduceMul, reduceCtorEq, Int.reduceBEq, Int.reduceBNe, Int.reduceAdd, Int.reduceSub, g1, g2, g5, g39, g40, g41, ltT, ltF, leT, leF, hk', co_must, hc, errA]

theorem Col.shopAt {c : Col} {vw vp : AV} (h : ColAt H c vw vp) (G : Heap) : ShopAt (H ++ (c.made vw vp H.length ++ G)) (H.length + 3) c vw vp (.gsl (H.length + 2) c.ws.length) (H.length + 1) where
  box := by simp only [Col.made, get_at', List.cons_append, List.getElem?_cons_succ, List.getElem?_cons_zero]
  own := by
    refine ⟨⟨?_, by simp⟩, ?_⟩
    · simp only [Col.made, get_at', List.cons_append, List.getElem?_cons_succ, List.getElem?_cons_zero]
    · simp [I, AV.cells]

theorem Col.nums_cases (c : Col) : (c.nums = true ∧ 0 ≤ c.lo ∧ c.lo ≤ c.hi ∧ c.hi ≤ 2000 ∧ c.hi - c.lo ≤ 200 ∧ wi c.ev 1 20 = true ∧ wi c.er 0 4 = true) ∨ (c.nums = false ∧ (¬ 0 ≤ c.lo ∨ (0 ≤ c.lo ∧ ¬ c.lo ≤ c.hi) ∨ (0 ≤ c.lo ∧ c.lo ≤ c.hi ∧ ¬ c.hi ≤ 2000) ∨ (0 ≤ c.lo ∧ c.lo ≤ c.hi ∧ c.hi ≤ 2000 ∧ ¬ c.hi - c.lo ≤ 200) ∨
    (0 ≤ c.lo ∧ c.lo ≤ c.hi ∧ c.hi ≤ 2000 ∧ c.hi - c.lo ≤ 200 ∧ wi c.ev 1 20 = false) ∨ (0 ≤ c.lo ∧ c.lo ≤ c.hi ∧ c.hi ≤ 2000 ∧ c.hi - c.lo ≤ 200 ∧ wi c.ev 1 20 = true ∧ wi c.er 0 4 = false))) := by
  simp only [Col.nums]
  by_cases h1 : 0 ≤ c.lo
  · by_cases h2 : c.lo ≤ c.hi
    · by_cases h3 : c.hi ≤ 2000
      · by_cases h4 : c.hi - c.lo ≤ 200
        · cases h5 : wi c.ev 1 20 <;> cases h6 : wi c.er 0 4 <;> simp [h1, h2, h3, h4]
        · simp [h1, h2, h3, h4]
      · simp [h1, h2, h3]
    · simp [h1, h2]
  · simp [h1]

theorem co_open_tail {c : Col} {vw vp : AV} (h : ColAt H c vw vp) (hw : c.ws.length ≤ 6) (fn : Fn) (cap : List AV) (r : Bool)
    (hr : ∀ G, callVL cfg0 prog0 false fn [.ptr (H.length + 3) 0] cap (H ++ (c.made vw vp H.length ++ G)) none = some ⟨.ret (.bool r), H ++ (c.made vw vp H.length ++ G), none⟩) (E : Env) :
    E.get 1 = .func fn [] cap → E.get 2 = .ptr H.length 0 → E.get 5 = .ptr (H.length + 3) 0 →
    Option.map (finishC H.length) (execL cfg0 prog0 ⟨44, none, false, H.length⟩ (todoPast Try.f44 5) ⟨E, [], H ++ c.made vw vp H.length, none⟩) =
      (if c.nums && c.ws.all (wi · 2 60) then (if r then some ⟨.ret (.ptr (H.length + 3) 0), H ++ (c.made vw vp H.length ++ [.box (.agg [I c.lo, I c.hi])]), none⟩ else some ⟨.pan (errA 2), H, none⟩) else some ⟨.pan (errA 1), H, none⟩) := by
  intro g1 g2 g5
  have hO := co_of (Col.shopAt h [.box (.agg [I c.lo, I c.hi])]) hw 0 (by decide)
  have hR := hr [.box (.agg [I c.lo, I c.hi])]
  clear hr h
  simp only [Col.made, Col.av, List.cons_append, List.nil_append] at hO hR ⊢
  simp only [loopIt, todoPast, todoAt, todoOf, firstReg, ↓reduceIte, Option.some.injEq, Nat.reduceEqDiff, reduceCtorEq, Try.f44]
  rcases c.nums_cases with ⟨h0, h1, h2, h3, h4, h5, h6⟩ | ⟨h0, h1 | ⟨h1, h2⟩ | ⟨h1, h2, h3⟩ | ⟨h1, h2, h3, h4⟩ | ⟨h1, h2, h3, h4, h5⟩ | ⟨h1, h2, h3, h4, h5, h6⟩⟩
  · rw [h0]
    have e1 : IntKind.i64.wrap (c.hi - c.lo) = c.hi - c.lo := w64 (by omega) (by omega)
    cases hws : c.ws.all (wi · 2 60) with
    | true =>
      simp only [hws] at hO
      cases r with
      | true => simp (maxSteps := 1000000) (implicitDefEqProofs := false) (disch := first | rfl | omega | assumption) only [go_sem, ↓reduceIte, Nat.reduceEqDiff, Nat.reduceAdd, Nat.reduceLeDiff, Nat.reduceBEq, Nat.reduceMul, Nat.reduceLT, Int.reduceLT, Int.reduceLE, Int.reduceToNat, Int.reduceNeg, Int.reduceEq, Int.reduceMul, reduceCtorEq, Int.reduceBEq, Int.reduceBNe, Int.reduceAdd, Int.reduceSub, g1, g2, g5, co_within, co_must, h1, h2, h3, h4, h5, h6, e1, hO, hR]
      | false => simp (maxSteps := 1000000) (implicitDefEqProofs := false) (disch := first | rfl | omega | assumption) only [go_sem, ↓reduceIte, Nat.reduceEqDiff, Nat.reduceAdd, Nat.reduceLeDiff, Nat.reduceBEq, Nat.reduceMul, Nat.reduceLT, Int.reduceLT, Int.reduceLE, Int.reduceToNat, Int.reduceNeg, Int.reduceEq, Int.reduceMul, reduceCtorEq, Int.reduceBEq, Int.reduceBNe, Int.reduceAdd, Int.reduceSub, g1, g2, g5, co_within, co_must, h1, h2, h3, h4, h5, h6, e1, hO, hR, errA]
    | false =>
      simp only [hws] at hO
      simp (maxSteps := 1000000) (implicitDefEqProofs := false) (disch := first | rfl | omega | assumption) only [go_sem, ↓reduceIte, Nat.reduceEqDiff, Nat.reduceAdd, Nat.reduceLeDiff, Nat.reduceBEq, Nat.reduceMul, Nat.reduceLT, Int.reduceLT, Int.reduceLE, Int.reduceToNat, Int.reduceNeg, Int.reduceEq, Int.reduceMul, reduceCtorEq, Int.reduceBEq, Int.reduceBNe, Int.reduceAdd, Int.reduceSub, g1, g2, g5, co_within, co_must, h1, h2, h3, h4, h5, h6, e1, hO, errA]
  · rw [h0]
    simp (maxSteps := 1000000) (implicitDefEqProofs := false) (disch := first | rfl | omega | assumption) only [go_sem, ↓reduceIte, Nat.reduceEqDiff, Nat.reduceAdd, Nat.reduceLeDiff, Nat.reduceBEq, Nat.reduceMul, Nat.reduceLT, Int.reduceLT, Int.reduceLE, Int.reduceToNat, Int.reduceNeg, Int.reduceEq, Int.reduceMul, reduceCtorEq, Int.reduceBEq, Int.reduceBNe, Int.reduceAdd, Int.reduceSub, g1, g2, g5, co_within, co_must, h1, errA]
  · rw [h0]
    simp (maxSteps := 1000000) (implicitDefEqProofs := false) (disch := first | rfl | omega | assumption) only [go_sem, ↓reduceIte, Nat.reduceEqDiff, Nat.reduceAdd, Nat.reduceLeDiff, Nat.reduceBEq, Nat.reduceMul, Nat.reduceLT, Int.reduceLT, Int.reduceLE, Int.reduceToNat, Int.reduceNeg, Int.reduceEq, Int.reduceMul, reduceCtorEq, Int.reduceBEq, Int.reduceBNe, Int.reduceAdd, Int.reduceSub, g1, g2, g5, co_within, co_must, h1, h2, errA]
  · rw [h0]
    simp (maxSteps := 1000000) (implicitDefEqProofs := false) (disch := first | rfl | omega | assumption) only [go_sem, ↓reduceIte, Nat.reduceEqDiff, Nat.reduceAdd, Nat.reduceLeDiff, Nat.reduceBEq, Nat.reduceMul, Nat.reduceLT, Int.reduceLT, Int.reduceLE, Int.reduceToNat, Int.reduceNeg, Int.reduceEq, Int.reduceMul, reduceCtorEq, Int.reduceBEq, Int.reduceBNe, Int.reduceAdd, Int.reduceSub, g1, g2, g5, co_within, co_must, h1, h2, h3, errA]
  · rw [h0]
    have e1 : IntKind.i64.wrap (c.hi - c.lo) = c.hi - c.lo := w64 (by omega) (by omega)
    simp (maxSteps := 1000000) (implicitDefEqProofs := false) (disch := first | rfl | omega | assumption) only [go_sem, ↓reduceIte, Nat.reduceEqDiff, Nat.reduceAdd, Nat.reduceLeDiff, Nat.reduceBEq, Nat.reduceMul, Nat.reduceLT, Int.reduceLT, Int.reduceLE, Int.reduceToNat, Int.reduceNeg, Int.reduceEq, Int.reduceMul, reduceCtorEq, Int.reduceBEq, Int.reduceBNe, Int.reduceAdd, Int.reduceSub, g1, g2, g5, co_within, co_must, h1, h2, h3, e1, h4, errA]
  · rw [h0]
    have e1 : IntKind.i64.wrap (c.hi - c.lo) = c.hi - c.lo := w64 (by omega) (by omega)
    simp (maxSteps := 1000000) (implicitDefEqProofs := false) (disch := first | rfl | omega | assumption) only [go_sem, ↓reduceIte, Nat.reduceEqDiff, Nat.reduceAdd, Nat.reduceLeDiff, Nat.reduceBEq, Nat.reduceMul, Nat.reduceLT, Int.reduceLT, Int.reduceLE, Int.reduceToNat, Int.reduceNeg, Int.reduceEq, Int.reduceMul, reduceCtorEq, Int.reduceBEq, Int.reduceBNe, Int.reduceAdd, Int.reduceSub, g1, g2, g5, co_within, co_must, h1, h2, h3, e1, h4, h5, errA]
  · rw [h0]
    have e1 : IntKind.i64.wrap (c.hi - c.lo) = c.hi - c.lo := w64 (by omega) (by omega)
    simp (maxSteps := 1000000) (implicitDefEqProofs := false) (disch := first | rfl | omega | assumption) only [go_sem, ↓reduceIte, Nat.reduceEqDiff, Nat.reduceAdd, Nat.reduceLeDiff, Nat.reduceBEq, Nat.reduceMul, Nat.reduceLT, Int.reduceLT, Int.reduceLE, Int.reduceToNat, Int.reduceNeg, Int.reduceEq, Int.reduceMul, reduceCtorEq, Int.reduceBEq, Int.reduceBNe, Int.reduceAdd, Int.reduceSub, g1, g2, g5, co_within, co_must, h1, h2, h3, e1, h4, h5, h6, errA]

theorem Col.valid_split (c : Col) (h2 : c.lens2 = true) (hp : c.ps.length = c.ws.length) : c.valid = (!anyF (fun i => !wi (c.ps.getD i 0) 0 50) 0 c.ps.length && (c.nums && c.ws.all (wi · 2 60))) := by
  rw [Bool.eq_iff_iff]
  simp only [Col.valid, h2, Bool.true_and, Bool.and_eq_true, Bool.not_eq_true', anyF_false, Col.okAt, Bool.not_eq_false', List.all_eq_true]
  constructor
  · rintro ⟨h3, h4⟩
    refine ⟨fun i h5 h6 => (h3 i h5 (by omega)).2, h4, fun w hw => ?_⟩
    obtain ⟨i, hi, rfl⟩ := List.mem_iff_getElem.1 hw
    have := (h3 i (by omega) (by omega)).1
    simpa [hi] using this
  · rintro ⟨h3, h4, h5⟩
    refine ⟨fun i h6 h7 => ⟨?_, h3 i h6 (by omega)⟩, h4⟩
    have hi : i < c.ws.length := by omega
    have := h5 _ (List.getElem_mem hi)
    simpa [hi] using this

theorem co_open {c : Col} {vw vp : AV} (h : ColAt H c vw vp) (fn : Fn) (cap : List AV) (hl : c.ws.length ≤ 1000 ∧ c.ps.length ≤ 1000) (r : Bool)
    (hr : c.ws.length ≤ 6 → ∀ G, callVL cfg0 prog0 false fn [.ptr (H.length + 3) 0] cap (H ++ (c.made vw vp H.length ++ G)) none = some ⟨.ret (.bool r), H ++ (c.made vw vp H.length ++ G), none⟩) :
    callFL cfg0 prog0 false 44 [c.av vw vp, .func fn [] cap] H none = some (if c.valid then (if r then ⟨.ret (.ptr (H.length + 3) 0), H ++ (c.made vw vp H.length ++ [.box (.agg [I c.lo, I c.hi])]), none⟩ else ⟨.pan (errA 2), H, none⟩) else ⟨.pan (errA 1), H, none⟩) := by
  have s1 := h.ws.scal
  have s2 := h.ps.scal
  simp only [Col.av]
  refine (callFL_eq fn44 rfl (by simp [Try.f44])).trans ?_
  rcases Bool.eq_false_or_eq_true c.lens2 with h2 | h2
  · have hl2 := h2
    simp only [Col.lens2, Bool.and_eq_true] at hl2
    obtain ⟨e1, e2⟩ := hl2
    have e3 := wi_iff.1 e1
    have e4 := beq_iff_eq.1 e2
    simp (maxSteps := 1000000) (implicitDefEqProofs := false) (disch := first | rfl | omega | assumption) only [go_sem, ↓reduceIte, Nat.reduceEqDiff, Nat.reduceAdd, Nat.reduceLeDiff, Nat.reduceBEq, Nat.reduceMul, Nat.reduceLT, Int.reduceLT, Int.reduceLE, Int.reduceToNat, Int.reduceNeg, Int.reduceEq, Int.reduceMul, reduceCtorEq, Int.reduceBEq, Int.reduceBNe, Int.reduceAdd, Int.reduceSub, ltT, ltF, leT, leF, s1, s2, h.ws.len, h.ps.len, co_within, co_must, e1, e2]
    rw [chkK_of]; rotate_left; kernel_rfl
    have he := fun G : Heap => (h.ws.app G).elems
    have he2 := ltI (N := 0) c.ws
    have he3 := elemsOk_map (f := I) (sz := 1) (a := false) (fun _ => rfl) c.ws
    simp (maxSteps := 1000000) (implicitDefEqProofs := false) (disch := first | rfl | omega | assumption) only [go_sem, ↓reduceIte, Nat.reduceEqDiff, Nat.reduceAdd, Nat.reduceLeDiff, Nat.reduceBEq, Nat.reduceMul, Nat.reduceLT, Int.reduceLT, Int.reduceLE, Int.reduceToNat, Int.reduceNeg, Int.reduceEq, Int.reduceMul, reduceCtorEq, Int.reduceBEq, Int.reduceBNe, Int.reduceAdd, Int.reduceSub, ltT, ltF, leT, leF, s1, s2, h.ws.len, h.ps.len]
    rw [chkK_of]; rotate_left; kernel_rfl
    simp (maxSteps := 1000000) (implicitDefEqProofs := false) (disch := first | rfl | omega | assumption) only [go_sem, ↓reduceIte, Nat.reduceEqDiff, Nat.reduceAdd, Nat.reduceLeDiff, Nat.reduceBEq, Nat.reduceMul, Nat.reduceLT, Int.reduceLT, Int.reduceLE, Int.reduceToNat, Int.reduceNeg, Int.reduceEq, Int.reduceMul, reduceCtorEq, Int.reduceBEq, Int.reduceBNe, Int.reduceAdd, Int.reduceSub, ltT, ltF, leT, leF, s1, s2, h.ws.len, h.ps.len, evCopy, he, he2, he3, List.length_replicate]
    refine (co_open_loop h (by omega) fn cap _ (if c.nums && c.ws.all (wi · 2 60) then (if r then some ⟨.ret (.ptr (H.length + 3) 0), H ++ (c.made vw vp H.length ++ [.box (.agg [I c.lo, I c.hi])]), none⟩ else some ⟨.pan (errA 2), H, none⟩) else some ⟨.pan (errA 1), H, none⟩) (fun E g1 g2 g5 => ?_) c.ps.length 0 (by omega) _ (by rfl) (by rfl) (by rfl) (by rfl) (by rfl) (by rfl)).trans ?_
    · exact co_open_tail h (by omega) fn cap r (hr (by omega)) E g1 g2 g5
    · rw [c.valid_split h2 (by omega)]
      cases anyF (fun i => !wi (c.ps.getD i 0) 0 50) 0 c.ps.length <;> cases (c.nums && c.ws.all (wi · 2 60)) <;> cases r <;> rfl
  · have hv : c.valid = false := by simp [Col.valid, h2]
    rw [hv]
    simp only [Col.lens2] at h2
    simp (maxSteps := 1000000) (implicitDefEqProofs := false) (disch := first | rfl | omega | assumption) only [go_sem, ↓reduceIte, Nat.reduceEqDiff, Nat.reduceAdd, Nat.reduceLeDiff, Nat.reduceBEq, Nat.reduceMul, Nat.reduceLT, Int.reduceLT, Int.reduceLE, Int.reduceToNat, Int.reduceNeg, Int.reduceEq, Int.reduceMul, reduceCtorEq, Int.reduceBEq, Int.reduceBNe, Int.reduceAdd, Int.reduceSub, ltT, ltF, leT, leF, s1, s2, h.ws.len, h.ps.len, co_within, co_must, errA]
    repeat' ((with_reducible first
        | refine cond_ifb (fun hc hd he => ?_) (fun hc hd he => ?_)
        | refine guard_ifb (fun hc hd he => ?_) (fun hc hd he => ?_)
        | refine cond_dec (fun hc hd he => ?_) (fun hc hd he => ?_)
        | refine guard_dec (fun hc hd he => ?_) (fun hc hd he => ?_)
        | refine cond_ndec (fun hc hd he => ?_) (fun hc hd he => ?_)
        | refine guard_ndec (fun hc hd he => ?_) (fun hc hd he => ?_)
        | refine cond_not (fun hc hd he => ?_) (fun hc hd he => ?_)
        | refine guard_not (fun hc hd he => ?_) (fun hc hd he => ?_)
        | refine cond_beq (fun hc hd he => ?_) (fun hc hd he => ?_)
        | refine guard_beq (fun hc hd he => ?_) (fun hc hd he => ?_)
        | refine cond_bne (fun hc hd he => ?_) (fun hc hd he => ?_)
        | refine guard_bne (fun hc hd he => ?_) (fun hc hd he => ?_)
        | refine cond_split (fun hc hd he => ?_) (fun hc hd he => ?_)
        | refine guard_split (fun hc hd he => ?_) (fun hc hd he => ?_)
        | refine call_beq (fun hc hd he => ?_) (fun hc hd he => ?_)
        | refine call_ifb (fun hc hd he => ?_) (fun hc hd he => ?_)
        | refine call_ifd (fun hc hd he => ?_) (fun hc hd he => ?_)
        | refine call_dec (fun hc hd he => ?_) (fun hc hd he => ?_)) <;> try simp (maxSteps := 1000000) (implicitDefEqProofs := false) (disch := first | rfl | omega | assumption) only [go_sem, ↓reduceIte, Nat.reduceEqDiff, Nat.reduceAdd, Nat.reduceLeDiff, Nat.reduceBEq, Nat.reduceMul, Nat.reduceLT, Int.reduceLT, Int.reduceLE, Int.reduceToNat, Int.reduceNeg, Int.reduceEq, Int.reduceMul, reduceCtorEq, Int.reduceBEq, Int.reduceBNe, Int.reduceAdd, Int.reduceSub, ltT, ltF, leT, leF, hc, he, s1, s2, h.ws.len, h.ps.len, co_within, co_must, errA])
    simp_all

end Go.Ab
/-
  Looking, and what is deferred.
-/
namespace Go.Ab
open Go.Proofs
set_option linter.unusedSimpArgs false
set_option linter.unusedVariables false
set_option maxRecDepth 100000
set_option maxHeartbeats 1000000

variable {H : Heap}

theorem dn_Apart (l : Nat) (H : Heap) : callFL cfg0 prog0 true 42 [.ptr l 0] H none = some ⟨.ret (.tup []), H, none⟩ := by
  refine (callFL_eq fn42 rfl (by simp [Try.f42])).trans ?_
  simp (maxSteps := 1000000) (implicitDefEqProofs := false) (disch := first | rfl | omega | assumption) only [go_sem, ↓reduceIte, Nat.reduceEqDiff, Nat.reduceAdd, Nat.reduceLeDiff, Nat.reduceBEq, Nat.reduceMul, Nat.reduceLT, Int.reduceLT, Int.reduceLE, Int.reduceToNat, Int.reduceNeg, Int.reduceEq, Int.reduceMul, reduceCtorEq, Int.reduceBEq, Int.reduceBNe, Int.reduceAdd, Int.reduceSub, co_stopn]

theorem ds_Apart (l : Nat) (e x : Int) (H : Heap) (h : H[l]? = some (.box (I x))) : callFL cfg0 prog0 true 42 [.ptr l 0] H (some (errA e, false)) = some ⟨.ret (.tup []), H.set l (.box (I e)), some (errA e, true)⟩ := by
  simp only [errA]
  refine (callFL_eq fn42 rfl (by simp [Try.f42])).trans ?_
  simp (maxSteps := 1000000) (implicitDefEqProofs := false) (disch := first | rfl | omega | assumption) only [go_sem, ↓reduceIte, Nat.reduceEqDiff, Nat.reduceAdd, Nat.reduceLeDiff, Nat.reduceBEq, Nat.reduceMul, Nat.reduceLT, Int.reduceLT, Int.reduceLE, Int.reduceToNat, Int.reduceNeg, Int.reduceEq, Int.reduceMul, reduceCtorEq, Int.reduceBEq, Int.reduceBNe, Int.reduceAdd, Int.reduceSub, co_stops l x e H h]

theorem dn_Parts (l : Nat) (H : Heap) : callFL cfg0 prog0 true 54 [.ptr l 0] H none = some ⟨.ret (.tup []), H, none⟩ := by
  refine (callFL_eq fn54 rfl (by simp [Try.f54])).trans ?_
  simp (maxSteps := 1000000) (implicitDefEqProofs := false) (disch := first | rfl | omega | assumption) only [go_sem, ↓reduceIte, Nat.reduceEqDiff, Nat.reduceAdd, Nat.reduceLeDiff, Nat.reduceBEq, Nat.reduceMul, Nat.reduceLT, Int.reduceLT, Int.reduceLE, Int.reduceToNat, Int.reduceNeg, Int.reduceEq, Int.reduceMul, reduceCtorEq, Int.reduceBEq, Int.reduceBNe, Int.reduceAdd, Int.reduceSub, co_stopn]

theorem ds_Parts (l : Nat) (e x : Int) (H : Heap) (h : H[l]? = some (.box (I x))) : callFL cfg0 prog0 true 54 [.ptr l 0] H (some (errA e, false)) = some ⟨.ret (.tup []), H.set l (.box (I e)), some (errA e, true)⟩ := by
  simp only [errA]
  refine (callFL_eq fn54 rfl (by simp [Try.f54])).trans ?_
  simp (maxSteps := 1000000) (implicitDefEqProofs := false) (disch := first | rfl | omega | assumption) only [go_sem, ↓reduceIte, Nat.reduceEqDiff, Nat.reduceAdd, Nat.reduceLeDiff, Nat.reduceBEq, Nat.reduceMul, Nat.reduceLT, Int.reduceLT, Int.reduceLE, Int.reduceToNat, Int.reduceNeg, Int.reduceEq, Int.reduceMul, reduceCtorEq, Int.reduceBEq, Int.reduceBNe, Int.reduceAdd, Int.reduceSub, co_stops l x e H h]

theorem dn_Alike (l : Nat) (H : Heap) : callFL cfg0 prog0 true 60 [.ptr l 0] H none = some ⟨.ret (.tup []), H, none⟩ := by
  refine (callFL_eq fn60 rfl (by simp [Try.f60])).trans ?_
  simp (maxSteps := 1000000) (implicitDefEqProofs := false) (disch := first | rfl | omega | assumption) only [go_sem, ↓reduceIte, Nat.reduceEqDiff, Nat.reduceAdd, Nat.reduceLeDiff, Nat.reduceBEq, Nat.reduceMul, Nat.reduceLT, Int.reduceLT, Int.reduceLE, Int.reduceToNat, Int.reduceNeg, Int.reduceEq, Int.reduceMul, reduceCtorEq, Int.reduceBEq, Int.reduceBNe, Int.reduceAdd, Int.reduceSub, co_stopn]

theorem ds_Alike (l : Nat) (e x : Int) (H : Heap) (h : H[l]? = some (.box (I x))) : callFL cfg0 prog0 true 60 [.ptr l 0] H (some (errA e, false)) = some ⟨.ret (.tup []), H.set l (.box (I e)), some (errA e, true)⟩ := by
  simp only [errA]
  refine (callFL_eq fn60 rfl (by simp [Try.f60])).trans ?_
  simp (maxSteps := 1000000) (implicitDefEqProofs := false) (disch := first | rfl | omega | assumption) only [go_sem, ↓reduceIte, Nat.reduceEqDiff, Nat.reduceAdd, Nat.reduceLeDiff, Nat.reduceBEq, Nat.reduceMul, Nat.reduceLT, Int.reduceLT, Int.reduceLE, Int.reduceToNat, Int.reduceNeg, Int.reduceEq, Int.reduceMul, reduceCtorEq, Int.reduceBEq, Int.reduceBNe, Int.reduceAdd, Int.reduceSub, co_stops l x e H h]

theorem dn_Pairs (l : Nat) (H : Heap) : callFL cfg0 prog0 true 65 [.ptr l 0] H none = some ⟨.ret (.tup []), H, none⟩ := by
  refine (callFL_eq fn65 rfl (by simp [Try.f65])).trans ?_
  simp (maxSteps := 1000000) (implicitDefEqProofs := false) (disch := first | rfl | omega | assumption) only [go_sem, ↓reduceIte, Nat.reduceEqDiff, Nat.reduceAdd, Nat.reduceLeDiff, Nat.reduceBEq, Nat.reduceMul, Nat.reduceLT, Int.reduceLT, Int.reduceLE, Int.reduceToNat, Int.reduceNeg, Int.reduceEq, Int.reduceMul, reduceCtorEq, Int.reduceBEq, Int.reduceBNe, Int.reduceAdd, Int.reduceSub, co_stopn]

theorem ds_Pairs (l : Nat) (e x : Int) (H : Heap) (h : H[l]? = some (.box (I x))) : callFL cfg0 prog0 true 65 [.ptr l 0] H (some (errA e, false)) = some ⟨.ret (.tup []), H.set l (.box (I e)), some (errA e, true)⟩ := by
  simp only [errA]
  refine (callFL_eq fn65 rfl (by simp [Try.f65])).trans ?_
  simp (maxSteps := 1000000) (implicitDefEqProofs := false) (disch := first | rfl | omega | assumption) only [go_sem, ↓reduceIte, Nat.reduceEqDiff, Nat.reduceAdd, Nat.reduceLeDiff, Nat.reduceBEq, Nat.reduceMul, Nat.reduceLT, Int.reduceLT, Int.reduceLE, Int.reduceToNat, Int.reduceNeg, Int.reduceEq, Int.reduceMul, reduceCtorEq, Int.reduceBEq, Int.reduceBNe, Int.reduceAdd, Int.reduceSub, co_stops l x e H h]

theorem dn_Reach (l : Nat) (H : Heap) : callFL cfg0 prog0 true 67 [.ptr l 0] H none = some ⟨.ret (.tup []), H, none⟩ := by
  refine (callFL_eq fn67 rfl (by simp [Try.f67])).trans ?_
  simp (maxSteps := 1000000) (implicitDefEqProofs := false) (disch := first | rfl | omega | assumption) only [go_sem, ↓reduceIte, Nat.reduceEqDiff, Nat.reduceAdd, Nat.reduceLeDiff, Nat.reduceBEq, Nat.reduceMul, Nat.reduceLT, Int.reduceLT, Int.reduceLE, Int.reduceToNat, Int.reduceNeg, Int.reduceEq, Int.reduceMul, reduceCtorEq, Int.reduceBEq, Int.reduceBNe, Int.reduceAdd, Int.reduceSub, co_stopn]

theorem ds_Reach (l : Nat) (e x : Int) (H : Heap) (h : H[l]? = some (.box (I x))) : callFL cfg0 prog0 true 67 [.ptr l 0] H (some (errA e, false)) = some ⟨.ret (.tup []), H.set l (.box (I e)), some (errA e, true)⟩ := by
  simp only [errA]
  refine (callFL_eq fn67 rfl (by simp [Try.f67])).trans ?_
  simp (maxSteps := 1000000) (implicitDefEqProofs := false) (disch := first | rfl | omega | assumption) only [go_sem, ↓reduceIte, Nat.reduceEqDiff, Nat.reduceAdd, Nat.reduceLeDiff, Nat.reduceBEq, Nat.reduceMul, Nat.reduceLT, Int.reduceLT, Int.reduceLE, Int.reduceToNat, Int.reduceNeg, Int.reduceEq, Int.reduceMul, reduceCtorEq, Int.reduceBEq, Int.reduceBNe, Int.reduceAdd, Int.reduceSub, co_stops l x e H h]

theorem dn_Fewest (l : Nat) (H : Heap) : callFL cfg0 prog0 true 69 [.ptr l 0] H none = some ⟨.ret (.tup []), H, none⟩ := by
  refine (callFL_eq fn69 rfl (by simp [Try.f69])).trans ?_
  simp (maxSteps := 1000000) (implicitDefEqProofs := false) (disch := first | rfl | omega | assumption) only [go_sem, ↓reduceIte, Nat.reduceEqDiff, Nat.reduceAdd, Nat.reduceLeDiff, Nat.reduceBEq, Nat.reduceMul, Nat.reduceLT, Int.reduceLT, Int.reduceLE, Int.reduceToNat, Int.reduceNeg, Int.reduceEq, Int.reduceMul, reduceCtorEq, Int.reduceBEq, Int.reduceBNe, Int.reduceAdd, Int.reduceSub, co_stopn]

theorem ds_Fewest (l : Nat) (e x : Int) (H : Heap) (h : H[l]? = some (.box (I x))) : callFL cfg0 prog0 true 69 [.ptr l 0] H (some (errA e, false)) = some ⟨.ret (.tup []), H.set l (.box (I e)), some (errA e, true)⟩ := by
  simp only [errA]
  refine (callFL_eq fn69 rfl (by simp [Try.f69])).trans ?_
  simp (maxSteps := 1000000) (implicitDefEqProofs := false) (disch := first | rfl | omega | assumption) only [go_sem, ↓reduceIte, Nat.reduceEqDiff, Nat.reduceAdd, Nat.reduceLeDiff, Nat.reduceBEq, Nat.reduceMul, Nat.reduceLT, Int.reduceLT, Int.reduceLE, Int.reduceToNat, Int.reduceNeg, Int.reduceEq, Int.reduceMul, reduceCtorEq, Int.reduceBEq, Int.reduceBNe, Int.reduceAdd, Int.reduceSub, co_stops l x e H h]

theorem dn_Cheapest (l : Nat) (H : Heap) : callFL cfg0 prog0 true 72 [.ptr l 0] H none = some ⟨.ret (.tup []), H, none⟩ := by
  refine (callFL_eq fn72 rfl (by simp [Try.f72])).trans ?_
  simp (maxSteps := 1000000) (implicitDefEqProofs := false) (disch := first | rfl | omega | assumption) only [go_sem, ↓reduceIte, Nat.reduceEqDiff, Nat.reduceAdd, Nat.reduceLeDiff, Nat.reduceBEq, Nat.reduceMul, Nat.reduceLT, Int.reduceLT, Int.reduceLE, Int.reduceToNat, Int.reduceNeg, Int.reduceEq, Int.reduceMul, reduceCtorEq, Int.reduceBEq, Int.reduceBNe, Int.reduceAdd, Int.reduceSub, co_stopn]

theorem ds_Cheapest (l : Nat) (e x : Int) (H : Heap) (h : H[l]? = some (.box (I x))) : callFL cfg0 prog0 true 72 [.ptr l 0] H (some (errA e, false)) = some ⟨.ret (.tup []), H.set l (.box (I e)), some (errA e, true)⟩ := by
  simp only [errA]
  refine (callFL_eq fn72 rfl (by simp [Try.f72])).trans ?_
  simp (maxSteps := 1000000) (implicitDefEqProofs := false) (disch := first | rfl | omega | assumption) only [go_sem, ↓reduceIte, Nat.reduceEqDiff, Nat.reduceAdd, Nat.reduceLeDiff, Nat.reduceBEq, Nat.reduceMul, Nat.reduceLT, Int.reduceLT, Int.reduceLE, Int.reduceToNat, Int.reduceNeg, Int.reduceEq, Int.reduceMul, reduceCtorEq, Int.reduceBEq, Int.reduceBNe, Int.reduceAdd, Int.reduceSub, co_stops l x e H h]

theorem dn_Spare (l : Nat) (H : Heap) : callFL cfg0 prog0 true 74 [.ptr l 0] H none = some ⟨.ret (.tup []), H, none⟩ := by
  refine (callFL_eq fn74 rfl (by simp [Try.f74])).trans ?_
  simp (maxSteps := 1000000) (implicitDefEqProofs := false) (disch := first | rfl | omega | assumption) only [go_sem, ↓reduceIte, Nat.reduceEqDiff, Nat.reduceAdd, Nat.reduceLeDiff, Nat.reduceBEq, Nat.reduceMul, Nat.reduceLT, Int.reduceLT, Int.reduceLE, Int.reduceToNat, Int.reduceNeg, Int.reduceEq, Int.reduceMul, reduceCtorEq, Int.reduceBEq, Int.reduceBNe, Int.reduceAdd, Int.reduceSub, co_stopn]

theorem ds_Spare (l : Nat) (e x : Int) (H : Heap) (h : H[l]? = some (.box (I x))) : callFL cfg0 prog0 true 74 [.ptr l 0] H (some (errA e, false)) = some ⟨.ret (.tup []), H.set l (.box (I e)), some (errA e, true)⟩ := by
  simp only [errA]
  refine (callFL_eq fn74 rfl (by simp [Try.f74])).trans ?_
  simp (maxSteps := 1000000) (implicitDefEqProofs := false) (disch := first | rfl | omega | assumption) only [go_sem, ↓reduceIte, Nat.reduceEqDiff, Nat.reduceAdd, Nat.reduceLeDiff, Nat.reduceBEq, Nat.reduceMul, Nat.reduceLT, Int.reduceLT, Int.reduceLE, Int.reduceToNat, Int.reduceNeg, Int.reduceEq, Int.reduceMul, reduceCtorEq, Int.reduceBEq, Int.reduceBNe, Int.reduceAdd, Int.reduceSub, co_stops l x e H h]

theorem dn_Next (l : Nat) (H : Heap) : callFL cfg0 prog0 true 79 [.ptr l 0] H none = some ⟨.ret (.tup []), H, none⟩ := by
  refine (callFL_eq fn79 rfl (by simp [Try.f79])).trans ?_
  simp (maxSteps := 1000000) (implicitDefEqProofs := false) (disch := first | rfl | omega | assumption) only [go_sem, ↓reduceIte, Nat.reduceEqDiff, Nat.reduceAdd, Nat.reduceLeDiff, Nat.reduceBEq, Nat.reduceMul, Nat.reduceLT, Int.reduceLT, Int.reduceLE, Int.reduceToNat, Int.reduceNeg, Int.reduceEq, Int.reduceMul, reduceCtorEq, Int.reduceBEq, Int.reduceBNe, Int.reduceAdd, Int.reduceSub, co_stopn]

theorem ds_Next (l : Nat) (e x : Int) (H : Heap) (h : H[l]? = some (.box (I x))) : callFL cfg0 prog0 true 79 [.ptr l 0] H (some (errA e, false)) = some ⟨.ret (.tup []), H.set l (.box (I e)), some (errA e, true)⟩ := by
  simp only [errA]
  refine (callFL_eq fn79 rfl (by simp [Try.f79])).trans ?_
  simp (maxSteps := 1000000) (implicitDefEqProofs := false) (disch := first | rfl | omega | assumption) only [go_sem, ↓reduceIte, Nat.reduceEqDiff, Nat.reduceAdd, Nat.reduceLeDiff, Nat.reduceBEq, Nat.reduceMul, Nat.reduceLT, Int.reduceLT, Int.reduceLE, Int.reduceToNat, Int.reduceNeg, Int.reduceEq, Int.reduceMul, reduceCtorEq, Int.reduceBEq, Int.reduceBNe, Int.reduceAdd, Int.reduceSub, co_stops l x e H h]

theorem co_isSet' {l lm : Nat} {c : Col} {vw vp vo : AV} (h : ShopAt H l c vw vp vo lm) (hw : c.ws.length ≤ 6) (n : Int) : callFL cfg0 prog0 false 56 [.ptr l 0, I n] H none = some ⟨.ret (.bool (c.isSet n)), H, none⟩ := by
  have := co_isSet h hw n
  rw [this, Col.isSet, Int.natCast_pow]
  rfl

theorem look_cl {l lm p : Nat} {c : Col} {vw vp vo : AV} (h : ShopAt H l c vw vp vo lm) (hw : c.ws.length ≤ 6) (n : Int) (hp : H[p]? = some (.box (I n))) : callVL cfg0 prog0 false (.func 99) [.ptr l 0] [.ptr p 0] H none = some ⟨.ret (.bool (c.isSet n)), H, none⟩ := by
  have h1 := co_isSet' h hw n
  have hl : l < H.length := (List.getElem?_eq_some_iff.1 h.box).1
  rw [callVL_func]
  simp only [List.cons_append, List.nil_append]
  refine (callFL_eq fn99 rfl (by simp [Try.f99])).trans ?_
  simp (maxSteps := 1000000) (implicitDefEqProofs := false) (disch := first | rfl | omega | assumption) only [go_sem, ↓reduceIte, Nat.reduceEqDiff, Nat.reduceAdd, Nat.reduceLeDiff, Nat.reduceBEq, Nat.reduceMul, Nat.reduceLT, Int.reduceLT, Int.reduceLE, Int.reduceToNat, Int.reduceNeg, Int.reduceEq, Int.reduceMul, reduceCtorEq, Int.reduceBEq, Int.reduceBNe, Int.reduceAdd, Int.reduceSub, hp, h1]

/-- What look leaves behind. -/
def Col.seen (c : Col) (vw vp : AV) (s : Int) (n : Nat) : Heap := [.box (c.av vw vp), .box (I s), .box (c.av vw vp), .map 84 c.pes, .grow 1 (c.ws.map I), .box (.agg [vw, vp, I c.lo, I c.hi, I c.ev, I c.er, .gsl (n + 4) c.ws.length, .map (n + 3)]), .box (.agg [I c.lo, I c.hi])]

theorem Col.seen_full {c : Col} {vw vp : AV} (s : Int) (G : Heap) : Full (H ++ (c.seen vw vp s H.length ++ G)) (H.length + 5) (H.length + 3) c vw vp (.gsl (H.length + 4) c.ws.length) where
  shop := {
    box := by simp only [Col.seen, get_at', List.cons_append, List.getElem?_cons_succ, List.getElem?_cons_zero]
    own := by
      refine ⟨⟨?_, by simp⟩, ?_⟩
      · simp only [Col.seen, get_at', List.cons_append, List.getElem?_cons_succ, List.getElem?_cons_zero]
      · simp [I, AV.cells] }
  mp := by simp only [Col.seen, get_at', List.cons_append, List.getElem?_cons_succ, List.getElem?_cons_zero]

theorem co_look {c : Col} {vw vp : AV} (h : ColAt H c vw vp) (hl : c.ws.length ≤ 1000 ∧ c.ps.length ≤ 1000) (n : Int) :
    callFL cfg0 prog0 false 61 [c.av vw vp, I n] H none = some (if c.valid then (if c.isSet n then ⟨.ret (.ptr (H.length + 5) 0), H ++ c.seen vw vp n H.length, none⟩ else ⟨.pan (errA 2), H, none⟩) else ⟨.pan (errA 1), H, none⟩) := by
  have s1 := h.ws.scal
  have s2 := h.ps.scal
  have hO := co_open (H := H ++ [.box (c.av vw vp), .box (I n)]) (h.app _) (.func 99) [.ptr (H.length + 1) 0] hl (c.isSet n) (fun hw G => by
    refine look_cl (Col.shopAt (h.app _) G) hw n ?_
    simp only [Col.made, List.append_assoc, get_at', List.cons_append, List.getElem?_cons_succ, List.getElem?_cons_zero])
  rcases Bool.eq_false_or_eq_true c.valid with hv | hv
  · have ho := c.valid_iff.1 hv
    rcases Bool.eq_false_or_eq_true (c.isSet n) with hn | hn
    · have hA := co_all (Col.shopAt (h.app [.box (c.av vw vp), .box (I n)]) [.box (.agg [I c.lo, I c.hi])]) ho (by simp only [Col.made, List.append_assoc, List.length_append, List.length_cons, List.length_nil, List.cons_append, List.nil_append, Nat.add_assoc, Nat.reduceAdd, Nat.zero_add, get_at', List.getElem?_cons_succ, List.getElem?_cons_zero])
      simp only [hv, hn, if_true, Col.made, Col.av, List.length_append, List.length_cons, List.length_nil, List.append_assoc, List.cons_append, List.nil_append, Nat.add_assoc, Nat.reduceAdd, Nat.zero_add] at hO hA
      simp only [hv, hn, if_true, Col.seen, Col.av]
      refine (callFL_eq fn61 rfl (by simp [Try.f61])).trans ?_
      simp (maxSteps := 1000000) (implicitDefEqProofs := false) (disch := first | rfl | omega | assumption) only [go_sem, ↓reduceIte, Nat.reduceEqDiff, Nat.reduceAdd, Nat.reduceLeDiff, Nat.reduceBEq, Nat.reduceMul, Nat.reduceLT, Int.reduceLT, Int.reduceLE, Int.reduceToNat, Int.reduceNeg, Int.reduceEq, Int.reduceMul, reduceCtorEq, Int.reduceBEq, Int.reduceBNe, Int.reduceAdd, Int.reduceSub, s1, s2, hO, hA]
    · simp only [hv, hn, if_true, if_false, Bool.false_eq_true, Col.made, Col.av, List.length_append, List.length_cons, List.length_nil, List.append_assoc, List.cons_append, List.nil_append, Nat.add_assoc, Nat.reduceAdd, Nat.zero_add] at hO
      simp only [hv, hn, if_true, if_false, Bool.false_eq_true, Col.av]
      refine (callFL_eq fn61 rfl (by simp [Try.f61])).trans ?_
      simp (maxSteps := 1000000) (implicitDefEqProofs := false) (disch := first | rfl | omega | assumption) only [go_sem, ↓reduceIte, Nat.reduceEqDiff, Nat.reduceAdd, Nat.reduceLeDiff, Nat.reduceBEq, Nat.reduceMul, Nat.reduceLT, Int.reduceLT, Int.reduceLE, Int.reduceToNat, Int.reduceNeg, Int.reduceEq, Int.reduceMul, reduceCtorEq, Int.reduceBEq, Int.reduceBNe, Int.reduceAdd, Int.reduceSub, s1, s2, hO, errA]
  · simp only [hv, if_false, Bool.false_eq_true, Col.made, Col.av, List.length_append, List.length_cons, List.length_nil, List.append_assoc, List.cons_append, List.nil_append, Nat.add_assoc, Nat.reduceAdd, Nat.zero_add] at hO
    simp only [hv, if_false, Bool.false_eq_true, Col.av]
    refine (callFL_eq fn61 rfl (by simp [Try.f61])).trans ?_
    simp (maxSteps := 1000000) (implicitDefEqProofs := false) (disch := first | rfl | omega | assumption) only [go_sem, ↓reduceIte, Nat.reduceEqDiff, Nat.reduceAdd, Nat.reduceLeDiff, Nat.reduceBEq, Nat.reduceMul, Nat.reduceLT, Int.reduceLT, Int.reduceLE, Int.reduceToNat, Int.reduceNeg, Int.reduceEq, Int.reduceMul, reduceCtorEq, Int.reduceBEq, Int.reduceBNe, Int.reduceAdd, Int.reduceSub, s1, s2, hO, errA]

end Go.Ab
/-
  How much lengths are apart, and whether a set parts them.
-/
namespace Go.Ab
open Go.Proofs
set_option linter.unusedSimpArgs false
set_option linter.unusedVariables false
set_option maxRecDepth 100000
set_option maxHeartbeats 1000000

variable {H : Heap}

theorem apart_cl {l lm p q r : Nat} {c : Col} {vw vp vo : AV} (h : ShopAt H l c vw vp vo lm) (hw : c.ws.length ≤ 6) (k a b : Int) (hp : H[p]? = some (.box (I k))) (hq : H[q]? = some (.box (I a))) (hr : H[r]? = some (.box (I b))) :
    callVL cfg0 prog0 false (.func 45) [.ptr l 0] [.ptr p 0, .ptr q 0, .ptr r 0] H none = some ⟨.ret (.bool (wi k 0 (c.ws.length - 1) && (wi a 0 2000 && wi b 0 2000))), H, none⟩ := by
  have h1 := co_isColour h hw k
  rw [callVL_func]
  simp only [List.cons_append, List.nil_append]
  refine (callFL_eq fn45 rfl (by simp [Try.f45])).trans ?_
  cases e1 : wi k 0 (c.ws.length - 1) <;> cases e2 : wi a 0 2000 <;> cases e3 : wi b 0 2000 <;> simp (maxSteps := 1000000) (implicitDefEqProofs := false) (disch := first | rfl | omega | assumption) only [go_sem, ↓reduceIte, Nat.reduceEqDiff, Nat.reduceAdd, Nat.reduceLeDiff, Nat.reduceBEq, Nat.reduceMul, Nat.reduceLT, Int.reduceLT, Int.reduceLE, Int.reduceToNat, Int.reduceNeg, Int.reduceEq, Int.reduceMul, reduceCtorEq, Int.reduceBEq, Int.reduceBNe, Int.reduceAdd, Int.reduceSub, hp, hq, hr, h1, co_isLength, e1, e2, e3]

theorem parts_cl {l lm p q r : Nat} {c : Col} {vw vp vo : AV} (h : ShopAt H l c vw vp vo lm) (hw : c.ws.length ≤ 6) (k a b : Int) (hp : H[p]? = some (.box (I k))) (hq : H[q]? = some (.box (I a))) (hr : H[r]? = some (.box (I b))) :
    callVL cfg0 prog0 false (.func 55) [.ptr l 0] [.ptr p 0, .ptr q 0, .ptr r 0] H none = some ⟨.ret (.bool (c.isSet k && (wi a 0 2000 && wi b 0 2000))), H, none⟩ := by
  have h1 := co_isSet' h hw k
  rw [callVL_func]
  simp only [List.cons_append, List.nil_append]
  refine (callFL_eq fn55 rfl (by simp [Try.f55])).trans ?_
  cases e1 : c.isSet k <;> cases e2 : wi a 0 2000 <;> cases e3 : wi b 0 2000 <;> simp (maxSteps := 1000000) (implicitDefEqProofs := false) (disch := first | rfl | omega | assumption) only [go_sem, ↓reduceIte, Nat.reduceEqDiff, Nat.reduceAdd, Nat.reduceLeDiff, Nat.reduceBEq, Nat.reduceMul, Nat.reduceLT, Int.reduceLT, Int.reduceLE, Int.reduceToNat, Int.reduceNeg, Int.reduceEq, Int.reduceMul, reduceCtorEq, Int.reduceBEq, Int.reduceBNe, Int.reduceAdd, Int.reduceSub, hp, hq, hr, h1, co_isLength, e1, e2, e3]

theorem ptsA_get {c : Col} (ho : c.Ok) {k : Nat} (hk : k < c.ws.length) (n : Int) : (List.map I (ptsA c.ws n))[k]? = some (I (ptZ (c.ws.getD k 0) n)) := by
  rw [List.getElem?_map, ptsA, List.getElem?_append_left (by simp; omega)]
  simp [hk]

theorem co_Apart {c : Col} {vw vp : AV} (h : ColAt H c vw vp) (hl : c.ws.length ≤ 1000 ∧ c.ps.length ≤ 1000) (k a b : Int) : callFL cfg0 prog0 false 14 [c.av vw vp, I k, I a, I b] H none = some ⟨.ret (.tup [I (c.apart k a b).1, I (c.apart k a b).2]), H, none⟩ := by
  have s1 := h.ws.scal
  have s2 := h.ps.scal
  have hO := co_open (H := H ++ [.box (c.av vw vp), .box (I k), .box (I a), .box (I b), .box (I 0)]) (h.app _) (.func 45) [.ptr (H.length + 1) 0, .ptr (H.length + 2) 0, .ptr (H.length + 3) 0] hl (wi k 0 (c.ws.length - 1) && (wi a 0 2000 && wi b 0 2000)) (fun hw G => by
    refine apart_cl (Col.shopAt (h.app _) G) hw k a b ?_ ?_ ?_ <;>
    simp only [Col.made, List.append_assoc, get_at', List.cons_append, List.getElem?_cons_succ, List.getElem?_cons_zero])
  have hN := fun (G : Heap) => dn_Apart (H.length + 4) G
  have hS := fun (e : Int) (a b c d : AO) (G : Heap) => ds_Apart (H.length + 4) e 0 (H ++ (a :: b :: c :: d :: .box (I 0) :: G)) (by rw [get_at' 4]; rfl)
  simp only [errA] at hS
  rcases Bool.eq_false_or_eq_true c.valid with hv | hv
  · have ho := c.valid_iff.1 hv
    rcases Bool.eq_false_or_eq_true (wi k 0 (c.ws.length - 1) && (wi a 0 2000 && wi b 0 2000)) with hn | hn
    · obtain ⟨e1, e2, e3⟩ : wi k 0 (c.ws.length - 1) = true ∧ wi a 0 2000 = true ∧ wi b 0 2000 = true := by simpa using hn
      obtain ⟨kn, rfl⟩ : ∃ kn : Nat, k = kn := ⟨k.toNat, by have := wi_iff.1 e1; omega⟩
      have hk : kn < c.ws.length := by have := wi_iff.1 e1; omega
      have hlen := ho.len
      have hk6 : ((0 : Int) ≤ (kn : Int) ∧ (kn : Int) < 6) = True := eq_true ⟨by omega, by omega⟩
      have hX := Col.shopAt (h.app [.box (c.av vw vp), .box (I kn), .box (I a), .box (I b), .box (I 0)]) [.box (.agg [I c.lo, I c.hi])]
      have hA := co_of hX hlen.2 a e2
      have hB := co_of hX hlen.2 b e3
      rw [ho.ws_all, if_pos rfl] at hA hB
      have g1 := ptsA_get ho hk a
      have g2 := ptsA_get ho hk b
      have hws := ho.ws kn hk
      have hP := fun G : Heap => co_apart (ptZ (c.ws.getD kn 0) a) (ptZ (c.ws.getD kn 0) b) (ptZ_bd (by omega)) (ptZ_bd (by omega)) G
      simp only [hv, hn, if_true, Col.made, Col.av, List.length_append, List.length_cons, List.length_nil, List.append_assoc, List.cons_append, List.nil_append, Nat.add_assoc, Nat.reduceAdd, Nat.zero_add] at hO hA hB
      simp only [Col.apart, hv, hn, if_true, Col.av]
      refine (callFL_eq fn14 rfl (by simp [Try.f14])).trans ?_
      simp (maxSteps := 1000000) (implicitDefEqProofs := false) (disch := first | rfl | omega | assumption) only [go_sem, ↓reduceIte, Nat.reduceEqDiff, Nat.reduceAdd, Nat.reduceLeDiff, Nat.reduceBEq, Nat.reduceMul, Nat.reduceLT, Int.reduceLT, Int.reduceLE, Int.reduceToNat, Int.reduceNeg, Int.reduceEq, Int.reduceMul, reduceCtorEq, Int.reduceBEq, Int.reduceBNe, Int.reduceAdd, Int.reduceSub, s1, s2, hO]
      rw [chkK_of]; rotate_left; kernel_rfl
      simp (maxSteps := 1000000) (implicitDefEqProofs := false) (disch := first | rfl | omega | assumption) only [go_sem, ↓reduceIte, Nat.reduceEqDiff, Nat.reduceAdd, Nat.reduceLeDiff, Nat.reduceBEq, Nat.reduceMul, Nat.reduceLT, Int.reduceLT, Int.reduceLE, Int.reduceToNat, Int.reduceNeg, Int.reduceEq, Int.reduceMul, reduceCtorEq, Int.reduceBEq, Int.reduceBNe, Int.reduceAdd, Int.reduceSub, hA, hB, g1, g2, hk6, hP, hN]
    · simp only [hv, hn, if_true, if_false, Bool.false_eq_true, Col.made, Col.av, List.length_append, List.length_cons, List.length_nil, List.append_assoc, List.cons_append, List.nil_append, Nat.add_assoc, Nat.reduceAdd, Nat.zero_add, errA] at hO
      simp only [Col.apart, hv, hn, if_true, if_false, Bool.false_eq_true, Col.av]
      refine (callFL_eq fn14 rfl (by simp [Try.f14])).trans ?_
      simp (maxSteps := 1000000) (implicitDefEqProofs := false) (disch := first | rfl | omega | assumption) only [go_sem, ↓reduceIte, Nat.reduceEqDiff, Nat.reduceAdd, Nat.reduceLeDiff, Nat.reduceBEq, Nat.reduceMul, Nat.reduceLT, Int.reduceLT, Int.reduceLE, Int.reduceToNat, Int.reduceNeg, Int.reduceEq, Int.reduceMul, reduceCtorEq, Int.reduceBEq, Int.reduceBNe, Int.reduceAdd, Int.reduceSub, s1, s2, hO, hS]
  · simp only [hv, if_false, Bool.false_eq_true, Col.made, Col.av, List.length_append, List.length_cons, List.length_nil, List.append_assoc, List.cons_append, List.nil_append, Nat.add_assoc, Nat.reduceAdd, Nat.zero_add, errA] at hO
    simp only [Col.apart, hv, if_false, Bool.false_eq_true, Col.av]
    refine (callFL_eq fn14 rfl (by simp [Try.f14])).trans ?_
    simp (maxSteps := 1000000) (implicitDefEqProofs := false) (disch := first | rfl | omega | assumption) only [go_sem, ↓reduceIte, Nat.reduceEqDiff, Nat.reduceAdd, Nat.reduceLeDiff, Nat.reduceBEq, Nat.reduceMul, Nat.reduceLT, Int.reduceLT, Int.reduceLE, Int.reduceToNat, Int.reduceNeg, Int.reduceEq, Int.reduceMul, reduceCtorEq, Int.reduceBEq, Int.reduceBNe, Int.reduceAdd, Int.reduceSub, s1, s2, hO, hS]

theorem Col.partB_mask (c : Col) (s : Nat) (a b : Int) : c.partB s a b = (((c.mask a b &&& s : Nat) : Int) != 0) := by
  rw [Bool.eq_iff_iff]
  simp only [Col.partB, anyF_iff, Bool.and_eq_true, bne_iff_ne, ne_eq, Int.natCast_eq_zero]
  constructor
  · rintro ⟨i, -, h1, h2, h3⟩ h0
    have : (c.mask a b &&& s).testBit i = true := by
      rw [Nat.testBit_and, Col.mask, maskN_bit, h2, h3]
      simp; omega
    rw [h0] at this
    simp at this
  · intro h
    have : ∃ i, (c.mask a b &&& s).testBit i = true := by
      refine Classical.byContradiction fun hn => h (Nat.eq_of_testBit_eq fun i => ?_)
      rw [Nat.zero_testBit]
      exact Bool.eq_false_iff.2 fun h2 => hn ⟨i, h2⟩
    obtain ⟨i, hi⟩ := this
    rw [Nat.testBit_and, Col.mask, maskN_bit, Bool.and_eq_true, Bool.and_eq_true, decide_eq_true_eq] at hi
    exact ⟨i, by omega, by omega, hi.2, hi.1.2⟩

theorem Col.meet_eq (c : Col) (s a b : Nat) : c.meet s a b = c.partB s (c.lenAt a) (c.lenAt b) := (c.partB_mask s _ _).symm

theorem co_Parts {c : Col} {vw vp : AV} (h : ColAt H c vw vp) (hl : c.ws.length ≤ 1000 ∧ c.ps.length ≤ 1000) (k a b : Int) : callFL cfg0 prog0 false 16 [c.av vw vp, I k, I a, I b] H none = some ⟨.ret (.tup [.bool (c.parts k a b).1, I (c.parts k a b).2]), H, none⟩ := by
  have s1 := h.ws.scal
  have s2 := h.ps.scal
  have hO := co_open (H := H ++ [.box (c.av vw vp), .box (I k), .box (I a), .box (I b), .box (I 0)]) (h.app _) (.func 55) [.ptr (H.length + 1) 0, .ptr (H.length + 2) 0, .ptr (H.length + 3) 0] hl (c.isSet k && (wi a 0 2000 && wi b 0 2000)) (fun hw G => by
    refine parts_cl (Col.shopAt (h.app _) G) hw k a b ?_ ?_ ?_ <;>
    simp only [Col.made, List.append_assoc, get_at', List.cons_append, List.getElem?_cons_succ, List.getElem?_cons_zero])
  have hN := fun (G : Heap) => dn_Parts (H.length + 4) G
  have hS := fun (e : Int) (a b c d : AO) (G : Heap) => ds_Parts (H.length + 4) e 0 (H ++ (a :: b :: c :: d :: .box (I 0) :: G)) (by rw [get_at' 4]; rfl)
  simp only [errA] at hS
  rcases Bool.eq_false_or_eq_true c.valid with hv | hv
  · have ho := c.valid_iff.1 hv
    rcases Bool.eq_false_or_eq_true (c.isSet k && (wi a 0 2000 && wi b 0 2000)) with hn | hn
    · obtain ⟨e1, e2, e3⟩ : c.isSet k = true ∧ wi a 0 2000 = true ∧ wi b 0 2000 = true := by simpa using hn
      obtain ⟨b1, b2, b3⟩ := ho.set_bd e1
      obtain ⟨kn, hkn⟩ : ∃ kn : Nat, kn = k.toNat := ⟨_, rfl⟩
      rw [← hkn] at b1 b2 b3
      subst b1
      clear hkn
      have hlen := ho.len
      have hX := Col.shopAt (h.app [.box (c.av vw vp), .box (I kn), .box (I a), .box (I b), .box (I 0)]) [.box (.agg [I c.lo, I c.hi])]
      have hA := co_of hX hlen.2 a e2
      have hB := co_of hX hlen.2 b e3
      rw [ho.ws_all, if_pos rfl] at hA hB
      have hP := co_parting hX hlen.2 ho.er ho.ws1 a b
      have hm := c.mask_lt ho a b
      have hbit := bitsAnd (a := c.mask a b) (b := kn) (by omega) (by omega)
      have hcv : IntKind.u64.wrap (kn : Int) = kn := wrapU (by omega)
      have hpb := c.partB_mask kn a b
      simp only [hv, hn, if_true, Col.made, Col.av, List.length_append, List.length_cons, List.length_nil, List.append_assoc, List.cons_append, List.nil_append, Nat.add_assoc, Nat.reduceAdd, Nat.zero_add] at hO hA hB hP
      simp only [Col.parts, hv, hn, if_true, Col.av]
      refine (callFL_eq fn16 rfl (by simp [Try.f16])).trans ?_
      simp (maxSteps := 1000000) (implicitDefEqProofs := false) (disch := first | rfl | omega | assumption) only [go_sem, ↓reduceIte, Nat.reduceEqDiff, Nat.reduceAdd, Nat.reduceLeDiff, Nat.reduceBEq, Nat.reduceMul, Nat.reduceLT, Int.reduceLT, Int.reduceLE, Int.reduceToNat, Int.reduceNeg, Int.reduceEq, Int.reduceMul, reduceCtorEq, Int.reduceBEq, Int.reduceBNe, Int.reduceAdd, Int.reduceSub, s1, s2, hO]
      rw [chkK_of]; rotate_left; kernel_rfl
      simp (maxSteps := 1000000) (implicitDefEqProofs := false) (disch := first | rfl | omega | assumption) only [go_sem, ↓reduceIte, Nat.reduceEqDiff, Nat.reduceAdd, Nat.reduceLeDiff, Nat.reduceBEq, Nat.reduceMul, Nat.reduceLT, Int.reduceLT, Int.reduceLE, Int.reduceToNat, Int.reduceNeg, Int.reduceEq, Int.reduceMul, reduceCtorEq, Int.reduceBEq, Int.reduceBNe, Int.reduceAdd, Int.reduceSub, hA, hB, hP, hbit, hcv, hN, hpb]
    · simp only [hv, hn, if_true, if_false, Bool.false_eq_true, Col.made, Col.av, List.length_append, List.length_cons, List.length_nil, List.append_assoc, List.cons_append, List.nil_append, Nat.add_assoc, Nat.reduceAdd, Nat.zero_add, errA] at hO
      simp only [Col.parts, hv, hn, if_true, if_false, Bool.false_eq_true, Col.av]
      refine (callFL_eq fn16 rfl (by simp [Try.f16])).trans ?_
      simp (maxSteps := 1000000) (implicitDefEqProofs := false) (disch := first | rfl | omega | assumption) only [go_sem, ↓reduceIte, Nat.reduceEqDiff, Nat.reduceAdd, Nat.reduceLeDiff, Nat.reduceBEq, Nat.reduceMul, Nat.reduceLT, Int.reduceLT, Int.reduceLE, Int.reduceToNat, Int.reduceNeg, Int.reduceEq, Int.reduceMul, reduceCtorEq, Int.reduceBEq, Int.reduceBNe, Int.reduceAdd, Int.reduceSub, s1, s2, hO, hS]
  · simp only [hv, if_false, Bool.false_eq_true, Col.made, Col.av, List.length_append, List.length_cons, List.length_nil, List.append_assoc, List.cons_append, List.nil_append, Nat.add_assoc, Nat.reduceAdd, Nat.zero_add, errA] at hO
    simp only [Col.parts, hv, if_false, Bool.false_eq_true, Col.av]
    refine (callFL_eq fn16 rfl (by simp [Try.f16])).trans ?_
    simp (maxSteps := 1000000) (implicitDefEqProofs := false) (disch := first | rfl | omega | assumption) only [go_sem, ↓reduceIte, Nat.reduceEqDiff, Nat.reduceAdd, Nat.reduceLeDiff, Nat.reduceBEq, Nat.reduceMul, Nat.reduceLT, Int.reduceLT, Int.reduceLE, Int.reduceToNat, Int.reduceNeg, Int.reduceEq, Int.reduceMul, reduceCtorEq, Int.reduceBEq, Int.reduceBNe, Int.reduceAdd, Int.reduceSub, s1, s2, hO, hS]

end Go.Ab
