/-
  The layer settle: what is looked for, in spans and in minutes.
-/
import Derived.Test.YtppmifiahebgfaaW5
namespace Go.Ab
open Go.Proofs
set_option linter.unusedSimpArgs false
set_option linter.unusedVariables false

/-! ### first, in spans -/

theorem first_step (G E : Heap) (h : Nat) (hh : G.length = h) (fi : Fn) (caps : List AV) (x y : Int) (d : Bool) (v7 v0 v1 : AV)
    (hd : ∀ E, callVL cfg0 prog0 false fi [.agg [I x, I y]] caps (G ++ E) none = some ⟨.ret (.bool d), G ++ E, none⟩) :
    callVL cfg0 prog0 false (.yield (h + 4)) [.agg [I x, I y]] [] (G ++ ([.box (.agg [.func fi [] caps]), .box (.agg [I 0, I 0]), .box (.bool false), .dfr, .loop (loopRec Try.f60 60 0 [(7, v7), (5, .ptr (h + 2) 0), (4, .ptr (h + 1) 0), (3, .ptr h 0), (0, v0), (1, v1)] (h + 3))] ++ E)) none =
    some (if d then ⟨.ret (.bool false), G ++ ([.box (.agg [.func fi [] caps]), .box (.agg [I x, I y]), .box (.bool true), .dfr, .loop { loopRec Try.f60 60 0 [(7, v7), (5, .ptr (h + 2) 0), (4, .ptr (h + 1) 0), (3, .ptr h 0), (0, v0), (1, v1)] (h + 3) with state := .done, pending := some .ret }] ++ E), none⟩
      else ⟨.ret (.bool true), G ++ ([.box (.agg [.func fi [] caps]), .box (.agg [I 0, I 0]), .box (.bool false), .dfr, .loop (loopRec Try.f60 60 0 [(7, v7), (5, .ptr (h + 2) 0), (4, .ptr (h + 1) 0), (3, .ptr h 0), (0, v0), (1, v1)] (h + 3))] ++ E), none⟩) := by
  subst hh
  cases d
  · simp only [go_sem, ↓reduceIte, Nat.reduceEqDiff, Nat.reduceAdd, Nat.reduceLeDiff, Nat.reduceBEq, Nat.reduceMul, Nat.reduceLT, Int.reduceLT, Int.reduceLE, Int.reduceToNat, Int.reduceNeg, Int.reduceEq, Int.reduceMul, reduceCtorEq, fn60, res60, gc60, grow60, ty3, ty4, ty29, ty88, ty90, loopRec, rangesOf, List.nil_append, List.append_nil, List.cons_append, List.getElem?_cons_zero, List.getElem?_cons_succ, Try.f60, hd]
  · simp only [go_sem, ↓reduceIte, Nat.reduceEqDiff, Nat.reduceAdd, Nat.reduceLeDiff, Nat.reduceBEq, Nat.reduceMul, Nat.reduceLT, Int.reduceLT, Int.reduceLE, Int.reduceToNat, Int.reduceNeg, Int.reduceEq, Int.reduceMul, reduceCtorEq, fn60, res60, gc60, grow60, ty3, ty4, ty29, ty88, ty90, loopRec, rangesOf, List.nil_append, List.append_nil, List.cons_append, List.getElem?_cons_zero, List.getElem?_cons_succ, Try.f60, hd]

/-! ### first, in minutes -/

noncomputable def busy81 (h : Nat) (is v7 v0 v1 : AV) : Heap := [.box (.agg [is]), .box (I 0), .box (.bool false), .dfr, .loop { loopRec Try.f81 81 0 [(7, v7), (5, .ptr (h + 2) 0), (4, .ptr (h + 1) 0), (3, .ptr h 0), (0, v0), (1, v1)] (h + 3) with state := .busy }]

theorem firstI_step (G G' E : Heap) (h : Nat) (hh : G.length = h) (hh' : G'.length = h) (fi : Fn) (caps : List AV) (x : Int) (d : Bool) (v7 v0 v1 : AV)
    (hd : callVL cfg0 prog0 false fi [I x] caps (G ++ (busy81 h (.func fi [] caps) v7 v0 v1 ++ E)) none = some ⟨.ret (.bool d), G' ++ (busy81 h (.func fi [] caps) v7 v0 v1 ++ E), none⟩) :
    callVL cfg0 prog0 false (.yield (h + 4)) [I x] [] (G ++ ([.box (.agg [.func fi [] caps]), .box (I 0), .box (.bool false), .dfr, .loop (loopRec Try.f81 81 0 [(7, v7), (5, .ptr (h + 2) 0), (4, .ptr (h + 1) 0), (3, .ptr h 0), (0, v0), (1, v1)] (h + 3))] ++ E)) none =
    some (if d then ⟨.ret (.bool false), G' ++ ([.box (.agg [.func fi [] caps]), .box (I x), .box (.bool true), .dfr, .loop { loopRec Try.f81 81 0 [(7, v7), (5, .ptr (h + 2) 0), (4, .ptr (h + 1) 0), (3, .ptr h 0), (0, v0), (1, v1)] (h + 3) with state := .done, pending := some .ret }] ++ E), none⟩
      else ⟨.ret (.bool true), G' ++ ([.box (.agg [.func fi [] caps]), .box (I 0), .box (.bool false), .dfr, .loop (loopRec Try.f81 81 0 [(7, v7), (5, .ptr (h + 2) 0), (4, .ptr (h + 1) 0), (3, .ptr h 0), (0, v0), (1, v1)] (h + 3))] ++ E), none⟩) := by
  have a0 : ∀ E, (G' ++ E)[h]? = E[0]? := fun E => by rw [← hh']; exact get_at
  have a1 : ∀ n E, (G' ++ E)[h + n]? = E[n]? := fun n E => by rw [← hh']; exact get_at' n
  have a2 : ∀ o E, (G' ++ E).set h o = G' ++ E.set 0 o := fun o E => by rw [← hh']; exact set_at
  have a3 : ∀ n o E, (G' ++ E).set (h + n) o = G' ++ E.set n o := fun n o E => by rw [← hh']; exact set_at' n
  have a4 : ∀ E n, (G' ++ E).take (h + n) = G' ++ E.take n := fun E n => by rw [← hh']; exact List.take_length_add_append _
  simp only [busy81, loopRec, rangesOf, List.nil_append, List.append_nil, List.cons_append, List.getElem?_cons_zero, List.getElem?_cons_succ, Try.f81] at hd
  subst hh
  cases d
  · simp only [go_sem, ↓reduceIte, Nat.reduceEqDiff, Nat.reduceAdd, Nat.reduceLeDiff, Nat.reduceBEq, Nat.reduceMul, Nat.reduceLT, Int.reduceLT, Int.reduceLE, Int.reduceToNat, Int.reduceNeg, Int.reduceEq, Int.reduceMul, reduceCtorEq, fn81, res81, gc81, grow81, ty3, ty4, ty71, ty101, loopRec, rangesOf, List.nil_append, List.append_nil, List.cons_append, List.getElem?_cons_zero, List.getElem?_cons_succ, Try.f81, hd, a0, a1, a2, a3, a4]
  · simp only [go_sem, ↓reduceIte, Nat.reduceEqDiff, Nat.reduceAdd, Nat.reduceLeDiff, Nat.reduceBEq, Nat.reduceMul, Nat.reduceLT, Int.reduceLT, Int.reduceLE, Int.reduceToNat, Int.reduceNeg, Int.reduceEq, Int.reduceMul, reduceCtorEq, fn81, res81, gc81, grow81, ty3, ty4, ty71, ty101, loopRec, rangesOf, List.nil_append, List.append_nil, List.cons_append, List.getElem?_cons_zero, List.getElem?_cons_succ, Try.f81, hd, a0, a1, a2, a3, a4]

section
variable {σ : Type} (G : Nat → σ → Heap) (Inv : σ → Prop) (A : Nat) (frm : Nat) (fy : Fn) (first cap : List AV) (b0 : Nat) (c : Nat → Bool)

theorem f100_loop (hlen : ∀ j x, (G j x).length = b0) (hA : ∀ j x, (G j x)[A]? = some (.box (I frm))) (hfrm : frm ≤ 1000) (hfy : fnLt b0 fy = true) (hf1 : ltL b0 first = true) (hf2 : ltL b0 cap = true)
    (hstep : ∀ j x E, j ≤ frm → (∀ i, i < j → c i = true) → Inv x → ∃ x', Inv x' ∧ callVL cfg0 prog0 false fy (first ++ [I ((frm : Int) - j)]) cap (G j x ++ E) none = some ⟨.ret (.bool (c j)), G (j + 1) x' ++ E, none⟩) :
    ∀ (q j : Nat) (x : σ), j + q = frm + 1 → (∀ i, i < j → c i = true) → Inv x →
    ∃ x' E', Inv x' ∧ ∀ (E : Heap) (e : Env), e.get 0 = .func fy first cap → e.get 3 = I ((frm : Int) - j) →
      execL cfg0 prog0 ⟨100, none, false, b0⟩ (todoAt Try.f100 1) ⟨e, [], G j x ++ E, none⟩ = some ⟨.ret (.tup []), G (stopAt c j q) x' ++ E', none⟩ := by
  intro q
  induction q with
  | zero =>
    intro j x hj hre hx
    refine ⟨x, [], hx, ?_⟩
    intro E e g0 g3
    have hl := hlen j x
    have hc : ¬ 0 ≤ (frm : Int) - j := by omega
    simp only [stopAt]
    generalize G j x = G0 at *
    subst hl
    simp only [loopIt, todoPast, todoAt, todoOf, firstReg, ↓reduceIte, Option.some.injEq, Nat.reduceEqDiff, reduceCtorEq, Try.f100]
    rw [execL_inLoop]
    simp only [go_sem, ↓reduceIte, Nat.reduceEqDiff, Nat.reduceAdd, Nat.reduceLeDiff, Nat.reduceBEq, Nat.reduceMul, Nat.reduceLT, Int.reduceLT, Int.reduceLE, Int.reduceToNat, Int.reduceNeg, Int.reduceEq, Int.reduceMul, reduceCtorEq, fn100, res100, gc100_0, gc100_1, gc100_3, gc100_2, gcSt, keepEnv, envLt, heapLt, dfrLt, ADefer.lt, grow100, ty3, g0, g3, hfy, hf1, hf2, hc]
  | succ q ih =>
    intro j x hj hre hx
    obtain ⟨x1, hx1, hc1⟩ := hstep j x [] (by omega) hre hx
    simp only [List.append_nil] at hc1
    have hl := hlen j x
    have hl1 := hlen (j + 1) x1
    have hc : 0 ≤ (frm : Int) - j := by omega
    have e1 : IntKind.i64.wrap ((frm : Int) - j - 1) = (frm : Int) - ((j + 1 : Nat) : Int) := by rw [w64 (by omega) (by omega)]; omega
    cases hcj : c j with
    | false =>
      refine ⟨x1, [], hx1, ?_⟩
      intro E e g0 g3
      simp only [stopAt, hcj, Bool.false_eq_true, if_false]
      rw [hcj] at hc1
      generalize G (j + 1) x1 = G1 at *
      generalize G j x = G0 at *
      subst hl
      simp only [loopIt, todoPast, todoAt, todoOf, firstReg, ↓reduceIte, Option.some.injEq, Nat.reduceEqDiff, reduceCtorEq, Try.f100]
      rw [execL_inLoop]
      simp only [go_sem, ↓reduceIte, Nat.reduceEqDiff, Nat.reduceAdd, Nat.reduceLeDiff, Nat.reduceBEq, Nat.reduceMul, Nat.reduceLT, Int.reduceLT, Int.reduceLE, Int.reduceToNat, Int.reduceNeg, Int.reduceEq, Int.reduceMul, reduceCtorEq, fn100, res100, gc100_0, gc100_1, gc100_3, gc100_2, gcSt, keepEnv, envLt, heapLt, dfrLt, ADefer.lt, grow100, ty3, g0, g3, hfy, hf1, hf2, hc, hc1]
    | true =>
      obtain ⟨x', E', hx', hih⟩ := ih (j + 1) x1 (by omega) (reach hre hcj) hx1
      refine ⟨x', E', hx', ?_⟩
      intro E e g0 g3
      simp only [stopAt, hcj, if_true]
      have hih := hih []
      rw [List.append_nil] at hih
      rw [hcj] at hc1
      generalize G (j + 1) x1 = G1 at *
      generalize G j x = G0 at *
      subst hl
      simp only [loopIt, todoPast, todoAt, todoOf, firstReg, ↓reduceIte, Option.some.injEq, Nat.reduceEqDiff, reduceCtorEq, Try.f100]
      rw [execL_inLoop]
      simp only [go_sem, ↓reduceIte, Nat.reduceEqDiff, Nat.reduceAdd, Nat.reduceLeDiff, Nat.reduceBEq, Nat.reduceMul, Nat.reduceLT, Int.reduceLT, Int.reduceLE, Int.reduceToNat, Int.reduceNeg, Int.reduceEq, Int.reduceMul, reduceCtorEq, fn100, res100, gc100_0, gc100_1, gc100_3, gc100_2, gcSt, keepEnv, envLt, heapLt, dfrLt, ADefer.lt, grow100, ty3, g0, g3, hfy, hf1, hf2, hc, hc1, e1]
      exact hih _ (by rfl) (by rfl)

theorem f100 (hlen : ∀ j x, (G j x).length = b0) (hA : ∀ j x, (G j x)[A]? = some (.box (I frm))) (hfrm : frm ≤ 1000) (hfy : fnLt b0 fy = true) (hf1 : ltL b0 first = true) (hf2 : ltL b0 cap = true)
    (hstep : ∀ j x E, j ≤ frm → (∀ i, i < j → c i = true) → Inv x → ∃ x', Inv x' ∧ callVL cfg0 prog0 false fy (first ++ [I ((frm : Int) - j)]) cap (G j x ++ E) none = some ⟨.ret (.bool (c j)), G (j + 1) x' ++ E, none⟩) (x : σ) (hx : Inv x) :
    ∃ x', Inv x' ∧ callFL cfg0 prog0 false 100 [.func fy first cap, .ptr A 0] (G 0 x) none = some ⟨.ret (.tup []), G (stopAt c 0 (frm + 1)) x', none⟩ := by
  obtain ⟨x', E', hx', hr⟩ := f100_loop G Inv A frm fy first cap b0 c hlen hA hfrm hfy hf1 hf2 hstep (frm + 1) 0 x (by omega) (fun i hi' => by omega) hx
  refine ⟨x', hx', ?_⟩
  have hr := hr []
  rw [List.append_nil] at hr
  have hl := hlen 0 x
  have hl1 := hlen (stopAt c 0 (frm + 1)) x'
  have ha := hA 0 x
  generalize G (stopAt c 0 (frm + 1)) x' = G1 at *
  generalize G 0 x = G0 at *
  subst hl
  refine (callFL_eq fn100 rfl (by simp [Try.f100])).trans ?_
  simp only [go_sem, ↓reduceIte, Nat.reduceEqDiff, Nat.reduceAdd, Nat.reduceLeDiff, Nat.reduceBEq, Nat.reduceMul, Nat.reduceLT, Int.reduceLT, Int.reduceLE, Int.reduceToNat, Int.reduceNeg, Int.reduceEq, Int.reduceMul, reduceCtorEq, fn100, res100, gc100_0, gc100_1, gc100_3, gc100_2, gcSt, keepEnv, envLt, heapLt, dfrLt, ADefer.lt, grow100, ty3, ha]
  refine (congrArg (Option.map _) (hr _ (by rfl) (by simp [Env.get]))).trans ?_
  simp only [go_sem, ↓reduceIte, Nat.reduceEqDiff, Nat.reduceAdd, Nat.reduceLeDiff, Nat.reduceBEq, Nat.reduceMul, Nat.reduceLT, Int.reduceLT, Int.reduceLE, Int.reduceToNat, Int.reduceNeg, Int.reduceEq, Int.reduceMul, reduceCtorEq, ← hl1]
end

theorem f82 (n : Int) (H : Heap) : callFL cfg0 prog0 false 82 [I n] H none = some ⟨.ret (.func (.func 100) [] [.ptr H.length 0]), H ++ [.box (I n)], none⟩ := by
  refine (callFL_eq fn82 rfl (by simp [Try.f82])).trans ?_
  simp only [go_sem, ↓reduceIte, Nat.reduceEqDiff, Nat.reduceAdd, Nat.reduceLeDiff, Nat.reduceBEq, Nat.reduceMul, Nat.reduceLT, Int.reduceLT, Int.reduceLE, Int.reduceToNat, Int.reduceNeg, Int.reduceEq, Int.reduceMul, reduceCtorEq, fn82, res82, gc82, grow82, ty3]

/-- The first number of so many, from j on, that is so. -/
def findN (d : Nat → Bool) : Nat → Nat → Option Nat
  | _, 0 => none
  | j, m + 1 => if d j then some j else findN d (j + 1) m

theorem stop_find (d : Nat → Bool) : ∀ m j, (findN d j m = none ∧ stopAt (fun i => !d i) j m = j + m ∧ ∀ i, j ≤ i → i < j + m → d i = false) ∨ ∃ i, findN d j m = some i ∧ stopAt (fun i => !d i) j m = i + 1 ∧ d i = true ∧ j ≤ i ∧ i < j + m ∧ ∀ i', j ≤ i' → i' < i → d i' = false := by
  intro m
  induction m with
  | zero => intro j; exact .inl ⟨rfl, rfl, fun i h1 h2 => by omega⟩
  | succ m ih =>
    intro j
    simp only [findN, stopAt]
    by_cases hd : d j = true
    · exact .inr ⟨j, by simp [hd], by simp [hd], hd, by omega, by omega, fun i h1 h2 => by omega⟩
    · have hd : d j = false := by simpa using hd
      simp only [hd, Bool.false_eq_true, if_false, Bool.not_false, if_true]
      rcases ih (j + 1) with ⟨h1, h2, h3⟩ | ⟨i, h1, h2, h3, h4, h5, h6⟩
      · refine .inl ⟨h1, by omega, fun i hi1 hi2 => ?_⟩
        rcases Nat.lt_or_ge j i with h | h
        · exact h3 i h (by omega)
        · have : i = j := by omega
          subst this; exact hd
      · refine .inr ⟨i, h1, h2, h3, by omega, by omega, fun i' hi1 hi2 => ?_⟩
        rcases Nat.lt_or_ge j i' with h | h
        · exact h6 i' h hi2
        · have : i' = j := by omega
          subst this; exact hd

/-- The frame of 'first', in minutes. -/
noncomputable def tl81 (h : Nat) (is v7 v0 v1 : AV) (r : Option Int) : Heap :=
  match r with
  | none => [.box (.agg [is]), .box (I 0), .box (.bool false), .dfr, .loop (loopRec Try.f81 81 0 [(7, v7), (5, .ptr (h + 2) 0), (4, .ptr (h + 1) 0), (3, .ptr h 0), (0, v0), (1, v1)] (h + 3))]
  | some x => [.box (.agg [is]), .box (I x), .box (.bool true), .dfr, .loop { loopRec Try.f81 81 0 [(7, v7), (5, .ptr (h + 2) 0), (4, .ptr (h + 1) 0), (3, .ptr h 0), (0, v0), (1, v1)] (h + 3) with state := .done, pending := some .ret }]

noncomputable def tl81At (d : Nat → Bool) (frm : Nat) (j : Nat) : Option Int :=
  match j with
  | 0 => none
  | i + 1 => if d i then some ((frm : Int) - i) else none

theorem f81 {σ : Type} (H : σ → Heap) (Inv : σ → Prop) (h A frm : Nat) (fi : Fn) (caps : List AV) (d : Nat → Bool) (hlen : ∀ x, (H x).length = h) (hA : ∀ x, (H x)[A]? = some (.box (I frm))) (hfrm : frm ≤ 1000) (hfi : fnLt (h + 5) fi = true) (hcaps : ltL (h + 5) caps = true)
    (hd : ∀ j x E, j ≤ frm → Inv x → ∃ x', Inv x' ∧ callVL cfg0 prog0 false fi [I ((frm : Int) - j)] caps (H x ++ E) none = some ⟨.ret (.bool (d j)), H x' ++ E, none⟩) (x : σ) (hx : Inv x) :
    ∃ x', Inv x' ∧ callFL cfg0 prog0 false 81 [.func (.func 100) [] [.ptr A 0], .agg [.func fi [] caps]] (H x) none =
      some ⟨.ret (match findN d 0 (frm + 1) with | some i => .tup [I ((frm : Int) - i), .bool true] | none => .tup [I 0, .bool false]), H x', none⟩ := by
  have hAl : ∀ x, A < (H x).length := fun x => (List.getElem?_eq_some_iff.1 (hA x)).1
  obtain ⟨x', hx', hr⟩ := f100 (fun j x => H x ++ tl81 h (.func fi [] caps) (.func (.func 100) [] [.ptr A 0]) (.func (.func 100) [] [.ptr A 0]) (.agg [.func fi [] caps]) (tl81At d frm j)) Inv A frm (.yield (h + 4)) [] [] (h + 5) (fun j => !d j)
    (fun j x => by simp only [List.length_append, hlen]; unfold tl81; split <;> rfl) (fun j x => by rw [get_lt (hAl x)]; exact hA x) hfrm (by simp [fnLt]) rfl rfl (by
      intro j y E hj hre hy
      obtain ⟨y', hy', hy2⟩ := hd j y (busy81 h (.func fi [] caps) (.func (.func 100) [] [.ptr A 0]) (.func (.func 100) [] [.ptr A 0]) (.agg [.func fi [] caps]) ++ E) hj hy
      refine ⟨y', hy', ?_⟩
      have h0 : tl81At d frm j = none := by
        cases j with
        | zero => rfl
        | succ i =>
          have := hre i (by omega)
          simp only [tl81At]
          rw [if_neg (by simpa using this)]
      have hs := firstI_step (H y) (H y') E h (hlen y) (hlen y') fi caps ((frm : Int) - j) (d j) (.func (.func 100) [] [.ptr A 0]) (.func (.func 100) [] [.ptr A 0]) (.agg [.func fi [] caps]) hy2
      simp only [List.nil_append, h0, List.append_assoc, tl81] at hs ⊢
      rw [hs]
      cases hdj : d j <;> simp [tl81At, hdj]) x hx
  refine ⟨x', hx', ?_⟩
  have hl := hlen x
  have hl' := hlen x'
  have a0 : ∀ E, (H x' ++ E)[h]? = E[0]? := fun E => by rw [← hl']; exact get_at
  have a1 : ∀ n E, (H x' ++ E)[h + n]? = E[n]? := fun n E => by rw [← hl']; exact get_at' n
  have a2 : ∀ o E, (H x' ++ E).set h o = H x' ++ E.set 0 o := fun o E => by rw [← hl']; exact set_at
  have a3 : ∀ n o E, (H x' ++ E).set (h + n) o = H x' ++ E.set n o := fun n o E => by rw [← hl']; exact set_at' n
  have a4 : ∀ E, (H x' ++ E).take h = H x' := fun E => by rw [← hl']; exact List.take_left
  refine (callFL_eq fn81 rfl (by simp [Try.f81])).trans ?_
  rcases stop_find d (frm + 1) 0 with ⟨h1, h2, h3⟩ | ⟨i, h1, h2, h3, h4, h5, h6⟩
  · rw [h2] at hr
    have ht : tl81At d frm (0 + (frm + 1)) = none := by
      rw [Nat.zero_add]; simp only [tl81At]; rw [if_neg (by simp [h3 frm (by omega) (by omega)])]
    rw [ht, show tl81At d frm 0 = none from rfl] at hr
    simp only [tl81, loopRec, rangesOf, List.nil_append, List.append_nil, List.cons_append, List.getElem?_cons_zero, List.getElem?_cons_succ, Try.f81] at hr
    simp only [h1]
    generalize H x' = G1 at *
    generalize H x = G0 at *
    subst hl
    simp only [go_sem, ↓reduceIte, Nat.reduceEqDiff, Nat.reduceAdd, Nat.reduceLeDiff, Nat.reduceBEq, Nat.reduceMul, Nat.reduceLT, Int.reduceLT, Int.reduceLE, Int.reduceToNat, Int.reduceNeg, Int.reduceEq, Int.reduceMul, reduceCtorEq, fn81, res81, gc81, grow81, ty3, ty4, ty71, ty101, hr, a0, a1, a2, a3, a4]
  · rw [h2] at hr
    have ht : tl81At d frm (i + 1) = some ((frm : Int) - i) := by simp only [tl81At, h3, if_true]
    rw [ht, show tl81At d frm 0 = none from rfl] at hr
    simp only [tl81, loopRec, rangesOf, List.nil_append, List.append_nil, List.cons_append, List.getElem?_cons_zero, List.getElem?_cons_succ, Try.f81] at hr
    simp only [h1]
    generalize H x' = G1 at *
    generalize H x = G0 at *
    subst hl
    simp only [go_sem, ↓reduceIte, Nat.reduceEqDiff, Nat.reduceAdd, Nat.reduceLeDiff, Nat.reduceBEq, Nat.reduceMul, Nat.reduceLT, Int.reduceLT, Int.reduceLE, Int.reduceToNat, Int.reduceNeg, Int.reduceEq, Int.reduceMul, reduceCtorEq, fn81, res81, gc81, grow81, ty3, ty4, ty71, ty101, hr, a0, a1, a2, a3, a4]


variable {H : Heap} {L M : Nat} {vb vt : AV} {s : Stl} {es : List (AV × AV)}

noncomputable def tl60 (h : Nat) (is v7 v0 v1 : AV) (r : Option (Int × Int)) : Heap :=
  match r with
  | none => [.box (.agg [is]), .box (.agg [I 0, I 0]), .box (.bool false), .dfr, .loop (loopRec Try.f60 60 0 [(7, v7), (5, .ptr (h + 2) 0), (4, .ptr (h + 1) 0), (3, .ptr h 0), (0, v0), (1, v1)] (h + 3))]
  | some (x, y) => [.box (.agg [is]), .box (.agg [I x, I y]), .box (.bool true), .dfr, .loop { loopRec Try.f60 60 0 [(7, v7), (5, .ptr (h + 2) 0), (4, .ptr (h + 1) 0), (3, .ptr h 0), (0, v0), (1, v1)] (h + 3) with state := .done, pending := some .ret }]

noncomputable def tl60At (d : Nat → Bool) (f g : Nat → Int) (j : Nat) : Option (Int × Int) :=
  match j with
  | 0 => none
  | i + 1 => if d i then some (f i, g i) else none

theorem f60 (hs : s.Wf) (blk : Int) (b : Blk) (h0 : 0 ≤ blk) (hb : s.bs[blk.toNat]? = some b) (A m : Nat) (hm : m ≤ 60) (n : Nat) (hn : b.s0 + n = b.s1 + 1) (hi : ItOk H L M vb vt s es A blk m) (hg : Good s es) (fi : Fn) (caps : List AV) (d : Nat → Bool)
    (hd : ∀ j es E, callVL cfg0 prog0 false fi [spanAt s blk b m j] caps (H.set M (.map 114 es) ++ E) none = some ⟨.ret (.bool (d j)), H.set M (.map 114 es) ++ E, none⟩) :
    ∃ es' x y, Good s es' ∧ callFL cfg0 prog0 false 60 [.func (.func 93) [] [.ptr A 0, .ptr (A + 1) 0, .ptr (A + 2) 0], .agg [.func fi [] caps]] H none =
      some ⟨.ret (.tup [.agg [I x, I y], .bool (findN d 0 n).isSome]), H.set M (.map 114 es'), none⟩ := by
  obtain ⟨es', hg', hr⟩ := f93 hs blk b h0 hb A m hm (.yield (H.length + 4)) [] []
    (fun j => tl60 H.length (.func fi [] caps) (.func (.func 93) [] [.ptr A 0, .ptr (A + 1) 0, .ptr (A + 2) 0]) (.func (.func 93) [] [.ptr A 0, .ptr (A + 1) 0, .ptr (A + 2) 0]) (.agg [.func fi [] caps]) (tl60At d (fun j => exc s.ts blk (b.x 0) (b.s0 + j) 0 m) (fun j => exc s.ts blk (b.x 1) (b.s0 + j) 1 m) j))
    (H.length + 5) (fun j => by simp only [tl60]; split <;> rfl) (fun j => !d j) n hn (by simp [fnLt]) rfl rfl (by
      intro j es1 E hj hre hg1
      refine ⟨es1, hg1, ?_⟩
      have h0 : tl60At d (fun j => exc s.ts blk (b.x 0) (b.s0 + j) 0 m) (fun j => exc s.ts blk (b.x 1) (b.s0 + j) 1 m) j = none := by
        cases j with
        | zero => rfl
        | succ i =>
          have := hre i (by omega)
          simp only [tl60At]
          rw [if_neg (by simpa using this)]
      have hs := first_step (H.set M (.map 114 es1)) E H.length (by simp) fi caps (exc s.ts blk (b.x 0) (b.s0 + j) 0 m) (exc s.ts blk (b.x 1) (b.s0 + j) 1 m) (d j) (.func (.func 93) [] [.ptr A 0, .ptr (A + 1) 0, .ptr (A + 2) 0]) (.func (.func 93) [] [.ptr A 0, .ptr (A + 1) 0, .ptr (A + 2) 0]) (.agg [.func fi [] caps]) (fun E => hd j es1 E)
      simp only [List.nil_append, h0, tl60, spanAt] at hs ⊢
      rw [hs]
      by_cases hdj : d j = true
      · simp [tl60At, hdj]
      · have hdj : d j = false := by simpa using hdj
        simp [tl60At, hdj]) hi hg
  rw [set_self hi.pl.mp] at hr
  rcases stop_find d n 0 with ⟨h1, h2, h3⟩ | ⟨i, h1, h2, h3, h4, h5, h6⟩
  · refine ⟨es', 0, 0, hg', ?_⟩
    rw [h2] at hr
    have ht : tl60At d (fun j => exc s.ts blk (b.x 0) (b.s0 + j) 0 m) (fun j => exc s.ts blk (b.x 1) (b.s0 + j) 1 m) (0 + n) = none := by
      rw [Nat.zero_add]
      cases n with
      | zero => rfl
      | succ n => simp only [tl60At]; rw [if_neg (by simp [h3 n (by omega) (by omega)])]
    rw [ht, show tl60At d (fun j => exc s.ts blk (b.x 0) (b.s0 + j) 0 m) (fun j => exc s.ts blk (b.x 1) (b.s0 + j) 1 m) 0 = none from rfl] at hr
    simp only [tl60, loopRec, rangesOf, List.nil_append, List.append_nil, List.cons_append, List.getElem?_cons_zero, List.getElem?_cons_succ, Try.f60] at hr
    simp only [h1, Option.isSome_none]
    refine (callFL_eq fn60 rfl (by simp [Try.f60])).trans ?_
    simp only [go_sem, ↓reduceIte, Nat.reduceEqDiff, Nat.reduceAdd, Nat.reduceLeDiff, Nat.reduceBEq, Nat.reduceMul, Nat.reduceLT, Int.reduceLT, Int.reduceLE, Int.reduceToNat, Int.reduceNeg, Int.reduceEq, Int.reduceMul, reduceCtorEq, fn60, res60, gc60, grow60, ty3, ty4, ty29, ty88, ty90, hr]
  · refine ⟨es', exc s.ts blk (b.x 0) (b.s0 + i) 0 m, exc s.ts blk (b.x 1) (b.s0 + i) 1 m, hg', ?_⟩
    rw [h2] at hr
    have ht : tl60At d (fun j => exc s.ts blk (b.x 0) (b.s0 + j) 0 m) (fun j => exc s.ts blk (b.x 1) (b.s0 + j) 1 m) (i + 1) = some (exc s.ts blk (b.x 0) (b.s0 + i) 0 m, exc s.ts blk (b.x 1) (b.s0 + i) 1 m) := by simp only [tl60At, h3, if_true]
    rw [ht, show tl60At d (fun j => exc s.ts blk (b.x 0) (b.s0 + j) 0 m) (fun j => exc s.ts blk (b.x 1) (b.s0 + j) 1 m) 0 = none from rfl] at hr
    simp only [tl60, loopRec, rangesOf, List.nil_append, List.append_nil, List.cons_append, List.getElem?_cons_zero, List.getElem?_cons_succ, Try.f60] at hr
    simp only [h1, Option.isSome_some]
    refine (callFL_eq fn60 rfl (by simp [Try.f60])).trans ?_
    simp only [go_sem, ↓reduceIte, Nat.reduceEqDiff, Nat.reduceAdd, Nat.reduceLeDiff, Nat.reduceBEq, Nat.reduceMul, Nat.reduceLT, Int.reduceLT, Int.reduceLE, Int.reduceToNat, Int.reduceNeg, Int.reduceEq, Int.reduceMul, reduceCtorEq, fn60, res60, gc60, grow60, ty3, ty4, ty29, ty88, ty90, hr]

theorem f61 (hp : PlOk H L M vb vt s es) (hn : 0 ≤ s.near ∧ s.near ≤ 20) (P : Nat) (hP : H[P]? = some (.box (.ptr L 0))) (x y : Int) : callFL cfg0 prog0 false 61 [.agg [I x, I y], .ptr P 0] H none = some ⟨.ret (.bool (decide (x ≤ s.near) && decide (-s.near ≤ y))), H, none⟩ := by
  have hPl : P < H.length := (List.getElem?_eq_some_iff.1 hP).1
  have e1 : IntKind.i64.wrap (0 - s.near) = -s.near := by rw [w64 (by omega) (by omega)]; omega
  refine (callFL_eq fn61 rfl (by simp [Try.f61])).trans ?_
  simp only [go_sem, ↓reduceIte, Nat.reduceEqDiff, Nat.reduceAdd, Nat.reduceLeDiff, Nat.reduceBEq, Nat.reduceMul, Nat.reduceLT, Int.reduceLT, Int.reduceLE, Int.reduceToNat, Int.reduceNeg, Int.reduceEq, Int.reduceMul, reduceCtorEq, fn61, res61, gc61, grow61, ty3, ty22, ty23, ty25, ty29, ty56, ty63, ty69, ty80, ty82, ty83, ty114, plan61_1]
  rw [chkK_of]; rotate_left; kernel_rfl
  by_cases h1 : x ≤ s.near <;> simp only [go_sem, ↓reduceIte, Nat.reduceEqDiff, Nat.reduceAdd, Nat.reduceLeDiff, Nat.reduceBEq, Nat.reduceMul, Nat.reduceLT, Int.reduceLT, Int.reduceLE, Int.reduceToNat, Int.reduceNeg, Int.reduceEq, Int.reduceMul, reduceCtorEq, fn61, res61, gc61, grow61, ty3, ty22, ty23, ty25, ty29, ty56, ty63, ty69, ty80, ty82, ty83, ty114, plan61_1, get_lt hPl, hP, get_lt hp.hL, hp.box, h1, e1]

theorem f99 (hs : s.Wf) (blk : Int) (b : Blk) (h0 : 0 ≤ blk) (hb : s.bs[blk.toNat]? = some b) (m : Nat) (hm : m ≤ 60) (hp : PlOk H L M vb vt s es) (hg : Good s es) (A B : Nat) (hA : H[A]? = some (.box (.ptr L 0))) (hB : H[B]? = some (.box (I blk))) :
    ∃ es', Good s es' ∧ callFL cfg0 prog0 false 99 [I m, .ptr A 0, .ptr B 0] H none = some ⟨.ret (.bool (!settl s blk b m)), H.set M (.map 114 es'), none⟩ := by
  obtain ⟨es', hg', hr⟩ := f59 hs blk b h0 hb m hm hp hg
  refine ⟨es', hg', ?_⟩
  refine (callFL_eq fn99 rfl (by simp [Try.f99])).trans ?_
  simp only [go_sem, ↓reduceIte, Nat.reduceEqDiff, Nat.reduceAdd, Nat.reduceLeDiff, Nat.reduceBEq, Nat.reduceMul, Nat.reduceLT, Int.reduceLT, Int.reduceLE, Int.reduceToNat, Int.reduceNeg, Int.reduceEq, Int.reduceMul, reduceCtorEq, fn99, res99, gc99, grow99, ty3, ty69, hA, hB, hr]

/-- From when on a block surely has settled, if so. -/
def whenR (s : Stl) (blk : Int) (b : Blk) : Option Int :=
  match findN (fun j => !settl s blk b (s.last.toNat - j)) 0 (s.last.toNat + 1) with
  | none => some 0
  | some i => if s.last - i < s.last then some (s.last - i + 1) else none

theorem f66 (hs : s.Wf) (blk : Int) (b : Blk) (h0 : 0 ≤ blk) (hb : s.bs[blk.toNat]? = some b) (hp : PlOk H L M vb vt s es) (hg : Good s es) :
    ∃ es', Good s es' ∧ callFL cfg0 prog0 false 66 [.ptr L 0, I blk] H none = some ⟨match whenR s blk b with | some w => .ret (I w) | none => .pan (.iface 109 (.agg [I 4])), H.set M (.map 114 es'), none⟩ := by
  obtain ⟨l, hl⟩ : ∃ l : Nat, s.last = l := ⟨s.last.toNat, by have := hs.last; omega⟩
  have hlb := hs.last
  have hL := hp.hL
  have hM := hp.hM
  obtain ⟨es', hg', hr⟩ := f81 (fun es => H.set M (.map 114 es) ++ [.box (.ptr L 0), .box (I blk), .box (I s.last)]) (Good s) (H.length + 3) (H.length + 2) l (.func 99) [.ptr H.length 0, .ptr (H.length + 1) 0] (fun j => !settl s blk b (l - j))
    (fun es => by simp) (fun es => by simp only [get_atS', hl]; rfl) (by omega) rfl (by simp [ltL, AV.lt]; omega) (by
      intro j es1 E hj hg1
      have hpl := ((hp.set es1).app [.box (.ptr L 0), .box (I blk), .box (I s.last)]).app E
      have hM1 : M < (H.set M (.map 114 es1)).length := by simpa using hM
      obtain ⟨es2, hg2, h2⟩ := f99 hs blk b h0 hb (l - j) (by omega) hpl hg1 H.length (H.length + 1) (by rw [List.append_assoc, get_atS]; rfl) (by rw [List.append_assoc, get_atS']; rfl)
      refine ⟨es2, hg2, ?_⟩
      rw [callVL_func, show (l : Int) - j = ((l - j : Nat) : Int) by omega]
      refine h2.trans ?_
      rw [List.append_assoc, set_lt hM1, List.set_set, List.append_assoc]) es hg
  refine ⟨es', hg', ?_⟩
  rw [set_self hp.mp] at hr
  have h82 := f82 s.last (H ++ [.box (.ptr L 0), .box (I blk)])
  simp only [pl4, List.append_assoc, List.cons_append, List.nil_append, List.append_nil, List.length_append, List.length_cons, List.length_nil, Nat.zero_add, Nat.add_zero, Nat.add_assoc, Nat.reduceAdd, set_at, set_at', List.set_cons_zero, List.set_cons_succ] at h82
  have hL' : L < (H.set M (.map 114 es')).length := by simpa using hL
  have hbx := (hp.set es').box
  have hbo := hp.box
  simp only [hl] at h82 hr hbx hbo
  simp only [whenR, hl, Int.toNat_natCast]
  refine (callFL_eq fn66 rfl (by simp [Try.f66])).trans ?_
  cases hf : findN (fun j => !settl s blk b (l - j)) 0 (l + 1) with
  | none =>
    rw [hf] at hr
    simp only [go_sem, ↓reduceIte, Nat.reduceEqDiff, Nat.reduceAdd, Nat.reduceLeDiff, Nat.reduceBEq, Nat.reduceMul, Nat.reduceLT, Int.reduceLT, Int.reduceLE, Int.reduceToNat, Int.reduceNeg, Int.reduceEq, Int.reduceMul, reduceCtorEq, fn66, res66, gc66, grow66, ty3, ty4, ty22, ty23, ty25, ty29, ty30, ty56, ty63, ty69, ty71, ty80, ty82, ty83, ty97, ty101, ty114, get_lt hL, hbo, h82, hr]
  | some i =>
    rw [hf] at hr
    have hil : i ≤ l := by
      rcases stop_find (fun j => !settl s blk b (l - j)) (l + 1) 0 with ⟨h1, _⟩ | ⟨i', h1, _, _, _, h5, _⟩
      · rw [h1] at hf; cases hf
      · rw [h1] at hf; cases hf; omega
    have e1 : IntKind.i64.wrap ((l : Int) - i + 1) = (l : Int) - i + 1 := w64 (by omega) (by omega)
    by_cases hlt : (l : Int) - i < l
    · simp only [go_sem, ↓reduceIte, Nat.reduceEqDiff, Nat.reduceAdd, Nat.reduceLeDiff, Nat.reduceBEq, Nat.reduceMul, Nat.reduceLT, Int.reduceLT, Int.reduceLE, Int.reduceToNat, Int.reduceNeg, Int.reduceEq, Int.reduceMul, reduceCtorEq, fn66, res66, gc66, grow66, ty3, ty4, ty22, ty23, ty25, ty29, ty30, ty56, ty63, ty69, ty71, ty80, ty82, ty83, ty97, ty101, ty114, get_lt hL, hbo, h82, hr, get_lt hL', hbx, hl, f85t, f85f, hlt, e1]
    · simp only [go_sem, ↓reduceIte, Nat.reduceEqDiff, Nat.reduceAdd, Nat.reduceLeDiff, Nat.reduceBEq, Nat.reduceMul, Nat.reduceLT, Int.reduceLT, Int.reduceLE, Int.reduceToNat, Int.reduceNeg, Int.reduceEq, Int.reduceMul, reduceCtorEq, fn66, res66, gc66, grow66, ty3, ty4, ty22, ty23, ty25, ty29, ty30, ty56, ty63, ty69, ty71, ty80, ty82, ty83, ty97, ty101, ty114, get_lt hL, hbo, h82, hr, get_lt hL', hbx, hl, f85t, f85f, hlt, e1]

end Go.Ab
