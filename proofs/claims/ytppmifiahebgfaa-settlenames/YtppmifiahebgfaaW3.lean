/-
  The layer settle: what is yielded, and what is looked for.
-/
import Derived.Test.YtppmifiahebgfaaW2
namespace Go.Ab
open Go.Proofs
set_option linter.unusedSimpArgs false
set_option linter.unusedVariables false

variable {H : Heap} {L M : Nat} {vb vt : AV} {s : Stl} {es : List (AV × AV)}

theorem PlOk.hL (hp : PlOk H L M vb vt s es) : L < H.length := (List.getElem?_eq_some_iff.1 hp.box).1
theorem PlOk.hM (hp : PlOk H L M vb vt s es) : M < H.length := (List.getElem?_eq_some_iff.1 hp.mp).1
theorem PlOk.ne (hp : PlOk H L M vb vt s es) : M ≠ L := by
  rintro rfl
  have h1 := hp.box
  rw [hp.mp] at h1
  cases h1

theorem PlOk.app (hp : PlOk H L M vb vt s es) (G : Heap) : PlOk (H ++ G) L M vb vt s es :=
  ⟨by rw [get_lt hp.hL]; exact hp.box, by rw [get_lt hp.hM]; exact hp.mp, hp.bs.app _, hp.ts.app _⟩

theorem SlOk.setM {sz : Nat} {v : AV} {xs : List AV} (h : SlOk H sz v xs) (hm : H[M]? = some (.map 114 es)) (o : AO) : SlOk (H.set M o) sz v xs := by
  obtain ⟨h1, h2⟩ := h
  refine ⟨?_, h2⟩
  cases v <;> simp only at h1 ⊢
  · exact h1
  · rename_i l n
    refine ⟨?_, h1.2⟩
    rw [List.getElem?_set_ne]
    · exact h1.1
    · rintro rfl
      rw [hm] at h1
      cases h1.1

theorem PlOk.set (hp : PlOk H L M vb vt s es) (es' : List (AV × AV)) : PlOk (H.set M (.map 114 es')) L M vb vt s es' :=
  ⟨by rw [List.getElem?_set_ne hp.ne]; exact hp.box, List.getElem?_set_self hp.hM, hp.bs.setM hp.mp _, hp.ts.setM hp.mp _⟩

theorem f12 (near last : Int) (vb vt : AV) (nb nt : Nat) (H : Heap) (h1 : evLen vb = some (I nb)) (h2 : evLen vt = some (I nt)) (s1 : vb.scalar = true) (s2 : vt.scalar = true) :
    callFL cfg0 prog0 false 12 [.agg [vb, I near, I last, vt]] H none = some ⟨.ret (.bool (decide (40 < (if (nb : Int) < nt then (nt : Int) else nb)))), H, none⟩ := by
  refine (callFL_eq fn12 rfl (by simp [Try.f12])).trans ?_
  simp only [go_sem, ↓reduceIte, Nat.reduceEqDiff, Nat.reduceAdd, Nat.reduceLeDiff, Nat.reduceBEq, Nat.reduceMul, Nat.reduceLT, Int.reduceLT, Int.reduceLE, Int.reduceToNat, Int.reduceNeg, Int.reduceEq, Int.reduceMul, reduceCtorEq, fn12, res12, gc12, grow12, ty3, ty22, ty23, ty25, ty29, ty56, ty63, h1, h2, s1, s2]

theorem f44 (hp : PlOk H L M vb vt s es) (n : Int) (hl : s.bs.length ≤ 1000) : callFL cfg0 prog0 false 44 [.ptr L 0, I n] H none = some ⟨.ret (.bool (decide (0 ≤ n) && decide (n ≤ (s.bs.length : Int) - 1))), H, none⟩ := by
  have e1 : IntKind.i64.wrap ((s.bs.length : Int) - 1) = (s.bs.length : Int) - 1 := w64 (by omega) (by omega)
  refine (callFL_eq fn44 rfl (by simp [Try.f44])).trans ?_
  simp only [go_sem, ↓reduceIte, Nat.reduceEqDiff, Nat.reduceAdd, Nat.reduceLeDiff, Nat.reduceBEq, Nat.reduceMul, Nat.reduceLT, Int.reduceLT, Int.reduceLE, Int.reduceToNat, Int.reduceNeg, Int.reduceEq, Int.reduceMul, reduceCtorEq, fn44, res44, gc44, grow44, ty3, ty22, ty23, ty25, ty29, ty56, ty63, ty80, ty82, ty83, ty114, hp.box, hp.bs.len, List.length_map, e1, f74]

theorem f45 (hp : PlOk H L M vb vt s es) (n : Int) : callFL cfg0 prog0 false 45 [.ptr L 0, I n] H none = some ⟨.ret (.bool (decide (0 ≤ n) && decide (n ≤ s.last))), H, none⟩ := by
  refine (callFL_eq fn45 rfl (by simp [Try.f45])).trans ?_
  simp only [go_sem, ↓reduceIte, Nat.reduceEqDiff, Nat.reduceAdd, Nat.reduceLeDiff, Nat.reduceBEq, Nat.reduceMul, Nat.reduceLT, Int.reduceLT, Int.reduceLE, Int.reduceToNat, Int.reduceNeg, Int.reduceEq, Int.reduceMul, reduceCtorEq, fn45, res45, gc45, grow45, ty3, ty22, ty23, ty25, ty29, ty56, ty63, ty80, ty82, ty83, ty114, hp.box, f74]

theorem f92 (near last : Int) (vb vt : AV) (H : Heap) (s1 : vb.scalar = true) (s2 : vt.scalar = true) :
    callFL cfg0 prog0 false 92 [.agg [vb, I near, I last, vt]] H none = some ⟨.ret (.ptr (H.length + 2) 0), H ++ [.box (.agg [vb, I near, I last, vt]), .map 114 [], .box (.agg [vb, I near, I last, vt, .map (H.length + 1)])], none⟩ := by
  refine (callFL_eq fn92 rfl (by simp [Try.f92])).trans ?_
  simp only [go_sem, ↓reduceIte, Nat.reduceEqDiff, Nat.reduceAdd, Nat.reduceLeDiff, Nat.reduceBEq, Nat.reduceMul, Nat.reduceLT, Int.reduceLT, Int.reduceLE, Int.reduceToNat, Int.reduceNeg, Int.reduceEq, Int.reduceMul, reduceCtorEq, fn92, res92, gc92, grow92, ty3, ty22, ty23, ty25, ty29, ty56, ty63, ty80, ty82, ty83, ty114, s1, s2]

theorem f47 (blk m : Int) (hL : L < H.length) : callFL cfg0 prog0 false 47 [.ptr L 0, I blk, I m] H none = some ⟨.ret (.func (.func 93) [] [.ptr H.length 0, .ptr (H.length + 1) 0, .ptr (H.length + 2) 0]), H ++ [.box (.ptr L 0), .box (I blk), .box (I m)], none⟩ := by
  refine (callFL_eq fn47 rfl (by simp [Try.f47])).trans ?_
  simp only [go_sem, ↓reduceIte, Nat.reduceEqDiff, Nat.reduceAdd, Nat.reduceLeDiff, Nat.reduceBEq, Nat.reduceMul, Nat.reduceLT, Int.reduceLT, Int.reduceLE, Int.reduceToNat, Int.reduceNeg, Int.reduceEq, Int.reduceMul, reduceCtorEq, fn47, res47, gc47, grow47, ty3, ty69]


/-- What 'spans' yields: one span for each number that tells how slow the block can be. -/
def spanAt (s : Stl) (blk : Int) (b : Blk) (m : Nat) (j : Nat) : AV := .agg [I (exc s.ts blk (b.x 0) (b.s0 + j) 0 m), I (exc s.ts blk (b.x 1) (b.s0 + j) 1 m)]

/-- The frame of a plate and of what 'spans' keeps: in a heap. -/
structure ItOk (H : Heap) (L M : Nat) (vb vt : AV) (s : Stl) (es : List (AV × AV)) (A : Nat) (blk : Int) (m : Nat) : Prop where
  pl : PlOk H L M vb vt s es
  a : H[A]? = some (.box (.ptr L 0))
  b : H[A + 1]? = some (.box (I blk))
  c : H[A + 2]? = some (.box (I m))

theorem ItOk.set {A m : Nat} {blk : Int} (h : ItOk H L M vb vt s es A blk m) (es' : List (AV × AV)) : ItOk (H.set M (.map 114 es')) L M vb vt s es' A blk m := by
  have hne : ∀ {l : Nat} {v : AV}, H[l]? = some (.box v) → (H.set M (.map 114 es'))[l]? = some (.box v) := by
    intro l v hl
    rw [List.getElem?_set_ne]
    · exact hl
    · rintro rfl
      rw [h.pl.mp] at hl
      cases hl
  exact ⟨h.pl.set es', hne h.a, hne h.b, hne h.c⟩

theorem ItOk.app {A m : Nat} {blk : Int} (h : ItOk H L M vb vt s es A blk m) (G : Heap) : ItOk (H ++ G) L M vb vt s es A blk m :=
  ⟨h.pl.app G, by rw [get_lt (List.getElem?_eq_some_iff.1 h.a).1]; exact h.a, by rw [get_lt (List.getElem?_eq_some_iff.1 h.b).1]; exact h.b, by rw [get_lt (List.getElem?_eq_some_iff.1 h.c).1]; exact h.c⟩

theorem reach {c : Nat → Bool} {j : Nat} (h : ∀ i, i < j → c i = true) (hj : c j = true) : ∀ i, i < j + 1 → c i = true := by
  intro i hi
  rcases Nat.lt_or_ge i j with h1 | h1
  · exact h i h1
  · have : i = j := by omega
    subst this; exact hj

theorem f93_loop (hs : s.Wf) (blk : Int) (b : Blk) (h0 : 0 ≤ blk) (hb : s.bs[blk.toNat]? = some b) (A m : Nat) (hm : m ≤ 60) (fy : Fn) (first cap : List AV) (T : Nat → Heap) (b0 : Nat) (hT : ∀ j, H.length + (T j).length = b0) (c : Nat → Bool) (n : Nat) (hn : b.s0 + n = b.s1 + 1)
    (hfy : fnLt b0 fy = true) (hf1 : ltL b0 first = true) (hf2 : ltL b0 cap = true)
    (hstep : ∀ j es E, j < n → (∀ i, i < j → c i = true) → Good s es → ∃ es', Good s es' ∧ callVL cfg0 prog0 false fy (first ++ [spanAt s blk b m j]) cap (H.set M (.map 114 es) ++ (T j ++ E)) none = some ⟨.ret (.bool (c j)), H.set M (.map 114 es') ++ (T (j + 1) ++ E), none⟩)
    (hi : ItOk H L M vb vt s es A blk m) : ∀ (q j : Nat) (es1 : List (AV × AV)), j + q = n → (∀ i, i < j → c i = true) → Good s es1 →
    ∃ es' E', Good s es' ∧ ∀ (E : Heap) (e : Env), e.get 0 = .func fy first cap → e.get 1 = .ptr A 0 → e.get 2 = .ptr (A + 1) 0 → e.get 3 = .ptr (A + 2) 0 → e.get 5 = I (b.s0 + j) →
     execL cfg0 prog0 ⟨93, none, false, b0⟩ (todoAt Try.f93 1) ⟨e, [], H.set M (.map 114 es1) ++ (T j ++ E), none⟩ = some ⟨.ret (.tup []), H.set M (.map 114 es') ++ (T (stopAt c j q) ++ E'), none⟩ := by
  intro q
  have hbo := hs.bs b (List.mem_of_getElem? hb)
  induction q with
  | zero =>
    intro j es1 hj hre hg
    refine ⟨es1, [], hg, ?_⟩
    intro E e g0 g1 g2 g3 g5
    have hiG := (hi.set es1).app (T j)
    rw [← List.append_assoc, List.append_nil]
    generalize hG : H.set M (.map 114 es1) ++ T j = G at *
    have hlen : G.length = b0 := by rw [← hG, ← hT j]; simp
    subst hlen
    have A1 := (List.getElem?_eq_some_iff.1 hiG.a).1
    have B1 := (List.getElem?_eq_some_iff.1 hiG.b).1
    have C1 := (List.getElem?_eq_some_iff.1 hiG.c).1
    obtain ⟨a1, a2, a3, a4, a5⟩ := hiG.pl.bs.at (k := blk) (x := Blk.av b) h0 (by simp [hb])
    have hc : ¬ b.s0 + (j : Int) ≤ b.s1 := by omega
    simp only [loopIt, todoPast, todoAt, todoOf, firstReg, ↓reduceIte, Option.some.injEq, Nat.reduceEqDiff, reduceCtorEq, Try.f93]
    rw [execL_inLoop]
    simp only [go_sem, ↓reduceIte, Nat.reduceEqDiff, Nat.reduceAdd, Nat.reduceLeDiff, Nat.reduceBEq, Nat.reduceMul, Nat.reduceLT, Int.reduceLT, Int.reduceLE, Int.reduceToNat, Int.reduceNeg, Int.reduceEq, Int.reduceMul, reduceCtorEq, fn93, res93, gc93_0, gc93_1, gc93_3, gc93_4, gc93_2, gcSt, keepEnv, envLt, heapLt, dfrLt, ADefer.lt, grow93, ty3, ty22, ty23, ty25, ty29, ty56, ty63, ty69, ty80, ty82, ty83, ty114, plan93_0, plan93_1, plan93_3, g0, g1, g2, g3, g5, hfy, hf1, hf2, A1, B1, C1]
    rw [chkK_of]; rotate_left; kernel_rfl
    simp only [go_sem, ↓reduceIte, Nat.reduceEqDiff, Nat.reduceAdd, Nat.reduceLeDiff, Nat.reduceBEq, Nat.reduceMul, Nat.reduceLT, Int.reduceLT, Int.reduceLE, Int.reduceToNat, Int.reduceNeg, Int.reduceEq, Int.reduceMul, reduceCtorEq, fn93, res93, gc93_0, gc93_1, gc93_3, gc93_4, gc93_2, gcSt, keepEnv, envLt, heapLt, dfrLt, ADefer.lt, grow93, ty3, ty22, ty23, ty25, ty29, ty56, ty63, ty69, ty80, ty82, ty83, ty114, plan93_0, plan93_1, plan93_3, hiG.a, hiG.b, hiG.c, hiG.pl.box, a1, a2, a3, Blk.av, hc, stopAt]
    rw [← hG]
  | succ q ih =>
    intro j es1 hj hre hg
    have hiG := (hi.set es1).app (T j)
    generalize hG : H.set M (.map 114 es1) ++ T j = G at *
    have hlen : G.length = b0 := by rw [← hG, ← hT j]; simp
    have A1 := (List.getElem?_eq_some_iff.1 hiG.a).1
    have B1 := (List.getElem?_eq_some_iff.1 hiG.b).1
    have C1 := (List.getElem?_eq_some_iff.1 hiG.c).1
    have hM := hiG.pl.hM
    obtain ⟨es2, hg2, hc2⟩ := f94 L M vb vt s hs blk (b.s0 + j) 0 b h0 hb (by have := hbo.a4; have := hbo.a6; omega) (.inl rfl) m (G ++ [.box (.agg [I 0, I 0])]) es1 (by omega) (hiG.pl.app _) hg
    obtain ⟨es3, hg3, hc3⟩ := f94 L M vb vt s hs blk (b.s0 + j) 1 b h0 hb (by have := hbo.a4; have := hbo.a6; omega) (.inr rfl) m (G.set M (.map 114 es2) ++ [.box (.agg [I 0, I 0])]) es2 (by omega) ((hiG.pl.set es2).app _) hg2
    rw [set_lt hM] at hc2
    rw [set_lt (show M < (G.set M (.map 114 es2)).length by simpa using hM), List.set_set] at hc3
    have hi2 := hiG.set es2
    have hi3 := hiG.set es3
    have A2 := (List.getElem?_eq_some_iff.1 hi2.a).1
    have B2 := (List.getElem?_eq_some_iff.1 hi2.b).1
    have C2 := (List.getElem?_eq_some_iff.1 hi2.c).1
    obtain ⟨es4, hg4, hc4⟩ := hstep j es3 [.box (spanAt s blk b m j)] (by omega) hre hg3
    have hM2 : M < (G.set M (.map 114 es2)).length := by simpa using hM
    have hMH : M < (H.set M (.map 114 es1)).length := by simpa using hi.pl.hM
    rw [← List.append_assoc, show H.set M (.map 114 es3) ++ T j = G.set M (.map 114 es3) by rw [← hG, set_lt hMH, List.set_set]] at hc4
    simp only [spanAt] at hc4
    have hk1 : b.s0 + (j : Int) ≤ b.s1 := by omega
    have e1 : IntKind.i64.wrap (b.s0 + (j : Int) + 1) = b.s0 + ((j + 1 : Nat) : Int) := by
      have := hbo.a4; have := hbo.a6
      rw [w64 (by omega) (by omega)]; omega
    obtain ⟨a1, a2, a3, a4, a5⟩ := hiG.pl.bs.at (k := blk) (x := Blk.av b) h0 (by simp [hb])
    cases hcj : c j with
    | false =>
      refine ⟨es4, [.box (spanAt s blk b m j)], hg4, ?_⟩
      intro E e g0 g1 g2 g3 g5
      rw [← List.append_assoc, hG]
      subst hlen
      simp only [loopIt, todoPast, todoAt, todoOf, firstReg, ↓reduceIte, Option.some.injEq, Nat.reduceEqDiff, reduceCtorEq, Try.f93]
      rw [execL_inLoop]
      simp only [go_sem, ↓reduceIte, Nat.reduceEqDiff, Nat.reduceAdd, Nat.reduceLeDiff, Nat.reduceBEq, Nat.reduceMul, Nat.reduceLT, Int.reduceLT, Int.reduceLE, Int.reduceToNat, Int.reduceNeg, Int.reduceEq, Int.reduceMul, reduceCtorEq, fn93, res93, gc93_0, gc93_1, gc93_3, gc93_4, gc93_2, gcSt, keepEnv, envLt, heapLt, dfrLt, ADefer.lt, grow93, ty3, ty22, ty23, ty25, ty29, ty56, ty63, ty69, ty80, ty82, ty83, ty114, plan93_0, plan93_1, plan93_3, g0, g1, g2, g3, g5, hfy, hf1, hf2, A1, B1, C1]
      rw [chkK_of]; rotate_left; kernel_rfl
      simp only [go_sem, ↓reduceIte, Nat.reduceEqDiff, Nat.reduceAdd, Nat.reduceLeDiff, Nat.reduceBEq, Nat.reduceMul, Nat.reduceLT, Int.reduceLT, Int.reduceLE, Int.reduceToNat, Int.reduceNeg, Int.reduceEq, Int.reduceMul, reduceCtorEq, fn93, res93, gc93_0, gc93_1, gc93_3, gc93_4, gc93_2, gcSt, keepEnv, envLt, heapLt, dfrLt, ADefer.lt, grow93, ty3, ty22, ty23, ty25, ty29, ty56, ty63, ty69, ty80, ty82, ty83, ty114, plan93_0, plan93_1, plan93_3, hiG.a, hiG.b, hiG.c, hiG.pl.box, a1, a2, a3, Blk.av, hk1]
      rw [chkK_of]; rotate_left; kernel_rfl
      simp only [go_sem, ↓reduceIte, Nat.reduceEqDiff, Nat.reduceAdd, Nat.reduceLeDiff, Nat.reduceBEq, Nat.reduceMul, Nat.reduceLT, Int.reduceLT, Int.reduceLE, Int.reduceToNat, Int.reduceNeg, Int.reduceEq, Int.reduceMul, reduceCtorEq, fn93, res93, gc93_0, gc93_1, gc93_3, gc93_4, gc93_2, gcSt, keepEnv, envLt, heapLt, dfrLt, ADefer.lt, grow93, ty3, ty22, ty23, ty25, ty29, ty56, ty63, ty69, ty80, ty82, ty83, ty114, plan93_0, plan93_1, plan93_3, hiG.a, hiG.b, hiG.c, hi2.a, hi2.b, hi2.c, get_lt A1, get_lt B1, get_lt C1, get_lt A2, get_lt B2, get_lt C2, hc2, hc3, hc4, hcj, stopAt]
      rfl
    | true =>
      obtain ⟨es', E', hg', hih⟩ := ih (j + 1) es4 (by omega) (reach hre hcj) hg4
      refine ⟨es', E', hg', ?_⟩
      intro E e g0 g1 g2 g3 g5
      rw [← List.append_assoc, hG]
      subst hlen
      simp only [loopIt, todoPast, todoAt, todoOf, firstReg, ↓reduceIte, Option.some.injEq, Nat.reduceEqDiff, reduceCtorEq, Try.f93]
      rw [execL_inLoop]
      simp only [go_sem, ↓reduceIte, Nat.reduceEqDiff, Nat.reduceAdd, Nat.reduceLeDiff, Nat.reduceBEq, Nat.reduceMul, Nat.reduceLT, Int.reduceLT, Int.reduceLE, Int.reduceToNat, Int.reduceNeg, Int.reduceEq, Int.reduceMul, reduceCtorEq, fn93, res93, gc93_0, gc93_1, gc93_3, gc93_4, gc93_2, gcSt, keepEnv, envLt, heapLt, dfrLt, ADefer.lt, grow93, ty3, ty22, ty23, ty25, ty29, ty56, ty63, ty69, ty80, ty82, ty83, ty114, plan93_0, plan93_1, plan93_3, g0, g1, g2, g3, g5, hfy, hf1, hf2, A1, B1, C1]
      rw [chkK_of]; rotate_left; kernel_rfl
      simp only [go_sem, ↓reduceIte, Nat.reduceEqDiff, Nat.reduceAdd, Nat.reduceLeDiff, Nat.reduceBEq, Nat.reduceMul, Nat.reduceLT, Int.reduceLT, Int.reduceLE, Int.reduceToNat, Int.reduceNeg, Int.reduceEq, Int.reduceMul, reduceCtorEq, fn93, res93, gc93_0, gc93_1, gc93_3, gc93_4, gc93_2, gcSt, keepEnv, envLt, heapLt, dfrLt, ADefer.lt, grow93, ty3, ty22, ty23, ty25, ty29, ty56, ty63, ty69, ty80, ty82, ty83, ty114, plan93_0, plan93_1, plan93_3, hiG.a, hiG.b, hiG.c, hiG.pl.box, a1, a2, a3, Blk.av, hk1]
      rw [chkK_of]; rotate_left; kernel_rfl
      simp only [go_sem, ↓reduceIte, Nat.reduceEqDiff, Nat.reduceAdd, Nat.reduceLeDiff, Nat.reduceBEq, Nat.reduceMul, Nat.reduceLT, Int.reduceLT, Int.reduceLE, Int.reduceToNat, Int.reduceNeg, Int.reduceEq, Int.reduceMul, reduceCtorEq, fn93, res93, gc93_0, gc93_1, gc93_3, gc93_4, gc93_2, gcSt, keepEnv, envLt, heapLt, dfrLt, ADefer.lt, grow93, ty3, ty22, ty23, ty25, ty29, ty56, ty63, ty69, ty80, ty82, ty83, ty114, plan93_0, plan93_1, plan93_3, hiG.a, hiG.b, hiG.c, hi2.a, hi2.b, hi2.c, get_lt A1, get_lt B1, get_lt C1, get_lt A2, get_lt B2, get_lt C2, hc2, hc3, hc4, hcj, stopAt, e1]
      exact hih _ _ (by rfl) (by rfl) (by rfl) (by rfl) (by rfl)

theorem f93 (hs : s.Wf) (blk : Int) (b : Blk) (h0 : 0 ≤ blk) (hb : s.bs[blk.toNat]? = some b) (A m : Nat) (hm : m ≤ 60) (fy : Fn) (first cap : List AV) (T : Nat → Heap) (b0 : Nat) (hT : ∀ j, H.length + (T j).length = b0) (c : Nat → Bool) (n : Nat) (hn : b.s0 + n = b.s1 + 1)
    (hfy : fnLt b0 fy = true) (hf1 : ltL b0 first = true) (hf2 : ltL b0 cap = true)
    (hstep : ∀ j es E, j < n → (∀ i, i < j → c i = true) → Good s es → ∃ es', Good s es' ∧ callVL cfg0 prog0 false fy (first ++ [spanAt s blk b m j]) cap (H.set M (.map 114 es) ++ (T j ++ E)) none = some ⟨.ret (.bool (c j)), H.set M (.map 114 es') ++ (T (j + 1) ++ E), none⟩)
    (hi : ItOk H L M vb vt s es A blk m) (hg : Good s es) :
    ∃ es', Good s es' ∧ callFL cfg0 prog0 false 93 [.func fy first cap, .ptr A 0, .ptr (A + 1) 0, .ptr (A + 2) 0] (H.set M (.map 114 es) ++ T 0) none = some ⟨.ret (.tup []), H.set M (.map 114 es') ++ T (stopAt c 0 n), none⟩ := by
  obtain ⟨es', E', hg', hr⟩ := f93_loop hs blk b h0 hb A m hm fy first cap T b0 hT c n hn hfy hf1 hf2 hstep hi n 0 es (by omega) (fun i hi' => by omega) hg
  refine ⟨es', hg', ?_⟩
  have hiG := (hi.set es).app (T 0)
  have hlen2 : (H.set M (.map 114 es') ++ T (stopAt c 0 n)).length = b0 := by rw [← hT (stopAt c 0 n)]; simp
  have hr := hr []
  rw [List.append_nil] at hr
  generalize hG : H.set M (.map 114 es) ++ T 0 = G at *
  have hlen : G.length = b0 := by rw [← hG, ← hT 0]; simp
  have A1 := (List.getElem?_eq_some_iff.1 hiG.a).1
  have B1 := (List.getElem?_eq_some_iff.1 hiG.b).1
  have C1 := (List.getElem?_eq_some_iff.1 hiG.c).1
  obtain ⟨a1, a2, a3, a4, a5⟩ := hiG.pl.bs.at (k := blk) (x := Blk.av b) h0 (by simp [hb])
  refine (callFL_eq fn93 rfl (by simp [Try.f93])).trans ?_
  simp only [go_sem, ↓reduceIte, Nat.reduceEqDiff, Nat.reduceAdd, Nat.reduceLeDiff, Nat.reduceBEq, Nat.reduceMul, Nat.reduceLT, Int.reduceLT, Int.reduceLE, Int.reduceToNat, Int.reduceNeg, Int.reduceEq, Int.reduceMul, reduceCtorEq, fn93, res93, gc93_0, gc93_1, gc93_3, gc93_4, gc93_2, gcSt, keepEnv, envLt, heapLt, dfrLt, ADefer.lt, grow93, ty3, ty22, ty23, ty25, ty29, ty56, ty63, ty69, ty80, ty82, ty83, ty114, plan93_0, plan93_1, plan93_3]
  rw [chkK_of]; rotate_left; kernel_rfl
  simp only [go_sem, ↓reduceIte, Nat.reduceEqDiff, Nat.reduceAdd, Nat.reduceLeDiff, Nat.reduceBEq, Nat.reduceMul, Nat.reduceLT, Int.reduceLT, Int.reduceLE, Int.reduceToNat, Int.reduceNeg, Int.reduceEq, Int.reduceMul, reduceCtorEq, fn93, res93, gc93_0, gc93_1, gc93_3, gc93_4, gc93_2, gcSt, keepEnv, envLt, heapLt, dfrLt, ADefer.lt, grow93, ty3, ty22, ty23, ty25, ty29, ty56, ty63, ty69, ty80, ty82, ty83, ty114, plan93_0, plan93_1, plan93_3, hiG.a, hiG.b, hiG.c, hiG.pl.box, a1, a2, a3, Blk.av]
  subst hlen
  refine (congrArg (Option.map _) (hr _ (by rfl) (by rfl) (by rfl) (by rfl) (by simp [Env.get]))).trans ?_
  rw [← List.append_assoc]
  generalize hG2 : H.set M (.map 114 es') ++ T (stopAt c 0 n) = G2 at *
  simp only [go_sem, ↓reduceIte, Nat.reduceEqDiff, Nat.reduceAdd, Nat.reduceLeDiff, Nat.reduceBEq, Nat.reduceMul, Nat.reduceLT, Int.reduceLT, Int.reduceLE, Int.reduceToNat, Int.reduceNeg, Int.reduceEq, Int.reduceMul, reduceCtorEq, ← hlen2]

/-- The span of so many spans. -/
def loS (f : Nat → Int) : Nat → Int
  | 0 => 0
  | j + 1 => if j = 0 then f 0 else if f j < loS f j then f j else loS f j
def hiS (f : Nat → Int) : Nat → Int
  | 0 => 0
  | j + 1 => if j = 0 then f 0 else if hiS f j < f j then f j else hiS f j

theorem hull_step (G E : Heap) (h : Nat) (hh : G.length = h) (lo hi x y : Int) (f : Bool) (v5 v0 : AV) :
    callVL cfg0 prog0 false (.yield (h + 3)) [.agg [I x, I y]] [] (G ++ ([.box (.agg [I lo, I hi]), .box (.bool f), .dfr, .loop (loopRec Try.f46 46 0 [(5, v5), (3, .ptr (h + 1) 0), (2, .ptr h 0), (0, v0)] (h + 2))] ++ E)) none =
    some ⟨.ret (.bool true), G ++ ([.box (.agg [I (if f then (if x < lo then x else lo) else x), I (if f then (if hi < y then y else hi) else y)]), .box (.bool true), .dfr, .loop (loopRec Try.f46 46 0 [(5, v5), (3, .ptr (h + 1) 0), (2, .ptr h 0), (0, v0)] (h + 2))] ++ E), none⟩ := by
  subst hh
  cases f
  · simp only [go_sem, ↓reduceIte, Nat.reduceEqDiff, Nat.reduceAdd, Nat.reduceLeDiff, Nat.reduceBEq, Nat.reduceMul, Nat.reduceLT, Int.reduceLT, Int.reduceLE, Int.reduceToNat, Int.reduceNeg, Int.reduceEq, Int.reduceMul, reduceCtorEq, fn46, res46, gc46, grow46, ty3, ty4, ty29, loopRec, rangesOf, List.nil_append, List.append_nil, List.cons_append, List.getElem?_cons_zero, List.getElem?_cons_succ, Try.f46]
  · simp only [go_sem, ↓reduceIte, Nat.reduceEqDiff, Nat.reduceAdd, Nat.reduceLeDiff, Nat.reduceBEq, Nat.reduceMul, Nat.reduceLT, Int.reduceLT, Int.reduceLE, Int.reduceToNat, Int.reduceNeg, Int.reduceEq, Int.reduceMul, reduceCtorEq, fn46, res46, gc46, grow46, ty3, ty4, ty29, loopRec, rangesOf, List.nil_append, List.append_nil, List.cons_append, List.getElem?_cons_zero, List.getElem?_cons_succ, Try.f46]


theorem f46 (hs : s.Wf) (blk : Int) (b : Blk) (h0 : 0 ≤ blk) (hb : s.bs[blk.toNat]? = some b) (A m : Nat) (hm : m ≤ 60) (n : Nat) (hn : b.s0 + n = b.s1 + 1) (hi : ItOk H L M vb vt s es A blk m) (hg : Good s es) :
    ∃ es', Good s es' ∧ callFL cfg0 prog0 false 46 [.func (.func 93) [] [.ptr A 0, .ptr (A + 1) 0, .ptr (A + 2) 0]] H none =
      some ⟨.ret (.agg [I (loS (fun j => exc s.ts blk (b.x 0) (b.s0 + j) 0 m) n), I (hiS (fun j => exc s.ts blk (b.x 1) (b.s0 + j) 1 m) n)]), H.set M (.map 114 es'), none⟩ := by
  obtain ⟨es', hg', hr⟩ := f93 hs blk b h0 hb A m hm (.yield (H.length + 3)) [] []
    (fun j => [.box (.agg [I (loS (fun j => exc s.ts blk (b.x 0) (b.s0 + j) 0 m) j), I (hiS (fun j => exc s.ts blk (b.x 1) (b.s0 + j) 1 m) j)]), .box (.bool (decide (0 < j))), .dfr,
      .loop (loopRec Try.f46 46 0 [(5, .func (.func 93) [] [.ptr A 0, .ptr (A + 1) 0, .ptr (A + 2) 0]), (3, .ptr (H.length + 1) 0), (2, .ptr H.length 0), (0, .func (.func 93) [] [.ptr A 0, .ptr (A + 1) 0, .ptr (A + 2) 0])] (H.length + 2))])
    (H.length + 4) (fun j => by simp) (fun _ => true) n hn (by simp [fnLt]) rfl rfl (by
      intro j es1 E hj _ hg1
      refine ⟨es1, hg1, ?_⟩
      have := hull_step (H.set M (.map 114 es1)) E H.length (by simp) (loS (fun j => exc s.ts blk (b.x 0) (b.s0 + j) 0 m) j) (hiS (fun j => exc s.ts blk (b.x 1) (b.s0 + j) 1 m) j) (exc s.ts blk (b.x 0) (b.s0 + j) 0 m) (exc s.ts blk (b.x 1) (b.s0 + j) 1 m) (decide (0 < j)) (.func (.func 93) [] [.ptr A 0, .ptr (A + 1) 0, .ptr (A + 2) 0]) (.func (.func 93) [] [.ptr A 0, .ptr (A + 1) 0, .ptr (A + 2) 0])
      rw [List.nil_append]
      refine this.trans ?_
      simp only [loS, hiS]
      by_cases hj0 : j = 0
      · subst hj0; simp
      · have : 0 < j := by omega
        simp [hj0, this]) hi hg
  refine ⟨es', hg', ?_⟩
  have hst : stopAt (fun _ => true) 0 n = n := by
    have : ∀ q j, stopAt (fun _ => true) j q = j + q := by
      intro q
      induction q with
      | zero => intro j; rfl
      | succ q ih => intro j; simp only [stopAt, if_true]; rw [ih]; omega
    rw [this]; omega
  rw [hst, set_self hi.pl.mp] at hr
  simp only [loopRec, rangesOf, List.nil_append, List.append_nil, List.cons_append, List.getElem?_cons_zero, List.getElem?_cons_succ, Try.f46, loS, hiS, lt_irr, decide_false] at hr
  generalize loS (fun j => exc s.ts blk (b.x 0) (b.s0 + j) 0 m) n = x at *
  generalize hiS (fun j => exc s.ts blk (b.x 1) (b.s0 + j) 1 m) n = y at *
  refine (callFL_eq fn46 rfl (by simp [Try.f46])).trans ?_
  simp only [go_sem, ↓reduceIte, Nat.reduceEqDiff, Nat.reduceAdd, Nat.reduceLeDiff, Nat.reduceBEq, Nat.reduceMul, Nat.reduceLT, Int.reduceLT, Int.reduceLE, Int.reduceToNat, Int.reduceNeg, Int.reduceEq, Int.reduceMul, reduceCtorEq, fn46, res46, gc46, grow46, ty3, ty4, ty29, hr]


def Blk.n (b : Blk) : Nat := (b.s1 + 1 - b.s0).toNat
/-- The span of the excess of a block in a minute. -/
def warmLo (s : Stl) (blk : Int) (b : Blk) (m : Nat) : Int := loS (fun j => exc s.ts blk (b.x 0) (b.s0 + j) 0 m) b.n
def warmHi (s : Stl) (blk : Int) (b : Blk) (m : Nat) : Int := hiS (fun j => exc s.ts blk (b.x 1) (b.s0 + j) 1 m) b.n
/-- A block surely has settled in a minute. -/
def settl (s : Stl) (blk : Int) (b : Blk) (m : Nat) : Bool := decide (-s.near ≤ warmLo s blk b m) && decide (warmHi s blk b m ≤ s.near)

theorem Blk.Ok.hn {b : Blk} (h : b.Ok) : b.s0 + (b.n : Int) = b.s1 + 1 := by
  have := h.a5
  simp only [Blk.n]; omega

theorem spans_it (hp : PlOk H L M vb vt s es) (blk : Int) (m : Nat) : ItOk (H ++ [.box (.ptr L 0), .box (I blk), .box (I m)]) L M vb vt s es H.length blk m :=
  ⟨hp.app _, by rw [get_at]; rfl, by rw [get_at' 1]; rfl, by rw [get_at' 2]; rfl⟩

theorem f59 (hs : s.Wf) (blk : Int) (b : Blk) (h0 : 0 ≤ blk) (hb : s.bs[blk.toNat]? = some b) (m : Nat) (hm : m ≤ 60) (hp : PlOk H L M vb vt s es) (hg : Good s es) :
    ∃ es', Good s es' ∧ callFL cfg0 prog0 false 59 [.ptr L 0, I blk, I m] H none = some ⟨.ret (.bool (settl s blk b m)), H.set M (.map 114 es'), none⟩ := by
  have hbo := hs.bs b (List.mem_of_getElem? hb)
  obtain ⟨es', hg', hr⟩ := f46 hs blk b h0 hb H.length m hm b.n hbo.hn (spans_it hp blk m) hg
  refine ⟨es', hg', ?_⟩
  have hM := hp.hM
  have hL := hp.hL
  have hp2 := hp.set es'
  have hL2 : L < (H.set M (.map 114 es')).length := by simpa using hL
  rw [set_lt hM] at hr
  have e1 : IntKind.i64.wrap (0 - s.near) = -s.near := by have := hs.near; rw [w64 (by omega) (by omega)]; omega
  simp only [settl]
  change callFL cfg0 prog0 false 46 _ _ none = some ⟨.ret (.agg [I (warmLo s blk b m), I (warmHi s blk b m)]), _, _⟩ at hr
  refine (callFL_eq fn59 rfl (by simp [Try.f59])).trans ?_
  simp only [go_sem, ↓reduceIte, Nat.reduceEqDiff, Nat.reduceAdd, Nat.reduceLeDiff, Nat.reduceBEq, Nat.reduceMul, Nat.reduceLT, Int.reduceLT, Int.reduceLE, Int.reduceToNat, Int.reduceNeg, Int.reduceEq, Int.reduceMul, reduceCtorEq, fn59, res59, gc59, grow59, ty3, ty22, ty23, ty25, ty29, ty56, ty63, ty69, ty75, ty80, ty82, ty83, ty114, plan59_2, f47 blk m hL, hr]
  rw [chkK_of]; rotate_left; kernel_rfl
  by_cases hx : -s.near ≤ warmLo s blk b m
  · simp only [go_sem, ↓reduceIte, Nat.reduceEqDiff, Nat.reduceAdd, Nat.reduceLeDiff, Nat.reduceBEq, Nat.reduceMul, Nat.reduceLT, Int.reduceLT, Int.reduceLE, Int.reduceToNat, Int.reduceNeg, Int.reduceEq, Int.reduceMul, reduceCtorEq, fn59, res59, gc59, grow59, ty3, ty22, ty23, ty25, ty29, ty56, ty63, ty69, ty75, ty80, ty82, ty83, ty114, plan59_2, get_lt hL2, hp2.box, e1, hx]
  · simp only [go_sem, ↓reduceIte, Nat.reduceEqDiff, Nat.reduceAdd, Nat.reduceLeDiff, Nat.reduceBEq, Nat.reduceMul, Nat.reduceLT, Int.reduceLT, Int.reduceLE, Int.reduceToNat, Int.reduceNeg, Int.reduceEq, Int.reduceMul, reduceCtorEq, fn59, res59, gc59, grow59, ty3, ty22, ty23, ty25, ty29, ty56, ty63, ty69, ty75, ty80, ty82, ty83, ty114, plan59_2, get_lt hL2, hp2.box, e1, hx]


theorem stopAt_spec (c : Nat → Bool) : ∀ q j, ((∀ i, j ≤ i → i < j + q → c i = true) ∧ stopAt c j q = j + q) ∨ ∃ i, j ≤ i ∧ i < j + q ∧ (∀ i', j ≤ i' → i' < i → c i' = true) ∧ c i = false ∧ stopAt c j q = i + 1 := by
  intro q
  induction q with
  | zero => intro j; exact .inl ⟨fun i h1 h2 => by omega, rfl⟩
  | succ q ih =>
    intro j
    simp only [stopAt]
    cases hc : c j with
    | false => exact .inr ⟨j, by omega, by omega, fun i h1 h2 => by omega, hc, by simp⟩
    | true =>
      simp only [if_true]
      rcases ih (j + 1) with ⟨h1, h2⟩ | ⟨i, h1, h2, h3, h4, h5⟩
      · refine .inl ⟨fun i hi1 hi2 => ?_, by rw [h2]; omega⟩
        rcases Nat.lt_or_ge j i with h | h
        · exact h1 i h (by omega)
        · have : i = j := by omega
          subst this; exact hc
      · refine .inr ⟨i, by omega, by omega, fun i' hi1 hi2 => ?_, h4, h5⟩
        rcases Nat.lt_or_ge j i' with h | h
        · exact h3 i' h hi2
        · have : i' = j := by omega
          subst this; exact hc

end Go.Ab
