/-
  The layer settle: the plate, and what a block's excess is.
-/
import Derived.Test.YtppmifiahebgfaaW1
namespace Go.Ab
open Go.Proofs
set_option linter.unusedSimpArgs false
set_option linter.unusedVariables false

structure Blk where
  (x0 x1 s0 s1 g0 g1 : Int)

structure Tch where
  (b m h0 h1 : Int)

structure Stl where
  bs : List Blk
  near : Int
  last : Int
  ts : List Tch

def Blk.av (b : Blk) : AV := .agg [I b.x0, I b.x1, I b.s0, I b.s1, I b.g0, I b.g1]
def Tch.av (t : Tch) : AV := .agg [I t.b, I t.m, I t.h0, I t.h1]

structure Blk.Ok (b : Blk) : Prop where
  (a1 : -100 ≤ b.x0) (a2 : b.x0 ≤ b.x1) (a3 : b.x1 ≤ 100) (a4 : 2 ≤ b.s0) (a5 : b.s0 ≤ b.s1) (a6 : b.s1 ≤ 8) (a7 : 0 ≤ b.g0) (a8 : b.g0 ≤ b.g1) (a9 : b.g1 ≤ 20)

/-- Bounds that a plate keeps. -/
structure Stl.Wf (s : Stl) : Prop where
  bs : ∀ b ∈ s.bs, b.Ok
  ts : ∀ t ∈ s.ts, -100 ≤ t.h0 ∧ t.h0 ≤ t.h1 ∧ t.h1 ≤ 100
  len : s.ts.length ≤ 7
  near : 0 ≤ s.near ∧ s.near ≤ 20
  last : 1 ≤ s.last ∧ s.last ≤ 60
  blen : s.bs.length ≤ 4

def Tch.h (t : Tch) (e : Int) : Int := if e = 0 then t.h0 else t.h1
def Blk.x (b : Blk) (e : Int) : Int := if e = 0 then b.x0 else b.x1

def heats (ts : List Tch) (blk m e : Int) : List Int := (ts.filter fun t => t.b == blk && t.m == m).map (·.h e)

/-- The excess of a block at an end, as slow as k. -/
def exc (ts : List Tch) (blk : Int) (b0 : Int) (k e : Int) : Nat → Int
  | 0 => (heats ts blk 0 e).sum + b0
  | n + 1 => (heats ts blk ((n + 1 : Nat) : Int) e).sum + fallsZ (exc ts blk b0 k e n) k

theorem Tch.h_bd {t : Tch} {e : Int} (h : -100 ≤ t.h0 ∧ t.h0 ≤ t.h1 ∧ t.h1 ≤ 100) : -100 ≤ t.h e ∧ t.h e ≤ 100 := by
  simp only [Tch.h]; split <;> omega

theorem heats_bd (ts : List Tch) (blk m e : Int) (h : ∀ t ∈ ts, -100 ≤ t.h0 ∧ t.h0 ≤ t.h1 ∧ t.h1 ≤ 100) : ∀ x ∈ heats ts blk m e, -100 ≤ x ∧ x ≤ 100 := by
  intro x hx
  simp only [heats, List.mem_map, List.mem_filter] at hx
  obtain ⟨t, ⟨h1, _⟩, rfl⟩ := hx
  exact Tch.h_bd (h t h1)

theorem heats_len (ts : List Tch) (blk m e : Int) : (heats ts blk m e).length ≤ ts.length := by
  simp only [heats, List.length_map]
  exact List.length_filter_le _ _

theorem sum_bd : ∀ (l : List Int) (B : Int), (∀ x ∈ l, -B ≤ x ∧ x ≤ B) → -(B * l.length) ≤ l.sum ∧ l.sum ≤ B * l.length
  | [], B, _ => by simp
  | x :: r, B, h => by
    have h1 := h x (by simp)
    have h2 := sum_bd r B fun y hy => h y (by simp [hy])
    simp only [List.sum_cons, List.length_cons]
    have : B * ((r.length + 1 : Nat) : Int) = B * r.length + B := by rw [Int.natCast_add]; rw [Int.mul_add]; simp
    omega

theorem fallsZ_bd {x k : Int} (hk : 1 ≤ k) : (0 ≤ x → 0 ≤ fallsZ x k ∧ fallsZ x k ≤ x) ∧ (x ≤ 0 → x ≤ fallsZ x k ∧ fallsZ x k ≤ 0) := by
  have key : ∀ y : Int, 0 ≤ y → 0 ≤ y - (y + k - 1).tdiv k ∧ y - (y + k - 1).tdiv k ≤ y := by
    intro y hy
    rw [Int.tdiv_eq_ediv_of_nonneg (by omega)]
    have h1 : (y + k - 1) / k < y + 1 := by
      apply Int.ediv_lt_of_lt_mul (by omega)
      have : y * k ≥ y * 1 := Int.mul_le_mul_of_nonneg_left hk hy
      rw [Int.add_mul]; omega
    have h2 : 0 ≤ (y + k - 1) / k := Int.ediv_nonneg (by omega) (by omega)
    omega
  constructor
  · intro h
    simp only [fallsZ, if_neg (show ¬ x < 0 by omega)]
    exact key x h
  · intro h
    simp only [fallsZ]
    split
    · have := key (-x) (by omega)
      omega
    · have : x = 0 := by omega
      subst this
      exact ⟨(key 0 (by omega)).1, (key 0 (by omega)).2⟩


theorem exc_bd {ts : List Tch} {blk b0 k e : Int} (h : ∀ t ∈ ts, -100 ≤ t.h0 ∧ t.h0 ≤ t.h1 ∧ t.h1 ≤ 100) (hl : ts.length ≤ 7) (hb : -100 ≤ b0 ∧ b0 ≤ 100) (hk : 1 ≤ k) : ∀ n : Nat, -(800 + 700 * n) ≤ exc ts blk b0 k e n ∧ exc ts blk b0 k e n ≤ 800 + 700 * n := by
  have hs : ∀ m : Int, -700 ≤ (heats ts blk m e).sum ∧ (heats ts blk m e).sum ≤ 700 := by
    intro m
    have h1 := sum_bd _ 100 (heats_bd ts blk m e h)
    have h2 := heats_len ts blk m e
    omega
  intro n
  induction n with
  | zero =>
    simp only [exc]
    have := hs 0
    omega
  | succ n ih =>
    simp only [exc]
    have h1 := hs ((n + 1 : Nat) : Int)
    obtain ⟨h2, h3⟩ := fallsZ_bd (x := exc ts blk b0 k e n) hk
    rcases Int.le_total 0 (exc ts blk b0 k e n) with h4 | h4
    · have := h2 h4; omega
    · have := h3 h4; omega

theorem heats_step {ts : List Tch} {j : Nat} (hj : j < ts.length) (blk m e : Int) : heats (ts.take (j + 1)) blk m e = heats (ts.take j) blk m e ++ (if ts[j].b = blk ∧ ts[j].m = m then [ts[j].h e] else []) := by
  rw [List.take_succ_eq_append_getElem hj]
  simp only [heats, List.filter_append, List.map_append]
  congr 1
  by_cases h1 : ts[j].b = blk <;> by_cases h2 : ts[j].m = m <;> simp [h1, h2]

theorem f94_loop (K : List Item) (H : Heap) (L : Nat) (vt : AV) (ts : List Tch) (blk m k e : Int) (fn : Fn) (first : List AV) (hL : L < H.length) (hv : SlOk H 4 vt (ts.map Tch.av)) (hb : ∀ t ∈ ts, -100 ≤ t.h0 ∧ t.h0 ≤ t.h1 ∧ t.h1 ≤ 100) (hl : ts.length ≤ 7)
    (hof : ∀ (G : Heap) (a b : Int), -100 ≤ a → a ≤ b → b ≤ 100 → callVL cfg0 prog0 false fn (first ++ [.agg [I a, I b]]) [] G none = some ⟨.ret (I (if e = 0 then a else b)), G, none⟩) (hfl : ∀ N, fnLt N fn = true ∧ ltL N first = true) :
    ∀ (n j : Nat) (len : Nat) (xs : List AV) (G : Heap) (E : Env), j + n = ts.length → xs = (heats (ts.take j) blk m e).map I → len = xs.length →
    E.get 0 = .ptr L 0 → E.get 3 = .ptr H.length 0 → E.get 7 = .func fn first [] → E.get 8 = .gsl (H.length + 1) len → E.get 36 = vt → E.get 37 = I ts.length → E.get 38 = I j →
    execL cfg0 prog0 ⟨94, none, false, H.length⟩ (loopIt Try.f94 7 :: .inBlock 0 :: K) ⟨E, [], H ++ (.box (.agg [I blk, I m, I k, I e]) :: .grow 1 xs :: G), none⟩ =
    execL cfg0 prog0 ⟨94, none, false, H.length⟩ K ⟨[(39, .bool false), (0, .ptr L 0), (3, .ptr H.length 0), (7, .func fn first []), (8, .gsl (H.length + 1) (heats ts blk m e).length), (36, vt), (37, I ts.length), (38, I ts.length)], [], H ++ [.box (.agg [I blk, I m, I k, I e]), .grow 1 ((heats ts blk m e).map I)], none⟩ := by
  intro n
  have hL2 : L < H.length + 2 := by omega
  induction n with
  | zero =>
    intro j len xs G E hj hxs hlen g0 g3 g7 g8 g36 g37 g38
    have hk' : ¬ (j : Int) < ts.length := by omega
    have hjl : j = ts.length := by omega
    have hlx : ltL 0 xs = true := by rw [hxs]; exact ltL_map (fun _ => rfl) _
    have hh : heats (ts.take j) blk m e = heats ts blk m e := by rw [hjl, List.take_length]
    rw [hh] at hxs
    have hlen' : len = (heats ts blk m e).length := by rw [hlen, hxs, List.length_map]
    simp only [loopIt, todoPast, todoAt, todoOf, firstReg, ↓reduceIte, Option.some.injEq, Nat.reduceEqDiff, reduceCtorEq, Try.f94]
    rw [execL_inLoop]
    simp only [go_sem, ↓reduceIte, Nat.reduceEqDiff, Nat.reduceAdd, Nat.reduceLeDiff, Nat.reduceBEq, Nat.reduceMul, Nat.reduceLT, Int.reduceLT, Int.reduceLE, Int.reduceToNat, Int.reduceNeg, Int.reduceEq, Int.reduceMul, reduceCtorEq, fn94, res94, gc94_0, gc94_1, gc94_2, gc94_3, gc94_4, gc94_5, gc94_6, gc94_7, gc94_8, gc94_9, gc94_10, gc94_11, gc94_12, gc94_13, gc94_14, gc94_15, gc94_16, gc94_17, gc94_18, gc94_19, gc94_20, gcSt, keepEnv, envLt, heapLt, dfrLt, ADefer.lt, grow94_4, grow94_5, grow94_6, grow94_7, grow94_8, grow94_11, grow94_13, grow94_14, ty3, ty22, ty23, ty25, ty29, ty56, ty63, ty69, ty80, ty82, ty83, ty114, ty122, ty123, ty125, plan94_1, plan94_4, plan94_12, plan94_17, plan94_19, eqt114, g0, g3, g7, g8, g36, g37, g38, hk', (hv.app _).ltn, hv.ltn, (hfl _).1, (hfl _).2, hL2, hlx]
    subst hxs hlen' hjl
    trivial
  | succ n ih =>
    intro j len xs G E hj hxs hlen g0 g3 g7 g8 g36 g37 g38
    have hk' : (j : Int) < ts.length := by omega
    have hk2 : j < ts.length := by omega
    have hlx : ltL 0 xs = true := by rw [hxs]; exact ltL_map (fun _ => rfl) _
    have hj1 : IntKind.i64.wrap ((j : Int) + 1) = ((j + 1 : Nat) : Int) := by rw [w64 (by omega) (by omega)]; omega
    obtain ⟨-, -, a3, a4, a5⟩ := hv.at (k := (j : Int)) (x := Tch.av ts[j]) (by omega) (by simp [hk2])
    have ht := hb ts[j] (List.getElem_mem _)
    have hxl : xs.length ≤ 7 := by
      rw [hxs, List.length_map]
      have h1 := heats_len (ts.take j) blk m e
      have h2 : (ts.take j).length ≤ 7 := by rw [List.length_take]; omega
      omega
    have hst := heats_step hk2 blk m e
    have hc := fun G => hof G ts[j].h0 ts[j].h1 ht.1 ht.2.1 ht.2.2
    have hof2 : ∀ o : AO, addElem (H ++ [.box (.agg [I blk, I m, I k, I e]), .grow 1 xs, o]) 1 false (.gsl (H.length + 1) len) [I (if e = 0 then ts[j].h0 else ts[j].h1)] = some (.gsl (H.length + 1) (len + 1), H ++ [.box (.agg [I blk, I m, I k, I e]), .grow 1 (xs ++ [I (if e = 0 then ts[j].h0 else ts[j].h1)]), o]) := by
      intro o
      rw [add_gsl (by simp [get_at']) hlen.symm rfl rfl (by simp; omega), set_at']
      rfl
    simp only [loopIt, todoPast, todoAt, todoOf, firstReg, ↓reduceIte, Option.some.injEq, Nat.reduceEqDiff, reduceCtorEq, Try.f94]
    rw [execL_inLoop]
    by_cases h1 : ts[j].b = blk
    · by_cases h2 : ts[j].m = m
      · have b1 : (ts[j].b == blk) = true := by simp [h1]
        have b2 : (ts[j].m == m) = true := by simp [h2]
        simp only [go_sem, ↓reduceIte, Nat.reduceEqDiff, Nat.reduceAdd, Nat.reduceLeDiff, Nat.reduceBEq, Nat.reduceMul, Nat.reduceLT, Int.reduceLT, Int.reduceLE, Int.reduceToNat, Int.reduceNeg, Int.reduceEq, Int.reduceMul, reduceCtorEq, fn94, res94, gc94_0, gc94_1, gc94_2, gc94_3, gc94_4, gc94_5, gc94_6, gc94_7, gc94_8, gc94_9, gc94_10, gc94_11, gc94_12, gc94_13, gc94_14, gc94_15, gc94_16, gc94_17, gc94_18, gc94_19, gc94_20, gcSt, keepEnv, envLt, heapLt, dfrLt, ADefer.lt, grow94_4, grow94_5, grow94_6, grow94_7, grow94_8, grow94_11, grow94_13, grow94_14, ty3, ty22, ty23, ty25, ty29, ty56, ty63, ty69, ty80, ty82, ty83, ty114, ty122, ty123, ty125, plan94_1, plan94_4, plan94_12, plan94_17, plan94_19, eqt114, g0, g3, g7, g8, g36, g37, g38, hk', (hv.app _).ltn, hv.ltn, (hfl _).1, (hfl _).2, hL2, hlx, a3, a4, a5, Tch.av, b1, b2, hc, hof2, hj1]
        refine ih (j + 1) (len + 1) (xs ++ [I (ts[j].h e)]) _ _ (by omega) (by rw [hst, if_pos ⟨h1, h2⟩, List.map_append, hxs]; rfl) (by rw [hlen]; simp) (by rfl) (by rfl) (by rfl) (by rfl) (by rfl) (by rfl) (by rfl)
      · have b1 : (ts[j].b == blk) = true := by simp [h1]
        have b2 : (ts[j].m == m) = false := by simp [h2]
        simp only [go_sem, ↓reduceIte, Nat.reduceEqDiff, Nat.reduceAdd, Nat.reduceLeDiff, Nat.reduceBEq, Nat.reduceMul, Nat.reduceLT, Int.reduceLT, Int.reduceLE, Int.reduceToNat, Int.reduceNeg, Int.reduceEq, Int.reduceMul, reduceCtorEq, fn94, res94, gc94_0, gc94_1, gc94_2, gc94_3, gc94_4, gc94_5, gc94_6, gc94_7, gc94_8, gc94_9, gc94_10, gc94_11, gc94_12, gc94_13, gc94_14, gc94_15, gc94_16, gc94_17, gc94_18, gc94_19, gc94_20, gcSt, keepEnv, envLt, heapLt, dfrLt, ADefer.lt, grow94_4, grow94_5, grow94_6, grow94_7, grow94_8, grow94_11, grow94_13, grow94_14, ty3, ty22, ty23, ty25, ty29, ty56, ty63, ty69, ty80, ty82, ty83, ty114, ty122, ty123, ty125, plan94_1, plan94_4, plan94_12, plan94_17, plan94_19, eqt114, g0, g3, g7, g8, g36, g37, g38, hk', (hv.app _).ltn, hv.ltn, (hfl _).1, (hfl _).2, hL2, hlx, a3, a4, a5, Tch.av, b1, b2, hj1]
        exact ih (j + 1) len xs _ _ (by omega) (by rw [hst, if_neg (by simp [h2]), List.append_nil]; exact hxs) hlen (by rfl) (by rfl) (by rfl) (by rfl) (by rfl) (by rfl) (by rfl)
    · have b1 : (ts[j].b == blk) = false := by simp [h1]
      simp only [go_sem, ↓reduceIte, Nat.reduceEqDiff, Nat.reduceAdd, Nat.reduceLeDiff, Nat.reduceBEq, Nat.reduceMul, Nat.reduceLT, Int.reduceLT, Int.reduceLE, Int.reduceToNat, Int.reduceNeg, Int.reduceEq, Int.reduceMul, reduceCtorEq, fn94, res94, gc94_0, gc94_1, gc94_2, gc94_3, gc94_4, gc94_5, gc94_6, gc94_7, gc94_8, gc94_9, gc94_10, gc94_11, gc94_12, gc94_13, gc94_14, gc94_15, gc94_16, gc94_17, gc94_18, gc94_19, gc94_20, gcSt, keepEnv, envLt, heapLt, dfrLt, ADefer.lt, grow94_4, grow94_5, grow94_6, grow94_7, grow94_8, grow94_11, grow94_13, grow94_14, ty3, ty22, ty23, ty25, ty29, ty56, ty63, ty69, ty80, ty82, ty83, ty114, ty122, ty123, ty125, plan94_1, plan94_4, plan94_12, plan94_17, plan94_19, eqt114, g0, g3, g7, g8, g36, g37, g38, hk', (hv.app _).ltn, hv.ltn, (hfl _).1, (hfl _).2, hL2, hlx, a3, a4, a5, Tch.av, b1, hj1]
      exact ih (j + 1) len xs _ _ (by omega) (by rw [hst, if_neg (by simp [h1]), List.append_nil]; exact hxs) hlen (by rfl) (by rfl) (by rfl) (by rfl) (by rfl) (by rfl) (by rfl)


structure PlOk (H : Heap) (L M : Nat) (vb vt : AV) (s : Stl) (es : List (AV × AV)) : Prop where
  box : H[L]? = some (.box (.agg [vb, I s.near, I s.last, vt, .map M]))
  mp : H[M]? = some (.map 114 es)
  bs : SlOk H 6 vb (s.bs.map Blk.av)
  ts : SlOk H 4 vt (s.ts.map Tch.av)

/-- What the plate knows is so. -/
def Good (s : Stl) (es : List (AV × AV)) : Prop := (∀ N, mapLt N es = true) ∧ ∀ (blk : Int) (n : Nat) (k e : Int) (b : Blk), 0 ≤ blk → s.bs[blk.toNat]? = some b → ∀ v, lookupM (.agg [I blk, I n, I k, I e]) es = some v → v = I (exc s.ts blk (b.x e) k e n)

theorem lookup_put (k v k' : AV) : ∀ es : List (AV × AV), lookupM k' (putM k v es) = if k'.same k then some v else lookupM k' es
  | [] => by simp [putM, lookupM]
  | (k1, v1) :: r => by
    by_cases h : k.same k1
    · have := same_eq _ _ h
      subst this
      simp only [putM, h, if_true, lookupM]
      split <;> simp_all
    · simp only [putM, h, lookupM]
      by_cases h2 : k'.same k1
      · have := same_eq _ _ h2
        subst this
        have h3 : k'.same k = false := by
          cases h4 : k'.same k with
          | false => rfl
          | true =>
            have := same_eq _ _ h4
            subst this
            exact absurd (AV.same_refl _) h
        simp [h3, AV.same_refl, lookupM]
      · simp [h2, lookup_put k v k' r, lookupM]

theorem mapLt_put {N : Nat} {k v : AV} (hk : k.lt N = true) (hv : v.lt N = true) : ∀ es : List (AV × AV), mapLt N es = true → mapLt N (putM k v es) = true
  | [], _ => by simp [putM, mapLt, hk, hv]
  | (k1, v1) :: r, h => by
    simp only [mapLt, Bool.and_eq_true] at h
    simp only [putM]
    split
    · simp only [mapLt, hk, hv, h.2.2, Bool.and_self]
    · simp only [mapLt, h.1, h.2.1, mapLt_put hk hv r h.2.2, Bool.and_self]

theorem Good.put {s : Stl} {es : List (AV × AV)} (h : Good s es) {blk : Int} {n : Nat} {k e : Int} {b : Blk} (h0 : 0 ≤ blk) (hb : s.bs[blk.toNat]? = some b) : Good s (putM (.agg [I blk, I n, I k, I e]) (I (exc s.ts blk (b.x e) k e n)) es) := by
  refine ⟨fun N => mapLt_put rfl rfl es (h.1 N), ?_⟩
  intro blk' n' k' e' b' h0' hb' v hv
  rw [lookup_put] at hv
  split at hv
  · rename_i hsame
    have := same_eq _ _ hsame
    simp only [I, AV.agg.injEq, List.cons.injEq, AV.int.injEq, true_and, and_true, Int.natCast_inj] at this
    obtain ⟨rfl, rfl, rfl, rfl⟩ := this
    rw [hb] at hb'
    cases hb'
    cases hv
    rfl
  · exact h.2 blk' n' k' e' b' h0' hb' v hv

theorem Good.nil (s : Stl) : Good s [] := by
  refine ⟨fun _ => rfl, ?_⟩
  intro _ _ _ _ _ _ _ v hv
  simp [lookupM] at hv

theorem of_cold : ∀ (G : Heap) (a b : Int), -100 ≤ a → a ≤ b → b ≤ 100 → callVL cfg0 prog0 false (.method "blockworks/settle.of") ([.iface 129 (.agg [])] ++ [.agg [I a, I b]]) [] G none = some ⟨.ret (I (if (0 : Int) = 0 then a else b)), G, none⟩ := by
  intro G a b _ _ _
  simp only [List.cons_append, List.nil_append, callVL_method, meth119, f119, if_true]

theorem of_warm : ∀ (G : Heap) (a b : Int), -100 ≤ a → a ≤ b → b ≤ 100 → callVL cfg0 prog0 false (.method "blockworks/settle.of") ([.iface 131 (.agg [])] ++ [.agg [I a, I b]]) [] G none = some ⟨.ret (I (if (1 : Int) = 0 then a else b)), G, none⟩ := by
  intro G a b _ _ _
  simp only [List.cons_append, List.nil_append, callVL_method, meth120]
  rw [f120 a b G (by omega) (by omega) (by omega)]
  rfl

theorem app_fact (H : Heap) (n : Nat) (hn : H.length = n) (o : AO) (G : Heap) (hs : List Int) (x : Int) (hl : hs.length ≤ 1000) :
    addElem (H ++ o :: .grow 1 (hs.map I) :: G) 1 false (.gsl (n + 1) hs.length) [I x] = some (.gsl (n + 1) (hs.length + 1), H ++ o :: .grow 1 (hs.map I ++ [I x]) :: G) := by
  subst hn
  rw [add_gsl (xs := hs.map I) (by simp [get_at']) (by simp) rfl rfl (by simp; omega), set_at']
  rfl

theorem sum_fact (H : Heap) (n : Nat) (hn : H.length = n) (o : AO) (G : Heap) (hs : List Int) (x : Int) (hl : hs.length ≤ 1000) (hb : ∀ y ∈ hs, -100 ≤ y ∧ y ≤ 100) (hx : -1000000 ≤ x ∧ x ≤ 1000000) :
    callFL cfg0 prog0 false 102 [.gsl (n + 1) (hs.length + 1)] (H ++ o :: .grow 1 (hs.map I ++ [I x]) :: G) none = some ⟨.ret (I (hs.sum + x)), H ++ o :: .grow 1 (hs.map I ++ [I x]) :: G, none⟩ := by
  subst hn
  have := f102 (.gsl (H.length + 1) (hs.length + 1)) (hs ++ [x]) (H ++ o :: .grow 1 (hs.map I ++ [I x]) :: G) ⟨by simp [get_at'], by simp [AV.cells]; rintro a (⟨y, _, rfl⟩ | rfl) <;> rfl⟩ (by
    intro y hy
    rcases List.mem_append.1 hy with hy | hy
    · have := hb y hy; omega
    · simp at hy; subst hy; exact hx) (by simp; omega)
  rw [this]
  simp

theorem f94z0 (L M : Nat) (vb vt : AV) (s : Stl) (hs : s.Wf) (blk k : Int) (b : Blk) (h0 : 0 ≤ blk) (hb : s.bs[blk.toNat]? = some b) (H : Heap) (es : List (AV × AV)) (hp : PlOk H L M vb vt s es) (hlk : lookupM (.agg [I blk, I 0, I k, I 0]) es = none) :
    callFL cfg0 prog0 false 94 [.ptr L 0, .agg [I blk, I 0, I k, I 0]] H none = some ⟨.ret (I (exc s.ts blk (b.x 0) k 0 0)), H.set M (.map 114 (putM (.agg [I blk, I 0, I k, I 0]) (I (exc s.ts blk (b.x 0) k 0 0)) es)), none⟩ := by
  have hL : L < H.length := (List.getElem?_eq_some_iff.1 hp.box).1
  have hM : M < H.length := (List.getElem?_eq_some_iff.1 hp.mp).1
  obtain ⟨-, -, a3, a4, a5⟩ := hp.bs.at (k := blk) (x := Blk.av b) h0 (by simp [hb])
  have hbo := hs.bs b (List.mem_of_getElem? hb)
  have hsb := heats_bd s.ts blk 0 0 hs.ts
  have hsl : (heats s.ts blk 0 0).length ≤ 1000 := by have := heats_len s.ts blk 0 0; have := hs.len; omega
  have hw := fun G => f120 b.x0 b.x1 G (by have := hbo.a1; have := hbo.a2; have := hbo.a3; omega) (by have := hbo.a1; have := hbo.a2; have := hbo.a3; omega) (by have := hbo.a1; have := hbo.a2; have := hbo.a3; omega)
  refine (callFL_eq fn94 rfl (by simp [Try.f94])).trans ?_
  simp only [go_sem, ↓reduceIte, Nat.reduceEqDiff, Nat.reduceAdd, Nat.reduceLeDiff, Nat.reduceBEq, Nat.reduceMul, Nat.reduceLT, Int.reduceLT, Int.reduceLE, Int.reduceToNat, Int.reduceNeg, Int.reduceEq, Int.reduceMul, reduceCtorEq, fn94, res94, gc94_0, gc94_1, gc94_2, gc94_3, gc94_4, gc94_5, gc94_6, gc94_7, gc94_8, gc94_9, gc94_10, gc94_11, gc94_12, gc94_13, gc94_14, gc94_15, gc94_16, gc94_17, gc94_18, gc94_19, gc94_20, gcSt, keepEnv, envLt, heapLt, dfrLt, ADefer.lt, grow94_4, grow94_5, grow94_6, grow94_7, grow94_8, grow94_11, grow94_13, grow94_14, ty3, ty22, ty23, ty25, ty29, ty56, ty63, ty69, ty80, ty82, ty83, ty114, ty122, ty123, ty125, plan94_1, plan94_4, plan94_12, plan94_17, plan94_19, eqt114, get_lt hL, hp.box]
  rw [chkK_of]; rotate_left; kernel_rfl
  simp only [go_sem, ↓reduceIte, Nat.reduceEqDiff, Nat.reduceAdd, Nat.reduceLeDiff, Nat.reduceBEq, Nat.reduceMul, Nat.reduceLT, Int.reduceLT, Int.reduceLE, Int.reduceToNat, Int.reduceNeg, Int.reduceEq, Int.reduceMul, reduceCtorEq, fn94, res94, gc94_0, gc94_1, gc94_2, gc94_3, gc94_4, gc94_5, gc94_6, gc94_7, gc94_8, gc94_9, gc94_10, gc94_11, gc94_12, gc94_13, gc94_14, gc94_15, gc94_16, gc94_17, gc94_18, gc94_19, gc94_20, gcSt, keepEnv, envLt, heapLt, dfrLt, ADefer.lt, grow94_4, grow94_5, grow94_6, grow94_7, grow94_8, grow94_11, grow94_13, grow94_14, ty3, ty22, ty23, ty25, ty29, ty56, ty63, ty69, ty80, ty82, ty83, ty114, ty122, ty123, ty125, plan94_1, plan94_4, plan94_12, plan94_17, plan94_19, eqt114, get_lt hL, get_lt hM, hp.box, hp.mp, hlk]
  rw [chkK_of]; rotate_left; kernel_rfl
  simp only [go_sem, ↓reduceIte, Nat.reduceEqDiff, Nat.reduceAdd, Nat.reduceLeDiff, Nat.reduceBEq, Nat.reduceMul, Nat.reduceLT, Int.reduceLT, Int.reduceLE, Int.reduceToNat, Int.reduceNeg, Int.reduceEq, Int.reduceMul, reduceCtorEq, fn94, res94, gc94_0, gc94_1, gc94_2, gc94_3, gc94_4, gc94_5, gc94_6, gc94_7, gc94_8, gc94_9, gc94_10, gc94_11, gc94_12, gc94_13, gc94_14, gc94_15, gc94_16, gc94_17, gc94_18, gc94_19, gc94_20, gcSt, keepEnv, envLt, heapLt, dfrLt, ADefer.lt, grow94_4, grow94_5, grow94_6, grow94_7, grow94_8, grow94_11, grow94_13, grow94_14, ty3, ty22, ty23, ty25, ty29, ty56, ty63, ty69, ty80, ty82, ty83, ty114, ty122, ty123, ty125, plan94_1, plan94_4, plan94_12, plan94_17, plan94_19, eqt114, get_lt hL, get_lt hM, hp.box, hp.mp, hlk, f101, hp.ts.len, List.length_map]
  refine (congrArg (Option.map _) (f94_loop _ H L vt s.ts blk 0 k 0 _ _ hL hp.ts hs.ts hs.len of_cold (fun _ => ⟨rfl, rfl⟩) s.ts.length 0 0 [] [] _ (by omega) (by simp [heats]) (by simp) (by rfl) (by rfl) (by rfl) (by rfl) (by rfl) (by rfl) (by rfl))).trans ?_
  simp only [go_sem, ↓reduceIte, Nat.reduceEqDiff, Nat.reduceAdd, Nat.reduceLeDiff, Nat.reduceBEq, Nat.reduceMul, Nat.reduceLT, Int.reduceLT, Int.reduceLE, Int.reduceToNat, Int.reduceNeg, Int.reduceEq, Int.reduceMul, reduceCtorEq, fn94, res94, gc94_0, gc94_1, gc94_2, gc94_3, gc94_4, gc94_5, gc94_6, gc94_7, gc94_8, gc94_9, gc94_10, gc94_11, gc94_12, gc94_13, gc94_14, gc94_15, gc94_16, gc94_17, gc94_18, gc94_19, gc94_20, gcSt, keepEnv, envLt, heapLt, dfrLt, ADefer.lt, grow94_4, grow94_5, grow94_6, grow94_7, grow94_8, grow94_11, grow94_13, grow94_14, ty3, ty22, ty23, ty25, ty29, ty56, ty63, ty69, ty80, ty82, ty83, ty114, ty122, ty123, ty125, plan94_1, plan94_4, plan94_12, plan94_17, plan94_19, eqt114]
  rw [chkK_of]; rotate_left; kernel_rfl
  simp only [go_sem, ↓reduceIte, Nat.reduceEqDiff, Nat.reduceAdd, Nat.reduceLeDiff, Nat.reduceBEq, Nat.reduceMul, Nat.reduceLT, Int.reduceLT, Int.reduceLE, Int.reduceToNat, Int.reduceNeg, Int.reduceEq, Int.reduceMul, reduceCtorEq, fn94, res94, gc94_0, gc94_1, gc94_2, gc94_3, gc94_4, gc94_5, gc94_6, gc94_7, gc94_8, gc94_9, gc94_10, gc94_11, gc94_12, gc94_13, gc94_14, gc94_15, gc94_16, gc94_17, gc94_18, gc94_19, gc94_20, gcSt, keepEnv, envLt, heapLt, dfrLt, ADefer.lt, grow94_4, grow94_5, grow94_6, grow94_7, grow94_8, grow94_11, grow94_13, grow94_14, ty3, ty22, ty23, ty25, ty29, ty56, ty63, ty69, ty80, ty82, ty83, ty114, ty122, ty123, ty125, plan94_1, plan94_4, plan94_12, plan94_17, plan94_19, eqt114, get_lt hL, hp.box, a3, a4, a5, Blk.av, meth119, f119, app_fact H _ rfl _ [] _ _ hsl, sum_fact H _ rfl _ [] _ b.x0 hsl hsb (by have := hbo.a1; have := hbo.a2; have := hbo.a3; omega)]
  rw [chkK_of]; rotate_left; kernel_rfl
  simp only [go_sem, ↓reduceIte, Nat.reduceEqDiff, Nat.reduceAdd, Nat.reduceLeDiff, Nat.reduceBEq, Nat.reduceMul, Nat.reduceLT, Int.reduceLT, Int.reduceLE, Int.reduceToNat, Int.reduceNeg, Int.reduceEq, Int.reduceMul, reduceCtorEq, fn94, res94, gc94_0, gc94_1, gc94_2, gc94_3, gc94_4, gc94_5, gc94_6, gc94_7, gc94_8, gc94_9, gc94_10, gc94_11, gc94_12, gc94_13, gc94_14, gc94_15, gc94_16, gc94_17, gc94_18, gc94_19, gc94_20, gcSt, keepEnv, envLt, heapLt, dfrLt, ADefer.lt, grow94_4, grow94_5, grow94_6, grow94_7, grow94_8, grow94_11, grow94_13, grow94_14, ty3, ty22, ty23, ty25, ty29, ty56, ty63, ty69, ty80, ty82, ty83, ty114, ty122, ty123, ty125, plan94_1, plan94_4, plan94_12, plan94_17, plan94_19, eqt114, get_lt hL, get_lt hM, hp.box, hp.mp, set_lt hM, exc, Blk.x]

theorem f94z1 (L M : Nat) (vb vt : AV) (s : Stl) (hs : s.Wf) (blk k : Int) (b : Blk) (h0 : 0 ≤ blk) (hb : s.bs[blk.toNat]? = some b) (H : Heap) (es : List (AV × AV)) (hp : PlOk H L M vb vt s es) (hlk : lookupM (.agg [I blk, I 0, I k, I 1]) es = none) :
    callFL cfg0 prog0 false 94 [.ptr L 0, .agg [I blk, I 0, I k, I 1]] H none = some ⟨.ret (I (exc s.ts blk (b.x 1) k 1 0)), H.set M (.map 114 (putM (.agg [I blk, I 0, I k, I 1]) (I (exc s.ts blk (b.x 1) k 1 0)) es)), none⟩ := by
  have hL : L < H.length := (List.getElem?_eq_some_iff.1 hp.box).1
  have hM : M < H.length := (List.getElem?_eq_some_iff.1 hp.mp).1
  obtain ⟨-, -, a3, a4, a5⟩ := hp.bs.at (k := blk) (x := Blk.av b) h0 (by simp [hb])
  have hbo := hs.bs b (List.mem_of_getElem? hb)
  have hsb := heats_bd s.ts blk 0 1 hs.ts
  have hsl : (heats s.ts blk 0 1).length ≤ 1000 := by have := heats_len s.ts blk 0 1; have := hs.len; omega
  have hw := fun G => f120 b.x0 b.x1 G (by have := hbo.a1; have := hbo.a2; have := hbo.a3; omega) (by have := hbo.a1; have := hbo.a2; have := hbo.a3; omega) (by have := hbo.a1; have := hbo.a2; have := hbo.a3; omega)
  refine (callFL_eq fn94 rfl (by simp [Try.f94])).trans ?_
  simp only [go_sem, ↓reduceIte, Nat.reduceEqDiff, Nat.reduceAdd, Nat.reduceLeDiff, Nat.reduceBEq, Nat.reduceMul, Nat.reduceLT, Int.reduceLT, Int.reduceLE, Int.reduceToNat, Int.reduceNeg, Int.reduceEq, Int.reduceMul, reduceCtorEq, fn94, res94, gc94_0, gc94_1, gc94_2, gc94_3, gc94_4, gc94_5, gc94_6, gc94_7, gc94_8, gc94_9, gc94_10, gc94_11, gc94_12, gc94_13, gc94_14, gc94_15, gc94_16, gc94_17, gc94_18, gc94_19, gc94_20, gcSt, keepEnv, envLt, heapLt, dfrLt, ADefer.lt, grow94_4, grow94_5, grow94_6, grow94_7, grow94_8, grow94_11, grow94_13, grow94_14, ty3, ty22, ty23, ty25, ty29, ty56, ty63, ty69, ty80, ty82, ty83, ty114, ty122, ty123, ty125, plan94_1, plan94_4, plan94_12, plan94_17, plan94_19, eqt114, get_lt hL, hp.box]
  rw [chkK_of]; rotate_left; kernel_rfl
  simp only [go_sem, ↓reduceIte, Nat.reduceEqDiff, Nat.reduceAdd, Nat.reduceLeDiff, Nat.reduceBEq, Nat.reduceMul, Nat.reduceLT, Int.reduceLT, Int.reduceLE, Int.reduceToNat, Int.reduceNeg, Int.reduceEq, Int.reduceMul, reduceCtorEq, fn94, res94, gc94_0, gc94_1, gc94_2, gc94_3, gc94_4, gc94_5, gc94_6, gc94_7, gc94_8, gc94_9, gc94_10, gc94_11, gc94_12, gc94_13, gc94_14, gc94_15, gc94_16, gc94_17, gc94_18, gc94_19, gc94_20, gcSt, keepEnv, envLt, heapLt, dfrLt, ADefer.lt, grow94_4, grow94_5, grow94_6, grow94_7, grow94_8, grow94_11, grow94_13, grow94_14, ty3, ty22, ty23, ty25, ty29, ty56, ty63, ty69, ty80, ty82, ty83, ty114, ty122, ty123, ty125, plan94_1, plan94_4, plan94_12, plan94_17, plan94_19, eqt114, get_lt hL, get_lt hM, hp.box, hp.mp, hlk]
  rw [chkK_of]; rotate_left; kernel_rfl
  simp only [go_sem, ↓reduceIte, Nat.reduceEqDiff, Nat.reduceAdd, Nat.reduceLeDiff, Nat.reduceBEq, Nat.reduceMul, Nat.reduceLT, Int.reduceLT, Int.reduceLE, Int.reduceToNat, Int.reduceNeg, Int.reduceEq, Int.reduceMul, reduceCtorEq, fn94, res94, gc94_0, gc94_1, gc94_2, gc94_3, gc94_4, gc94_5, gc94_6, gc94_7, gc94_8, gc94_9, gc94_10, gc94_11, gc94_12, gc94_13, gc94_14, gc94_15, gc94_16, gc94_17, gc94_18, gc94_19, gc94_20, gcSt, keepEnv, envLt, heapLt, dfrLt, ADefer.lt, grow94_4, grow94_5, grow94_6, grow94_7, grow94_8, grow94_11, grow94_13, grow94_14, ty3, ty22, ty23, ty25, ty29, ty56, ty63, ty69, ty80, ty82, ty83, ty114, ty122, ty123, ty125, plan94_1, plan94_4, plan94_12, plan94_17, plan94_19, eqt114, get_lt hL, get_lt hM, hp.box, hp.mp, hlk, f101, hp.ts.len, List.length_map]
  refine (congrArg (Option.map _) (f94_loop _ H L vt s.ts blk 0 k 1 _ _ hL hp.ts hs.ts hs.len of_warm (fun _ => ⟨rfl, rfl⟩) s.ts.length 0 0 [] [] _ (by omega) (by simp [heats]) (by simp) (by rfl) (by rfl) (by rfl) (by rfl) (by rfl) (by rfl) (by rfl))).trans ?_
  simp only [go_sem, ↓reduceIte, Nat.reduceEqDiff, Nat.reduceAdd, Nat.reduceLeDiff, Nat.reduceBEq, Nat.reduceMul, Nat.reduceLT, Int.reduceLT, Int.reduceLE, Int.reduceToNat, Int.reduceNeg, Int.reduceEq, Int.reduceMul, reduceCtorEq, fn94, res94, gc94_0, gc94_1, gc94_2, gc94_3, gc94_4, gc94_5, gc94_6, gc94_7, gc94_8, gc94_9, gc94_10, gc94_11, gc94_12, gc94_13, gc94_14, gc94_15, gc94_16, gc94_17, gc94_18, gc94_19, gc94_20, gcSt, keepEnv, envLt, heapLt, dfrLt, ADefer.lt, grow94_4, grow94_5, grow94_6, grow94_7, grow94_8, grow94_11, grow94_13, grow94_14, ty3, ty22, ty23, ty25, ty29, ty56, ty63, ty69, ty80, ty82, ty83, ty114, ty122, ty123, ty125, plan94_1, plan94_4, plan94_12, plan94_17, plan94_19, eqt114]
  rw [chkK_of]; rotate_left; kernel_rfl
  simp only [go_sem, ↓reduceIte, Nat.reduceEqDiff, Nat.reduceAdd, Nat.reduceLeDiff, Nat.reduceBEq, Nat.reduceMul, Nat.reduceLT, Int.reduceLT, Int.reduceLE, Int.reduceToNat, Int.reduceNeg, Int.reduceEq, Int.reduceMul, reduceCtorEq, fn94, res94, gc94_0, gc94_1, gc94_2, gc94_3, gc94_4, gc94_5, gc94_6, gc94_7, gc94_8, gc94_9, gc94_10, gc94_11, gc94_12, gc94_13, gc94_14, gc94_15, gc94_16, gc94_17, gc94_18, gc94_19, gc94_20, gcSt, keepEnv, envLt, heapLt, dfrLt, ADefer.lt, grow94_4, grow94_5, grow94_6, grow94_7, grow94_8, grow94_11, grow94_13, grow94_14, ty3, ty22, ty23, ty25, ty29, ty56, ty63, ty69, ty80, ty82, ty83, ty114, ty122, ty123, ty125, plan94_1, plan94_4, plan94_12, plan94_17, plan94_19, eqt114, get_lt hL, hp.box, a3, a4, a5, Blk.av, meth120, hw, app_fact H _ rfl _ [] _ _ hsl, sum_fact H _ rfl _ [] _ b.x1 hsl hsb (by have := hbo.a1; have := hbo.a2; have := hbo.a3; omega)]
  rw [chkK_of]; rotate_left; kernel_rfl
  simp only [go_sem, ↓reduceIte, Nat.reduceEqDiff, Nat.reduceAdd, Nat.reduceLeDiff, Nat.reduceBEq, Nat.reduceMul, Nat.reduceLT, Int.reduceLT, Int.reduceLE, Int.reduceToNat, Int.reduceNeg, Int.reduceEq, Int.reduceMul, reduceCtorEq, fn94, res94, gc94_0, gc94_1, gc94_2, gc94_3, gc94_4, gc94_5, gc94_6, gc94_7, gc94_8, gc94_9, gc94_10, gc94_11, gc94_12, gc94_13, gc94_14, gc94_15, gc94_16, gc94_17, gc94_18, gc94_19, gc94_20, gcSt, keepEnv, envLt, heapLt, dfrLt, ADefer.lt, grow94_4, grow94_5, grow94_6, grow94_7, grow94_8, grow94_11, grow94_13, grow94_14, ty3, ty22, ty23, ty25, ty29, ty56, ty63, ty69, ty80, ty82, ty83, ty114, ty122, ty123, ty125, plan94_1, plan94_4, plan94_12, plan94_17, plan94_19, eqt114, get_lt hL, get_lt hM, hp.box, hp.mp, set_lt hM, exc, Blk.x]

theorem f94s0 (L M : Nat) (vb vt : AV) (s : Stl) (hs : s.Wf) (blk k : Int) (b : Blk) (h0 : 0 ≤ blk) (hb : s.bs[blk.toNat]? = some b) (hk : 1 ≤ k ∧ k ≤ 100) (n : Nat) (hn : n ≤ 100) (H : Heap) (es es' : List (AV × AV)) (hp : PlOk H L M vb vt s es) (hlk : lookupM (.agg [I blk, I ((n + 1 : Nat) : Int), I k, I 0]) es = none)
    (ih : callFL cfg0 prog0 false 94 [.ptr L 0, .agg [I blk, I n, I k, I 0]] (H ++ [.box (.agg [I blk, I ((n + 1 : Nat) : Int), I k, I 0]), .grow 1 ((heats s.ts blk ((n + 1 : Nat) : Int) 0).map I), .box (.agg [I blk, I n, I k, I 0])]) none =
      some ⟨.ret (I (exc s.ts blk (b.x 0) k 0 n)), List.set (H ++ [AO.box (.agg [I blk, I ((n + 1 : Nat) : Int), I k, I 0]), AO.grow 1 ((heats s.ts blk ((n + 1 : Nat) : Int) 0).map I), AO.box (.agg [I blk, I n, I k, I 0])]) M (.map 114 es'), none⟩) :
    callFL cfg0 prog0 false 94 [.ptr L 0, .agg [I blk, I ((n + 1 : Nat) : Int), I k, I 0]] H none = some ⟨.ret (I (exc s.ts blk (b.x 0) k 0 (n + 1))), H.set M (.map 114 (putM (.agg [I blk, I ((n + 1 : Nat) : Int), I k, I 0]) (I (exc s.ts blk (b.x 0) k 0 (n + 1))) es')), none⟩ := by
  have hL : L < H.length := (List.getElem?_eq_some_iff.1 hp.box).1
  have hM : M < H.length := (List.getElem?_eq_some_iff.1 hp.mp).1
  have hLM : M ≠ L := by
    rintro rfl
    have h1 := hp.box
    rw [hp.mp] at h1
    cases h1
  obtain ⟨-, -, a3, a4, a5⟩ := hp.bs.at (k := blk) (x := Blk.av b) h0 (by simp [hb])
  have hbo := hs.bs b (List.mem_of_getElem? hb)
  have hbb : -100 ≤ b.x 0 ∧ b.x 0 ≤ 100 := by have := hbo.a1; have := hbo.a2; have := hbo.a3; simp only [Blk.x]; constructor <;> split <;> omega
  have hw := fun G => f120 b.x0 b.x1 G (by have := hbo.a1; have := hbo.a2; have := hbo.a3; omega) (by have := hbo.a1; have := hbo.a2; have := hbo.a3; omega) (by have := hbo.a1; have := hbo.a2; have := hbo.a3; omega)
  have hx := exc_bd (blk := blk) (e := 0) hs.ts hs.len hbb hk.1 n
  have hff := fun G => f75 (exc s.ts blk (b.x 0) k 0 n) k G (by omega) (by omega) hk.1 (by omega)
  have hfb : -1000000 ≤ fallsZ (exc s.ts blk (b.x 0) k 0 n) k ∧ fallsZ (exc s.ts blk (b.x 0) k 0 n) k ≤ 1000000 := by
    obtain ⟨q1, q2⟩ := fallsZ_bd (x := exc s.ts blk (b.x 0) k 0 n) hk.1
    rcases Int.le_total 0 (exc s.ts blk (b.x 0) k 0 n) with h4 | h4
    · have := q1 h4; omega
    · have := q2 h4; omega
  have hpos : (0 : Int) < ((n + 1 : Nat) : Int) := by omega
  have hm1 : IntKind.i64.wrap (((n + 1 : Nat) : Int) - 1) = (n : Int) := by rw [w64 (by omega) (by omega)]; omega
  have hex : exc s.ts blk (b.x 0) k 0 (n + 1) = (heats s.ts blk ((n + 1 : Nat) : Int) 0).sum + fallsZ (exc s.ts blk (b.x 0) k 0 n) k := rfl
  rw [hex]
  clear hex
  generalize hmm : ((n + 1 : Nat) : Int) = m at *
  have hsb := heats_bd s.ts blk m 0 hs.ts
  have hsl : (heats s.ts blk m 0).length ≤ 1000 := by have := heats_len s.ts blk m 0; have := hs.len; omega
  refine (callFL_eq fn94 rfl (by simp [Try.f94])).trans ?_
  simp only [go_sem, ↓reduceIte, Nat.reduceEqDiff, Nat.reduceAdd, Nat.reduceLeDiff, Nat.reduceBEq, Nat.reduceMul, Nat.reduceLT, Int.reduceLT, Int.reduceLE, Int.reduceToNat, Int.reduceNeg, Int.reduceEq, Int.reduceMul, reduceCtorEq, fn94, res94, gc94_0, gc94_1, gc94_2, gc94_3, gc94_4, gc94_5, gc94_6, gc94_7, gc94_8, gc94_9, gc94_10, gc94_11, gc94_12, gc94_13, gc94_14, gc94_15, gc94_16, gc94_17, gc94_18, gc94_19, gc94_20, gcSt, keepEnv, envLt, heapLt, dfrLt, ADefer.lt, grow94_4, grow94_5, grow94_6, grow94_7, grow94_8, grow94_11, grow94_13, grow94_14, ty3, ty22, ty23, ty25, ty29, ty56, ty63, ty69, ty80, ty82, ty83, ty114, ty122, ty123, ty125, plan94_1, plan94_4, plan94_12, plan94_17, plan94_19, eqt114, get_lt hL, hp.box]
  rw [chkK_of]; rotate_left; kernel_rfl
  simp only [go_sem, ↓reduceIte, Nat.reduceEqDiff, Nat.reduceAdd, Nat.reduceLeDiff, Nat.reduceBEq, Nat.reduceMul, Nat.reduceLT, Int.reduceLT, Int.reduceLE, Int.reduceToNat, Int.reduceNeg, Int.reduceEq, Int.reduceMul, reduceCtorEq, fn94, res94, gc94_0, gc94_1, gc94_2, gc94_3, gc94_4, gc94_5, gc94_6, gc94_7, gc94_8, gc94_9, gc94_10, gc94_11, gc94_12, gc94_13, gc94_14, gc94_15, gc94_16, gc94_17, gc94_18, gc94_19, gc94_20, gcSt, keepEnv, envLt, heapLt, dfrLt, ADefer.lt, grow94_4, grow94_5, grow94_6, grow94_7, grow94_8, grow94_11, grow94_13, grow94_14, ty3, ty22, ty23, ty25, ty29, ty56, ty63, ty69, ty80, ty82, ty83, ty114, ty122, ty123, ty125, plan94_1, plan94_4, plan94_12, plan94_17, plan94_19, eqt114, get_lt hL, get_lt hM, hp.box, hp.mp, hlk]
  rw [chkK_of]; rotate_left; kernel_rfl
  simp only [go_sem, ↓reduceIte, Nat.reduceEqDiff, Nat.reduceAdd, Nat.reduceLeDiff, Nat.reduceBEq, Nat.reduceMul, Nat.reduceLT, Int.reduceLT, Int.reduceLE, Int.reduceToNat, Int.reduceNeg, Int.reduceEq, Int.reduceMul, reduceCtorEq, fn94, res94, gc94_0, gc94_1, gc94_2, gc94_3, gc94_4, gc94_5, gc94_6, gc94_7, gc94_8, gc94_9, gc94_10, gc94_11, gc94_12, gc94_13, gc94_14, gc94_15, gc94_16, gc94_17, gc94_18, gc94_19, gc94_20, gcSt, keepEnv, envLt, heapLt, dfrLt, ADefer.lt, grow94_4, grow94_5, grow94_6, grow94_7, grow94_8, grow94_11, grow94_13, grow94_14, ty3, ty22, ty23, ty25, ty29, ty56, ty63, ty69, ty80, ty82, ty83, ty114, ty122, ty123, ty125, plan94_1, plan94_4, plan94_12, plan94_17, plan94_19, eqt114, get_lt hL, get_lt hM, hp.box, hp.mp, hlk, f101, hp.ts.len, List.length_map]
  refine (congrArg (Option.map _) (f94_loop _ H L vt s.ts blk m k 0 _ _ hL hp.ts hs.ts hs.len of_cold (fun _ => ⟨rfl, rfl⟩) s.ts.length 0 0 [] [] _ (by omega) (by simp [heats]) (by simp) (by rfl) (by rfl) (by rfl) (by rfl) (by rfl) (by rfl) (by rfl))).trans ?_
  simp only [go_sem, ↓reduceIte, Nat.reduceEqDiff, Nat.reduceAdd, Nat.reduceLeDiff, Nat.reduceBEq, Nat.reduceMul, Nat.reduceLT, Int.reduceLT, Int.reduceLE, Int.reduceToNat, Int.reduceNeg, Int.reduceEq, Int.reduceMul, reduceCtorEq, fn94, res94, gc94_0, gc94_1, gc94_2, gc94_3, gc94_4, gc94_5, gc94_6, gc94_7, gc94_8, gc94_9, gc94_10, gc94_11, gc94_12, gc94_13, gc94_14, gc94_15, gc94_16, gc94_17, gc94_18, gc94_19, gc94_20, gcSt, keepEnv, envLt, heapLt, dfrLt, ADefer.lt, grow94_4, grow94_5, grow94_6, grow94_7, grow94_8, grow94_11, grow94_13, grow94_14, ty3, ty22, ty23, ty25, ty29, ty56, ty63, ty69, ty80, ty82, ty83, ty114, ty122, ty123, ty125, plan94_1, plan94_4, plan94_12, plan94_17, plan94_19, eqt114]
  rw [chkK_of]; rotate_left; kernel_rfl
  simp only [go_sem, ↓reduceIte, Nat.reduceEqDiff, Nat.reduceAdd, Nat.reduceLeDiff, Nat.reduceBEq, Nat.reduceMul, Nat.reduceLT, Int.reduceLT, Int.reduceLE, Int.reduceToNat, Int.reduceNeg, Int.reduceEq, Int.reduceMul, reduceCtorEq, fn94, res94, gc94_0, gc94_1, gc94_2, gc94_3, gc94_4, gc94_5, gc94_6, gc94_7, gc94_8, gc94_9, gc94_10, gc94_11, gc94_12, gc94_13, gc94_14, gc94_15, gc94_16, gc94_17, gc94_18, gc94_19, gc94_20, gcSt, keepEnv, envLt, heapLt, dfrLt, ADefer.lt, grow94_4, grow94_5, grow94_6, grow94_7, grow94_8, grow94_11, grow94_13, grow94_14, ty3, ty22, ty23, ty25, ty29, ty56, ty63, ty69, ty80, ty82, ty83, ty114, ty122, ty123, ty125, plan94_1, plan94_4, plan94_12, plan94_17, plan94_19, eqt114, get_lt hL, hp.box, a3, a4, a5, Blk.av, meth119, f119, hpos, hm1]
  rw [chkK_of]; rotate_left; kernel_rfl
  simp only [go_sem, ↓reduceIte, Nat.reduceEqDiff, Nat.reduceAdd, Nat.reduceLeDiff, Nat.reduceBEq, Nat.reduceMul, Nat.reduceLT, Int.reduceLT, Int.reduceLE, Int.reduceToNat, Int.reduceNeg, Int.reduceEq, Int.reduceMul, reduceCtorEq, fn94, res94, gc94_0, gc94_1, gc94_2, gc94_3, gc94_4, gc94_5, gc94_6, gc94_7, gc94_8, gc94_9, gc94_10, gc94_11, gc94_12, gc94_13, gc94_14, gc94_15, gc94_16, gc94_17, gc94_18, gc94_19, gc94_20, gcSt, keepEnv, envLt, heapLt, dfrLt, ADefer.lt, grow94_4, grow94_5, grow94_6, grow94_7, grow94_8, grow94_11, grow94_13, grow94_14, ty3, ty22, ty23, ty25, ty29, ty56, ty63, ty69, ty80, ty82, ty83, ty114, ty122, ty123, ty125, plan94_1, plan94_4, plan94_12, plan94_17, plan94_19, eqt114, get_lt hL, ih, set_lt hM, hff]
  generalize fallsZ (exc s.ts blk (b.x 0) k 0 n) k = y at *
  simp only [go_sem, ↓reduceIte, Nat.reduceEqDiff, Nat.reduceAdd, Nat.reduceLeDiff, Nat.reduceBEq, Nat.reduceMul, Nat.reduceLT, Int.reduceLT, Int.reduceLE, Int.reduceToNat, Int.reduceNeg, Int.reduceEq, Int.reduceMul, reduceCtorEq, fn94, res94, gc94_0, gc94_1, gc94_2, gc94_3, gc94_4, gc94_5, gc94_6, gc94_7, gc94_8, gc94_9, gc94_10, gc94_11, gc94_12, gc94_13, gc94_14, gc94_15, gc94_16, gc94_17, gc94_18, gc94_19, gc94_20, gcSt, keepEnv, envLt, heapLt, dfrLt, ADefer.lt, grow94_4, grow94_5, grow94_6, grow94_7, grow94_8, grow94_11, grow94_13, grow94_14, ty3, ty22, ty23, ty25, ty29, ty56, ty63, ty69, ty80, ty82, ty83, ty114, ty122, ty123, ty125, plan94_1, plan94_4, plan94_12, plan94_17, plan94_19, eqt114, app_fact (H.set M (.map 114 es')) H.length (by simp) _ [_] _ _ hsl, sum_fact (H.set M (.map 114 es')) H.length (by simp) _ [_] _ y hsl hsb hfb]
  have hgL : (H.set M (.map 114 es'))[L]? = H[L]? := List.getElem?_set_ne hLM
  have hgM : (H.set M (.map 114 es'))[M]? = some (.map 114 es') := List.getElem?_set_self hM
  have hL' : L < (H.set M (.map 114 es')).length := by simpa using hL
  have hM' : M < (H.set M (.map 114 es')).length := by simpa using hM
  rw [chkK_of]; rotate_left; kernel_rfl
  simp only [go_sem, ↓reduceIte, Nat.reduceEqDiff, Nat.reduceAdd, Nat.reduceLeDiff, Nat.reduceBEq, Nat.reduceMul, Nat.reduceLT, Int.reduceLT, Int.reduceLE, Int.reduceToNat, Int.reduceNeg, Int.reduceEq, Int.reduceMul, reduceCtorEq, fn94, res94, gc94_0, gc94_1, gc94_2, gc94_3, gc94_4, gc94_5, gc94_6, gc94_7, gc94_8, gc94_9, gc94_10, gc94_11, gc94_12, gc94_13, gc94_14, gc94_15, gc94_16, gc94_17, gc94_18, gc94_19, gc94_20, gcSt, keepEnv, envLt, heapLt, dfrLt, ADefer.lt, grow94_4, grow94_5, grow94_6, grow94_7, grow94_8, grow94_11, grow94_13, grow94_14, ty3, ty22, ty23, ty25, ty29, ty56, ty63, ty69, ty80, ty82, ty83, ty114, ty122, ty123, ty125, plan94_1, plan94_4, plan94_12, plan94_17, plan94_19, eqt114, get_lt hL', get_lt hM', hgL, hgM, hp.box, set_lt hM']

theorem f94s1 (L M : Nat) (vb vt : AV) (s : Stl) (hs : s.Wf) (blk k : Int) (b : Blk) (h0 : 0 ≤ blk) (hb : s.bs[blk.toNat]? = some b) (hk : 1 ≤ k ∧ k ≤ 100) (n : Nat) (hn : n ≤ 100) (H : Heap) (es es' : List (AV × AV)) (hp : PlOk H L M vb vt s es) (hlk : lookupM (.agg [I blk, I ((n + 1 : Nat) : Int), I k, I 1]) es = none)
    (ih : callFL cfg0 prog0 false 94 [.ptr L 0, .agg [I blk, I n, I k, I 1]] (H ++ [.box (.agg [I blk, I ((n + 1 : Nat) : Int), I k, I 1]), .grow 1 ((heats s.ts blk ((n + 1 : Nat) : Int) 1).map I), .box (.agg [I blk, I n, I k, I 1])]) none =
      some ⟨.ret (I (exc s.ts blk (b.x 1) k 1 n)), List.set (H ++ [AO.box (.agg [I blk, I ((n + 1 : Nat) : Int), I k, I 1]), AO.grow 1 ((heats s.ts blk ((n + 1 : Nat) : Int) 1).map I), AO.box (.agg [I blk, I n, I k, I 1])]) M (.map 114 es'), none⟩) :
    callFL cfg0 prog0 false 94 [.ptr L 0, .agg [I blk, I ((n + 1 : Nat) : Int), I k, I 1]] H none = some ⟨.ret (I (exc s.ts blk (b.x 1) k 1 (n + 1))), H.set M (.map 114 (putM (.agg [I blk, I ((n + 1 : Nat) : Int), I k, I 1]) (I (exc s.ts blk (b.x 1) k 1 (n + 1))) es')), none⟩ := by
  have hL : L < H.length := (List.getElem?_eq_some_iff.1 hp.box).1
  have hM : M < H.length := (List.getElem?_eq_some_iff.1 hp.mp).1
  have hLM : M ≠ L := by
    rintro rfl
    have h1 := hp.box
    rw [hp.mp] at h1
    cases h1
  obtain ⟨-, -, a3, a4, a5⟩ := hp.bs.at (k := blk) (x := Blk.av b) h0 (by simp [hb])
  have hbo := hs.bs b (List.mem_of_getElem? hb)
  have hbb : -100 ≤ b.x 1 ∧ b.x 1 ≤ 100 := by have := hbo.a1; have := hbo.a2; have := hbo.a3; simp only [Blk.x]; constructor <;> split <;> omega
  have hw := fun G => f120 b.x0 b.x1 G (by have := hbo.a1; have := hbo.a2; have := hbo.a3; omega) (by have := hbo.a1; have := hbo.a2; have := hbo.a3; omega) (by have := hbo.a1; have := hbo.a2; have := hbo.a3; omega)
  have hx := exc_bd (blk := blk) (e := 1) hs.ts hs.len hbb hk.1 n
  have hff := fun G => f75 (exc s.ts blk (b.x 1) k 1 n) k G (by omega) (by omega) hk.1 (by omega)
  have hfb : -1000000 ≤ fallsZ (exc s.ts blk (b.x 1) k 1 n) k ∧ fallsZ (exc s.ts blk (b.x 1) k 1 n) k ≤ 1000000 := by
    obtain ⟨q1, q2⟩ := fallsZ_bd (x := exc s.ts blk (b.x 1) k 1 n) hk.1
    rcases Int.le_total 0 (exc s.ts blk (b.x 1) k 1 n) with h4 | h4
    · have := q1 h4; omega
    · have := q2 h4; omega
  have hpos : (0 : Int) < ((n + 1 : Nat) : Int) := by omega
  have hm1 : IntKind.i64.wrap (((n + 1 : Nat) : Int) - 1) = (n : Int) := by rw [w64 (by omega) (by omega)]; omega
  have hex : exc s.ts blk (b.x 1) k 1 (n + 1) = (heats s.ts blk ((n + 1 : Nat) : Int) 1).sum + fallsZ (exc s.ts blk (b.x 1) k 1 n) k := rfl
  rw [hex]
  clear hex
  generalize hmm : ((n + 1 : Nat) : Int) = m at *
  have hsb := heats_bd s.ts blk m 1 hs.ts
  have hsl : (heats s.ts blk m 1).length ≤ 1000 := by have := heats_len s.ts blk m 1; have := hs.len; omega
  refine (callFL_eq fn94 rfl (by simp [Try.f94])).trans ?_
  simp only [go_sem, ↓reduceIte, Nat.reduceEqDiff, Nat.reduceAdd, Nat.reduceLeDiff, Nat.reduceBEq, Nat.reduceMul, Nat.reduceLT, Int.reduceLT, Int.reduceLE, Int.reduceToNat, Int.reduceNeg, Int.reduceEq, Int.reduceMul, reduceCtorEq, fn94, res94, gc94_0, gc94_1, gc94_2, gc94_3, gc94_4, gc94_5, gc94_6, gc94_7, gc94_8, gc94_9, gc94_10, gc94_11, gc94_12, gc94_13, gc94_14, gc94_15, gc94_16, gc94_17, gc94_18, gc94_19, gc94_20, gcSt, keepEnv, envLt, heapLt, dfrLt, ADefer.lt, grow94_4, grow94_5, grow94_6, grow94_7, grow94_8, grow94_11, grow94_13, grow94_14, ty3, ty22, ty23, ty25, ty29, ty56, ty63, ty69, ty80, ty82, ty83, ty114, ty122, ty123, ty125, plan94_1, plan94_4, plan94_12, plan94_17, plan94_19, eqt114, get_lt hL, hp.box]
  rw [chkK_of]; rotate_left; kernel_rfl
  simp only [go_sem, ↓reduceIte, Nat.reduceEqDiff, Nat.reduceAdd, Nat.reduceLeDiff, Nat.reduceBEq, Nat.reduceMul, Nat.reduceLT, Int.reduceLT, Int.reduceLE, Int.reduceToNat, Int.reduceNeg, Int.reduceEq, Int.reduceMul, reduceCtorEq, fn94, res94, gc94_0, gc94_1, gc94_2, gc94_3, gc94_4, gc94_5, gc94_6, gc94_7, gc94_8, gc94_9, gc94_10, gc94_11, gc94_12, gc94_13, gc94_14, gc94_15, gc94_16, gc94_17, gc94_18, gc94_19, gc94_20, gcSt, keepEnv, envLt, heapLt, dfrLt, ADefer.lt, grow94_4, grow94_5, grow94_6, grow94_7, grow94_8, grow94_11, grow94_13, grow94_14, ty3, ty22, ty23, ty25, ty29, ty56, ty63, ty69, ty80, ty82, ty83, ty114, ty122, ty123, ty125, plan94_1, plan94_4, plan94_12, plan94_17, plan94_19, eqt114, get_lt hL, get_lt hM, hp.box, hp.mp, hlk]
  rw [chkK_of]; rotate_left; kernel_rfl
  simp only [go_sem, ↓reduceIte, Nat.reduceEqDiff, Nat.reduceAdd, Nat.reduceLeDiff, Nat.reduceBEq, Nat.reduceMul, Nat.reduceLT, Int.reduceLT, Int.reduceLE, Int.reduceToNat, Int.reduceNeg, Int.reduceEq, Int.reduceMul, reduceCtorEq, fn94, res94, gc94_0, gc94_1, gc94_2, gc94_3, gc94_4, gc94_5, gc94_6, gc94_7, gc94_8, gc94_9, gc94_10, gc94_11, gc94_12, gc94_13, gc94_14, gc94_15, gc94_16, gc94_17, gc94_18, gc94_19, gc94_20, gcSt, keepEnv, envLt, heapLt, dfrLt, ADefer.lt, grow94_4, grow94_5, grow94_6, grow94_7, grow94_8, grow94_11, grow94_13, grow94_14, ty3, ty22, ty23, ty25, ty29, ty56, ty63, ty69, ty80, ty82, ty83, ty114, ty122, ty123, ty125, plan94_1, plan94_4, plan94_12, plan94_17, plan94_19, eqt114, get_lt hL, get_lt hM, hp.box, hp.mp, hlk, f101, hp.ts.len, List.length_map]
  refine (congrArg (Option.map _) (f94_loop _ H L vt s.ts blk m k 1 _ _ hL hp.ts hs.ts hs.len of_warm (fun _ => ⟨rfl, rfl⟩) s.ts.length 0 0 [] [] _ (by omega) (by simp [heats]) (by simp) (by rfl) (by rfl) (by rfl) (by rfl) (by rfl) (by rfl) (by rfl))).trans ?_
  simp only [go_sem, ↓reduceIte, Nat.reduceEqDiff, Nat.reduceAdd, Nat.reduceLeDiff, Nat.reduceBEq, Nat.reduceMul, Nat.reduceLT, Int.reduceLT, Int.reduceLE, Int.reduceToNat, Int.reduceNeg, Int.reduceEq, Int.reduceMul, reduceCtorEq, fn94, res94, gc94_0, gc94_1, gc94_2, gc94_3, gc94_4, gc94_5, gc94_6, gc94_7, gc94_8, gc94_9, gc94_10, gc94_11, gc94_12, gc94_13, gc94_14, gc94_15, gc94_16, gc94_17, gc94_18, gc94_19, gc94_20, gcSt, keepEnv, envLt, heapLt, dfrLt, ADefer.lt, grow94_4, grow94_5, grow94_6, grow94_7, grow94_8, grow94_11, grow94_13, grow94_14, ty3, ty22, ty23, ty25, ty29, ty56, ty63, ty69, ty80, ty82, ty83, ty114, ty122, ty123, ty125, plan94_1, plan94_4, plan94_12, plan94_17, plan94_19, eqt114]
  rw [chkK_of]; rotate_left; kernel_rfl
  simp only [go_sem, ↓reduceIte, Nat.reduceEqDiff, Nat.reduceAdd, Nat.reduceLeDiff, Nat.reduceBEq, Nat.reduceMul, Nat.reduceLT, Int.reduceLT, Int.reduceLE, Int.reduceToNat, Int.reduceNeg, Int.reduceEq, Int.reduceMul, reduceCtorEq, fn94, res94, gc94_0, gc94_1, gc94_2, gc94_3, gc94_4, gc94_5, gc94_6, gc94_7, gc94_8, gc94_9, gc94_10, gc94_11, gc94_12, gc94_13, gc94_14, gc94_15, gc94_16, gc94_17, gc94_18, gc94_19, gc94_20, gcSt, keepEnv, envLt, heapLt, dfrLt, ADefer.lt, grow94_4, grow94_5, grow94_6, grow94_7, grow94_8, grow94_11, grow94_13, grow94_14, ty3, ty22, ty23, ty25, ty29, ty56, ty63, ty69, ty80, ty82, ty83, ty114, ty122, ty123, ty125, plan94_1, plan94_4, plan94_12, plan94_17, plan94_19, eqt114, get_lt hL, hp.box, a3, a4, a5, Blk.av, meth120, hw, hpos, hm1]
  rw [chkK_of]; rotate_left; kernel_rfl
  simp only [go_sem, ↓reduceIte, Nat.reduceEqDiff, Nat.reduceAdd, Nat.reduceLeDiff, Nat.reduceBEq, Nat.reduceMul, Nat.reduceLT, Int.reduceLT, Int.reduceLE, Int.reduceToNat, Int.reduceNeg, Int.reduceEq, Int.reduceMul, reduceCtorEq, fn94, res94, gc94_0, gc94_1, gc94_2, gc94_3, gc94_4, gc94_5, gc94_6, gc94_7, gc94_8, gc94_9, gc94_10, gc94_11, gc94_12, gc94_13, gc94_14, gc94_15, gc94_16, gc94_17, gc94_18, gc94_19, gc94_20, gcSt, keepEnv, envLt, heapLt, dfrLt, ADefer.lt, grow94_4, grow94_5, grow94_6, grow94_7, grow94_8, grow94_11, grow94_13, grow94_14, ty3, ty22, ty23, ty25, ty29, ty56, ty63, ty69, ty80, ty82, ty83, ty114, ty122, ty123, ty125, plan94_1, plan94_4, plan94_12, plan94_17, plan94_19, eqt114, get_lt hL, ih, set_lt hM, hff]
  generalize fallsZ (exc s.ts blk (b.x 1) k 1 n) k = y at *
  simp only [go_sem, ↓reduceIte, Nat.reduceEqDiff, Nat.reduceAdd, Nat.reduceLeDiff, Nat.reduceBEq, Nat.reduceMul, Nat.reduceLT, Int.reduceLT, Int.reduceLE, Int.reduceToNat, Int.reduceNeg, Int.reduceEq, Int.reduceMul, reduceCtorEq, fn94, res94, gc94_0, gc94_1, gc94_2, gc94_3, gc94_4, gc94_5, gc94_6, gc94_7, gc94_8, gc94_9, gc94_10, gc94_11, gc94_12, gc94_13, gc94_14, gc94_15, gc94_16, gc94_17, gc94_18, gc94_19, gc94_20, gcSt, keepEnv, envLt, heapLt, dfrLt, ADefer.lt, grow94_4, grow94_5, grow94_6, grow94_7, grow94_8, grow94_11, grow94_13, grow94_14, ty3, ty22, ty23, ty25, ty29, ty56, ty63, ty69, ty80, ty82, ty83, ty114, ty122, ty123, ty125, plan94_1, plan94_4, plan94_12, plan94_17, plan94_19, eqt114, app_fact (H.set M (.map 114 es')) H.length (by simp) _ [_] _ _ hsl, sum_fact (H.set M (.map 114 es')) H.length (by simp) _ [_] _ y hsl hsb hfb]
  have hgL : (H.set M (.map 114 es'))[L]? = H[L]? := List.getElem?_set_ne hLM
  have hgM : (H.set M (.map 114 es'))[M]? = some (.map 114 es') := List.getElem?_set_self hM
  have hL' : L < (H.set M (.map 114 es')).length := by simpa using hL
  have hM' : M < (H.set M (.map 114 es')).length := by simpa using hM
  rw [chkK_of]; rotate_left; kernel_rfl
  simp only [go_sem, ↓reduceIte, Nat.reduceEqDiff, Nat.reduceAdd, Nat.reduceLeDiff, Nat.reduceBEq, Nat.reduceMul, Nat.reduceLT, Int.reduceLT, Int.reduceLE, Int.reduceToNat, Int.reduceNeg, Int.reduceEq, Int.reduceMul, reduceCtorEq, fn94, res94, gc94_0, gc94_1, gc94_2, gc94_3, gc94_4, gc94_5, gc94_6, gc94_7, gc94_8, gc94_9, gc94_10, gc94_11, gc94_12, gc94_13, gc94_14, gc94_15, gc94_16, gc94_17, gc94_18, gc94_19, gc94_20, gcSt, keepEnv, envLt, heapLt, dfrLt, ADefer.lt, grow94_4, grow94_5, grow94_6, grow94_7, grow94_8, grow94_11, grow94_13, grow94_14, ty3, ty22, ty23, ty25, ty29, ty56, ty63, ty69, ty80, ty82, ty83, ty114, ty122, ty123, ty125, plan94_1, plan94_4, plan94_12, plan94_17, plan94_19, eqt114, get_lt hL', get_lt hM', hgL, hgM, hp.box, set_lt hM']


theorem f94 (L M : Nat) (vb vt : AV) (s : Stl) (hs : s.Wf) (blk k e : Int) (b : Blk) (h0 : 0 ≤ blk) (hb : s.bs[blk.toNat]? = some b) (hk : 1 ≤ k ∧ k ≤ 100) (he : e = 0 ∨ e = 1) : ∀ (n : Nat) (H : Heap) (es : List (AV × AV)), n ≤ 100 → PlOk H L M vb vt s es → Good s es →
    ∃ es', Good s es' ∧ callFL cfg0 prog0 false 94 [.ptr L 0, .agg [I blk, I n, I k, I e]] H none = some ⟨.ret (I (exc s.ts blk (b.x e) k e n)), H.set M (.map 114 es'), none⟩ := by
  intro n
  have hit : ∀ (n : Nat) (H : Heap) (es : List (AV × AV)) (v : AV), PlOk H L M vb vt s es → Good s es → lookupM (.agg [I blk, I n, I k, I e]) es = some v →
      callFL cfg0 prog0 false 94 [.ptr L 0, .agg [I blk, I n, I k, I e]] H none = some ⟨.ret (I (exc s.ts blk (b.x e) k e n)), H.set M (.map 114 es), none⟩ := by
    intro n H es v hp hg hlk
    have hL : L < H.length := (List.getElem?_eq_some_iff.1 hp.box).1
    have hM : M < H.length := (List.getElem?_eq_some_iff.1 hp.mp).1
    have hv := hg.2 blk n k e b h0 hb v hlk
    subst hv
    rw [set_self hp.mp]
    refine (callFL_eq fn94 rfl (by simp [Try.f94])).trans ?_
    simp only [go_sem, ↓reduceIte, Nat.reduceEqDiff, Nat.reduceAdd, Nat.reduceLeDiff, Nat.reduceBEq, Nat.reduceMul, Nat.reduceLT, Int.reduceLT, Int.reduceLE, Int.reduceToNat, Int.reduceNeg, Int.reduceEq, Int.reduceMul, reduceCtorEq, fn94, res94, gc94_0, gc94_1, gc94_2, gc94_3, gc94_4, gc94_5, gc94_6, gc94_7, gc94_8, gc94_9, gc94_10, gc94_11, gc94_12, gc94_13, gc94_14, gc94_15, gc94_16, gc94_17, gc94_18, gc94_19, gc94_20, gcSt, keepEnv, envLt, heapLt, dfrLt, ADefer.lt, grow94_4, grow94_5, grow94_6, grow94_7, grow94_8, grow94_11, grow94_13, grow94_14, ty3, ty22, ty23, ty25, ty29, ty56, ty63, ty69, ty80, ty82, ty83, ty114, ty122, ty123, ty125, plan94_1, plan94_4, plan94_12, plan94_17, plan94_19, eqt114, get_lt hL, hp.box]
    rw [chkK_of]; rotate_left; kernel_rfl
    simp only [go_sem, ↓reduceIte, Nat.reduceEqDiff, Nat.reduceAdd, Nat.reduceLeDiff, Nat.reduceBEq, Nat.reduceMul, Nat.reduceLT, Int.reduceLT, Int.reduceLE, Int.reduceToNat, Int.reduceNeg, Int.reduceEq, Int.reduceMul, reduceCtorEq, fn94, res94, gc94_0, gc94_1, gc94_2, gc94_3, gc94_4, gc94_5, gc94_6, gc94_7, gc94_8, gc94_9, gc94_10, gc94_11, gc94_12, gc94_13, gc94_14, gc94_15, gc94_16, gc94_17, gc94_18, gc94_19, gc94_20, gcSt, keepEnv, envLt, heapLt, dfrLt, ADefer.lt, grow94_4, grow94_5, grow94_6, grow94_7, grow94_8, grow94_11, grow94_13, grow94_14, ty3, ty22, ty23, ty25, ty29, ty56, ty63, ty69, ty80, ty82, ty83, ty114, ty122, ty123, ty125, plan94_1, plan94_4, plan94_12, plan94_17, plan94_19, eqt114, get_lt hL, get_lt hM, hp.box, hp.mp, hlk]
  induction n with
  | zero =>
    intro H es hn hp hg
    cases hlk : lookupM (.agg [I blk, I ((0 : Nat) : Int), I k, I e]) es with
    | some v => exact ⟨es, hg, hit 0 H es v hp hg hlk⟩
    | none =>
      refine ⟨_, hg.put (n := 0) (k := k) (e := e) h0 hb, ?_⟩
      rcases he with rfl | rfl
      · exact f94z0 L M vb vt s hs blk k b h0 hb H es hp hlk
      · exact f94z1 L M vb vt s hs blk k b h0 hb H es hp hlk
  | succ n ih =>
    intro H es hn hp hg
    cases hlk : lookupM (.agg [I blk, I ((n + 1 : Nat) : Int), I k, I e]) es with
    | some v => exact ⟨es, hg, hit (n + 1) H es v hp hg hlk⟩
    | none =>
      have hL : L < H.length := (List.getElem?_eq_some_iff.1 hp.box).1
      have hM : M < H.length := (List.getElem?_eq_some_iff.1 hp.mp).1
      obtain ⟨es', h1, h2⟩ := ih (H ++ [.box (.agg [I blk, I ((n + 1 : Nat) : Int), I k, I e]), .grow 1 ((heats s.ts blk ((n + 1 : Nat) : Int) e).map I), .box (.agg [I blk, I n, I k, I e])]) es (by omega)
        ⟨by rw [get_lt hL]; exact hp.box, by rw [get_lt hM]; exact hp.mp, hp.bs.app _, hp.ts.app _⟩ hg
      refine ⟨_, h1.put (n := n + 1) (k := k) (e := e) h0 hb, ?_⟩
      rcases he with rfl | rfl
      · exact f94s0 L M vb vt s hs blk k b h0 hb hk n (by omega) H es es' hp hlk h2
      · exact f94s1 L M vb vt s hs blk k b h0 hb hk n (by omega) H es es' hp hlk h2

end Go.Ab
