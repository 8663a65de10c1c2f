/-
  The layer settle: a settle is opened, if it is valid.
-/
import Derived.Test.YtppmifiahebgfaaW3
namespace Go.Ab
open Go.Proofs
set_option linter.unusedSimpArgs false
set_option linter.unusedVariables false

variable {H : Heap} {L M : Nat} {vb vt : AV} {s : Stl} {es : List (AV × AV)}

def wi (n lo hi : Int) : Bool := decide (lo ≤ n) && decide (n ≤ hi)
def spn (a b lo hi : Int) : Bool := decide (lo ≤ a) && decide (a ≤ b) && decide (b ≤ hi)

theorem f74w (n lo hi : Int) (H : Heap) : callFL cfg0 prog0 false 74 [I n, I lo, I hi] H none = some ⟨.ret (.bool (wi n lo hi)), H, none⟩ := f74 n lo hi H
theorem f91w (a b lo hi : Int) (H : Heap) : callFL cfg0 prog0 false 91 [.agg [I a, I b], I lo, I hi] H none = some ⟨.ret (.bool (spn a b lo hi)), H, none⟩ := f91 a b lo hi H
theorem f85t (e : Int) (H : Heap) : callFL cfg0 prog0 false 85 [.bool true, I e] H none = some ⟨.ret (.tup []), H, none⟩ := f85 true e H
theorem f85f (e : Int) (H : Heap) : callFL cfg0 prog0 false 85 [.bool false, I e] H none = some ⟨.pan (.iface 109 (.agg [I e])), H, none⟩ := f85 false e H

def Blk.okb (b : Blk) : Bool := spn b.x0 b.x1 (-100) 100 && (spn b.s0 b.s1 2 8 && spn b.g0 b.g1 0 20)
def Tch.okb (n last : Int) (t : Tch) : Bool := wi t.b 0 (n - 1) && (wi t.m 0 last && spn t.h0 t.h1 (-100) 100)
def Stl.nums (s : Stl) : Bool := wi s.bs.length 1 4 && (wi s.near 0 20 && (wi s.last 1 60 && decide ((s.ts.length : Int) ≤ 6)))
def Stl.valid (s : Stl) : Bool := s.nums && (s.bs.all Blk.okb && s.ts.all (Tch.okb s.bs.length s.last))

theorem f42_l1 (K : List Item) (H : Heap) (vb : AV) (bs : List Blk) (st cl : AV) (hv : SlOk H 6 vb (bs.map Blk.av)) (hl : bs.length ≤ 1000) (hst : ∀ N, st.lt (H.length + N) = true) (hcl : ∀ N, cl.lt (H.length + N) = true) :
    ∀ (n j : Nat), j + n = bs.length → ∃ G', ∀ (E : Env) (G : Heap), E.get 1 = cl → E.get 2 = .ptr H.length 0 → E.get 32 = vb → E.get 33 = I bs.length → E.get 34 = I j →
    execL cfg0 prog0 ⟨42, none, false, H.length⟩ (loopIt Try.f42 3 :: .inBlock 0 :: K) ⟨E, [], H ++ (.box st :: G), none⟩ =
      if (bs.drop j).all Blk.okb then execL cfg0 prog0 ⟨42, none, false, H.length⟩ K ⟨[(35, .bool false), (1, cl), (2, .ptr H.length 0), (32, vb), (33, I bs.length), (34, I bs.length)], [], H ++ [.box st], none⟩
      else some ⟨.pan (.iface 109 (.agg [I 1])), H ++ G', none⟩ := by
  intro n
  induction n with
  | zero =>
    intro j hj
    refine ⟨[], ?_⟩
    intro E G g1 g2 g32 g33 g34
    have hjl : j = bs.length := by omega
    have hk' : ¬ (j : Int) < bs.length := by omega
    rw [List.drop_eq_nil_of_le (by omega), List.all_nil, if_pos rfl]
    simp only [loopIt, todoPast, todoAt, todoOf, firstReg, ↓reduceIte, Option.some.injEq, Nat.reduceEqDiff, reduceCtorEq, Try.f42]
    rw [execL_inLoop]
    simp only [go_sem, ↓reduceIte, Nat.reduceEqDiff, Nat.reduceAdd, Nat.reduceLeDiff, Nat.reduceBEq, Nat.reduceMul, Nat.reduceLT, Int.reduceLT, Int.reduceLE, Int.reduceToNat, Int.reduceNeg, Int.reduceEq, Int.reduceMul, reduceCtorEq, fn42, res42, gc42_0, gc42_1, gc42_2, gc42_3, gc42_4, gc42_5, gc42_6, gc42_7, gc42_8, gc42_9, gc42_10, gc42_11, gc42_12, gc42_13, gc42_14, gcSt, keepEnv, envLt, heapLt, dfrLt, ADefer.lt, grow42, ty3, ty4, ty22, ty23, ty25, ty29, ty30, ty56, ty63, ty69, g1, g2, g32, g33, g34, hk', hv.ltn, hst, hcl]
    subst hjl
    trivial
  | succ n ih =>
    intro j hj
    have hk' : (j : Int) < bs.length := by omega
    have hk2 : j < bs.length := by omega
    obtain ⟨-, -, a3, a4, a5⟩ := hv.at (k := (j : Int)) (x := Blk.av bs[j]) (by omega) (by simp [hk2])
    have hj1 : IntKind.i64.wrap ((j : Int) + 1) = ((j + 1 : Nat) : Int) := by rw [w64 (by omega) (by omega)]; omega
    rw [List.drop_eq_getElem_cons hk2, List.all_cons]
    cases h1 : spn bs[j].x0 bs[j].x1 (-100) 100 with
    | false =>
      refine ⟨[.box st, .box bs[j].av], ?_⟩
      intro E G g1 g2 g32 g33 g34
      simp only [loopIt, todoPast, todoAt, todoOf, firstReg, ↓reduceIte, Option.some.injEq, Nat.reduceEqDiff, reduceCtorEq, Try.f42]
      rw [execL_inLoop]
      simp only [go_sem, ↓reduceIte, Nat.reduceEqDiff, Nat.reduceAdd, Nat.reduceLeDiff, Nat.reduceBEq, Nat.reduceMul, Nat.reduceLT, Int.reduceLT, Int.reduceLE, Int.reduceToNat, Int.reduceNeg, Int.reduceEq, Int.reduceMul, reduceCtorEq, fn42, res42, gc42_0, gc42_1, gc42_2, gc42_3, gc42_4, gc42_5, gc42_6, gc42_7, gc42_8, gc42_9, gc42_10, gc42_11, gc42_12, gc42_13, gc42_14, gcSt, keepEnv, envLt, heapLt, dfrLt, ADefer.lt, grow42, ty3, ty4, ty22, ty23, ty25, ty29, ty30, ty56, ty63, ty69, g1, g2, g32, g33, g34, hk', hv.ltn, hst, hcl, a3, a4, a5, Blk.av, f91w, h1, f85f, Blk.okb]
    | true =>
      cases h2 : spn bs[j].s0 bs[j].s1 2 8 with
      | false =>
        refine ⟨[.box st, .box bs[j].av], ?_⟩
        intro E G g1 g2 g32 g33 g34
        simp only [loopIt, todoPast, todoAt, todoOf, firstReg, ↓reduceIte, Option.some.injEq, Nat.reduceEqDiff, reduceCtorEq, Try.f42]
        rw [execL_inLoop]
        simp only [go_sem, ↓reduceIte, Nat.reduceEqDiff, Nat.reduceAdd, Nat.reduceLeDiff, Nat.reduceBEq, Nat.reduceMul, Nat.reduceLT, Int.reduceLT, Int.reduceLE, Int.reduceToNat, Int.reduceNeg, Int.reduceEq, Int.reduceMul, reduceCtorEq, fn42, res42, gc42_0, gc42_1, gc42_2, gc42_3, gc42_4, gc42_5, gc42_6, gc42_7, gc42_8, gc42_9, gc42_10, gc42_11, gc42_12, gc42_13, gc42_14, gcSt, keepEnv, envLt, heapLt, dfrLt, ADefer.lt, grow42, ty3, ty4, ty22, ty23, ty25, ty29, ty30, ty56, ty63, ty69, g1, g2, g32, g33, g34, hk', hv.ltn, hst, hcl, a3, a4, a5, Blk.av, f91w, h1, h2, f85f, Blk.okb]
      | true =>
        cases h3 : spn bs[j].g0 bs[j].g1 0 20 with
        | false =>
          refine ⟨[.box st, .box bs[j].av], ?_⟩
          intro E G g1 g2 g32 g33 g34
          simp only [loopIt, todoPast, todoAt, todoOf, firstReg, ↓reduceIte, Option.some.injEq, Nat.reduceEqDiff, reduceCtorEq, Try.f42]
          rw [execL_inLoop]
          simp only [go_sem, ↓reduceIte, Nat.reduceEqDiff, Nat.reduceAdd, Nat.reduceLeDiff, Nat.reduceBEq, Nat.reduceMul, Nat.reduceLT, Int.reduceLT, Int.reduceLE, Int.reduceToNat, Int.reduceNeg, Int.reduceEq, Int.reduceMul, reduceCtorEq, fn42, res42, gc42_0, gc42_1, gc42_2, gc42_3, gc42_4, gc42_5, gc42_6, gc42_7, gc42_8, gc42_9, gc42_10, gc42_11, gc42_12, gc42_13, gc42_14, gcSt, keepEnv, envLt, heapLt, dfrLt, ADefer.lt, grow42, ty3, ty4, ty22, ty23, ty25, ty29, ty30, ty56, ty63, ty69, g1, g2, g32, g33, g34, hk', hv.ltn, hst, hcl, a3, a4, a5, Blk.av, f91w, h1, h2, h3, f85f, Blk.okb]
        | true =>
          have hok : bs[j].okb = true := by simp only [Blk.okb, h1, h2, h3]; rfl
          obtain ⟨G', hih⟩ := ih (j + 1) (by omega)
          refine ⟨G', ?_⟩
          intro E G g1 g2 g32 g33 g34
          rw [hok, Bool.true_and]
          simp only [loopIt, todoPast, todoAt, todoOf, firstReg, ↓reduceIte, Option.some.injEq, Nat.reduceEqDiff, reduceCtorEq, Try.f42]
          rw [execL_inLoop]
          simp only [go_sem, ↓reduceIte, Nat.reduceEqDiff, Nat.reduceAdd, Nat.reduceLeDiff, Nat.reduceBEq, Nat.reduceMul, Nat.reduceLT, Int.reduceLT, Int.reduceLE, Int.reduceToNat, Int.reduceNeg, Int.reduceEq, Int.reduceMul, reduceCtorEq, fn42, res42, gc42_0, gc42_1, gc42_2, gc42_3, gc42_4, gc42_5, gc42_6, gc42_7, gc42_8, gc42_9, gc42_10, gc42_11, gc42_12, gc42_13, gc42_14, gcSt, keepEnv, envLt, heapLt, dfrLt, ADefer.lt, grow42, ty3, ty4, ty22, ty23, ty25, ty29, ty30, ty56, ty63, ty69, g1, g2, g32, g33, g34, hk', hv.ltn, hst, hcl, a3, a4, a5, Blk.av, f91w, h1, h2, h3, f85t, hj1]
          exact hih _ [.box bs[j].av] (by rfl) (by rfl) (by rfl) (by rfl) (by rfl)


/-- What lies behind 'open', when it comes back. -/
def pl4 (n : Nat) (vb vt : AV) (s : Stl) : Heap := [.box (.agg [vb, I s.near, I s.last, vt]), .box (.agg [vb, I s.near, I s.last, vt]), .map 114 [], .box (.agg [vb, I s.near, I s.last, vt, .map (n + 2)])]

theorem pl4_ok (H : Heap) (vb vt : AV) (s : Stl) (hvb : SlOk H 6 vb (s.bs.map Blk.av)) (hvt : SlOk H 4 vt (s.ts.map Tch.av)) : PlOk (H ++ pl4 H.length vb vt s) (H.length + 3) (H.length + 2) vb vt s [] :=
  ⟨by rw [get_at' 3]; rfl, by rw [get_at' 2]; rfl, hvb.app _, hvt.app _⟩

theorem f42_l2 (K : List Item) (H : Heap) (vb vt : AV) (s : Stl) (cl : AV) (hvb : SlOk H 6 vb (s.bs.map Blk.av)) (hvt : SlOk H 4 vt (s.ts.map Tch.av)) (hl : s.bs.length ≤ 1000) (hl2 : s.ts.length ≤ 1000) (hcl : ∀ N, cl.lt (H.length + N) = true) :
    ∀ (n j : Nat), j + n = s.ts.length → ∃ G', ∀ (E : Env) (G : Heap), E.get 1 = cl → E.get 7 = .ptr (H.length + 3) 0 → E.get 56 = vt → E.get 57 = I s.ts.length → E.get 58 = I j →
    execL cfg0 prog0 ⟨42, none, false, H.length⟩ (loopIt Try.f42 9 :: .inBlock 2 :: K) ⟨E, [], H ++ (pl4 H.length vb vt s ++ G), none⟩ =
      if (s.ts.drop j).all (Tch.okb s.bs.length s.last) then execL cfg0 prog0 ⟨42, none, false, H.length⟩ K ⟨[(59, .bool false), (1, cl), (7, .ptr (H.length + 3) 0), (56, vt), (57, I s.ts.length), (58, I s.ts.length)], [], H ++ pl4 H.length vb vt s, none⟩
      else some ⟨.pan (.iface 109 (.agg [I 1])), H ++ G', none⟩ := by
  intro n
  have hp := pl4_ok H vb vt s hvb hvt
  have sb := hvb.scal
  have st := hvt.scal
  induction n with
  | zero =>
    intro j hj
    refine ⟨[], ?_⟩
    intro E G g1 g7 g56 g57 g58
    have hjl : j = s.ts.length := by omega
    have hk' : ¬ (j : Int) < s.ts.length := by omega
    rw [List.drop_eq_nil_of_le (by omega), List.all_nil, if_pos rfl]
    simp only [loopIt, todoPast, todoAt, todoOf, firstReg, ↓reduceIte, Option.some.injEq, Nat.reduceEqDiff, reduceCtorEq, Try.f42]
    rw [execL_inLoop]
    simp only [go_sem, ↓reduceIte, Nat.reduceEqDiff, Nat.reduceAdd, Nat.reduceLeDiff, Nat.reduceBEq, Nat.reduceMul, Nat.reduceLT, Int.reduceLT, Int.reduceLE, Int.reduceToNat, Int.reduceNeg, Int.reduceEq, Int.reduceMul, reduceCtorEq, fn42, res42, gc42_0, gc42_1, gc42_2, gc42_3, gc42_4, gc42_5, gc42_6, gc42_7, gc42_8, gc42_9, gc42_10, gc42_11, gc42_12, gc42_13, gc42_14, gcSt, keepEnv, envLt, heapLt, dfrLt, ADefer.lt, grow42, ty3, ty4, ty22, ty23, ty25, ty29, ty30, ty56, ty63, ty69, pl4, g1, g7, g56, g57, g58, hk', hvb.ltn, hvt.ltn, hcl]
    subst hjl
    trivial
  | succ n ih =>
    intro j hj
    have hk' : (j : Int) < s.ts.length := by omega
    have hk2 : j < s.ts.length := by omega
    obtain ⟨-, -, a3, a4, a5⟩ := hvt.at (k := (j : Int)) (x := Tch.av s.ts[j]) (by omega) (by simp [hk2])
    have hj1 : IntKind.i64.wrap ((j : Int) + 1) = ((j + 1 : Nat) : Int) := by rw [w64 (by omega) (by omega)]; omega
    have h44 := fun (G : Heap) n => f44 (hp.app G) n hl
    have h45 := fun (G : Heap) n => f45 (hp.app G) n
    obtain ⟨G', hih⟩ := ih (j + 1) (by omega)
    simp only [pl4, List.append_assoc, List.cons_append, List.nil_append] at h44 h45 hih ⊢
    rw [List.drop_eq_getElem_cons hk2, List.all_cons]
    cases h1 : (decide (0 ≤ s.ts[j].b) && decide (s.ts[j].b ≤ (s.bs.length : Int) - 1)) with
    | false =>
      refine ⟨pl4 H.length vb vt s ++ [.box s.ts[j].av], ?_⟩
      intro E G g1 g7 g56 g57 g58
      simp only [loopIt, todoPast, todoAt, todoOf, firstReg, ↓reduceIte, Option.some.injEq, Nat.reduceEqDiff, reduceCtorEq, Try.f42]
      rw [execL_inLoop]
      simp only [go_sem, ↓reduceIte, Nat.reduceEqDiff, Nat.reduceAdd, Nat.reduceLeDiff, Nat.reduceBEq, Nat.reduceMul, Nat.reduceLT, Int.reduceLT, Int.reduceLE, Int.reduceToNat, Int.reduceNeg, Int.reduceEq, Int.reduceMul, reduceCtorEq, fn42, res42, gc42_0, gc42_1, gc42_2, gc42_3, gc42_4, gc42_5, gc42_6, gc42_7, gc42_8, gc42_9, gc42_10, gc42_11, gc42_12, gc42_13, gc42_14, gcSt, keepEnv, envLt, heapLt, dfrLt, ADefer.lt, grow42, ty3, ty4, ty22, ty23, ty25, ty29, ty30, ty56, ty63, ty69, pl4, g1, g7, g56, g57, g58, hk', hvb.ltn, hvt.ltn, hcl, a3, a4, a5, Tch.av, h44, h45, h1, f85f, Tch.okb, wi]
    | true =>
      cases h2 : (decide (0 ≤ s.ts[j].m) && decide (s.ts[j].m ≤ s.last)) with
      | false =>
        refine ⟨pl4 H.length vb vt s ++ [.box s.ts[j].av], ?_⟩
        intro E G g1 g7 g56 g57 g58
        simp only [loopIt, todoPast, todoAt, todoOf, firstReg, ↓reduceIte, Option.some.injEq, Nat.reduceEqDiff, reduceCtorEq, Try.f42]
        rw [execL_inLoop]
        simp only [go_sem, ↓reduceIte, Nat.reduceEqDiff, Nat.reduceAdd, Nat.reduceLeDiff, Nat.reduceBEq, Nat.reduceMul, Nat.reduceLT, Int.reduceLT, Int.reduceLE, Int.reduceToNat, Int.reduceNeg, Int.reduceEq, Int.reduceMul, reduceCtorEq, fn42, res42, gc42_0, gc42_1, gc42_2, gc42_3, gc42_4, gc42_5, gc42_6, gc42_7, gc42_8, gc42_9, gc42_10, gc42_11, gc42_12, gc42_13, gc42_14, gcSt, keepEnv, envLt, heapLt, dfrLt, ADefer.lt, grow42, ty3, ty4, ty22, ty23, ty25, ty29, ty30, ty56, ty63, ty69, pl4, g1, g7, g56, g57, g58, hk', hvb.ltn, hvt.ltn, hcl, a3, a4, a5, Tch.av, h44, h45, h1, h2, f85f, Tch.okb, wi]
      | true =>
        cases h3 : spn s.ts[j].h0 s.ts[j].h1 (-100) 100 with
        | false =>
          refine ⟨pl4 H.length vb vt s ++ [.box s.ts[j].av], ?_⟩
          intro E G g1 g7 g56 g57 g58
          simp only [loopIt, todoPast, todoAt, todoOf, firstReg, ↓reduceIte, Option.some.injEq, Nat.reduceEqDiff, reduceCtorEq, Try.f42]
          rw [execL_inLoop]
          simp only [go_sem, ↓reduceIte, Nat.reduceEqDiff, Nat.reduceAdd, Nat.reduceLeDiff, Nat.reduceBEq, Nat.reduceMul, Nat.reduceLT, Int.reduceLT, Int.reduceLE, Int.reduceToNat, Int.reduceNeg, Int.reduceEq, Int.reduceMul, reduceCtorEq, fn42, res42, gc42_0, gc42_1, gc42_2, gc42_3, gc42_4, gc42_5, gc42_6, gc42_7, gc42_8, gc42_9, gc42_10, gc42_11, gc42_12, gc42_13, gc42_14, gcSt, keepEnv, envLt, heapLt, dfrLt, ADefer.lt, grow42, ty3, ty4, ty22, ty23, ty25, ty29, ty30, ty56, ty63, ty69, pl4, g1, g7, g56, g57, g58, hk', hvb.ltn, hvt.ltn, hcl, a3, a4, a5, Tch.av, h44, h45, h1, h2, f91w, h3, f85f, Tch.okb, wi]
        | true =>
          have hok : s.ts[j].okb s.bs.length s.last = true := by simp only [Tch.okb, wi, h1, h2, h3]; rfl
          refine ⟨G', ?_⟩
          intro E G g1 g7 g56 g57 g58
          rw [hok, Bool.true_and]
          simp only [loopIt, todoPast, todoAt, todoOf, firstReg, ↓reduceIte, Option.some.injEq, Nat.reduceEqDiff, reduceCtorEq, Try.f42]
          rw [execL_inLoop]
          simp only [go_sem, ↓reduceIte, Nat.reduceEqDiff, Nat.reduceAdd, Nat.reduceLeDiff, Nat.reduceBEq, Nat.reduceMul, Nat.reduceLT, Int.reduceLT, Int.reduceLE, Int.reduceToNat, Int.reduceNeg, Int.reduceEq, Int.reduceMul, reduceCtorEq, fn42, res42, gc42_0, gc42_1, gc42_2, gc42_3, gc42_4, gc42_5, gc42_6, gc42_7, gc42_8, gc42_9, gc42_10, gc42_11, gc42_12, gc42_13, gc42_14, gcSt, keepEnv, envLt, heapLt, dfrLt, ADefer.lt, grow42, ty3, ty4, ty22, ty23, ty25, ty29, ty30, ty56, ty63, ty69, g1, g7, g56, g57, g58, hk', hvb.ltn, hvt.ltn, hcl, a3, a4, a5, Tch.av, h44, h45, h1, h2, f91w, h3, f85t, hj1]
          exact hih _ [.box s.ts[j].av] (by rfl) (by rfl) (by rfl) (by rfl) (by rfl)

/-- 'open'. -/
theorem f42 (H : Heap) (vb vt : AV) (s : Stl) (fi : FuncId) (caps : List AV) (okb : Bool) (hvb : SlOk H 6 vb (s.bs.map Blk.av)) (hvt : SlOk H 4 vt (s.ts.map Tch.av)) (hl : s.bs.length ≤ 1000) (hl2 : s.ts.length ≤ 1000) (hcl : ∀ N, ltL (H.length + N) caps = true)
    (hok : callFL cfg0 prog0 false fi (.ptr (H.length + 3) 0 :: caps) (H ++ pl4 H.length vb vt s) none = some ⟨.ret (.bool okb), H ++ pl4 H.length vb vt s, none⟩) :
    callFL cfg0 prog0 false 42 [.agg [vb, I s.near, I s.last, vt], .func (.func fi) [] caps] H none = some (if s.valid then (if okb then ⟨.ret (.ptr (H.length + 3) 0), H ++ pl4 H.length vb vt s, none⟩ else ⟨.pan (.iface 109 (.agg [I 2])), H, none⟩) else ⟨.pan (.iface 109 (.agg [I 1])), H, none⟩) := by
  have sb := hvb.scal
  have st := hvt.scal
  have hcl' : ∀ N, (AV.func (.func fi) [] caps).lt (H.length + N) = true := fun N => by simp only [AV.lt, fnLt, ltL, hcl, Bool.and_self]
  have hst : ∀ N, (AV.agg [vb, I s.near, I s.last, vt]).lt (H.length + N) = true := fun N => by simp only [AV.lt, ltL, hvb.ltn, hvt.ltn, Bool.and_self]
  refine (callFL_eq fn42 rfl (by simp [Try.f42])).trans ?_
  cases h1 : wi s.bs.length 1 4 with
  | false => simp only [go_sem, ↓reduceIte, Nat.reduceEqDiff, Nat.reduceAdd, Nat.reduceLeDiff, Nat.reduceBEq, Nat.reduceMul, Nat.reduceLT, Int.reduceLT, Int.reduceLE, Int.reduceToNat, Int.reduceNeg, Int.reduceEq, Int.reduceMul, reduceCtorEq, fn42, res42, gc42_0, gc42_1, gc42_2, gc42_3, gc42_4, gc42_5, gc42_6, gc42_7, gc42_8, gc42_9, gc42_10, gc42_11, gc42_12, gc42_13, gc42_14, gcSt, keepEnv, envLt, heapLt, dfrLt, ADefer.lt, grow42, ty3, ty4, ty22, ty23, ty25, ty29, ty30, ty56, ty63, ty69, sb, st, hvb.len, List.length_map, f74w, h1, f85f, Stl.valid, Stl.nums]
  | true =>
    cases h2 : wi s.near 0 20 with
    | false => simp only [go_sem, ↓reduceIte, Nat.reduceEqDiff, Nat.reduceAdd, Nat.reduceLeDiff, Nat.reduceBEq, Nat.reduceMul, Nat.reduceLT, Int.reduceLT, Int.reduceLE, Int.reduceToNat, Int.reduceNeg, Int.reduceEq, Int.reduceMul, reduceCtorEq, fn42, res42, gc42_0, gc42_1, gc42_2, gc42_3, gc42_4, gc42_5, gc42_6, gc42_7, gc42_8, gc42_9, gc42_10, gc42_11, gc42_12, gc42_13, gc42_14, gcSt, keepEnv, envLt, heapLt, dfrLt, ADefer.lt, grow42, ty3, ty4, ty22, ty23, ty25, ty29, ty30, ty56, ty63, ty69, sb, st, hvb.len, List.length_map, f74w, h1, h2, f85f, Stl.valid, Stl.nums]
    | true =>
      cases h3 : wi s.last 1 60 with
      | false => simp only [go_sem, ↓reduceIte, Nat.reduceEqDiff, Nat.reduceAdd, Nat.reduceLeDiff, Nat.reduceBEq, Nat.reduceMul, Nat.reduceLT, Int.reduceLT, Int.reduceLE, Int.reduceToNat, Int.reduceNeg, Int.reduceEq, Int.reduceMul, reduceCtorEq, fn42, res42, gc42_0, gc42_1, gc42_2, gc42_3, gc42_4, gc42_5, gc42_6, gc42_7, gc42_8, gc42_9, gc42_10, gc42_11, gc42_12, gc42_13, gc42_14, gcSt, keepEnv, envLt, heapLt, dfrLt, ADefer.lt, grow42, ty3, ty4, ty22, ty23, ty25, ty29, ty30, ty56, ty63, ty69, sb, st, hvb.len, List.length_map, f74w, h1, h2, h3, f85f, Stl.valid, Stl.nums]
      | true =>
        cases h4 : decide ((s.ts.length : Int) ≤ 6) with
        | false => simp only [go_sem, ↓reduceIte, Nat.reduceEqDiff, Nat.reduceAdd, Nat.reduceLeDiff, Nat.reduceBEq, Nat.reduceMul, Nat.reduceLT, Int.reduceLT, Int.reduceLE, Int.reduceToNat, Int.reduceNeg, Int.reduceEq, Int.reduceMul, reduceCtorEq, fn42, res42, gc42_0, gc42_1, gc42_2, gc42_3, gc42_4, gc42_5, gc42_6, gc42_7, gc42_8, gc42_9, gc42_10, gc42_11, gc42_12, gc42_13, gc42_14, gcSt, keepEnv, envLt, heapLt, dfrLt, ADefer.lt, grow42, ty3, ty4, ty22, ty23, ty25, ty29, ty30, ty56, ty63, ty69, sb, st, hvb.len, hvt.len, List.length_map, f74w, h1, h2, h3, h4, f85f, Stl.valid, Stl.nums]
        | true =>
          have hn : s.nums = true := by simp only [Stl.nums, h1, h2, h3, h4]; rfl
          obtain ⟨G1, e1⟩ := f42_l1 (todoPast Try.f42 3) H vb s.bs _ _ hvb hl hst hcl' s.bs.length 0 (by omega)
          obtain ⟨G2, e2⟩ := f42_l2 (todoPast Try.f42 9) H vb vt s _ hvb hvt hl hl2 hcl' s.ts.length 0 (by omega)
          simp only [List.drop_zero] at e1 e2
          simp only [Stl.valid, hn, Bool.true_and]
          simp only [go_sem, ↓reduceIte, Nat.reduceEqDiff, Nat.reduceAdd, Nat.reduceLeDiff, Nat.reduceBEq, Nat.reduceMul, Nat.reduceLT, Int.reduceLT, Int.reduceLE, Int.reduceToNat, Int.reduceNeg, Int.reduceEq, Int.reduceMul, reduceCtorEq, fn42, res42, gc42_0, gc42_1, gc42_2, gc42_3, gc42_4, gc42_5, gc42_6, gc42_7, gc42_8, gc42_9, gc42_10, gc42_11, gc42_12, gc42_13, gc42_14, gcSt, keepEnv, envLt, heapLt, dfrLt, ADefer.lt, grow42, ty3, ty4, ty22, ty23, ty25, ty29, ty30, ty56, ty63, ty69, sb, st, hvb.len, hvt.len, List.length_map, f74w, h1, h2, h3, h4, f85t]
          refine (congrArg (Option.map _) (e1 _ [] (by rfl) (by rfl) (by rfl) (by rfl) (by rfl))).trans ?_
          cases h5 : s.bs.all Blk.okb with
          | false => simp only [go_sem, ↓reduceIte, Nat.reduceEqDiff, Nat.reduceAdd, Nat.reduceLeDiff, Nat.reduceBEq, Nat.reduceMul, Nat.reduceLT, Int.reduceLT, Int.reduceLE, Int.reduceToNat, Int.reduceNeg, Int.reduceEq, Int.reduceMul, reduceCtorEq]
          | true =>
            simp only [go_sem, ↓reduceIte, Nat.reduceEqDiff, Nat.reduceAdd, Nat.reduceLeDiff, Nat.reduceBEq, Nat.reduceMul, Nat.reduceLT, Int.reduceLT, Int.reduceLE, Int.reduceToNat, Int.reduceNeg, Int.reduceEq, Int.reduceMul, reduceCtorEq, fn42, res42, gc42_0, gc42_1, gc42_2, gc42_3, gc42_4, gc42_5, gc42_6, gc42_7, gc42_8, gc42_9, gc42_10, gc42_11, gc42_12, gc42_13, gc42_14, gcSt, keepEnv, envLt, heapLt, dfrLt, ADefer.lt, grow42, ty3, ty4, ty22, ty23, ty25, ty29, ty30, ty56, ty63, ty69, loopIt, todoPast, todoAt, todoOf, firstReg, ↓reduceIte, Option.some.injEq, Nat.reduceEqDiff, reduceCtorEq, Try.f42, f92 _ _ _ _ _ sb st, hvt.len, List.length_map]
            refine (congrArg (Option.map _) (e2 _ [] (by rfl) (by rfl) (by rfl) (by rfl) (by rfl))).trans ?_
            cases h6 : s.ts.all (Tch.okb s.bs.length s.last) with
            | false => simp only [go_sem, ↓reduceIte, Nat.reduceEqDiff, Nat.reduceAdd, Nat.reduceLeDiff, Nat.reduceBEq, Nat.reduceMul, Nat.reduceLT, Int.reduceLT, Int.reduceLE, Int.reduceToNat, Int.reduceNeg, Int.reduceEq, Int.reduceMul, reduceCtorEq]
            | true =>
              cases okb with
              | false => simp only [go_sem, ↓reduceIte, Nat.reduceEqDiff, Nat.reduceAdd, Nat.reduceLeDiff, Nat.reduceBEq, Nat.reduceMul, Nat.reduceLT, Int.reduceLT, Int.reduceLE, Int.reduceToNat, Int.reduceNeg, Int.reduceEq, Int.reduceMul, reduceCtorEq, fn42, res42, gc42_0, gc42_1, gc42_2, gc42_3, gc42_4, gc42_5, gc42_6, gc42_7, gc42_8, gc42_9, gc42_10, gc42_11, gc42_12, gc42_13, gc42_14, gcSt, keepEnv, envLt, heapLt, dfrLt, ADefer.lt, grow42, ty3, ty4, ty22, ty23, ty25, ty29, ty30, ty56, ty63, ty69, loopIt, todoPast, todoAt, todoOf, firstReg, ↓reduceIte, Option.some.injEq, Nat.reduceEqDiff, reduceCtorEq, Try.f42, hok, f85f]
              | true =>
                simp only [go_sem, ↓reduceIte, Nat.reduceEqDiff, Nat.reduceAdd, Nat.reduceLeDiff, Nat.reduceBEq, Nat.reduceMul, Nat.reduceLT, Int.reduceLT, Int.reduceLE, Int.reduceToNat, Int.reduceNeg, Int.reduceEq, Int.reduceMul, reduceCtorEq, fn42, res42, gc42_0, gc42_1, gc42_2, gc42_3, gc42_4, gc42_5, gc42_6, gc42_7, gc42_8, gc42_9, gc42_10, gc42_11, gc42_12, gc42_13, gc42_14, gcSt, keepEnv, envLt, heapLt, dfrLt, ADefer.lt, grow42, ty3, ty4, ty22, ty23, ty25, ty29, ty30, ty56, ty63, ty69, loopIt, todoPast, todoAt, todoOf, firstReg, ↓reduceIte, Option.some.injEq, Nat.reduceEqDiff, reduceCtorEq, Try.f42, hok, f85t]

end Go.Ab
