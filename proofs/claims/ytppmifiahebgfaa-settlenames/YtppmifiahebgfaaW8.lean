/-
  The layer settle: Rests, Wait and Latest, walked.
-/
import Derived.Test.YtppmifiahebgfaaW7
namespace Go.Ab
open Go.Proofs
set_option linter.unusedSimpArgs false
set_option linter.unusedVariables false

variable {H : Heap} {L M : Nat} {vb vt : AV} {s : Stl} {es : List (AV × AV)}

/-! ### Rests -/

def spA (p : Int × Int) : AV := .agg [I p.1, I p.2]

def restStep (acc : List (Int × Int)) (m : Int) : List (Int × Int) :=
  match acc.getLast? with
  | some p => if p.2 + 1 = m then acc.set (acc.length - 1) (p.1, m) else acc ++ [(m, m)]
  | none => acc ++ [(m, m)]

def restsR (f : Nat → Bool) : Nat → List (Int × Int)
  | 0 => []
  | m + 1 => if f m then restStep (restsR f m) m else restsR f m

theorem restsR_bd (f : Nat → Bool) : ∀ m, (restsR f m).length ≤ m ∧ ∀ p ∈ restsR f m, 0 ≤ p.1 ∧ p.1 < m ∧ 0 ≤ p.2 ∧ p.2 < m
  | 0 => by simp [restsR]
  | m + 1 => by
    obtain ⟨h1, h2⟩ := restsR_bd f m
    simp only [restsR]
    split
    · simp only [restStep]
      split
      · rename_i p hp
        have hpm := h2 p (List.mem_of_getLast? hp)
        split
        · refine ⟨by rw [List.length_set]; omega, fun q hq => ?_⟩
          rcases List.mem_or_eq_of_mem_set hq with h | h
          · have := h2 q h; omega
          · subst h; simp only; omega
        · refine ⟨by simp; omega, fun q hq => ?_⟩
          rcases List.mem_append.1 hq with h | h
          · have := h2 q h; omega
          · simp at h; subst h; simp only; omega
      · refine ⟨by simp; omega, fun q hq => ?_⟩
        rcases List.mem_append.1 hq with h | h
        · have := h2 q h; omega
        · simp at h; subst h; simp only; omega
    · exact ⟨by omega, fun q hq => by have := h2 q hq; omega⟩

def Stl.restsL (s : Stl) (n : Int) : List (Int × Int) := restsR (settl s n (s.blk n)) (s.last.toNat + 1)

theorem f24_loop (s : Stl) (hs : s.Wf) (hvb : SlOk H 6 vb (s.bs.map Blk.av)) (hvt : SlOk H 4 vt (s.ts.map Tch.av)) (n : Int) (h0 : 0 ≤ n) (hb : s.bs[n.toNat]? = some (s.blk n)) :
    ∀ (q j : Nat) (es : List (AV × AV)), j + q = s.last.toNat + 1 → Good s es →
    ∀ (E : Env) (G : Heap), E.get 3 = .ptr (H.length + 1) 0 → E.get 4 = .sl true [] → E.get 5 = .ptr (H.length + 2) 0 → E.get 6 = .ptr (H.length + 6) 0 → E.get 7 = .gsl (H.length + 7) (restsR (settl s n (s.blk n)) j).length → E.get 19 = I (s.last + 1) → E.get 20 = I j →
    Option.map (finishC H.length) (execL cfg0 prog0 ⟨24, none, false, H.length⟩ (todoAt Try.f24 5) ⟨E, [.fn (.func 69) [] [.ptr (H.length + 2) 0]], H ++ (.box (.agg [vb, I s.near, I s.last, vt]) :: .box (I n) :: .box (I 0) :: .box (.agg [vb, I s.near, I s.last, vt]) :: .box (.agg [vb, I s.near, I s.last, vt]) :: .map 114 es :: .box (.agg [vb, I s.near, I s.last, vt, .map (H.length + 5)]) :: .grow 2 ((restsR (settl s n (s.blk n)) j).map spA) :: G), none⟩) =
      some ⟨.ret (.tup [.sl false ((s.restsL n).map spA), I 0]), H, none⟩ := by
  intro q
  have sb := hvb.scal
  have st := hvt.scal
  have hlast := hs.last
  have hlt : ∀ l : List (Int × Int), ltL 0 (l.map spA) = true := ltL_map fun _ => rfl
  induction q with
  | zero =>
    intro j es hj hg E G g3 g4 g5 g6 g7 g19 g20
    have hjl : j = s.last.toNat + 1 := by omega
    have hk' : ¬ (j : Int) < s.last + 1 := by omega
    have hj' : restsR (settl s n (s.blk n)) j = s.restsL n := by rw [hjl]; rfl
    rw [hj'] at g7 ⊢
    simp only [loopIt, todoPast, todoAt, todoOf, firstReg, ↓reduceIte, Option.some.injEq, Nat.reduceEqDiff, reduceCtorEq, Try.f24]
    rw [execL_inLoop]
    simp only [go_sem, ↓reduceIte, Nat.reduceEqDiff, Nat.reduceAdd, Nat.reduceLeDiff, Nat.reduceBEq, Nat.reduceMul, Nat.reduceLT, Int.reduceLT, Int.reduceLE, Int.reduceToNat, Int.reduceNeg, Int.reduceEq, Int.reduceMul, reduceCtorEq, fn24, res24, gc24_0, gc24_1, gc24_2, gc24_3, gc24_4, gc24_5, gc24_6, gc24_7, gc24_8, gc24_9, gc24_10, gc24_11, gc24_12, gc24_13, gcSt, keepEnv, envLt, heapLt, dfrLt, ADefer.lt, grow24_4, grow24_6, grow24_7, grow24_8, grow24_9, ty3, ty22, ty23, ty25, ty29, ty30, ty38, ty56, ty63, ty69, ty72, ty80, ty82, ty83, ty114, g3, g4, g5, g6, g7, g19, g20, hk', hvb.ltn, hvt.ltn, hg.1, hlt, f69n, List.length_map]
  | succ q ih =>
    intro j es hj hg E G g3 g4 g5 g6 g7 g19 g20
    have hk' : (j : Int) < s.last + 1 := by omega
    have hj1 : IntKind.i64.wrap ((j : Int) + 1) = ((j + 1 : Nat) : Int) := by rw [w64 (by omega) (by omega)]; omega
    obtain ⟨hrl, hrb⟩ := restsR_bd (settl s n (s.blk n)) j
    have hih := fun es' hg' => ih (j + 1) es' (by omega) hg'
    simp only [restsR] at hih
    generalize restsR (settl s n (s.blk n)) j = l at *
    have hp : PlOk (H ++ [.box (.agg [vb, I s.near, I s.last, vt]), .box (I n), .box (I 0), .box (.agg [vb, I s.near, I s.last, vt]), .box (.agg [vb, I s.near, I s.last, vt]), .map 114 es, .box (.agg [vb, I s.near, I s.last, vt, .map (H.length + 5)]), .grow 2 (l.map spA)]) (H.length + 6) (H.length + 5) vb vt s es :=
      ⟨by rw [get_at' 6]; rfl, by rw [get_at' 5]; rfl, hvb.app _, hvt.app _⟩
    obtain ⟨es', hg', hr⟩ := f59 hs n (s.blk n) h0 hb j (by omega) hp hg
    simp only [pl4, List.append_assoc, List.cons_append, List.nil_append, List.append_nil, List.length_append, List.length_cons, List.length_nil, Nat.zero_add, Nat.add_zero, Nat.add_assoc, Nat.reduceAdd, set_at, set_at', List.set_cons_zero, List.set_cons_succ] at hr
    have hih := hih es' hg'
    simp only [loopIt, todoPast, todoAt, todoOf, firstReg, ↓reduceIte, Option.some.injEq, Nat.reduceEqDiff, reduceCtorEq, Try.f24]
    rw [execL_inLoop]
    cases hse : settl s n (s.blk n) j with
    | false =>
      rw [hse] at hih
      simp only [Bool.false_eq_true, if_false] at hih
      simp only [go_sem, ↓reduceIte, Nat.reduceEqDiff, Nat.reduceAdd, Nat.reduceLeDiff, Nat.reduceBEq, Nat.reduceMul, Nat.reduceLT, Int.reduceLT, Int.reduceLE, Int.reduceToNat, Int.reduceNeg, Int.reduceEq, Int.reduceMul, reduceCtorEq, fn24, res24, gc24_0, gc24_1, gc24_2, gc24_3, gc24_4, gc24_5, gc24_6, gc24_7, gc24_8, gc24_9, gc24_10, gc24_11, gc24_12, gc24_13, gcSt, keepEnv, envLt, heapLt, dfrLt, ADefer.lt, grow24_4, grow24_6, grow24_7, grow24_8, grow24_9, ty3, ty22, ty23, ty25, ty29, ty30, ty38, ty56, ty63, ty69, ty72, ty80, ty82, ty83, ty114, g3, g4, g5, g6, g7, g19, g20, hk', hvb.ltn, hvt.ltn, hg.1, hlt, hr, hse, hj1]
      exact hih _ [] (by rfl) (by rfl) (by rfl) (by rfl) (by rfl) (by rfl) (by rfl)
    | true =>
      rw [hse] at hih
      simp only [if_true, restStep] at hih
      have e1 : IntKind.i64.wrap ((l.length : Int) - 1) = (l.length : Int) - 1 := w64 (by omega) (by omega)
      have hadd : addElem (H ++ [.box (.agg [vb, I s.near, I s.last, vt]), .box (I n), .box (I 0), .box (.agg [vb, I s.near, I s.last, vt]), .box (.agg [vb, I s.near, I s.last, vt]), .map 114 es', .box (.agg [vb, I s.near, I s.last, vt, .map (H.length + 5)]), .grow 2 (l.map spA)]) 2 true (.gsl (H.length + 7) l.length) [.agg [I j, I j]] =
          some (.gsl (H.length + 7) (l.length + 1), H ++ [.box (.agg [vb, I s.near, I s.last, vt]), .box (I n), .box (I 0), .box (.agg [vb, I s.near, I s.last, vt]), .box (.agg [vb, I s.near, I s.last, vt]), .map 114 es', .box (.agg [vb, I s.near, I s.last, vt, .map (H.length + 5)]), .grow 2 (l.map spA ++ [.agg [I j, I j]])]) := by
        rw [add_gsl (xs := l.map spA) (by simp [get_at']) (by simp) rfl rfl (by simp; omega), set_at']
        rfl
      cases hgl : l.getLast? with
      | none =>
        have hl0 : l = [] := by simpa using hgl
        subst hl0
        rw [hgl] at hih
        simp only [List.nil_append, List.map_cons, List.map_nil, List.length_cons, List.length_nil, Nat.zero_add, spA] at hih hadd hr
        have e0 : IntKind.i64.wrap (((0 : Nat) : Int) - 1) = -1 := w64 (by omega) (by omega)
        have e0' : IntKind.i64.wrap ((0 : Int) - 1) = -1 := w64 (by omega) (by omega)
        have e0'' : IntKind.i64.wrap (-1) = -1 := w64 (by omega) (by omega)
        simp only [go_sem, ↓reduceIte, Nat.reduceEqDiff, Nat.reduceAdd, Nat.reduceLeDiff, Nat.reduceBEq, Nat.reduceMul, Nat.reduceLT, Int.reduceLT, Int.reduceLE, Int.reduceToNat, Int.reduceNeg, Int.reduceEq, Int.reduceMul, reduceCtorEq, fn24, res24, gc24_0, gc24_1, gc24_2, gc24_3, gc24_4, gc24_5, gc24_6, gc24_7, gc24_8, gc24_9, gc24_10, gc24_11, gc24_12, gc24_13, gcSt, keepEnv, envLt, heapLt, dfrLt, ADefer.lt, grow24_4, grow24_6, grow24_7, grow24_8, grow24_9, ty3, ty22, ty23, ty25, ty29, ty30, ty38, ty56, ty63, ty69, ty72, ty80, ty82, ty83, ty114, g3, g4, g5, g6, g7, g19, g20, hk', hvb.ltn, hvt.ltn, hg.1, hlt, hr, hse, hj1, e0, e0', e0'', hadd]
        exact hih _ [] (by rfl) (by rfl) (by rfl) (by rfl) (by rfl) (by rfl) (by rfl)
      | some p =>
        have hlne : 0 < l.length := by
          cases l with
          | nil => simp at hgl
          | cons _ _ => simp
        have hpl : l[l.length - 1]? = some p := by rw [← List.getLast?_eq_getElem?]; exact hgl
        have hpb := hrb p (List.mem_of_getLast? hgl)
        rw [hgl] at hih
        have hge : (0 : Int) ≤ (l.length : Int) - 1 := by omega
        have htn : ((l.length : Int) - 1).toNat = l.length - 1 := by omega
        have e2 : IntKind.i64.wrap (p.2 + 1) = p.2 + 1 := w64 (by omega) (by omega)
        have hxs : (l.map spA)[l.length - 1]? = some (.agg [I p.1, I p.2]) := by rw [List.getElem?_map, hpl]; rfl
        have hidx : ∀ te : Ty, te.size = 2 → idxAddr (H ++ [.box (.agg [vb, I s.near, I s.last, vt]), .box (I n), .box (I 0), .box (.agg [vb, I s.near, I s.last, vt]), .box (.agg [vb, I s.near, I s.last, vt]), .map 114 es', .box (.agg [vb, I s.near, I s.last, vt, .map (H.length + 5)]), .grow 2 (l.map spA)]) te (.gsl (H.length + 7) l.length) ((l.length : Int) - 1) = some (.eptr (H.length + 7) l.length (l.length - 1) 0) := by
          intro te hte
          simp only [idxAddr, get_at', List.getElem?_cons_succ, List.getElem?_cons_zero, List.length_map, htn, hte]
          rw [if_pos ⟨trivial, hge, by omega, trivial⟩]
        by_cases heq : p.2 + 1 = (j : Int)
        · simp only [if_pos heq] at hih
          have hbq : (p.2 + 1 == (j : Int)) = true := by simp [heq]
          simp only [List.map_set, List.length_set, spA] at hih
          simp only [go_sem, ↓reduceIte, Nat.reduceEqDiff, Nat.reduceAdd, Nat.reduceLeDiff, Nat.reduceBEq, Nat.reduceMul, Nat.reduceLT, Int.reduceLT, Int.reduceLE, Int.reduceToNat, Int.reduceNeg, Int.reduceEq, Int.reduceMul, reduceCtorEq, fn24, res24, gc24_0, gc24_1, gc24_2, gc24_3, gc24_4, gc24_5, gc24_6, gc24_7, gc24_8, gc24_9, gc24_10, gc24_11, gc24_12, gc24_13, gcSt, keepEnv, envLt, heapLt, dfrLt, ADefer.lt, grow24_4, grow24_6, grow24_7, grow24_8, grow24_9, ty3, ty22, ty23, ty25, ty29, ty30, ty38, ty56, ty63, ty69, ty72, ty80, ty82, ty83, ty114, g3, g4, g5, g6, g7, g19, g20, hk', hvb.ltn, hvt.ltn, hg.1, hlt, hr, hse, hj1, e1, e2, hge, hidx, List.length_map, hxs, hbq]
          exact hih _ [] (by rfl) (by rfl) (by rfl) (by rfl) (by rfl) (by rfl) (by rfl)
        · simp only [if_neg heq] at hih
          have hbq : (p.2 + 1 == (j : Int)) = false := by simp [heq]
          simp only [List.map_append, List.map_cons, List.map_nil, List.length_append, List.length_cons, List.length_nil, Nat.zero_add, spA] at hih
          simp only [go_sem, ↓reduceIte, Nat.reduceEqDiff, Nat.reduceAdd, Nat.reduceLeDiff, Nat.reduceBEq, Nat.reduceMul, Nat.reduceLT, Int.reduceLT, Int.reduceLE, Int.reduceToNat, Int.reduceNeg, Int.reduceEq, Int.reduceMul, reduceCtorEq, fn24, res24, gc24_0, gc24_1, gc24_2, gc24_3, gc24_4, gc24_5, gc24_6, gc24_7, gc24_8, gc24_9, gc24_10, gc24_11, gc24_12, gc24_13, gcSt, keepEnv, envLt, heapLt, dfrLt, ADefer.lt, grow24_4, grow24_6, grow24_7, grow24_8, grow24_9, ty3, ty22, ty23, ty25, ty29, ty30, ty38, ty56, ty63, ty69, ty72, ty80, ty82, ty83, ty114, g3, g4, g5, g6, g7, g19, g20, hk', hvb.ltn, hvt.ltn, hg.1, hlt, hr, hse, hj1, e1, e2, hge, hidx, List.length_map, hxs, hbq, hadd]
          exact hih _ [] (by rfl) (by rfl) (by rfl) (by rfl) (by rfl) (by rfl) (by rfl)


/-- What Rests tells. -/
theorem f24 (s : Stl) (hvb : SlOk H 6 vb (s.bs.map Blk.av)) (hvt : SlOk H 4 vt (s.ts.map Tch.av)) (hl : s.bs.length ≤ 1000) (hl2 : s.ts.length ≤ 1000) (n : Int) :
    callFL cfg0 prog0 false 24 [.agg [vb, I s.near, I s.last, vt], I n] H none = some ⟨.ret (if s.valid then (if s.inB n then .tup [.sl false ((s.restsL n).map spA), I 0] else .tup [.sl true [], I 2]) else .tup [.sl true [], I 1]), H, none⟩ := by
  have sb := hvb.scal
  have st := hvt.scal
  have hp := pl4_ok (H ++ [.box (.agg [vb, I s.near, I s.last, vt]), .box (I n), .box (I 0)]) vb vt s (hvb.app _) (hvt.app _)
  have h42 := f42 (H ++ [.box (.agg [vb, I s.near, I s.last, vt]), .box (I n), .box (I 0)]) vb vt s 70 [.ptr (H.length + 1) 0] (s.inB n) (hvb.app _) (hvt.app _) hl hl2
    (fun N => by simp [ltL, AV.lt]; omega) (f70 hp hl _ n (by simp [pl4, List.append_assoc, List.cons_append, List.nil_append, List.append_nil, List.length_append, List.length_cons, List.length_nil, Nat.zero_add, Nat.add_zero, Nat.add_assoc, Nat.reduceAdd, set_at, set_at', List.set_cons_zero, List.set_cons_succ, get_at']))
  simp only [pl4, List.append_assoc, List.cons_append, List.nil_append, List.append_nil, List.length_append, List.length_cons, List.length_nil, Nat.zero_add, Nat.add_zero, Nat.add_assoc, Nat.reduceAdd, set_at, set_at', List.set_cons_zero, List.set_cons_succ] at h42
  have h69 := fun e => f69s (H.length + 2) e 0 (H ++ [.box (.agg [vb, I s.near, I s.last, vt]), .box (I n), .box (I 0)]) (by simp [get_at'])
  refine (callFL_eq fn24 rfl (by simp [Try.f24])).trans ?_
  cases hv : s.valid with
  | false =>
    simp only [hv, Bool.false_eq_true, ↓reduceIte] at h42
    simp only [go_sem, ↓reduceIte, Nat.reduceEqDiff, Nat.reduceAdd, Nat.reduceLeDiff, Nat.reduceBEq, Nat.reduceMul, Nat.reduceLT, Int.reduceLT, Int.reduceLE, Int.reduceToNat, Int.reduceNeg, Int.reduceEq, Int.reduceMul, reduceCtorEq, fn24, res24, gc24_0, gc24_1, gc24_2, gc24_3, gc24_4, gc24_5, gc24_6, gc24_7, gc24_8, gc24_9, gc24_10, gc24_11, gc24_12, gc24_13, gcSt, keepEnv, envLt, heapLt, dfrLt, ADefer.lt, grow24_4, grow24_6, grow24_7, grow24_8, grow24_9, ty3, ty22, ty23, ty25, ty29, ty30, ty38, ty56, ty63, ty69, ty72, ty80, ty82, ty83, ty114, sb, st, h42, h69]
  | true =>
    cases hc : s.inB n with
    | false =>
      simp only [hv, hc, Bool.false_eq_true, ↓reduceIte] at h42
      simp only [go_sem, ↓reduceIte, Nat.reduceEqDiff, Nat.reduceAdd, Nat.reduceLeDiff, Nat.reduceBEq, Nat.reduceMul, Nat.reduceLT, Int.reduceLT, Int.reduceLE, Int.reduceToNat, Int.reduceNeg, Int.reduceEq, Int.reduceMul, reduceCtorEq, fn24, res24, gc24_0, gc24_1, gc24_2, gc24_3, gc24_4, gc24_5, gc24_6, gc24_7, gc24_8, gc24_9, gc24_10, gc24_11, gc24_12, gc24_13, gcSt, keepEnv, envLt, heapLt, dfrLt, ADefer.lt, grow24_4, grow24_6, grow24_7, grow24_8, grow24_9, ty3, ty22, ty23, ty25, ty29, ty30, ty38, ty56, ty63, ty69, ty72, ty80, ty82, ty83, ty114, sb, st, h42, h69]
    | true =>
      have hw := Stl.valid_wf hv
      obtain ⟨h0, hb⟩ := Stl.inB_blk hc
      have hlast := hw.last
      have e1 : IntKind.i64.wrap (s.last + 1) = s.last + 1 := w64 (by omega) (by omega)
      simp only [hv, hc, ↓reduceIte] at h42
      simp only [go_sem, ↓reduceIte, Nat.reduceEqDiff, Nat.reduceAdd, Nat.reduceLeDiff, Nat.reduceBEq, Nat.reduceMul, Nat.reduceLT, Int.reduceLT, Int.reduceLE, Int.reduceToNat, Int.reduceNeg, Int.reduceEq, Int.reduceMul, reduceCtorEq, fn24, res24, gc24_0, gc24_1, gc24_2, gc24_3, gc24_4, gc24_5, gc24_6, gc24_7, gc24_8, gc24_9, gc24_10, gc24_11, gc24_12, gc24_13, gcSt, keepEnv, envLt, heapLt, dfrLt, ADefer.lt, grow24_4, grow24_6, grow24_7, grow24_8, grow24_9, ty3, ty22, ty23, ty25, ty29, ty30, ty38, ty56, ty63, ty69, ty72, ty80, ty82, ty83, ty114, sb, st, h42, e1]
      exact f24_loop s hw hvb hvt n h0 hb (s.last.toNat + 1) 0 [] (by omega) (Good.nil s) _ [] (by rfl) (by rfl) (by rfl) (by rfl) (by rfl) (by rfl) (by rfl)

/-! ### Wait -/

def waitF (near k : Int) : Nat → Int → Nat
  | 0, _ => 0
  | f + 1, x => if wi x (-near) near then 0 else waitF near k f (fallsZ x k) + 1

theorem falls_less {x k : Int} (hk : 1 ≤ k) (hx : x ≠ 0) : (fallsZ x k).natAbs < x.natAbs := by
  have key : ∀ y : Int, 0 < y → 0 ≤ y - (y + k - 1).tdiv k ∧ y - (y + k - 1).tdiv k < y := by
    intro y hy
    rw [Int.tdiv_eq_ediv_of_nonneg (by omega)]
    have h1 : 1 ≤ (y + k - 1) / k := by
      rw [Int.le_ediv_iff_mul_le (by omega)]; omega
    have h2 : (y + k - 1) / k < y + 1 := by
      apply Int.ediv_lt_of_lt_mul (by omega)
      have : y * k ≥ y * 1 := Int.mul_le_mul_of_nonneg_left hk (by omega)
      rw [Int.add_mul]; omega
    omega
  simp only [fallsZ]
  split
  · have := key (-x) (by omega); omega
  · have := key x (by omega); omega

theorem f26_loop (s : Stl) (hs : s.Wf) (hvb : SlOk H 6 vb (s.bs.map Blk.av)) (hvt : SlOk H 4 vt (s.ts.map Tch.av)) (n w : Int) (h0 : 0 ≤ n) (hb : s.bs[n.toNat]? = some (s.blk n)) :
    ∀ (f : Nat) (x : Int) (c : Nat), x.natAbs ≤ f → c + f ≤ 1000000 →
    ∀ (E : Env) (G : Heap), E.get 4 = .ptr (H.length + 1) 0 → E.get 6 = I 0 → E.get 7 = .ptr (H.length + 3) 0 → E.get 8 = .ptr (H.length + 7) 0 → E.get 9 = I x → E.get 10 = I c →
    Option.map (finishC H.length) (execL cfg0 prog0 ⟨26, none, false, H.length⟩ (todoAt Try.f26 4) ⟨E, [.fn (.func 71) [] [.ptr (H.length + 3) 0]], H ++ (.box (.agg [vb, I s.near, I s.last, vt]) :: .box (I n) :: .box (I w) :: .box (I 0) :: .box (.agg [vb, I s.near, I s.last, vt]) :: .box (.agg [vb, I s.near, I s.last, vt]) :: .map 114 [] :: .box (.agg [vb, I s.near, I s.last, vt, .map (H.length + 6)]) :: G), none⟩) =
      some ⟨.ret (.tup [I ((c + waitF s.near (s.blk n).s1 (f + 1) x : Nat) : Int), I 0]), H, none⟩ := by
  intro f
  have sb := hvb.scal
  have st := hvt.scal
  have hnear := hs.near
  have hbo := hs.bs _ (List.mem_of_getElem? hb)
  have e1 : IntKind.i64.wrap (0 - s.near) = -s.near := by rw [w64 (by omega) (by omega)]; omega
  have hk1 : 1 ≤ (s.blk n).s1 ∧ (s.blk n).s1 ≤ 100 := by have := hbo.a4; have := hbo.a5; have := hbo.a6; omega
  obtain ⟨-, -, a3, a4, a5⟩ := hvb.at (k := n) (x := Blk.av (s.blk n)) h0 (by simp [hb])
  induction f with
  | zero =>
    intro x c hx hf E G g4 g6 g7 g8 g9 g10
    have hx0 : x = 0 := by omega
    have hw : wi x (-s.near) s.near = true := by simp [wi, hx0, hnear.1]
    simp only [waitF, hw, if_true, Nat.add_zero]
    simp only [loopIt, todoPast, todoAt, todoOf, firstReg, ↓reduceIte, Option.some.injEq, Nat.reduceEqDiff, reduceCtorEq, Try.f26]
    rw [execL_inLoop]
    simp only [go_sem, ↓reduceIte, Nat.reduceEqDiff, Nat.reduceAdd, Nat.reduceLeDiff, Nat.reduceBEq, Nat.reduceMul, Nat.reduceLT, Int.reduceLT, Int.reduceLE, Int.reduceToNat, Int.reduceNeg, Int.reduceEq, Int.reduceMul, reduceCtorEq, fn26, res26, gc26_0, gc26_1, gc26_2, gc26_3, gc26_4, gc26_5, gc26_6, gc26_7, gcSt, keepEnv, envLt, heapLt, dfrLt, ADefer.lt, grow26, ty3, ty22, ty23, ty25, ty29, ty30, ty56, ty63, ty72, ty80, ty82, ty83, ty114, plan26_4, plan26_5, g4, g6, g7, g8, g9, g10, hvb.ltn, hvt.ltn]
    rw [chkK_of]; rotate_left; kernel_rfl
    simp only [go_sem, ↓reduceIte, Nat.reduceEqDiff, Nat.reduceAdd, Nat.reduceLeDiff, Nat.reduceBEq, Nat.reduceMul, Nat.reduceLT, Int.reduceLT, Int.reduceLE, Int.reduceToNat, Int.reduceNeg, Int.reduceEq, Int.reduceMul, reduceCtorEq, fn26, res26, gc26_0, gc26_1, gc26_2, gc26_3, gc26_4, gc26_5, gc26_6, gc26_7, gcSt, keepEnv, envLt, heapLt, dfrLt, ADefer.lt, grow26, ty3, ty22, ty23, ty25, ty29, ty30, ty56, ty63, ty72, ty80, ty82, ty83, ty114, plan26_4, plan26_5, e1, f74w, hw, f71n]
  | succ f ih =>
    intro x c hx hf E G g4 g6 g7 g8 g9 g10
    cases hw : wi x (-s.near) s.near with
    | true =>
      rw [show waitF s.near (s.blk n).s1 (f + 1 + 1) x = 0 by simp only [waitF, hw, if_true], Nat.add_zero]
      simp only [loopIt, todoPast, todoAt, todoOf, firstReg, ↓reduceIte, Option.some.injEq, Nat.reduceEqDiff, reduceCtorEq, Try.f26]
      rw [execL_inLoop]
      simp only [go_sem, ↓reduceIte, Nat.reduceEqDiff, Nat.reduceAdd, Nat.reduceLeDiff, Nat.reduceBEq, Nat.reduceMul, Nat.reduceLT, Int.reduceLT, Int.reduceLE, Int.reduceToNat, Int.reduceNeg, Int.reduceEq, Int.reduceMul, reduceCtorEq, fn26, res26, gc26_0, gc26_1, gc26_2, gc26_3, gc26_4, gc26_5, gc26_6, gc26_7, gcSt, keepEnv, envLt, heapLt, dfrLt, ADefer.lt, grow26, ty3, ty22, ty23, ty25, ty29, ty30, ty56, ty63, ty72, ty80, ty82, ty83, ty114, plan26_4, plan26_5, g4, g6, g7, g8, g9, g10, hvb.ltn, hvt.ltn]
      rw [chkK_of]; rotate_left; kernel_rfl
      simp only [go_sem, ↓reduceIte, Nat.reduceEqDiff, Nat.reduceAdd, Nat.reduceLeDiff, Nat.reduceBEq, Nat.reduceMul, Nat.reduceLT, Int.reduceLT, Int.reduceLE, Int.reduceToNat, Int.reduceNeg, Int.reduceEq, Int.reduceMul, reduceCtorEq, fn26, res26, gc26_0, gc26_1, gc26_2, gc26_3, gc26_4, gc26_5, gc26_6, gc26_7, gcSt, keepEnv, envLt, heapLt, dfrLt, ADefer.lt, grow26, ty3, ty22, ty23, ty25, ty29, ty30, ty56, ty63, ty72, ty80, ty82, ty83, ty114, plan26_4, plan26_5, e1, f74w, hw, f71n]
    | false =>
      have hxne : x ≠ 0 := by
        rintro rfl
        simp [wi, hnear.1] at hw
      have hless := falls_less hk1.1 hxne
      have hih := ih (fallsZ x (s.blk n).s1) (c + 1) (by omega) (by omega)
      rw [show waitF s.near (s.blk n).s1 (f + 1 + 1) x = waitF s.near (s.blk n).s1 (f + 1) (fallsZ x (s.blk n).s1) + 1 by rw [waitF, hw]; rfl]
      have hff := fun G => f75 x (s.blk n).s1 G (by omega) (by omega) hk1.1 (by omega)
      have hc1 : IntKind.i64.wrap ((c : Int) + 1) = ((c + 1 : Nat) : Int) := by rw [w64 (by omega) (by omega)]; omega
      simp only [loopIt, todoPast, todoAt, todoOf, firstReg, ↓reduceIte, Option.some.injEq, Nat.reduceEqDiff, reduceCtorEq, Try.f26]
      rw [execL_inLoop]
      simp only [go_sem, ↓reduceIte, Nat.reduceEqDiff, Nat.reduceAdd, Nat.reduceLeDiff, Nat.reduceBEq, Nat.reduceMul, Nat.reduceLT, Int.reduceLT, Int.reduceLE, Int.reduceToNat, Int.reduceNeg, Int.reduceEq, Int.reduceMul, reduceCtorEq, fn26, res26, gc26_0, gc26_1, gc26_2, gc26_3, gc26_4, gc26_5, gc26_6, gc26_7, gcSt, keepEnv, envLt, heapLt, dfrLt, ADefer.lt, grow26, ty3, ty22, ty23, ty25, ty29, ty30, ty56, ty63, ty72, ty80, ty82, ty83, ty114, plan26_4, plan26_5, g4, g6, g7, g8, g9, g10, hvb.ltn, hvt.ltn]
      rw [chkK_of]; rotate_left; kernel_rfl
      simp only [go_sem, ↓reduceIte, Nat.reduceEqDiff, Nat.reduceAdd, Nat.reduceLeDiff, Nat.reduceBEq, Nat.reduceMul, Nat.reduceLT, Int.reduceLT, Int.reduceLE, Int.reduceToNat, Int.reduceNeg, Int.reduceEq, Int.reduceMul, reduceCtorEq, fn26, res26, gc26_0, gc26_1, gc26_2, gc26_3, gc26_4, gc26_5, gc26_6, gc26_7, gcSt, keepEnv, envLt, heapLt, dfrLt, ADefer.lt, grow26, ty3, ty22, ty23, ty25, ty29, ty30, ty56, ty63, ty72, ty80, ty82, ty83, ty114, plan26_4, plan26_5, e1, f74w, hw]
      rw [chkK_of]; rotate_left; kernel_rfl
      simp only [go_sem, ↓reduceIte, Nat.reduceEqDiff, Nat.reduceAdd, Nat.reduceLeDiff, Nat.reduceBEq, Nat.reduceMul, Nat.reduceLT, Int.reduceLT, Int.reduceLE, Int.reduceToNat, Int.reduceNeg, Int.reduceEq, Int.reduceMul, reduceCtorEq, fn26, res26, gc26_0, gc26_1, gc26_2, gc26_3, gc26_4, gc26_5, gc26_6, gc26_7, gcSt, keepEnv, envLt, heapLt, dfrLt, ADefer.lt, grow26, ty3, ty22, ty23, ty25, ty29, ty30, ty56, ty63, ty72, ty80, ty82, ty83, ty114, plan26_4, plan26_5, a3, a4, a5, Blk.av, hff, hc1]
      rw [show c + (waitF s.near (s.blk n).s1 (f + 1) (fallsZ x (s.blk n).s1) + 1) = c + 1 + waitF s.near (s.blk n).s1 (f + 1) (fallsZ x (s.blk n).s1) by omega]
      exact hih _ [] (by rfl) (by rfl) (by rfl) (by rfl) (by rfl) (by rfl)


/-- What Wait tells. -/
def Stl.wait (s : Stl) (n x : Int) : Int × Int :=
  if s.valid then (if s.inB n && inW x then ((waitF s.near (s.blk n).s1 (x.natAbs + 1) x : Nat), 0) else (0, 2)) else (0, 1)

theorem f26 (s : Stl) (hvb : SlOk H 6 vb (s.bs.map Blk.av)) (hvt : SlOk H 4 vt (s.ts.map Tch.av)) (hl : s.bs.length ≤ 1000) (hl2 : s.ts.length ≤ 1000) (n x : Int) :
    callFL cfg0 prog0 false 26 [.agg [vb, I s.near, I s.last, vt], I n, I x] H none = some ⟨.ret (.tup [I (s.wait n x).1, I (s.wait n x).2]), H, none⟩ := by
  have sb := hvb.scal
  have st := hvt.scal
  have hp := pl4_ok (H ++ [.box (.agg [vb, I s.near, I s.last, vt]), .box (I n), .box (I x), .box (I 0)]) vb vt s (hvb.app _) (hvt.app _)
  have h42 := f42 (H ++ [.box (.agg [vb, I s.near, I s.last, vt]), .box (I n), .box (I x), .box (I 0)]) vb vt s 72 [.ptr (H.length + 1) 0, .ptr (H.length + 2) 0] (s.inB n && inW x) (hvb.app _) (hvt.app _) hl hl2
    (fun N => by simp [ltL, AV.lt]; omega) (f72 hp hl _ _ n x (by simp [pl4, List.append_assoc, List.cons_append, List.nil_append, List.append_nil, List.length_append, List.length_cons, List.length_nil, Nat.zero_add, Nat.add_zero, Nat.add_assoc, Nat.reduceAdd, set_at, set_at', List.set_cons_zero, List.set_cons_succ, get_at']) (by simp [pl4, List.append_assoc, List.cons_append, List.nil_append, List.append_nil, List.length_append, List.length_cons, List.length_nil, Nat.zero_add, Nat.add_zero, Nat.add_assoc, Nat.reduceAdd, set_at, set_at', List.set_cons_zero, List.set_cons_succ, get_at']))
  simp only [pl4, List.append_assoc, List.cons_append, List.nil_append, List.append_nil, List.length_append, List.length_cons, List.length_nil, Nat.zero_add, Nat.add_zero, Nat.add_assoc, Nat.reduceAdd, set_at, set_at', List.set_cons_zero, List.set_cons_succ] at h42
  have h71 := fun e => f71s (H.length + 3) e 0 (H ++ [.box (.agg [vb, I s.near, I s.last, vt]), .box (I n), .box (I x), .box (I 0)]) (by simp [get_at'])
  refine (callFL_eq fn26 rfl (by simp [Try.f26])).trans ?_
  simp only [Stl.wait]
  cases hv : s.valid with
  | false =>
    simp only [hv, Bool.false_eq_true, ↓reduceIte] at h42
    simp only [go_sem, ↓reduceIte, Nat.reduceEqDiff, Nat.reduceAdd, Nat.reduceLeDiff, Nat.reduceBEq, Nat.reduceMul, Nat.reduceLT, Int.reduceLT, Int.reduceLE, Int.reduceToNat, Int.reduceNeg, Int.reduceEq, Int.reduceMul, reduceCtorEq, fn26, res26, gc26_0, gc26_1, gc26_2, gc26_3, gc26_4, gc26_5, gc26_6, gc26_7, gcSt, keepEnv, envLt, heapLt, dfrLt, ADefer.lt, grow26, ty3, ty22, ty23, ty25, ty29, ty30, ty56, ty63, ty72, ty80, ty82, ty83, ty114, plan26_4, plan26_5, sb, st, h42, h71]
  | true =>
    cases hc : (s.inB n && inW x) with
    | false =>
      simp only [hv, hc, Bool.false_eq_true, ↓reduceIte] at h42
      simp only [go_sem, ↓reduceIte, Nat.reduceEqDiff, Nat.reduceAdd, Nat.reduceLeDiff, Nat.reduceBEq, Nat.reduceMul, Nat.reduceLT, Int.reduceLT, Int.reduceLE, Int.reduceToNat, Int.reduceNeg, Int.reduceEq, Int.reduceMul, reduceCtorEq, fn26, res26, gc26_0, gc26_1, gc26_2, gc26_3, gc26_4, gc26_5, gc26_6, gc26_7, gcSt, keepEnv, envLt, heapLt, dfrLt, ADefer.lt, grow26, ty3, ty22, ty23, ty25, ty29, ty30, ty56, ty63, ty72, ty80, ty82, ty83, ty114, plan26_4, plan26_5, sb, st, h42, h71]
    | true =>
      have hw := Stl.valid_wf hv
      simp only [hv, hc, ↓reduceIte] at h42
      simp only [Bool.and_eq_true] at hc
      obtain ⟨h0, hb⟩ := Stl.inB_blk hc.1
      have hx := hc.2
      simp only [inW, wi, Bool.and_eq_true, decide_eq_true_eq] at hx
      simp only [go_sem, ↓reduceIte, Nat.reduceEqDiff, Nat.reduceAdd, Nat.reduceLeDiff, Nat.reduceBEq, Nat.reduceMul, Nat.reduceLT, Int.reduceLT, Int.reduceLE, Int.reduceToNat, Int.reduceNeg, Int.reduceEq, Int.reduceMul, reduceCtorEq, fn26, res26, gc26_0, gc26_1, gc26_2, gc26_3, gc26_4, gc26_5, gc26_6, gc26_7, gcSt, keepEnv, envLt, heapLt, dfrLt, ADefer.lt, grow26, ty3, ty22, ty23, ty25, ty29, ty30, ty56, ty63, ty72, ty80, ty82, ty83, ty114, plan26_4, plan26_5, sb, st, h42]
      refine (f26_loop s hw hvb hvt n x h0 hb x.natAbs x 0 (by omega) (by omega) _ [] (by rfl) (by rfl) (by rfl) (by rfl) (by rfl) (by rfl)).trans ?_
      simp only [Nat.zero_add]

/-! ### Latest -/

def Stl.touch (s : Stl) (n m x : Int) : Stl := { s with ts := s.ts ++ [⟨n, m, x, x⟩] }

/-- The objects that 'touched' makes. -/
def pl5 (h : Nat) (vb : AV) (s : Stl) (n m x : Int) : Heap :=
  [.box (.agg [vb, I s.near, I s.last, .gsl (h + 1) (s.ts.length + 1)]), .grow 4 ((s.touch n m x).ts.map Tch.av), .box (.agg [vb, I s.near, I s.last, .gsl (h + 1) (s.ts.length + 1)]), .map 114 [], .box (.agg [vb, I s.near, I s.last, .gsl (h + 1) (s.ts.length + 1), .map (h + 3)])]

theorem copy_gsl {C : Cfg} {H : Heap} {l n sz : Nat} {xs ys : List AV} {v : AV} {tys : List TypeId} {e : TypeId} {te : Ty} (he : sliceElem C tys = some e) (ht : C.ty e = some te) (hl : H[l]? = some (.grow sz xs)) (hn : xs.length = n) (hs : sz = te.size)
    (hv : elems H v = some ys) (hy : xs.length = ys.length) (hlt : ltL 0 ys = true) (hok : elemsOk te.size te.agg ys = true) : evCopy C H tys (.gsl l n) v = some (I ys.length, H.set l (.grow sz ys)) := by
  simp only [evCopy, he, ht, hl, hv, hlt, hok, Bool.true_and]
  rw [if_pos]
  simp only [decide_eq_true_eq]
  exact ⟨hs, hn, hy⟩

theorem f84 (hp : PlOk H L M vb vt s es) (hl : s.ts.length ≤ 1000) (n m x : Int) : callFL cfg0 prog0 false 84 [.ptr L 0, I n, I m, I x] H none = some ⟨.ret (.ptr (H.length + 4) 0), H ++ pl5 H.length vb s n m x, none⟩ := by
  have sb := hp.bs.scal
  have st := hp.ts.scal
  have hL := hp.hL
  have e1 : IntKind.i64.wrap ((s.ts.length : Int) + 1) = (s.ts.length : Int) + 1 := w64 (by omega) (by omega)
  have hlen : evLen vt = some (I s.ts.length) := by rw [hp.ts.len, List.length_map]
  have hd1 : 0 ≤ (s.ts.length : Int) := by omega
  have hd2 : (s.ts.length : Int) ≤ (s.ts.length : Int) + 1 := by omega
  have hd3 : (s.ts.length : Int) + 1 ≤ 1048576 := by omega
  have hcp : evCopy cfg0 (H ++ [.box (.agg [vb, I s.near, I s.last, .gsl (H.length + 1) s.ts.length]), .grow 4 (List.replicate s.ts.length (.agg [I 0, I 0, I 0, I 0]))]) [23, 23] (.gsl (H.length + 1) s.ts.length) vt =
      some (I s.ts.length, H ++ [.box (.agg [vb, I s.near, I s.last, .gsl (H.length + 1) s.ts.length]), .grow 4 (s.ts.map Tch.av)]) := by
    rw [copy_gsl (e := 63) (xs := List.replicate s.ts.length (.agg [I 0, I 0, I 0, I 0])) (sz := 4) rfl ty63 (by simp [get_at']) (by simp) rfl (hp.ts.app _).elems (by simp) (ltL_map (fun _ => rfl) _) (elemsOk_map (fun _ => rfl) _), set_at']
    simp
  have hadd : addElem (H ++ [.box (.agg [vb, I s.near, I s.last, .gsl (H.length + 1) s.ts.length]), .grow 4 (s.ts.map Tch.av)]) 4 true (.gsl (H.length + 1) s.ts.length) [.agg [I n, I m, I x, I x]] =
      some (.gsl (H.length + 1) (s.ts.length + 1), H ++ [.box (.agg [vb, I s.near, I s.last, .gsl (H.length + 1) s.ts.length]), .grow 4 ((s.touch n m x).ts.map Tch.av)]) := by
    rw [add_gsl (xs := s.ts.map Tch.av) (by simp [get_at']) (by simp) rfl rfl (by simp; omega), set_at']
    simp only [Stl.touch, List.map_append]
    rfl
  refine (callFL_eq fn84 rfl (by simp [Try.f84])).trans ?_
  simp only [go_sem, ↓reduceIte, Nat.reduceEqDiff, Nat.reduceAdd, Nat.reduceLeDiff, Nat.reduceBEq, Nat.reduceMul, Nat.reduceLT, Int.reduceLT, Int.reduceLE, Int.reduceToNat, Int.reduceNeg, Int.reduceEq, Int.reduceMul, reduceCtorEq, fn84, res84, gc84, grow84, ty3, ty22, ty23, ty25, ty29, ty56, ty63, ty80, ty82, ty83, ty114, plan84_2, plan84_3, hp.box, sb, st]
  rw [chkK_of]; rotate_left; kernel_rfl
  simp only [go_sem, ↓reduceIte, Nat.reduceEqDiff, Nat.reduceAdd, Nat.reduceLeDiff, Nat.reduceBEq, Nat.reduceMul, Nat.reduceLT, Int.reduceLT, Int.reduceLE, Int.reduceToNat, Int.reduceNeg, Int.reduceEq, Int.reduceMul, reduceCtorEq, fn84, res84, gc84, grow84, ty3, ty22, ty23, ty25, ty29, ty56, ty63, ty80, ty82, ty83, ty114, plan84_2, plan84_3, get_lt hL, hp.box, sb, st, hlen, e1, hd1, hd2, hd3, Int.toNat_natCast]
  rw [chkK_of]; rotate_left; kernel_rfl
  simp only [go_sem, ↓reduceIte, Nat.reduceEqDiff, Nat.reduceAdd, Nat.reduceLeDiff, Nat.reduceBEq, Nat.reduceMul, Nat.reduceLT, Int.reduceLT, Int.reduceLE, Int.reduceToNat, Int.reduceNeg, Int.reduceEq, Int.reduceMul, reduceCtorEq, fn84, res84, gc84, grow84, ty3, ty22, ty23, ty25, ty29, ty56, ty63, ty80, ty82, ty83, ty114, plan84_2, plan84_3, get_lt hL, hp.box, sb, st, hcp, hadd, f92 _ _ _ _ _ sb scalar_gsl, pl5]

theorem f83 (hs : s.Wf) (hl6 : s.ts.length ≤ 6) (n m x y : Int) (hm : 0 ≤ m ∧ m ≤ 60) (hx : -100 ≤ x ∧ x ≤ 100) (hy : 0 ≤ y ∧ y ≤ 60) (h0 : 0 ≤ n) (hb : s.bs[n.toNat]? = some (s.blk n)) (hp : PlOk H L M vb vt s es) (A B D F : Nat) (hA : H[A]? = some (.box (.ptr L 0))) (hB : H[B]? = some (.box (I n))) (hD : H[D]? = some (.box (I x))) (hF : H[F]? = some (.box (I y))) :
    callFL cfg0 prog0 false 83 [I m, .ptr A 0, .ptr B 0, .ptr D 0, .ptr F 0] H none = some ⟨.ret (.bool (settl (s.touch n m x) n (s.blk n) y.toNat)), H, none⟩ := by
  have hw : (s.touch n m x).Wf := ⟨hs.bs, fun t ht => by
    simp only [Stl.touch, List.mem_append, List.mem_singleton] at ht
    rcases ht with ht | rfl
    · exact hs.ts t ht
    · exact ⟨hx.1, Int.le_refl _, hx.2⟩, by simp [Stl.touch]; omega, hs.near, hs.last, hs.blen⟩
  have Al := (List.getElem?_eq_some_iff.1 hA).1
  have Bl := (List.getElem?_eq_some_iff.1 hB).1
  have Dl := (List.getElem?_eq_some_iff.1 hD).1
  have Fl := (List.getElem?_eq_some_iff.1 hF).1
  have hp5 : PlOk (H ++ pl5 H.length vb s n m x) (H.length + 4) (H.length + 3) vb (.gsl (H.length + 1) (s.ts.length + 1)) (s.touch n m x) [] :=
    ⟨by rw [get_at' 4]; rfl, by rw [get_at' 3]; rfl, hp.bs.app _, ⟨by simp only [get_at']; exact ⟨rfl, by simp [Stl.touch]⟩, by simp only [List.mem_map]; rintro _ ⟨t, _, rfl⟩; rfl⟩⟩
  obtain ⟨es', hg', hr⟩ := f59 hw n (s.blk n) h0 hb y.toNat (by omega) hp5 (Good.nil _)
  have h84 := f84 hp (by omega) n m x
  rw [show ((y.toNat : Nat) : Int) = y by omega] at hr
  simp only [pl5, pl4, List.append_assoc, List.cons_append, List.nil_append, List.append_nil, List.length_append, List.length_cons, List.length_nil, Nat.zero_add, Nat.add_zero, Nat.add_assoc, Nat.reduceAdd, set_at, set_at', List.set_cons_zero, List.set_cons_succ] at hr h84
  refine (callFL_eq fn83 rfl (by simp [Try.f83])).trans ?_
  simp only [go_sem, ↓reduceIte, Nat.reduceEqDiff, Nat.reduceAdd, Nat.reduceLeDiff, Nat.reduceBEq, Nat.reduceMul, Nat.reduceLT, Int.reduceLT, Int.reduceLE, Int.reduceToNat, Int.reduceNeg, Int.reduceEq, Int.reduceMul, reduceCtorEq, fn83, res83, gc83, grow83, ty3, ty69, plan83_1]
  rw [chkK_of]; rotate_left; kernel_rfl
  simp only [go_sem, ↓reduceIte, Nat.reduceEqDiff, Nat.reduceAdd, Nat.reduceLeDiff, Nat.reduceBEq, Nat.reduceMul, Nat.reduceLT, Int.reduceLT, Int.reduceLE, Int.reduceToNat, Int.reduceNeg, Int.reduceEq, Int.reduceMul, reduceCtorEq, fn83, res83, gc83, grow83, ty3, ty69, plan83_1, hA, hB, hD, hF, get_lt Al, get_lt Bl, get_lt Dl, get_lt Fl, h84, hr]

/-- What Latest tells. -/
def Stl.latest (s : Stl) (n x y : Int) : Int × Int :=
  if s.valid then (if s.inB n && inW x && s.inM y then
    (match findN (fun j => settl (s.touch n (y - j) x) n (s.blk n) y.toNat) 0 (y.toNat + 1) with
    | some i => (y - i, 0)
    | none => (0, 4)) else (0, 2)) else (0, 1)

theorem f28 (s : Stl) (hvb : SlOk H 6 vb (s.bs.map Blk.av)) (hvt : SlOk H 4 vt (s.ts.map Tch.av)) (hl : s.bs.length ≤ 1000) (hl2 : s.ts.length ≤ 1000) (n x y : Int) :
    callFL cfg0 prog0 false 28 [.agg [vb, I s.near, I s.last, vt], I n, I x, I y] H none = some ⟨.ret (.tup [I (s.latest n x y).1, I (s.latest n x y).2]), H, none⟩ := by
  have sb := hvb.scal
  have st := hvt.scal
  have hp := pl4_ok (H ++ [.box (.agg [vb, I s.near, I s.last, vt]), .box (I n), .box (I x), .box (I y), .box (I 0)]) vb vt s (hvb.app _) (hvt.app _)
  have h42 := f42 (H ++ [.box (.agg [vb, I s.near, I s.last, vt]), .box (I n), .box (I x), .box (I y), .box (I 0)]) vb vt s 80 [.ptr (H.length + 1) 0, .ptr (H.length + 2) 0, .ptr (H.length + 3) 0] (s.inB n && inW x && s.inM y) (hvb.app _) (hvt.app _) hl hl2
    (fun N => by simp [ltL, AV.lt]; omega) (f80 hp hl _ _ _ n x y (by simp [pl4, List.append_assoc, List.cons_append, List.nil_append, List.append_nil, List.length_append, List.length_cons, List.length_nil, Nat.zero_add, Nat.add_zero, Nat.add_assoc, Nat.reduceAdd, set_at, set_at', List.set_cons_zero, List.set_cons_succ, get_at']) (by simp [pl4, List.append_assoc, List.cons_append, List.nil_append, List.append_nil, List.length_append, List.length_cons, List.length_nil, Nat.zero_add, Nat.add_zero, Nat.add_assoc, Nat.reduceAdd, set_at, set_at', List.set_cons_zero, List.set_cons_succ, get_at']) (by simp [pl4, List.append_assoc, List.cons_append, List.nil_append, List.append_nil, List.length_append, List.length_cons, List.length_nil, Nat.zero_add, Nat.add_zero, Nat.add_assoc, Nat.reduceAdd, set_at, set_at', List.set_cons_zero, List.set_cons_succ, get_at']))
  simp only [pl4, List.append_assoc, List.cons_append, List.nil_append, List.append_nil, List.length_append, List.length_cons, List.length_nil, Nat.zero_add, Nat.add_zero, Nat.add_assoc, Nat.reduceAdd, set_at, set_at', List.set_cons_zero, List.set_cons_succ] at h42
  have h79 := fun e => f79s (H.length + 4) e 0 (H ++ [.box (.agg [vb, I s.near, I s.last, vt]), .box (I n), .box (I x), .box (I y), .box (I 0)]) (by simp [get_at'])
  refine (callFL_eq fn28 rfl (by simp [Try.f28])).trans ?_
  simp only [Stl.latest]
  cases hv : s.valid with
  | false =>
    simp only [hv, Bool.false_eq_true, ↓reduceIte] at h42
    simp only [go_sem, ↓reduceIte, Nat.reduceEqDiff, Nat.reduceAdd, Nat.reduceLeDiff, Nat.reduceBEq, Nat.reduceMul, Nat.reduceLT, Int.reduceLT, Int.reduceLE, Int.reduceToNat, Int.reduceNeg, Int.reduceEq, Int.reduceMul, reduceCtorEq, fn28, res28, gc28, grow28, ty3, ty4, ty22, ty23, ty25, ty29, ty30, ty56, ty63, ty69, ty71, ty72, ty97, ty101, sb, st, h42, h79]
  | true =>
    cases hc : (s.inB n && inW x && s.inM y) with
    | false =>
      simp only [hv, hc, Bool.false_eq_true, ↓reduceIte] at h42
      simp only [go_sem, ↓reduceIte, Nat.reduceEqDiff, Nat.reduceAdd, Nat.reduceLeDiff, Nat.reduceBEq, Nat.reduceMul, Nat.reduceLT, Int.reduceLT, Int.reduceLE, Int.reduceToNat, Int.reduceNeg, Int.reduceEq, Int.reduceMul, reduceCtorEq, fn28, res28, gc28, grow28, ty3, ty4, ty22, ty23, ty25, ty29, ty30, ty56, ty63, ty69, ty71, ty72, ty97, ty101, sb, st, h42, h79]
    | true =>
      have hw := Stl.valid_wf hv
      simp only [hv, hc, ↓reduceIte] at h42
      simp only [Bool.and_eq_true] at hc
      obtain ⟨h0, hb⟩ := Stl.inB_blk hc.1.1
      have hx := hc.1.2
      simp only [inW, wi, Bool.and_eq_true, decide_eq_true_eq] at hx
      obtain ⟨yy, rfl, hyy⟩ := Stl.inM_nat hw hc.2
      have hl6 : s.ts.length ≤ 6 := by
        simp only [Stl.valid, Stl.nums, Bool.and_eq_true, decide_eq_true_eq] at hv
        omega
      have h82 := f82 (yy : Int) (H ++ [AO.box (.agg [vb, I s.near, I s.last, vt]), AO.box (I n), AO.box (I x), AO.box (I yy), AO.box (I 0)] ++ pl4 (H ++ [AO.box (.agg [vb, I s.near, I s.last, vt]), AO.box (I n), AO.box (I x), AO.box (I yy), AO.box (I 0)]).length vb vt s ++ [AO.box (.ptr (H.length + 8) 0)])
      obtain ⟨_, _, hr⟩ := f81 (σ := Unit) (fun _ => H ++ [AO.box (.agg [vb, I s.near, I s.last, vt]), AO.box (I n), AO.box (I x), AO.box (I yy), AO.box (I 0)] ++ pl4 (H ++ [AO.box (.agg [vb, I s.near, I s.last, vt]), AO.box (I n), AO.box (I x), AO.box (I yy), AO.box (I 0)]).length vb vt s ++ [AO.box (.ptr (H.length + 8) 0), AO.box (I yy)]) (fun _ => True) (H.length + 11) (H.length + 10) yy (.func 83) [.ptr (H.length + 9) 0, .ptr (H.length + 1) 0, .ptr (H.length + 2) 0, .ptr (H.length + 3) 0]
        (fun j => settl (s.touch n ((yy : Int) - j) x) n (s.blk n) yy) (fun _ => by simp [pl4]) (fun _ => by simp only [pl4, List.append_assoc, List.cons_append, List.nil_append, List.append_nil, List.length_append, List.length_cons, List.length_nil, Nat.zero_add, Nat.add_zero, Nat.add_assoc, Nat.reduceAdd, set_at, set_at', List.set_cons_zero, List.set_cons_succ, get_at']; simp) (by omega) rfl (by simp [ltL, AV.lt]) (by
          intro j _ E hj _
          refine ⟨(), trivial, ?_⟩
          have := f83 hw hl6 n ((yy : Int) - j) x yy (by omega) hx (by omega) h0 hb ((hp.app [.box (.ptr (H.length + 8) 0), .box (I yy)]).app E) (H.length + 9) (H.length + 1) (H.length + 2) (H.length + 3) (by simp [pl4, List.append_assoc, List.cons_append, List.nil_append, List.append_nil, List.length_append, List.length_cons, List.length_nil, Nat.zero_add, Nat.add_zero, Nat.add_assoc, Nat.reduceAdd, set_at, set_at', List.set_cons_zero, List.set_cons_succ, get_at']) (by simp [pl4, List.append_assoc, List.cons_append, List.nil_append, List.append_nil, List.length_append, List.length_cons, List.length_nil, Nat.zero_add, Nat.add_zero, Nat.add_assoc, Nat.reduceAdd, set_at, set_at', List.set_cons_zero, List.set_cons_succ, get_at']) (by simp [pl4, List.append_assoc, List.cons_append, List.nil_append, List.append_nil, List.length_append, List.length_cons, List.length_nil, Nat.zero_add, Nat.add_zero, Nat.add_assoc, Nat.reduceAdd, set_at, set_at', List.set_cons_zero, List.set_cons_succ, get_at']) (by simp [pl4, List.append_assoc, List.cons_append, List.nil_append, List.append_nil, List.length_append, List.length_cons, List.length_nil, Nat.zero_add, Nat.add_zero, Nat.add_assoc, Nat.reduceAdd, set_at, set_at', List.set_cons_zero, List.set_cons_succ, get_at'])
          rw [Int.toNat_natCast] at this
          rw [callVL_func]
          exact this) () trivial
      simp only [pl4, List.append_assoc, List.cons_append, List.nil_append, List.append_nil, List.length_append, List.length_cons, List.length_nil, Nat.zero_add, Nat.add_zero, Nat.add_assoc, Nat.reduceAdd, set_at, set_at', List.set_cons_zero, List.set_cons_succ] at h82 hr
      simp only [Int.toNat_natCast]
      cases hf : findN (fun j => settl (s.touch n ((yy : Int) - j) x) n (s.blk n) yy) 0 (yy + 1) with
      | none =>
        rw [hf] at hr
        simp only at hr
        have h79' := fun e => f79s (H.length + 4) e 0 (H ++ [.box (.agg [vb, I s.near, I s.last, vt]), .box (I n), .box (I x), .box (I yy), .box (I 0), .box (.agg [vb, I s.near, I s.last, vt]), .box (.agg [vb, I s.near, I s.last, vt]), .map 114 [], .box (.agg [vb, I s.near, I s.last, vt, .map (H.length + 7)]), .box (.ptr (H.length + 8) 0), .box (I yy)]) (by simp [get_at'])
        simp only [go_sem, ↓reduceIte, Nat.reduceEqDiff, Nat.reduceAdd, Nat.reduceLeDiff, Nat.reduceBEq, Nat.reduceMul, Nat.reduceLT, Int.reduceLT, Int.reduceLE, Int.reduceToNat, Int.reduceNeg, Int.reduceEq, Int.reduceMul, reduceCtorEq, fn28, res28, gc28, grow28, ty3, ty4, ty22, ty23, ty25, ty29, ty30, ty56, ty63, ty69, ty71, ty72, ty97, ty101, sb, st, h42, h82, hr, f85f, h79']
      | some i =>
        rw [hf] at hr
        simp only at hr
        simp only [go_sem, ↓reduceIte, Nat.reduceEqDiff, Nat.reduceAdd, Nat.reduceLeDiff, Nat.reduceBEq, Nat.reduceMul, Nat.reduceLT, Int.reduceLT, Int.reduceLE, Int.reduceToNat, Int.reduceNeg, Int.reduceEq, Int.reduceMul, reduceCtorEq, fn28, res28, gc28, grow28, ty3, ty4, ty22, ty23, ty25, ty29, ty30, ty56, ty63, ty69, ty71, ty72, ty97, ty101, sb, st, h42, h82, hr, f85t, f79n]

end Go.Ab
