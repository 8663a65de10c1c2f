/-
  A settle of which all of a block is known: walked.
-/
import Derived.Test.YtppmifiahebgfaaKL0
import Derived.Test.YtppmifiahebgfaaP7
namespace Go.Ab
open Go.Proofs
set_option linter.unusedSimpArgs false
set_option linter.unusedVariables false
set_option maxRecDepth 100000

variable {H : Heap} {vb vt : AV}

theorem law_end (A : Nat) (up : Bool) (lo hi : Int) (hA : H[A]? = some (.box (.bool up))) : callFL cfg0 prog0 false 90 [.agg [I lo, I hi], .ptr A 0] H none = some ⟨.ret (.agg [I (if up then hi else lo), I (if up then hi else lo)]), H, none⟩ := by
  have hAl := (List.getElem?_eq_some_iff.1 hA).1
  refine (callFL_eq fn90 rfl (by simp [Try.f90])).trans ?_
  cases up <;> simp only [go_sem, ↓reduceIte, Nat.reduceEqDiff, Nat.reduceAdd, Nat.reduceLeDiff, Nat.reduceBEq, Nat.reduceMul, Nat.reduceLT, Int.reduceLT, Int.reduceLE, Int.reduceToNat, Int.reduceNeg, Int.reduceEq, Int.reduceMul, reduceCtorEq, Int.reduceBEq, Int.reduceBNe, Int.reduceAdd, Int.reduceSub, bne_self_eq_false, beq_self_eq_true, Nat.le_add_right, eqOk, fn90, res90, gc90, grow90, ty3, ty4, ty29, get_lt hAl, hA, f31]

theorem endJ_h (up : Bool) (t : Tch) : (if up then t.h1 else t.h0) = t.h (endJ up) := by cases up <;> rfl
theorem endJ_x (up : Bool) (b : Blk) : (if up then b.x1 else b.x0) = b.x (endJ up) := by cases up <;> rfl

def exactH (vb vt : AV) (s : Stl) (b k : Int) (up : Bool) (acc : List Tch) (h len : Nat) : Heap := [.box (.agg [.gsl (h + 3) s.bs.length, I s.near, I s.last, .gsl (h + 4) len]), .box (.bool up), .box (.agg [.sl true [], I 0, I 0, .sl true []]), .grow 6 ((s.exact b k up).bs.map Blk.av), .grow 4 (acc.map Tch.av)]

theorem exact_l6 (s : Stl) (hvb : SlOk H 6 vb (s.bs.map Blk.av)) (hvt : SlOk H 4 vt (s.ts.map Tch.av)) (hl2 : s.ts.length ≤ 1000) (b k : Int) (up : Bool) :
    ∀ (q j len : Nat) (acc : List Tch), j + q = s.ts.length → acc = (s.ts.take j).map (Tch.exact up) → len = acc.length → ∀ (E : Env) (G : Heap), E.get 4 = .ptr H.length 0 → E.get 8 = .ptr (H.length + 2) 0 → E.get 9 = .func (.func 90) [] [.ptr (H.length + 1) 0] → E.get 44 = vt → E.get 45 = I s.ts.length → E.get 46 = I j →
    Option.map (finishC H.length) (execL cfg0 prog0 ⟨37, none, false, H.length⟩ (todoAt Try.f37 6) ⟨E, [], H ++ (exactH vb vt s b k up acc H.length len ++ G), none⟩) = some ⟨.ret (.agg [.sl false ((s.exact b k up).bs.map Blk.av), I s.near, I s.last, .sl false ((s.exact b k up).ts.map Tch.av)]), H, none⟩ := by
  intro q
  have hb1 : ltL 0 ((s.exact b k up).bs.map Blk.av) = true := ltL_map (fun _ => rfl) _
  have hb2 : ltL 0 ((s.exact b k up).ts.map Tch.av) = true := ltL_map (fun _ => rfl) _
  have hbl : (s.exact b k up).bs.length = s.bs.length := by simp [Stl.exact]
  induction q with
  | zero =>
    intro j len acc hj hacc hlen E G g4 g8 g9 g44 g45 g46
    have hk' : ¬ (j : Int) < s.ts.length := by omega
    have hlt : ltL 0 (acc.map Tch.av) = true := ltL_map (fun _ => rfl) _
    have hts : acc = (s.exact b k up).ts := by rw [hacc, show j = s.ts.length by omega, List.take_length]; rfl
    subst hlen
    simp only [loopIt, todoPast, todoAt, todoOf, firstReg, ↓reduceIte, Option.some.injEq, Nat.reduceEqDiff, reduceCtorEq, Try.f37]
    rw [execL_inLoop]
    simp only [exactH, List.cons_append, List.nil_append]
    simp only [go_sem, ↓reduceIte, Nat.reduceEqDiff, Nat.reduceAdd, Nat.reduceLeDiff, Nat.reduceBEq, Nat.reduceMul, Nat.reduceLT, Int.reduceLT, Int.reduceLE, Int.reduceToNat, Int.reduceNeg, Int.reduceEq, Int.reduceMul, reduceCtorEq, Int.reduceBEq, Int.reduceBNe, Int.reduceAdd, Int.reduceSub, bne_self_eq_false, beq_self_eq_true, Nat.le_add_right, eqOk, fn37, res37, gc37_0, gc37_1, gc37_2, gc37_3, gc37_4, gc37_5, gc37_6, gc37_7, gc37_8, gc37_9, gc37_10, gc37_11, gcSt, keepEnv, envLt, heapLt, dfrLt, ADefer.lt, grow37_8, grow37_9, grow37_10, grow37_11, grow37_13, grow37_22, grow37_23, grow37_41, grow37_43, grow37_54, grow37_60, ty3, ty4, ty22, ty23, ty25, ty29, ty56, ty63, plan37_2, plan37_4, g4, g8, g9, g44, g45, g46, hk', hvt.ltn, hb1, hb2, hlt, List.length_map, hbl, hts]
  | succ q ih =>
    intro j len acc hj hacc hlen E G g4 g8 g9 g44 g45 g46
    have hk' : (j : Int) < s.ts.length := by omega
    have hk2 : j < s.ts.length := by omega
    have hlt : ltL 0 (acc.map Tch.av) = true := ltL_map (fun _ => rfl) _
    obtain ⟨-, -, b3, b4, b5⟩ := hvt.at (k := (j : Int)) (x := Tch.av s.ts[j]) (by omega) (by simp [hk2])
    have hj1 : IntKind.i64.wrap ((j : Int) + 1) = ((j + 1 : Nat) : Int) := by rw [w64 (by omega) (by omega)]; omega
    have hal : acc.length = j := by rw [hacc]; simp; omega
    have hnext : acc ++ [s.ts[j].exact up] = (s.ts.take (j + 1)).map (Tch.exact up) := by
      rw [List.take_add_one, List.getElem?_eq_getElem hk2, hacc, List.map_append]; rfl
    have hih := ih (j + 1) (len + 1) (acc ++ [s.ts[j].exact up]) (by omega) hnext (by simp [hlen])
    have hE := fun (o : AO) => law_end (H := H ++ (exactH vb vt s b k up acc H.length len ++ [o])) (H.length + 1) up s.ts[j].h0 s.ts[j].h1 (by rw [get_at' 1]; rfl)
    rw [endJ_h] at hE
    have hadd : ∀ (o : AO), addElem (H ++ (exactH vb vt s b k up acc H.length len ++ [o])) 4 true (.gsl (H.length + 4) len) [.agg [I s.ts[j].b, I s.ts[j].m, I (s.ts[j].h (endJ up)), I (s.ts[j].h (endJ up))]] = some (.gsl (H.length + 4) (len + 1), H ++ (((exactH vb vt s b k up acc H.length len).set 4 (.grow 4 ((acc ++ [s.ts[j].exact up]).map Tch.av))) ++ [o])) := by
      intro o
      rw [add_gsl (xs := acc.map Tch.av) (by rw [get_at' 4]; rfl) (by simp [hlen]) rfl rfl (by simp; omega), set_at']
      simp only [exactH, List.set_cons_succ, List.set_cons_zero, List.map_append, List.cons_append, List.nil_append]
      rfl
    simp only [loopIt, todoPast, todoAt, todoOf, firstReg, ↓reduceIte, Option.some.injEq, Nat.reduceEqDiff, reduceCtorEq, Try.f37]
    rw [execL_inLoop]
    simp only [exactH, List.cons_append, List.nil_append, List.set_cons_succ, List.set_cons_zero] at hih hE hadd ⊢
    simp only [go_sem, ↓reduceIte, Nat.reduceEqDiff, Nat.reduceAdd, Nat.reduceLeDiff, Nat.reduceBEq, Nat.reduceMul, Nat.reduceLT, Int.reduceLT, Int.reduceLE, Int.reduceToNat, Int.reduceNeg, Int.reduceEq, Int.reduceMul, reduceCtorEq, Int.reduceBEq, Int.reduceBNe, Int.reduceAdd, Int.reduceSub, bne_self_eq_false, beq_self_eq_true, Nat.le_add_right, eqOk, fn37, res37, gc37_0, gc37_1, gc37_2, gc37_3, gc37_4, gc37_5, gc37_6, gc37_7, gc37_8, gc37_9, gc37_10, gc37_11, gcSt, keepEnv, envLt, heapLt, dfrLt, ADefer.lt, grow37_8, grow37_9, grow37_10, grow37_11, grow37_13, grow37_22, grow37_23, grow37_41, grow37_43, grow37_54, grow37_60, ty3, ty4, ty22, ty23, ty25, ty29, ty56, ty63, plan37_2, plan37_4, g4, g8, g9, g44, g45, g46, hk', hvt.ltn, hb1, hlt, b3, b4, b5, Tch.av, hE, hadd, hj1]
    exact hih _ _ (by rfl) (by rfl) (by rfl) (by rfl) (by rfl) (by rfl)

theorem law_exact (s : Stl) (hv : s.valid = true) (hvb : SlOk H 6 vb (s.bs.map Blk.av)) (hvt : SlOk H 4 vt (s.ts.map Tch.av)) (b k : Int) (hb : 0 ≤ b ∧ b < s.bs.length) (up : Bool) :
    callFL cfg0 prog0 false 37 [.agg [vb, I s.near, I s.last, vt], I b, I k, .bool up] H none = some ⟨.ret (.agg [.sl false ((s.exact b k up).bs.map Blk.av), I s.near, I s.last, .sl false ((s.exact b k up).ts.map Tch.av)]), H, none⟩ := by
  have hn := valid_nums hv
  have sb := hvb.scal
  have st := hvt.scal
  obtain ⟨h0, hbk⟩ := Stl.inB_blk (inB_of (s := s) hb)
  obtain ⟨a1, a2, a3, a4, a5⟩ := hvb.at (k := b) (x := (s.blk b).av) h0 (by simp [hbk])
  have he := fun G => (hvb.app G).elems
  have hl6 := exact_l6 (H := H) s hvb hvt (by omega) b k up s.ts.length 0 0 [] (by omega) rfl rfl
  have hbt : b.toNat < (s.bs.map Blk.av).length := by simp; omega
  have hxs : (s.bs.map Blk.av)[b.toNat]? = some (.agg [I (s.blk b).x0, I (s.blk b).x1, I (s.blk b).s0, I (s.blk b).s1, I (s.blk b).g0, I (s.blk b).g1]) := by rw [List.getElem?_map, hbk]; rfl
  have hset : ∀ a : AV, ((s.bs.map Blk.av).set b.toNat a)[b.toNat]? = some a := fun a => List.getElem?_set_self hbt
  have hfin : (s.bs.map Blk.av).set b.toNat (.agg [I ((s.blk b).x (endJ up)), I ((s.blk b).x (endJ up)), I k, I k, I (s.blk b).g0, I (s.blk b).g1]) = (s.exact b k up).bs.map Blk.av := by
    simp only [Stl.exact, List.map_set]; rfl
  have hE := fun (G : Heap) (o : AO) => law_end (H := H ++ (o :: .box (.bool up) :: G)) (H.length + 1) up (s.blk b).x0 (s.blk b).x1 (by rw [get_at' 1]; rfl)
  rw [endJ_x] at hE
  have hadd : addElem (H ++ [.box (.agg [vb, I s.near, I s.last, vt]), .box (.bool up), .box (.agg [.sl true [], I 0, I 0, .sl true []])]) 6 true (.sl true []) (s.bs.map Blk.av) = some (.gsl (H.length + 3) s.bs.length, H ++ [.box (.agg [vb, I s.near, I s.last, vt]), .box (.bool up), .box (.agg [.sl true [], I 0, I 0, .sl true []]), .grow 6 (s.bs.map Blk.av)]) := by
    rw [add_full rfl rfl (elemsOk_map (fun _ => rfl) _) (ltL_map (fun _ => rfl) _) (by simp; omega) rfl]
    simp
  have hidx : ∀ (te : Ty) (o : AO) (xs : List AV) (G : Heap), te.size = 6 → xs.length = s.bs.length → idxAddr (H ++ (o :: .box (.bool up) :: .box (.agg [.sl true [], I 0, I 0, .sl true []]) :: .grow 6 xs :: G)) te (.gsl (H.length + 3) s.bs.length) b = some (.eptr (H.length + 3) s.bs.length b.toNat 0) := by
    intro te o xs G hte hxl
    simp only [idxAddr, get_at', List.getElem?_cons_succ, List.getElem?_cons_zero, hxl, hte]
    rw [if_pos ⟨trivial, h0, by omega, trivial⟩]
  simp only [exactH, List.cons_append, List.nil_append, List.map_nil] at hl6
  refine (callFL_eq fn37 rfl (by simp [Try.f37])).trans ?_
  simp only [go_sem, ↓reduceIte, Nat.reduceEqDiff, Nat.reduceAdd, Nat.reduceLeDiff, Nat.reduceBEq, Nat.reduceMul, Nat.reduceLT, Int.reduceLT, Int.reduceLE, Int.reduceToNat, Int.reduceNeg, Int.reduceEq, Int.reduceMul, reduceCtorEq, Int.reduceBEq, Int.reduceBNe, Int.reduceAdd, Int.reduceSub, bne_self_eq_false, beq_self_eq_true, Nat.le_add_right, eqOk, fn37, res37, gc37_0, gc37_1, gc37_2, gc37_3, gc37_4, gc37_5, gc37_6, gc37_7, gc37_8, gc37_9, gc37_10, gc37_11, gcSt, keepEnv, envLt, heapLt, dfrLt, ADefer.lt, grow37_8, grow37_9, grow37_10, grow37_11, grow37_13, grow37_22, grow37_23, grow37_41, grow37_43, grow37_54, grow37_60, ty3, ty4, ty22, ty23, ty25, ty29, ty56, ty63, plan37_2, plan37_4, sb, st]
  rw [chkK_of]; rotate_left; kernel_rfl
  simp only [go_sem, ↓reduceIte, Nat.reduceEqDiff, Nat.reduceAdd, Nat.reduceLeDiff, Nat.reduceBEq, Nat.reduceMul, Nat.reduceLT, Int.reduceLT, Int.reduceLE, Int.reduceToNat, Int.reduceNeg, Int.reduceEq, Int.reduceMul, reduceCtorEq, Int.reduceBEq, Int.reduceBNe, Int.reduceAdd, Int.reduceSub, bne_self_eq_false, beq_self_eq_true, Nat.le_add_right, eqOk, fn37, res37, gc37_0, gc37_1, gc37_2, gc37_3, gc37_4, gc37_5, gc37_6, gc37_7, gc37_8, gc37_9, gc37_10, gc37_11, gcSt, keepEnv, envLt, heapLt, dfrLt, ADefer.lt, grow37_8, grow37_9, grow37_10, grow37_11, grow37_13, grow37_22, grow37_23, grow37_41, grow37_43, grow37_54, grow37_60, ty3, ty4, ty22, ty23, ty25, ty29, ty56, ty63, plan37_2, plan37_4, sb, st, he, hadd]
  rw [chkK_of]; rotate_left; kernel_rfl
  have hel : ptrOf (elA vb b 0) = gslOf vb := ptrOf_elA hvb
  rcases hvb.obj with hg | ⟨l, hg, hlt, hget⟩
  · simp only [go_sem, ↓reduceIte, Nat.reduceEqDiff, Nat.reduceAdd, Nat.reduceLeDiff, Nat.reduceBEq, Nat.reduceMul, Nat.reduceLT, Int.reduceLT, Int.reduceLE, Int.reduceToNat, Int.reduceNeg, Int.reduceEq, Int.reduceMul, reduceCtorEq, Int.reduceBEq, Int.reduceBNe, Int.reduceAdd, Int.reduceSub, bne_self_eq_false, beq_self_eq_true, Nat.le_add_right, eqOk, fn37, res37, gc37_0, gc37_1, gc37_2, gc37_3, gc37_4, gc37_5, gc37_6, gc37_7, gc37_8, gc37_9, gc37_10, gc37_11, gcSt, keepEnv, envLt, heapLt, dfrLt, ADefer.lt, grow37_8, grow37_9, grow37_10, grow37_11, grow37_13, grow37_22, grow37_23, grow37_41, grow37_43, grow37_54, grow37_60, ty3, ty4, ty22, ty23, ty25, ty29, ty56, ty63, plan37_2, plan37_4, sb, st, he, a3, a4, a5, Blk.av, hE, hidx, hel, hg, f31, List.length_map, List.length_set, hxs, hset, hvt.len, hfin, List.set_set, hbt]
    exact hl6 _ [] (by rfl) (by rfl) (by rfl) (by rfl) (by rfl) (by rfl)
  · simp only [go_sem, ↓reduceIte, Nat.reduceEqDiff, Nat.reduceAdd, Nat.reduceLeDiff, Nat.reduceBEq, Nat.reduceMul, Nat.reduceLT, Int.reduceLT, Int.reduceLE, Int.reduceToNat, Int.reduceNeg, Int.reduceEq, Int.reduceMul, reduceCtorEq, Int.reduceBEq, Int.reduceBNe, Int.reduceAdd, Int.reduceSub, bne_self_eq_false, beq_self_eq_true, Nat.le_add_right, eqOk, fn37, res37, gc37_0, gc37_1, gc37_2, gc37_3, gc37_4, gc37_5, gc37_6, gc37_7, gc37_8, gc37_9, gc37_10, gc37_11, gcSt, keepEnv, envLt, heapLt, dfrLt, ADefer.lt, grow37_8, grow37_9, grow37_10, grow37_11, grow37_13, grow37_22, grow37_23, grow37_41, grow37_43, grow37_54, grow37_60, ty3, ty4, ty22, ty23, ty25, ty29, ty56, ty63, plan37_2, plan37_4, sb, st, he, a3, a4, a5, Blk.av, hE, hidx, hel, hg, get_lt hlt, hget, f31, List.length_map, List.length_set, hxs, hset, hvt.len, hfin, List.set_set, hbt]
    exact hl6 _ [] (by rfl) (by rfl) (by rfl) (by rfl) (by rfl) (by rfl)

end Go.Ab
/-
  SettleEnds, walked.
-/
namespace Go.Ab
open Go.Proofs
set_option linter.unusedSimpArgs false
set_option linter.unusedVariables false
set_option maxRecDepth 100000

variable {H : Heap} {vb vt : AV}

theorem w_1 : IntKind.i64.wrap 1 = 1 := by decide
theorem w_2 : IntKind.i64.wrap 2 = 2 := by decide

theorem same_int (n : Int) : AV.same (I n) (I n) = true := by simp [AV.same]

def lowN (s : Stl) (b : Int) (m j : Nat) : Int := lows (endsL (fLo s b (s.blk b) m) (fHi s b (s.blk b) m) j) 1048576
def highN (s : Stl) (b : Int) (m j : Nat) : Int := highs (endsL (fLo s b (s.blk b) m) (fHi s b (s.blk b) m) j) (-1048576)

theorem exact_excess (s : Stl) (hv : s.valid = true) (b k : Int) (hb : 0 ≤ b ∧ b < s.bs.length) (h0 : (s.blk b).s0 ≤ k) (h1 : k ≤ (s.blk b).s1) (m : Nat) (hm : (m : Int) ≤ s.last) (up : Bool) (G : Heap) :
    callFL cfg0 prog0 false 14 [.agg [.sl false ((s.exact b k up).bs.map Blk.av), I s.near, I s.last, .sl false ((s.exact b k up).ts.map Tch.av)], I b, I m] G none =
      some ⟨.ret (.tup [.agg [I (exc s.ts b ((s.blk b).x (endJ up)) k (endJ up) m), I (exc s.ts b ((s.blk b).x (endJ up)) k (endJ up) m)], I 0]), G, none⟩ := by
  have hn := valid_nums hv
  have hbl : (s.exact b k up).bs.length = s.bs.length := by simp [Stl.exact]
  have htl : (s.exact b k up).ts.length = s.ts.length := by simp [Stl.exact]
  have h := f14 (H := G) (vb := .sl false ((s.exact b k up).bs.map Blk.av)) (vt := .sl false ((s.exact b k up).ts.map Tch.av)) (s.exact b k up) ⟨rfl, by simp only [List.mem_map]; rintro _ ⟨t, _, rfl⟩; rfl⟩ ⟨rfl, by simp only [List.mem_map]; rintro _ ⟨t, _, rfl⟩; rfl⟩ (by omega) (by omega) b m
  have hib : (s.exact b k up).inB b = true := inB_of (by rw [hbl]; exact hb)
  have him : (s.exact b k up).inM m = true := inM_of ⟨by omega, hm⟩
  obtain ⟨w1, w2⟩ := exact_warm (s := s) (k := k) (up := up) hb m
  simp only [Stl.excess, exact_valid hv hb h0 h1, hib, him, Bool.and_self, if_true, Int.toNat_natCast, w1, w2] at h
  exact h

theorem Ends_l15 (R : Option Done) (K : List Item) (s : Stl) (hv : s.valid = true) (hvb : SlOk H 6 vb (s.bs.map Blk.av)) (hvt : SlOk H 4 vt (s.ts.map Tch.av)) (b : Int) (hb : 0 ≤ b ∧ b < s.bs.length) (m : Nat) (hm : (m : Int) ≤ s.last) (x0 x1 y0 y1 : Int)
    (hK : ∀ E : Env, E.get 3 = .ptr H.length 0 → E.get 13 = I b → E.get 14 = I m → E.get 15 = .ptr (H.length + 1) 0 → E.get 17 = .ptr (H.length + 2) 0 → E.get 19 = I (lowN s b m (s.blk b).n) → E.get 20 = I (highN s b m (s.blk b).n) →
      Option.map (finishC H.length) (execL cfg0 prog0 ⟨7, none, false, H.length⟩ K ⟨E, [], H ++ [.box (.agg [vb, I s.near, I s.last, vt]), .box (.agg [I x0, I x1]), .box (.agg [I y0, I y1])], none⟩) = R) :
    ∀ (q j : Nat), j + q = (s.blk b).n → ∀ (E : Env) (G : Heap), E.get 3 = .ptr H.length 0 → E.get 13 = I b → E.get 14 = I m → E.get 15 = .ptr (H.length + 1) 0 → E.get 17 = .ptr (H.length + 2) 0 → E.get 19 = I (lowN s b m j) → E.get 20 = I (highN s b m j) → E.get 21 = I ((s.blk b).s0 + j) →
    Option.map (finishC H.length) (execL cfg0 prog0 ⟨7, none, false, H.length⟩ (loopIt Try.f7 15 :: .inBlock 0 :: K) ⟨E, [], H ++ (.box (.agg [vb, I s.near, I s.last, vt]) :: .box (.agg [I x0, I x1]) :: .box (.agg [I y0, I y1]) :: G), none⟩) = R := by
  intro q
  have hn := valid_nums hv
  have hwf := Stl.valid_wf hv
  obtain ⟨h0, hbk⟩ := Stl.inB_blk (inB_of (s := s) hb)
  have hbo := hwf.bs (s.blk b) (List.mem_of_getElem? hbk)
  have hbn := hbo.hn
  have k4 := hbo.a4; have k6 := hbo.a6
  obtain ⟨-, -, a3, a4, a5⟩ := hvb.at (k := b) (x := (s.blk b).av) h0 (by simp [hbk])
  simp only [Blk.av] at a3 a4 a5
  induction q with
  | zero =>
    intro j hj E G g3 g13 g14 g15 g17 g19 g20 g21
    have hk' : ¬ (s.blk b).s0 + (j : Int) ≤ (s.blk b).s1 := by omega
    rw [show j = (s.blk b).n by omega] at g19 g20
    simp only [loopIt, todoPast, todoAt, todoOf, firstReg, ↓reduceIte, Option.some.injEq, Nat.reduceEqDiff, reduceCtorEq, Try.f7]
    rw [execL_inLoop]
    simp only [go_sem, ↓reduceIte, Nat.reduceEqDiff, Nat.reduceAdd, Nat.reduceLeDiff, Nat.reduceBEq, Nat.reduceMul, Nat.reduceLT, Int.reduceLT, Int.reduceLE, Int.reduceToNat, Int.reduceNeg, Int.reduceEq, Int.reduceMul, reduceCtorEq, Int.reduceBEq, Int.reduceBNe, Int.reduceAdd, Int.reduceSub, bne_self_eq_false, beq_self_eq_true, Nat.le_add_right, eqOk, fn7, res7, gc7_0, gc7_1, gc7_2, gc7_3, gc7_4, gc7_5, gc7_6, gc7_7, gc7_8, gc7_9, gc7_10, gc7_11, gc7_12, gc7_13, gc7_14, gc7_15, gc7_17, gc7_18, gc7_19, gc7_20, gc7_21, gc7_22, gc7_23, gc7_24, gc7_16, gc7_25, gc7_26, gc7_27, gc7_28, gc7_29, gc7_30, gc7_31, gc7_32, gcSt, keepEnv, envLt, heapLt, dfrLt, ADefer.lt, grow7, ty3, ty4, ty5, ty22, ty23, ty25, ty29, ty30, ty38, ty56, ty57, ty63, plan7_8, plan7_23, plan7_26, plan7_32, eqt29, g3, g13, g14, g15, g17, g19, g20, g21, hvb.ltn, hvt.ltn, a3, a4, a5, hk']
    exact hK _ (by rfl) (by rfl) (by rfl) (by rfl) (by rfl) (by rfl) (by rfl)
  | succ q ih =>
    intro j hj E G g3 g13 g14 g15 g17 g19 g20 g21
    have hk' : (s.blk b).s0 + (j : Int) ≤ (s.blk b).s1 := by omega
    have hj1 : IntKind.i64.wrap ((s.blk b).s0 + (j : Int) + 1) = (s.blk b).s0 + ((j + 1 : Nat) : Int) := by rw [w64 (by omega) (by omega)]; omega
    have hE := fun (G : Heap) (up : Bool) => law_exact (H := H ++ G) s hv (hvb.app G) (hvt.app G) b ((s.blk b).s0 + j) hb up
    have hX := fun (G : Heap) (up : Bool) => exact_excess s hv b ((s.blk b).s0 + j) hb (by omega) hk' m hm up G
    have hih := ih (j + 1) (by omega)
    have e1 : lowN s b m (j + 1) = mn (mn (lowN s b m j) (exc s.ts b ((s.blk b).x 0) ((s.blk b).s0 + j) 0 m)) (exc s.ts b ((s.blk b).x 1) ((s.blk b).s0 + j) 1 m) := by
      simp only [lowN, endsL, lows_snoc]; rfl
    have e2 : highN s b m (j + 1) = mx (mx (highN s b m j) (exc s.ts b ((s.blk b).x 0) ((s.blk b).s0 + j) 0 m)) (exc s.ts b ((s.blk b).x 1) ((s.blk b).s0 + j) 1 m) := by
      simp only [highN, endsL, highs_snoc]; rfl
    rw [e1, e2] at hih
    have j0 : endJ false = 0 := rfl
    have j1 : endJ true = 1 := rfl
    simp only [loopIt, todoPast, todoAt, todoOf, firstReg, ↓reduceIte, Option.some.injEq, Nat.reduceEqDiff, reduceCtorEq, Try.f7]
    rw [execL_inLoop]
    simp only [go_sem, ↓reduceIte, Nat.reduceEqDiff, Nat.reduceAdd, Nat.reduceLeDiff, Nat.reduceBEq, Nat.reduceMul, Nat.reduceLT, Int.reduceLT, Int.reduceLE, Int.reduceToNat, Int.reduceNeg, Int.reduceEq, Int.reduceMul, reduceCtorEq, Int.reduceBEq, Int.reduceBNe, Int.reduceAdd, Int.reduceSub, bne_self_eq_false, beq_self_eq_true, Nat.le_add_right, eqOk, fn7, res7, gc7_0, gc7_1, gc7_2, gc7_3, gc7_4, gc7_5, gc7_6, gc7_7, gc7_8, gc7_9, gc7_10, gc7_11, gc7_12, gc7_13, gc7_14, gc7_15, gc7_17, gc7_18, gc7_19, gc7_20, gc7_21, gc7_22, gc7_23, gc7_24, gc7_16, gc7_25, gc7_26, gc7_27, gc7_28, gc7_29, gc7_30, gc7_31, gc7_32, gcSt, keepEnv, envLt, heapLt, dfrLt, ADefer.lt, grow7, ty3, ty4, ty5, ty22, ty23, ty25, ty29, ty30, ty38, ty56, ty57, ty63, plan7_8, plan7_23, plan7_26, plan7_32, eqt29, g3, g13, g14, g15, g17, g19, g20, g21, hvb.ltn, hvt.ltn, a3, a4, a5, hk']
    rw [execL_inLoop]
    simp only [go_sem, ↓reduceIte, Nat.reduceEqDiff, Nat.reduceAdd, Nat.reduceLeDiff, Nat.reduceBEq, Nat.reduceMul, Nat.reduceLT, Int.reduceLT, Int.reduceLE, Int.reduceToNat, Int.reduceNeg, Int.reduceEq, Int.reduceMul, reduceCtorEq, Int.reduceBEq, Int.reduceBNe, Int.reduceAdd, Int.reduceSub, bne_self_eq_false, beq_self_eq_true, Nat.le_add_right, eqOk, fn7, res7, gc7_0, gc7_1, gc7_2, gc7_3, gc7_4, gc7_5, gc7_6, gc7_7, gc7_8, gc7_9, gc7_10, gc7_11, gc7_12, gc7_13, gc7_14, gc7_15, gc7_17, gc7_18, gc7_19, gc7_20, gc7_21, gc7_22, gc7_23, gc7_24, gc7_16, gc7_25, gc7_26, gc7_27, gc7_28, gc7_29, gc7_30, gc7_31, gc7_32, gcSt, keepEnv, envLt, heapLt, dfrLt, ADefer.lt, grow7, ty3, ty4, ty5, ty22, ty23, ty25, ty29, ty30, ty38, ty56, ty57, ty63, plan7_8, plan7_23, plan7_26, plan7_32, eqt29, hvb.ltn, hvt.ltn, idxAddr, hE, hX, j0, j1]
    rw [chkK_of]; rotate_left; kernel_rfl
    simp only [go_sem, ↓reduceIte, Nat.reduceEqDiff, Nat.reduceAdd, Nat.reduceLeDiff, Nat.reduceBEq, Nat.reduceMul, Nat.reduceLT, Int.reduceLT, Int.reduceLE, Int.reduceToNat, Int.reduceNeg, Int.reduceEq, Int.reduceMul, reduceCtorEq, Int.reduceBEq, Int.reduceBNe, Int.reduceAdd, Int.reduceSub, bne_self_eq_false, beq_self_eq_true, Nat.le_add_right, eqOk, fn7, res7, gc7_0, gc7_1, gc7_2, gc7_3, gc7_4, gc7_5, gc7_6, gc7_7, gc7_8, gc7_9, gc7_10, gc7_11, gc7_12, gc7_13, gc7_14, gc7_15, gc7_17, gc7_18, gc7_19, gc7_20, gc7_21, gc7_22, gc7_23, gc7_24, gc7_16, gc7_25, gc7_26, gc7_27, gc7_28, gc7_29, gc7_30, gc7_31, gc7_32, gcSt, keepEnv, envLt, heapLt, dfrLt, ADefer.lt, grow7, ty3, ty4, ty5, ty22, ty23, ty25, ty29, ty30, ty38, ty56, ty57, ty63, plan7_8, plan7_23, plan7_26, plan7_32, eqt29, hvb.ltn, hvt.ltn, idxAddr, hE, hX, j0, j1, w_1]
    rw [execL_inLoop]
    simp only [go_sem, ↓reduceIte, Nat.reduceEqDiff, Nat.reduceAdd, Nat.reduceLeDiff, Nat.reduceBEq, Nat.reduceMul, Nat.reduceLT, Int.reduceLT, Int.reduceLE, Int.reduceToNat, Int.reduceNeg, Int.reduceEq, Int.reduceMul, reduceCtorEq, Int.reduceBEq, Int.reduceBNe, Int.reduceAdd, Int.reduceSub, bne_self_eq_false, beq_self_eq_true, Nat.le_add_right, eqOk, fn7, res7, gc7_0, gc7_1, gc7_2, gc7_3, gc7_4, gc7_5, gc7_6, gc7_7, gc7_8, gc7_9, gc7_10, gc7_11, gc7_12, gc7_13, gc7_14, gc7_15, gc7_17, gc7_18, gc7_19, gc7_20, gc7_21, gc7_22, gc7_23, gc7_24, gc7_16, gc7_25, gc7_26, gc7_27, gc7_28, gc7_29, gc7_30, gc7_31, gc7_32, gcSt, keepEnv, envLt, heapLt, dfrLt, ADefer.lt, grow7, ty3, ty4, ty5, ty22, ty23, ty25, ty29, ty30, ty38, ty56, ty57, ty63, plan7_8, plan7_23, plan7_26, plan7_32, eqt29, hvb.ltn, hvt.ltn, idxAddr, hE, hX, j0, j1]
    rw [chkK_of]; rotate_left; kernel_rfl
    simp only [go_sem, ↓reduceIte, Nat.reduceEqDiff, Nat.reduceAdd, Nat.reduceLeDiff, Nat.reduceBEq, Nat.reduceMul, Nat.reduceLT, Int.reduceLT, Int.reduceLE, Int.reduceToNat, Int.reduceNeg, Int.reduceEq, Int.reduceMul, reduceCtorEq, Int.reduceBEq, Int.reduceBNe, Int.reduceAdd, Int.reduceSub, bne_self_eq_false, beq_self_eq_true, Nat.le_add_right, eqOk, fn7, res7, gc7_0, gc7_1, gc7_2, gc7_3, gc7_4, gc7_5, gc7_6, gc7_7, gc7_8, gc7_9, gc7_10, gc7_11, gc7_12, gc7_13, gc7_14, gc7_15, gc7_17, gc7_18, gc7_19, gc7_20, gc7_21, gc7_22, gc7_23, gc7_24, gc7_16, gc7_25, gc7_26, gc7_27, gc7_28, gc7_29, gc7_30, gc7_31, gc7_32, gcSt, keepEnv, envLt, heapLt, dfrLt, ADefer.lt, grow7, ty3, ty4, ty5, ty22, ty23, ty25, ty29, ty30, ty38, ty56, ty57, ty63, plan7_8, plan7_23, plan7_26, plan7_32, eqt29, hvb.ltn, hvt.ltn, idxAddr, hE, hX, j0, j1, w_2]
    rw [execL_inLoop]
    simp only [go_sem, ↓reduceIte, Nat.reduceEqDiff, Nat.reduceAdd, Nat.reduceLeDiff, Nat.reduceBEq, Nat.reduceMul, Nat.reduceLT, Int.reduceLT, Int.reduceLE, Int.reduceToNat, Int.reduceNeg, Int.reduceEq, Int.reduceMul, reduceCtorEq, Int.reduceBEq, Int.reduceBNe, Int.reduceAdd, Int.reduceSub, bne_self_eq_false, beq_self_eq_true, Nat.le_add_right, eqOk, fn7, res7, gc7_0, gc7_1, gc7_2, gc7_3, gc7_4, gc7_5, gc7_6, gc7_7, gc7_8, gc7_9, gc7_10, gc7_11, gc7_12, gc7_13, gc7_14, gc7_15, gc7_17, gc7_18, gc7_19, gc7_20, gc7_21, gc7_22, gc7_23, gc7_24, gc7_16, gc7_25, gc7_26, gc7_27, gc7_28, gc7_29, gc7_30, gc7_31, gc7_32, gcSt, keepEnv, envLt, heapLt, dfrLt, ADefer.lt, grow7, ty3, ty4, ty5, ty22, ty23, ty25, ty29, ty30, ty38, ty56, ty57, ty63, plan7_8, plan7_23, plan7_26, plan7_32, eqt29, hvb.ltn, hvt.ltn, idxAddr, hj1]
    exact hih _ _ (by rfl) (by rfl) (by rfl) (by rfl) (by rfl) (by rfl) (by rfl) (by rfl)

theorem law_SettleEnds (s : Stl) (hvb : SlOk H 6 vb (s.bs.map Blk.av)) (hvt : SlOk H 4 vt (s.ts.map Tch.av)) (w u : Int) (hw : 0 ≤ w ∧ w ≤ 255) (hu : 0 ≤ u ∧ u ≤ 255) :
    callFL cfg0 prog0 false 7 [.agg [vb, I s.near, I s.last, vt], U8 w, U8 u] H none = some ⟨.ret (.bool true), H, none⟩ := by
  have sb := hvb.scal
  have st := hvt.scal
  have hL := law_long s hvb hvt
  refine (callFL_eq fn7 rfl (by simp [Try.f7])).trans ?_
  rcases long_cases s with hl | ⟨hl, hl1, hl2⟩
  · simp only [go_sem, ↓reduceIte, Nat.reduceEqDiff, Nat.reduceAdd, Nat.reduceLeDiff, Nat.reduceBEq, Nat.reduceMul, Nat.reduceLT, Int.reduceLT, Int.reduceLE, Int.reduceToNat, Int.reduceNeg, Int.reduceEq, Int.reduceMul, reduceCtorEq, Int.reduceBEq, Int.reduceBNe, Int.reduceAdd, Int.reduceSub, bne_self_eq_false, beq_self_eq_true, Nat.le_add_right, eqOk, fn7, res7, gc7_0, gc7_1, gc7_2, gc7_3, gc7_4, gc7_5, gc7_6, gc7_7, gc7_8, gc7_9, gc7_10, gc7_11, gc7_12, gc7_13, gc7_14, gc7_15, gc7_17, gc7_18, gc7_19, gc7_20, gc7_21, gc7_22, gc7_23, gc7_24, gc7_16, gc7_25, gc7_26, gc7_27, gc7_28, gc7_29, gc7_30, gc7_31, gc7_32, gcSt, keepEnv, envLt, heapLt, dfrLt, ADefer.lt, grow7, ty3, ty4, ty5, ty22, ty23, ty25, ty29, ty30, ty38, ty56, ty57, ty63, plan7_8, plan7_23, plan7_26, plan7_32, eqt29, sb, st, hL, hl, f13]
  · have hV := fun (G : Heap) => ref_Settle (H := H ++ G) s (hvb.app G) (hvt.app G) (by omega) (by omega)
    have hX := fun (G : Heap) n m => f14 (H := H ++ G) s (hvb.app G) (hvt.app G) (by omega) (by omega) n m
    have hY := fun (G : Heap) n m => f16 (H := H ++ G) s (hvb.app G) (hvt.app G) (by omega) (by omega) n m
    have hW := fun (G : Heap) n => f20 (H := H ++ G) s (hvb.app G) (hvt.app G) (by omega) (by omega) n
    have hR := fun (G : Heap) n => f24 (H := H ++ G) s (hvb.app G) (hvt.app G) (by omega) (by omega) n
    have hWt := fun (G : Heap) n x => f26 (H := H ++ G) s (hvb.app G) (hvt.app G) (by omega) (by omega) n x
    have hLt := fun (G : Heap) n x y => f28 (H := H ++ G) s (hvb.app G) (hvt.app G) (by omega) (by omega) n x y
    cases hv : s.valid with
    | false =>
      simp only [Stl.excess, Stl.when, hv, Bool.false_eq_true, if_false] at hX hW hR
      simp only [go_sem, ↓reduceIte, Nat.reduceEqDiff, Nat.reduceAdd, Nat.reduceLeDiff, Nat.reduceBEq, Nat.reduceMul, Nat.reduceLT, Int.reduceLT, Int.reduceLE, Int.reduceToNat, Int.reduceNeg, Int.reduceEq, Int.reduceMul, reduceCtorEq, Int.reduceBEq, Int.reduceBNe, Int.reduceAdd, Int.reduceSub, bne_self_eq_false, beq_self_eq_true, Nat.le_add_right, eqOk, fn7, res7, gc7_0, gc7_1, gc7_2, gc7_3, gc7_4, gc7_5, gc7_6, gc7_7, gc7_8, gc7_9, gc7_10, gc7_11, gc7_12, gc7_13, gc7_14, gc7_15, gc7_17, gc7_18, gc7_19, gc7_20, gc7_21, gc7_22, gc7_23, gc7_24, gc7_16, gc7_25, gc7_26, gc7_27, gc7_28, gc7_29, gc7_30, gc7_31, gc7_32, gcSt, keepEnv, envLt, heapLt, dfrLt, ADefer.lt, grow7, ty3, ty4, ty5, ty22, ty23, ty25, ty29, ty30, ty38, ty56, ty57, ty63, plan7_8, plan7_23, plan7_26, plan7_32, eqt29, sb, st, hL, hl, hV, hv, hX, hW, hR, f13, sameL, AV.same]
      done
    | true =>
      have hn := valid_nums hv
      have hwf := Stl.valid_wf hv
      have c1 : IntKind.i64.wrap w = w := w64 (by omega) (by omega)
      have c2 : IntKind.i64.wrap u = u := w64 (by omega) (by omega)
      have m1 := mod_lt (a := w) (b := (s.bs.length : Int)) (by omega)
      have m2 := mod_lt (a := u) (b := s.last + 1) (by omega)
      have z1 : ¬ (s.bs.length : Int) = 0 := by omega
      have z3 : ¬ s.last + 1 = 0 := by omega
      have c4 : IntKind.i64.wrap (s.last + 1) = s.last + 1 := w64 (by omega) (by omega)
      have t1 : w.tmod (s.bs.length : Int) = w % (s.bs.length : Int) := tmod_nn hw.1
      have t2 : u.tmod (s.last + 1) = u % (s.last + 1) := tmod_nn hu.1
      generalize w % (s.bs.length : Int) = b at *
      generalize u % (s.last + 1) = y at *
      obtain ⟨m, rfl⟩ : ∃ k : Nat, y = k := ⟨y.toNat, by omega⟩
      obtain ⟨h0, hbk⟩ := Stl.inB_blk (inB_of (s := s) m1)
      have hbo := hwf.bs (s.blk b) (List.mem_of_getElem? hbk)
      have k2 := hbo.a2; have k4 := hbo.a4; have k5 := hbo.a5; have k7 := hbo.a7; have k8 := hbo.a8; have k9 := hbo.a9
      have hbn := hbo.hn
      obtain ⟨a1, a2, a3, a4, a5⟩ := hvb.at (k := b) (x := (s.blk b).av) h0 (by simp [hbk])
      simp only [Blk.av] at a3 a4 a5
      have E0 : s.inB (s.bs.length : Int) = false := by simp [Stl.inB, wi]; omega
      have E1 : s.inM (s.last + 1) = false := by simp [Stl.inM, wi]; omega
      have E2 : inW 101 = false := by decide
      have E3 : inW (-101) = false := by decide
      have X1 := fun G => hX G b m
      have Y1 := fun G => hY G b m
      have X2 := fun G => hX G s.bs.length 0
      have Y2 := fun G => hY G 0 (s.last + 1)
      have W2 := fun G => hWt G 0 101
      have L2 := fun G => hLt G 0 (-101) 0
      have L3 := fun G => hLt G 0 0 (s.last + 1)
      simp only [Stl.excess, Stl.longer, Stl.wait, Stl.latest, hv, E0, E1, E2, E3, inB_of m1, inM_of (s := s) (m := (m : Int)) (by omega), Bool.and_self, Bool.false_and, Bool.and_false, Bool.false_eq_true, if_true, if_false, Int.toNat_natCast] at X1 Y1 X2 Y2 W2 L2 L3
      have l15 := fun x0 x1 y0 y1 R K hK => Ends_l15 (H := H) (vb := vb) (vt := vt) R K s hv hvb hvt b m1 m (by omega) x0 x1 y0 y1 hK (s.blk b).n 0 (by omega)
      have low0 : lowN s b m 0 = 1048576 := rfl
      have high0 : highN s b m 0 = -1048576 := rfl
      rw [low0, high0] at l15
      -- both ends are what is told
      have hle : ∀ j, fLo s b (s.blk b) m j ≤ fHi s b (s.blk b) m j := fun j => exc_le (fun t ht => (hwf.ts t ht).2.1) (by omega) (by simpa [Blk.x] using k2) b m
      have hB0 := fun j : Nat => exc_bd (blk := b) (b0 := (s.blk b).x 0) (k := (s.blk b).s0 + j) (e := 0) hwf.ts hwf.len (by have := hbo.a1; have := hbo.a3; simp only [Blk.x, if_true]; omega) (by omega) m
      have hB1 := fun j : Nat => exc_bd (blk := b) (b0 := (s.blk b).x 1) (k := (s.blk b).s0 + j) (e := 1) hwf.ts hwf.len (by have := hbo.a1; have := hbo.a3; simp only [Blk.x, if_neg (show ¬ (1 : Int) = 0 by omega)]; omega) (by omega) m
      have lowE : lowN s b m (s.blk b).n = warmLo s b (s.blk b) m := endsL_low' (by omega) hle fun j => by have := hB0 j; simp only [fLo]; omega
      have highE : highN s b m (s.blk b).n = warmHi s b (s.blk b) m := endsL_high' (by omega) hle fun j => by have := hB1 j; simp only [fHi]; omega
      rw [lowE, highE] at l15
      obtain ⟨w1, w2⟩ := warm_bd hwf hbk (m := m) (by omega)
      have g1 : 0 ≤ (s.blk b).g0 ∧ (s.blk b).g0 ≤ 20 := by omega
      have g2 : 0 ≤ (s.blk b).g1 ∧ (s.blk b).g1 ≤ 20 := by omega
      generalize warmLo s b (s.blk b) m = lo at *
      generalize warmHi s b (s.blk b) m = hi at *
      have p1 := mul_bd w1 g1
      have p2 := mul_bd w1 g2
      have p3 := mul_bd w2 g1
      have p4 := mul_bd w2 g2
      have e1 : IntKind.i64.wrap (lo * (s.blk b).g0) = lo * (s.blk b).g0 := w64 (by omega) (by omega)
      have e2 : IntKind.i64.wrap (lo * (s.blk b).g1) = lo * (s.blk b).g1 := w64 (by omega) (by omega)
      have e3 : IntKind.i64.wrap (hi * (s.blk b).g0) = hi * (s.blk b).g0 := w64 (by omega) (by omega)
      have e4 : IntKind.i64.wrap (hi * (s.blk b).g1) = hi * (s.blk b).g1 := w64 (by omega) (by omega)
      have D1 := fun (G : Heap) => law_down (H := G) (lo * (s.blk b).g0) (by omega)
      have D2 := fun (G : Heap) => law_down (H := G) (lo * (s.blk b).g1) (by omega)
      have D3 := fun (G : Heap) => law_down (H := G) (hi * (s.blk b).g0) (by omega)
      have D4 := fun (G : Heap) => law_down (H := G) (hi * (s.blk b).g1) (by omega)
      simp only [go_sem, ↓reduceIte, Nat.reduceEqDiff, Nat.reduceAdd, Nat.reduceLeDiff, Nat.reduceBEq, Nat.reduceMul, Nat.reduceLT, Int.reduceLT, Int.reduceLE, Int.reduceToNat, Int.reduceNeg, Int.reduceEq, Int.reduceMul, reduceCtorEq, Int.reduceBEq, Int.reduceBNe, Int.reduceAdd, Int.reduceSub, bne_self_eq_false, beq_self_eq_true, Nat.le_add_right, eqOk, fn7, res7, gc7_0, gc7_1, gc7_2, gc7_3, gc7_4, gc7_5, gc7_6, gc7_7, gc7_8, gc7_9, gc7_10, gc7_11, gc7_12, gc7_13, gc7_14, gc7_15, gc7_17, gc7_18, gc7_19, gc7_20, gc7_21, gc7_22, gc7_23, gc7_24, gc7_16, gc7_25, gc7_26, gc7_27, gc7_28, gc7_29, gc7_30, gc7_31, gc7_32, gcSt, keepEnv, envLt, heapLt, dfrLt, ADefer.lt, grow7, ty3, ty4, ty5, ty22, ty23, ty25, ty29, ty30, ty38, ty56, ty57, ty63, plan7_8, plan7_23, plan7_26, plan7_32, eqt29, sb, st, hL, hl, hV, hv]
      rw [chkK_of]; rotate_left; kernel_rfl
      simp only [go_sem, ↓reduceIte, Nat.reduceEqDiff, Nat.reduceAdd, Nat.reduceLeDiff, Nat.reduceBEq, Nat.reduceMul, Nat.reduceLT, Int.reduceLT, Int.reduceLE, Int.reduceToNat, Int.reduceNeg, Int.reduceEq, Int.reduceMul, reduceCtorEq, Int.reduceBEq, Int.reduceBNe, Int.reduceAdd, Int.reduceSub, bne_self_eq_false, beq_self_eq_true, Nat.le_add_right, eqOk, fn7, res7, gc7_0, gc7_1, gc7_2, gc7_3, gc7_4, gc7_5, gc7_6, gc7_7, gc7_8, gc7_9, gc7_10, gc7_11, gc7_12, gc7_13, gc7_14, gc7_15, gc7_17, gc7_18, gc7_19, gc7_20, gc7_21, gc7_22, gc7_23, gc7_24, gc7_16, gc7_25, gc7_26, gc7_27, gc7_28, gc7_29, gc7_30, gc7_31, gc7_32, gcSt, keepEnv, envLt, heapLt, dfrLt, ADefer.lt, grow7, ty3, ty4, ty5, ty22, ty23, ty25, ty29, ty30, ty38, ty56, ty57, ty63, plan7_8, plan7_23, plan7_26, plan7_32, eqt29, sb, st, hvb.len, List.length_map, c1, c2, z1, z3, c4, t1, t2, X1, Y1, a3, a4, a5]
      refine l15 _ _ _ _ _ _ (fun E g3 g13 g14 g15 g17 g19 g20 => ?_) _ [] (by rfl) (by rfl) (by rfl) (by rfl) (by rfl) (by rfl) (by rfl) (by simp [Env.get])
      simp only [go_sem, ↓reduceIte, Nat.reduceEqDiff, Nat.reduceAdd, Nat.reduceLeDiff, Nat.reduceBEq, Nat.reduceMul, Nat.reduceLT, Int.reduceLT, Int.reduceLE, Int.reduceToNat, Int.reduceNeg, Int.reduceEq, Int.reduceMul, reduceCtorEq, Int.reduceBEq, Int.reduceBNe, Int.reduceAdd, Int.reduceSub, bne_self_eq_false, beq_self_eq_true, Nat.le_add_right, eqOk, fn7, res7, gc7_0, gc7_1, gc7_2, gc7_3, gc7_4, gc7_5, gc7_6, gc7_7, gc7_8, gc7_9, gc7_10, gc7_11, gc7_12, gc7_13, gc7_14, gc7_15, gc7_17, gc7_18, gc7_19, gc7_20, gc7_21, gc7_22, gc7_23, gc7_24, gc7_16, gc7_25, gc7_26, gc7_27, gc7_28, gc7_29, gc7_30, gc7_31, gc7_32, gcSt, keepEnv, envLt, heapLt, dfrLt, ADefer.lt, grow7, ty3, ty4, ty5, ty22, ty23, ty25, ty29, ty30, ty38, ty56, ty57, ty63, plan7_8, plan7_23, plan7_26, plan7_32, eqt29, g3, g13, g14, g15, g17, g19, g20, a3, a4, a5]
      rw [chkK_of]; rotate_left; kernel_rfl
      simp only [go_sem, ↓reduceIte, Nat.reduceEqDiff, Nat.reduceAdd, Nat.reduceLeDiff, Nat.reduceBEq, Nat.reduceMul, Nat.reduceLT, Int.reduceLT, Int.reduceLE, Int.reduceToNat, Int.reduceNeg, Int.reduceEq, Int.reduceMul, reduceCtorEq, Int.reduceBEq, Int.reduceBNe, Int.reduceAdd, Int.reduceSub, bne_self_eq_false, beq_self_eq_true, Nat.le_add_right, eqOk, fn7, res7, gc7_0, gc7_1, gc7_2, gc7_3, gc7_4, gc7_5, gc7_6, gc7_7, gc7_8, gc7_9, gc7_10, gc7_11, gc7_12, gc7_13, gc7_14, gc7_15, gc7_17, gc7_18, gc7_19, gc7_20, gc7_21, gc7_22, gc7_23, gc7_24, gc7_16, gc7_25, gc7_26, gc7_27, gc7_28, gc7_29, gc7_30, gc7_31, gc7_32, gcSt, keepEnv, envLt, heapLt, dfrLt, ADefer.lt, grow7, ty3, ty4, ty5, ty22, ty23, ty25, ty29, ty30, ty38, ty56, ty57, ty63, plan7_8, plan7_23, plan7_26, plan7_32, eqt29, g3, g13, g14, g15, g17, g19, g20, a3, a4, a5, e1, e2, e3, e4, D1, D2, D3, D4, hvb.len, List.length_map, X2, Y2, W2, L2, L3, c4]
      rw [chkK_of]; rotate_left; kernel_rfl
      simp only [go_sem, ↓reduceIte, Nat.reduceEqDiff, Nat.reduceAdd, Nat.reduceLeDiff, Nat.reduceBEq, Nat.reduceMul, Nat.reduceLT, Int.reduceLT, Int.reduceLE, Int.reduceToNat, Int.reduceNeg, Int.reduceEq, Int.reduceMul, reduceCtorEq, Int.reduceBEq, Int.reduceBNe, Int.reduceAdd, Int.reduceSub, bne_self_eq_false, beq_self_eq_true, Nat.le_add_right, eqOk, fn7, res7, gc7_0, gc7_1, gc7_2, gc7_3, gc7_4, gc7_5, gc7_6, gc7_7, gc7_8, gc7_9, gc7_10, gc7_11, gc7_12, gc7_13, gc7_14, gc7_15, gc7_17, gc7_18, gc7_19, gc7_20, gc7_21, gc7_22, gc7_23, gc7_24, gc7_16, gc7_25, gc7_26, gc7_27, gc7_28, gc7_29, gc7_30, gc7_31, gc7_32, gcSt, keepEnv, envLt, heapLt, dfrLt, ADefer.lt, grow7, ty3, ty4, ty5, ty22, ty23, ty25, ty29, ty30, ty38, ty56, ty57, ty63, plan7_8, plan7_23, plan7_26, plan7_32, eqt29, g3, g13, g14, g15, g17, g19, g20, f31, sameL, same_int, mn, mx, f13]
      done

end Go.Ab
