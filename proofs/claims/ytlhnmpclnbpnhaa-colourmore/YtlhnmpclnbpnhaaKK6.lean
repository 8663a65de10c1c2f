/-
  ColourMore, walked.
-/
import Derived.Test.YtlhnmpclnbpnhaaKK5
namespace Go.Ab
open Go.Proofs
set_option linter.unusedSimpArgs false
set_option linter.unusedVariables false
set_option maxRecDepth 100000
set_option maxHeartbeats 8000000

variable {H : Heap}

theorem law_ColourMore {c : Col} {vw vp : AV} (h : ColAt H c vw vp) (b8 w8 v8 : Int) (b3 : 0 ≤ b8 ∧ b8 ≤ 255) (b4 : 0 ≤ w8 ∧ w8 ≤ 255) (b5 : 0 ≤ v8 ∧ v8 ≤ 255) :
    callFL cfg0 prog0 false 10 [c.av vw vp, .int .u8 b8, .int .u8 w8, .int .u8 v8] H none = some ⟨.ret (.bool true), H, none⟩ := by
  have s1 := h.ws.scal
  have s2 := h.ps.scal
  have hH := fun G : Heap => law_heavy (h.app G) 30
  have hV := fun G : Heap => ref_Colour (h.app G)
  simp only [Col.av] at hH hV
  rcases Bool.eq_false_or_eq_true (c.heavy 30) with hh | hh
  · simp only [Col.av]
    refine (callFL_eq fn10 rfl (by simp [Try.f10])).trans ?_
    simp (maxSteps := 1000000) (implicitDefEqProofs := false) (disch := first | rfl | omega | assumption) only [go_sem, ↓reduceIte, Nat.reduceEqDiff, Nat.reduceAdd, Nat.reduceLeDiff, Nat.reduceBEq, Nat.reduceMul, Nat.reduceLT, Int.reduceLT, Int.reduceLE, Int.reduceToNat, Int.reduceNeg, Int.reduceEq, Int.reduceMul, reduceCtorEq, Int.reduceBEq, Int.reduceBNe, Int.reduceAdd, Int.reduceSub, s1, s2, hH, hh, law_alive]
  · have hlong : c.ws.length ≤ 40 ∧ c.ps.length ≤ 40 := by
      simp only [Col.heavy, Bool.or_eq_false_iff] at hh
      exact c.long_false hh.1
    rcases Bool.eq_false_or_eq_true c.valid with hv | hv
    · have ho := c.valid_iff.1 hv
      have hlen := ho.len
      have hplen := ho.plen
      have hlo := ho.lo
      have her := ho.er
      obtain ⟨n3, rfl⟩ : ∃ n : Nat, b8 = n := ⟨b8.toNat, by omega⟩
      obtain ⟨n4, rfl⟩ : ∃ n : Nat, w8 = n := ⟨w8.toNat, by omega⟩
      have t3 := shlI ho
      have t4 := sOf_bits ho (b := n3) (by omega)
      have hs := c.sOf_lt ho n3
      have hss := c.sOf_isSet ho n3
      have z : ¬ (c.ws.length : Int) < 0 := by omega
      have z0 : ¬ (c.ws.length : Int) = 0 := by omega
      have hfs := full_set ho
      have t5 : IntKind.i64.wrap ((2 ^ c.ws.length : Nat) - 1 : Int) = (c.full : Int) := by rw [full_int, w64 (by omega) (by omega)]
      rw [full_int] at t4
      generalize c.sOf n3 = s at *
      -- a colour more
      have r1 : ((n4 : Nat) : Int).tmod (c.ws.length : Int) = ((n4 % c.ws.length : Nat) : Int) := by rw [Int.tmod_eq_emod_of_nonneg (Int.natCast_nonneg _)]; rfl
      have r2 : n4 % c.ws.length < c.ws.length := Nat.mod_lt _ (by omega)
      have r3 := shl1 (n4 % c.ws.length) (by omega)
      have r4 := bitN_or' s hs.1 (n4 % c.ws.length) (by omega)
      have r5 : c.isSet ((s ||| 2 ^ (n4 % c.ws.length) : Nat) : Int) = true := isSet_lt' (Nat.or_lt_two_pow hs.2 (Nat.pow_lt_pow_right (by omega) r2))
      have r6 := Parts.add c s (n4 % c.ws.length)
      have r7 : ¬ ((n4 % c.ws.length : Nat) : Int) < 0 := by omega
      -- fewer lengths
      have y1 : ((n4 : Nat) : Int).tmod 7 = ((n4 % 7 : Nat) : Int) := by rw [Int.tmod_eq_emod_of_nonneg (Int.natCast_nonneg _)]; rfl
      have y2 : n4 % 7 < 7 := Nat.mod_lt _ (by omega)
      generalize n4 % 7 = m7 at *
      generalize n4 % c.ws.length = k at *
      obtain ⟨ye, hye⟩ : ∃ x, (if c.lo < c.hi - (m7 : Int) then c.hi - (m7 : Int) else c.lo) = x := ⟨_, rfl⟩
      have yb : c.lo ≤ ye ∧ ye ≤ c.hi := by rw [← hye]; split <;> omega
      have yp := Parts.few ho s yb.2
      have yo : ({ c with hi := ye } : Col).Ok := ⟨ho.len, ho.plen, ho.ws, ho.ps, by simp only; omega, ho.ev, ho.er⟩
      have yv := ({ c with hi := ye } : Col).valid_iff.2 yo
      -- a lesser error
      obtain ⟨xe, hxe⟩ : ∃ x, (if (0 : Int) < c.er - 1 then c.er - 1 else 0) = x := ⟨_, rfl⟩
      have xb : 0 ≤ xe ∧ xe ≤ c.er := by rw [← hxe]; split <;> omega
      have xp := Parts.err c s xb.2
      have xo : ({ c with er := xe } : Col).Ok := ⟨ho.len, ho.plen, ho.ws, ho.ps, ho.lo, ho.ev, by simp only; omega⟩
      have xv := ({ c with er := xe } : Col).valid_iff.2 xo
      -- a colour more to buy
      have v1 : v8.tmod 59 = v8 % 59 := Int.tmod_eq_emod_of_nonneg b5.1
      have v2 : v8.tmod 51 = v8 % 51 := Int.tmod_eq_emod_of_nonneg b5.1
      have v3 : 0 ≤ v8 % 59 ∧ v8 % 59 < 59 := by omega
      have v4 : 0 ≤ v8 % 51 ∧ v8 % 51 < 51 := by omega
      obtain ⟨pz, hpz⟩ : ∃ x, v8 % 51 = x := ⟨_, rfl⟩
      obtain ⟨wz, hwz⟩ : ∃ x, 2 + v8 % 59 = x := ⟨_, rfl⟩
      have wb : 2 ≤ wz ∧ wz ≤ 60 := by omega
      have pb : 0 ≤ pz ∧ pz ≤ 50 := by omega
      have bl : (c.buy wz pz).ws.length = c.ws.length + 1 := by simp [Col.buy]
      have bpl : (c.buy wz pz).ps.length = c.ws.length + 1 := by simp [Col.buy]; omega
      have hat : ∀ (b0 b1 b2 b3 b4 : AO) (G : Heap), ColAt (H ++ (b0 :: b1 :: b2 :: b3 :: b4 :: .grow 1 ((c.ws ++ [wz]).map I) :: .grow 1 ((c.ps ++ [pz]).map I) :: G)) (c.buy wz pz) (.gsl (H.length + 5) (c.ws.length + 1)) (.gsl (H.length + 6) (c.ws.length + 1)) := by
        intro b0 b1 b2 b3 b4 G
        refine ⟨⟨⟨by simp [get_at', Col.buy], by simp [Col.buy]⟩, by simp [I, AV.cells]⟩, ⟨⟨by simp [get_at', Col.buy], by simp [Col.buy]; omega⟩, by simp [I, AV.cells]⟩⟩
      have add5 : ∀ (b0 b1 b2 b3 b4 : AO), addElem (H ++ [b0, b1, b2, b3, b4]) 1 false (.sl true []) (c.ws.map I) = some (.gsl (H.length + 5) c.ws.length, H ++ [b0, b1, b2, b3, b4, .grow 1 (c.ws.map I)]) := by
        intro b0 b1 b2 b3 b4
        rw [add_full rfl rfl (elemsOk_map (fun _ => rfl) _) (ltL_map (fun _ => rfl) _) (by simp; omega) rfl]
        simp
      have add5' : ∀ (b0 b1 b2 b3 b4 : AO), addElem (H ++ [b0, b1, b2, b3, b4, .grow 1 (c.ws.map I)]) 1 false (.gsl (H.length + 5) c.ws.length) [I wz] = some (.gsl (H.length + 5) (c.ws.length + 1), H ++ [b0, b1, b2, b3, b4, .grow 1 ((c.ws ++ [wz]).map I)]) := by
        intro b0 b1 b2 b3 b4
        rw [add_gsl (by simp [get_at']; rfl) (by simp) rfl rfl (by simp; omega), set_at']
        simp
      have add6 : ∀ (b0 b1 b2 b3 b4 b5 : AO), addElem (H ++ [b0, b1, b2, b3, b4, b5]) 1 false (.sl true []) (c.ps.map I) = some (.gsl (H.length + 6) c.ws.length, H ++ [b0, b1, b2, b3, b4, b5, .grow 1 (c.ps.map I)]) := by
        intro b0 b1 b2 b3 b4 b5
        rw [add_full rfl rfl (elemsOk_map (fun _ => rfl) _) (ltL_map (fun _ => rfl) _) (by simp; omega) rfl]
        simp [hplen]
      have add6' : ∀ (b0 b1 b2 b3 b4 b5 : AO), addElem (H ++ [b0, b1, b2, b3, b4, b5, .grow 1 (c.ps.map I)]) 1 false (.gsl (H.length + 6) c.ws.length) [I pz] = some (.gsl (H.length + 6) (c.ws.length + 1), H ++ [b0, b1, b2, b3, b4, b5, .grow 1 ((c.ps ++ [pz]).map I)]) := by
        intro b0 b1 b2 b3 b4 b5
        rw [add_gsl (by simp [get_at']; rfl) (by simp; omega) rfl rfl (by simp; omega), set_at']
        simp
      have hel := fun G => (h.ws.app G).elems
      have hel2 := fun G => (h.ps.app G).elems
      -- what is asked
      have h1 := fun G : Heap => co_Pairs (h.app G) (by omega) s
      have h2 := fun G : Heap => co_Reach (h.app G) (by omega) s
      have h3 := fun G : Heap => co_Fewest (h.app G) (by omega)
      have h4 := fun G : Heap => co_Cheapest (h.app G) (by omega)
      have h5 := fun G : Heap => co_Pairs (h.app G) (by omega) ((s ||| 2 ^ k : Nat) : Int)
      have h6 := fun G : Heap => co_Reach (h.app G) (by omega) ((s ||| 2 ^ k : Nat) : Int)
      have hxA : ∀ G, ColAt (H ++ G) { c with er := xe } vw vp := fun G => ⟨h.ws.app G, h.ps.app G⟩
      have hyA : ∀ G, ColAt (H ++ G) { c with hi := ye } vw vp := fun G => ⟨h.ws.app G, h.ps.app G⟩
      have h7 := fun G : Heap => co_Pairs (hxA G) (show c.ws.length ≤ 1000 ∧ c.ps.length ≤ 1000 by omega) s
      have h8 := fun G : Heap => co_Reach (hxA G) (show c.ws.length ≤ 1000 ∧ c.ps.length ≤ 1000 by omega) s
      have h9 := fun G : Heap => co_Pairs (hyA G) (show c.ws.length ≤ 1000 ∧ c.ps.length ≤ 1000 by omega) s
      have h10 := fun (b0 b1 b2 b3 b4 : AO) (G : Heap) => co_Fewest (hat b0 b1 b2 b3 b4 G) (by omega)
      have h11 := fun (b0 b1 b2 b3 b4 : AO) (G : Heap) => co_Cheapest (hat b0 b1 b2 b3 b4 G) (by omega)
      have xss : ({ c with er := xe } : Col).isSet s = true := hss
      have yss : ({ c with hi := ye } : Col).isSet s = true := hss
      simp only [Col.pairsR, hv, hss, if_true, Int.toNat_natCast] at h1
      simp only [Col.reachR, hv, hss, if_true, Int.toNat_natCast] at h2
      simp only [Col.few_eq] at h3 h4 h10 h11
      simp only [Col.pairsR, hv, r5, if_true, Int.toNat_natCast] at h5
      simp only [Col.reachR, hv, r5, if_true, Int.toNat_natCast] at h6
      simp only [Col.pairsR, xv, xss, if_true, Int.toNat_natCast] at h7
      simp only [Col.reachR, xv, xss, if_true, Int.toNat_natCast] at h8
      simp only [Col.pairsR, yv, yss, if_true, Int.toNat_natCast] at h9
      have e1 : (c.buy wz pz).lo = c.lo := rfl
      have e2 : (c.buy wz pz).hi = c.hi := rfl
      have e3 : (c.buy wz pz).ev = c.ev := rfl
      have e4 : (c.buy wz pz).er = c.er := rfl
      simp only [Col.av, e1, e2, e3, e4] at h1 h2 h3 h4 h5 h6 h7 h8 h9 h10 h11 ⊢
      -- none is worse
      have w1 := r6.left
      have w2 := r6.worst
      have w3 := r6.reach ho ho rfl rfl rfl
      have w4 := xp.left
      have w5 := xp.worst
      have w6 := xp.reach ho xo rfl rfl rfl
      have w7 := yp.left
      have w8 := yp.worst
      have w1' : ¬ (c.leftN s : Int) < (c.leftN (s ||| 2 ^ k) : Int) := by omega
      have w2' : ¬ c.worstR s < c.worstR (s ||| 2 ^ k) := by omega
      have w3' : ¬ c.rchR (s ||| 2 ^ k) < c.rchR s := by omega
      have w4' : ¬ (c.leftN s : Int) < (({ c with er := xe } : Col).leftN s : Int) := by omega
      have w5' : ¬ c.worstR s < ({ c with er := xe } : Col).worstR s := by omega
      have w6' : ¬ ({ c with er := xe } : Col).rchR s < c.rchR s := by omega
      have w7' : ¬ (c.leftN s : Int) < (({ c with hi := ye } : Col).leftN s : Int) := by omega
      have w8' : ¬ c.worstR s < ({ c with hi := ye } : Col).worstR s := by omega
      have zz := bestR_same hv c.cost (fun s => (pop s : Int))
      have zc := bestR_case hv (fun s => (pop s : Int))
      have fin := fun (o1 o2 o3 o5 o6 : AO) (E : Env) => more_l34 h ho hs.1 o1 o2 o3 o5 o6 (turnN c.ws.length s) (foldF c.perA 1 0 c.ws.length) _ _ _ _ _ _ _ _ _ (fun E => more_end h ho hv hs.1 hs.2 o1 o2 o3 o5 o6 E) c.ws.length 0 (by omega) [] [] (by simp) (by simp) 0 rfl (by omega) 1 rfl (by omega) E
      clear w1 w2 w3 w4 w5 w6 w7 w8 r6 xp yp yo yv xo xv hxA hyA hat xss yss
      by_cases hn : c.ws.length < 6
      · have bo := buy_ok ho hn wb pb
        have bv := (c.buy wz pz).valid_iff.2 bo
        have bs := bestR_same bv (c.buy wz pz).cost (fun s => (pop s : Int))
        have bc := bestR_case bv (fun s => (pop s : Int))
        have l1 := bestR_le hv bv (f := fun s => (pop s : Int)) (g := fun s => (pop s : Int)) (fun n hn => (buy_least ho wz pz).1 hn)
        have l2 := bestR_le hv bv (f := c.cost) (g := (c.buy wz pz).cost) (fun n hn => (buy_least ho wz pz).2 hn)
        have hn' : (c.ws.length : Int) < 6 := by omega
        generalize (c.buy wz pz).bestR (fun s => (pop s : Int)) = ZF at *
        generalize (c.buy wz pz).bestR (c.buy wz pz).cost = ZC at *
        rcases zc with zc | zc
        · obtain ⟨l3, l4⟩ := l1 zc
          obtain ⟨l5, l6⟩ := l2 (by rw [zz]; exact zc)
          have l3' : ¬ (c.bestR fun s => (pop s : Int)).1 < ZF.1 := by omega
          have l5' : ¬ (c.bestR c.cost).1 < ZC.1 := by omega
          simp only [zz, zc] at fin
          refine (callFL_eq fn10 rfl (by simp [Try.f10])).trans ?_
          simp (maxSteps := 1000000) (implicitDefEqProofs := false) (disch := first | rfl | omega | assumption) only [go_sem, ↓reduceIte, Nat.reduceEqDiff, Nat.reduceAdd, Nat.reduceLeDiff, Nat.reduceBEq, Nat.reduceMul, Nat.reduceLT, Int.reduceLT, Int.reduceLE, Int.reduceToNat, Int.reduceNeg, Int.reduceEq, Int.reduceMul, reduceCtorEq, Int.reduceBEq, Int.reduceBNe, Int.reduceAdd, Int.reduceSub, s1, s2, hH, hh, hV, hv]
          simp (maxSteps := 1000000) (implicitDefEqProofs := false) (disch := first | rfl | omega | assumption) only [go_sem, ↓reduceIte, Nat.reduceEqDiff, Nat.reduceAdd, Nat.reduceLeDiff, Nat.reduceBEq, Nat.reduceMul, Nat.reduceLT, Int.reduceLT, Int.reduceLE, Int.reduceToNat, Int.reduceNeg, Int.reduceEq, Int.reduceMul, reduceCtorEq, Int.reduceBEq, Int.reduceBNe, Int.reduceAdd, Int.reduceSub, ltT, ltF, leT, leF, s1, s2, h.ws.len, t3, t4, t5, z, z0, h1, h2, h3, h4, zz, zc, hxe, hye, r1, r3, r4, r7, y1, h5, h6, h7, h8, h9, v1, v2, hwz, hpz, hel, hel2, add5, add5', add6, add6', w1', w2', w3', w4', w5', w6', w7', w8', hn', h10, h11, bs, l4, l6, l3', l5']
          rw [chkK_of]; rotate_left; kernel_rfl
          simp (maxSteps := 1000000) (implicitDefEqProofs := false) (disch := first | rfl | omega | assumption) only [go_sem, ↓reduceIte, Nat.reduceEqDiff, Nat.reduceAdd, Nat.reduceLeDiff, Nat.reduceBEq, Nat.reduceMul, Nat.reduceLT, Int.reduceLT, Int.reduceLE, Int.reduceToNat, Int.reduceNeg, Int.reduceEq, Int.reduceMul, reduceCtorEq, Int.reduceBEq, Int.reduceBNe, Int.reduceAdd, Int.reduceSub, ltT, ltF, leT, leF, s1, s2, h.ws.len, t3, t4, t5, z, z0, h1, h2, h3, h4, zz, zc, hxe, hye, r1, r3, r4, r7, y1, h5, h6, h7, h8, h9, v1, v2, hwz, hpz, hel, hel2, add5, add5', add6, add6', w1', w2', w3', w4', w5', w6', w7', w8', hn', h10, h11, bs, l4, l6, l3', l5']
          rw [chkK_of]; rotate_left; kernel_rfl
          simp (maxSteps := 1000000) (implicitDefEqProofs := false) (disch := first | rfl | omega | assumption) only [go_sem, ↓reduceIte, Nat.reduceEqDiff, Nat.reduceAdd, Nat.reduceLeDiff, Nat.reduceBEq, Nat.reduceMul, Nat.reduceLT, Int.reduceLT, Int.reduceLE, Int.reduceToNat, Int.reduceNeg, Int.reduceEq, Int.reduceMul, reduceCtorEq, Int.reduceBEq, Int.reduceBNe, Int.reduceAdd, Int.reduceSub, ltT, ltF, leT, leF, s1, s2, h.ws.len, t3, t4, t5, z, z0, h1, h2, h3, h4, zz, zc, hxe, hye, r1, r3, r4, r7, y1, h5, h6, h7, h8, h9, v1, v2, hwz, hpz, hel, hel2, add5, add5', add6, add6', w1', w2', w3', w4', w5', w6', w7', w8', hn', h10, h11, bs, l4, l6, l3', l5']
          rw [chkK_of]; rotate_left; kernel_rfl
          simp (maxSteps := 1000000) (implicitDefEqProofs := false) (disch := first | rfl | omega | assumption) only [go_sem, ↓reduceIte, Nat.reduceEqDiff, Nat.reduceAdd, Nat.reduceLeDiff, Nat.reduceBEq, Nat.reduceMul, Nat.reduceLT, Int.reduceLT, Int.reduceLE, Int.reduceToNat, Int.reduceNeg, Int.reduceEq, Int.reduceMul, reduceCtorEq, Int.reduceBEq, Int.reduceBNe, Int.reduceAdd, Int.reduceSub, ltT, ltF, leT, leF, s1, s2, h.ws.len, t3, t4, t5, z, z0, h1, h2, h3, h4, zz, zc, hxe, hye, r1, r3, r4, r7, y1, h5, h6, h7, h8, h9, v1, v2, hwz, hpz, hel, hel2, add5, add5', add6, add6', w1', w2', w3', w4', w5', w6', w7', w8', hn', h10, h11, bs, l4, l6, l3', l5']
          rw [chkK_of]; rotate_left; kernel_rfl
          simp (maxSteps := 1000000) (implicitDefEqProofs := false) (disch := first | rfl | omega | assumption) only [go_sem, ↓reduceIte, Nat.reduceEqDiff, Nat.reduceAdd, Nat.reduceLeDiff, Nat.reduceBEq, Nat.reduceMul, Nat.reduceLT, Int.reduceLT, Int.reduceLE, Int.reduceToNat, Int.reduceNeg, Int.reduceEq, Int.reduceMul, reduceCtorEq, Int.reduceBEq, Int.reduceBNe, Int.reduceAdd, Int.reduceSub, ltT, ltF, leT, leF, s1, s2, h.ws.len, t3, t4, t5, z, z0, h1, h2, h3, h4, zz, zc, hxe, hye, r1, r3, r4, r7, y1, h5, h6, h7, h8, h9, v1, v2, hwz, hpz, hel, hel2, add5, add5', add6, add6', w1', w2', w3', w4', w5', w6', w7', w8', hn', h10, h11, bs, l4, l6, l3', l5']
          exact fin _ _ _ _ _ _ (by rfl) (by rfl) (by rfl) (by rfl) (by rfl) (by rfl) (by rfl) (by rfl) (by rfl) (by rfl) (by rfl) (by rfl) (by rfl) (by rfl) (by rfl)
        · have hz : ¬ (ZC.2.2 != ZF.2.2) = true := by rw [bs]; simp
          simp only [zz, zc] at fin
          refine (callFL_eq fn10 rfl (by simp [Try.f10])).trans ?_
          simp (maxSteps := 1000000) (implicitDefEqProofs := false) (disch := first | rfl | omega | assumption) only [go_sem, ↓reduceIte, Nat.reduceEqDiff, Nat.reduceAdd, Nat.reduceLeDiff, Nat.reduceBEq, Nat.reduceMul, Nat.reduceLT, Int.reduceLT, Int.reduceLE, Int.reduceToNat, Int.reduceNeg, Int.reduceEq, Int.reduceMul, reduceCtorEq, Int.reduceBEq, Int.reduceBNe, Int.reduceAdd, Int.reduceSub, s1, s2, hH, hh, hV, hv]
          simp (maxSteps := 1000000) (implicitDefEqProofs := false) (disch := first | rfl | omega | assumption) only [go_sem, ↓reduceIte, Nat.reduceEqDiff, Nat.reduceAdd, Nat.reduceLeDiff, Nat.reduceBEq, Nat.reduceMul, Nat.reduceLT, Int.reduceLT, Int.reduceLE, Int.reduceToNat, Int.reduceNeg, Int.reduceEq, Int.reduceMul, reduceCtorEq, Int.reduceBEq, Int.reduceBNe, Int.reduceAdd, Int.reduceSub, ltT, ltF, leT, leF, s1, s2, h.ws.len, t3, t4, t5, z, z0, h1, h2, h3, h4, zz, zc, hxe, hye, r1, r3, r4, r7, y1, h5, h6, h7, h8, h9, v1, v2, hwz, hpz, hel, hel2, add5, add5', add6, add6', w1', w2', w3', w4', w5', w6', w7', w8', hn', h10, h11, bs, zc, hz]
          rw [chkK_of]; rotate_left; kernel_rfl
          simp (maxSteps := 1000000) (implicitDefEqProofs := false) (disch := first | rfl | omega | assumption) only [go_sem, ↓reduceIte, Nat.reduceEqDiff, Nat.reduceAdd, Nat.reduceLeDiff, Nat.reduceBEq, Nat.reduceMul, Nat.reduceLT, Int.reduceLT, Int.reduceLE, Int.reduceToNat, Int.reduceNeg, Int.reduceEq, Int.reduceMul, reduceCtorEq, Int.reduceBEq, Int.reduceBNe, Int.reduceAdd, Int.reduceSub, ltT, ltF, leT, leF, s1, s2, h.ws.len, t3, t4, t5, z, z0, h1, h2, h3, h4, zz, zc, hxe, hye, r1, r3, r4, r7, y1, h5, h6, h7, h8, h9, v1, v2, hwz, hpz, hel, hel2, add5, add5', add6, add6', w1', w2', w3', w4', w5', w6', w7', w8', hn', h10, h11, bs, zc, hz]
          rw [chkK_of]; rotate_left; kernel_rfl
          simp (maxSteps := 1000000) (implicitDefEqProofs := false) (disch := first | rfl | omega | assumption) only [go_sem, ↓reduceIte, Nat.reduceEqDiff, Nat.reduceAdd, Nat.reduceLeDiff, Nat.reduceBEq, Nat.reduceMul, Nat.reduceLT, Int.reduceLT, Int.reduceLE, Int.reduceToNat, Int.reduceNeg, Int.reduceEq, Int.reduceMul, reduceCtorEq, Int.reduceBEq, Int.reduceBNe, Int.reduceAdd, Int.reduceSub, ltT, ltF, leT, leF, s1, s2, h.ws.len, t3, t4, t5, z, z0, h1, h2, h3, h4, zz, zc, hxe, hye, r1, r3, r4, r7, y1, h5, h6, h7, h8, h9, v1, v2, hwz, hpz, hel, hel2, add5, add5', add6, add6', w1', w2', w3', w4', w5', w6', w7', w8', hn', h10, h11, bs, zc, hz]
          rw [chkK_of]; rotate_left; kernel_rfl
          simp (maxSteps := 1000000) (implicitDefEqProofs := false) (disch := first | rfl | omega | assumption) only [go_sem, ↓reduceIte, Nat.reduceEqDiff, Nat.reduceAdd, Nat.reduceLeDiff, Nat.reduceBEq, Nat.reduceMul, Nat.reduceLT, Int.reduceLT, Int.reduceLE, Int.reduceToNat, Int.reduceNeg, Int.reduceEq, Int.reduceMul, reduceCtorEq, Int.reduceBEq, Int.reduceBNe, Int.reduceAdd, Int.reduceSub, ltT, ltF, leT, leF, s1, s2, h.ws.len, t3, t4, t5, z, z0, h1, h2, h3, h4, zz, zc, hxe, hye, r1, r3, r4, r7, y1, h5, h6, h7, h8, h9, v1, v2, hwz, hpz, hel, hel2, add5, add5', add6, add6', w1', w2', w3', w4', w5', w6', w7', w8', hn', h10, h11, bs, zc, hz]
          rw [chkK_of]; rotate_left; kernel_rfl
          simp (maxSteps := 1000000) (implicitDefEqProofs := false) (disch := first | rfl | omega | assumption) only [go_sem, ↓reduceIte, Nat.reduceEqDiff, Nat.reduceAdd, Nat.reduceLeDiff, Nat.reduceBEq, Nat.reduceMul, Nat.reduceLT, Int.reduceLT, Int.reduceLE, Int.reduceToNat, Int.reduceNeg, Int.reduceEq, Int.reduceMul, reduceCtorEq, Int.reduceBEq, Int.reduceBNe, Int.reduceAdd, Int.reduceSub, ltT, ltF, leT, leF, s1, s2, h.ws.len, t3, t4, t5, z, z0, h1, h2, h3, h4, zz, zc, hxe, hye, r1, r3, r4, r7, y1, h5, h6, h7, h8, h9, v1, v2, hwz, hpz, hel, hel2, add5, add5', add6, add6', w1', w2', w3', w4', w5', w6', w7', w8', hn', h10, h11, bs, zc, hz]
          exact fin _ _ _ _ _ _ (by rfl) (by rfl) (by rfl) (by rfl) (by rfl) (by rfl) (by rfl) (by rfl) (by rfl) (by rfl) (by rfl) (by rfl) (by rfl) (by rfl) (by rfl)
      · have hn' : ¬ (c.ws.length : Int) < 6 := by omega
        generalize hzc : (c.bestR fun s => (pop s : Int)).2.2 = x3 at *
        simp only [zz] at fin
        refine (callFL_eq fn10 rfl (by simp [Try.f10])).trans ?_
        simp (maxSteps := 1000000) (implicitDefEqProofs := false) (disch := first | rfl | omega | assumption) only [go_sem, ↓reduceIte, Nat.reduceEqDiff, Nat.reduceAdd, Nat.reduceLeDiff, Nat.reduceBEq, Nat.reduceMul, Nat.reduceLT, Int.reduceLT, Int.reduceLE, Int.reduceToNat, Int.reduceNeg, Int.reduceEq, Int.reduceMul, reduceCtorEq, Int.reduceBEq, Int.reduceBNe, Int.reduceAdd, Int.reduceSub, s1, s2, hH, hh, hV, hv]
        simp (maxSteps := 1000000) (implicitDefEqProofs := false) (disch := first | rfl | omega | assumption) only [go_sem, ↓reduceIte, Nat.reduceEqDiff, Nat.reduceAdd, Nat.reduceLeDiff, Nat.reduceBEq, Nat.reduceMul, Nat.reduceLT, Int.reduceLT, Int.reduceLE, Int.reduceToNat, Int.reduceNeg, Int.reduceEq, Int.reduceMul, reduceCtorEq, Int.reduceBEq, Int.reduceBNe, Int.reduceAdd, Int.reduceSub, ltT, ltF, leT, leF, s1, s2, h.ws.len, t3, t4, t5, z, z0, h1, h2, h3, h4, zz, zc, hxe, hye, r1, r3, r4, r7, y1, h5, h6, h7, h8, h9, v1, v2, hwz, hpz, hel, hel2, add5, add5', add6, add6', w1', w2', w3', w4', w5', w6', w7', w8', hn', hzc]
        rw [chkK_of]; rotate_left; kernel_rfl
        simp (maxSteps := 1000000) (implicitDefEqProofs := false) (disch := first | rfl | omega | assumption) only [go_sem, ↓reduceIte, Nat.reduceEqDiff, Nat.reduceAdd, Nat.reduceLeDiff, Nat.reduceBEq, Nat.reduceMul, Nat.reduceLT, Int.reduceLT, Int.reduceLE, Int.reduceToNat, Int.reduceNeg, Int.reduceEq, Int.reduceMul, reduceCtorEq, Int.reduceBEq, Int.reduceBNe, Int.reduceAdd, Int.reduceSub, ltT, ltF, leT, leF, s1, s2, h.ws.len, t3, t4, t5, z, z0, h1, h2, h3, h4, zz, zc, hxe, hye, r1, r3, r4, r7, y1, h5, h6, h7, h8, h9, v1, v2, hwz, hpz, hel, hel2, add5, add5', add6, add6', w1', w2', w3', w4', w5', w6', w7', w8', hn', hzc]
        rw [chkK_of]; rotate_left; kernel_rfl
        simp (maxSteps := 1000000) (implicitDefEqProofs := false) (disch := first | rfl | omega | assumption) only [go_sem, ↓reduceIte, Nat.reduceEqDiff, Nat.reduceAdd, Nat.reduceLeDiff, Nat.reduceBEq, Nat.reduceMul, Nat.reduceLT, Int.reduceLT, Int.reduceLE, Int.reduceToNat, Int.reduceNeg, Int.reduceEq, Int.reduceMul, reduceCtorEq, Int.reduceBEq, Int.reduceBNe, Int.reduceAdd, Int.reduceSub, ltT, ltF, leT, leF, s1, s2, h.ws.len, t3, t4, t5, z, z0, h1, h2, h3, h4, zz, zc, hxe, hye, r1, r3, r4, r7, y1, h5, h6, h7, h8, h9, v1, v2, hwz, hpz, hel, hel2, add5, add5', add6, add6', w1', w2', w3', w4', w5', w6', w7', w8', hn', hzc]
        rw [chkK_of]; rotate_left; kernel_rfl
        simp (maxSteps := 1000000) (implicitDefEqProofs := false) (disch := first | rfl | omega | assumption) only [go_sem, ↓reduceIte, Nat.reduceEqDiff, Nat.reduceAdd, Nat.reduceLeDiff, Nat.reduceBEq, Nat.reduceMul, Nat.reduceLT, Int.reduceLT, Int.reduceLE, Int.reduceToNat, Int.reduceNeg, Int.reduceEq, Int.reduceMul, reduceCtorEq, Int.reduceBEq, Int.reduceBNe, Int.reduceAdd, Int.reduceSub, ltT, ltF, leT, leF, s1, s2, h.ws.len, t3, t4, t5, z, z0, h1, h2, h3, h4, zz, zc, hxe, hye, r1, r3, r4, r7, y1, h5, h6, h7, h8, h9, v1, v2, hwz, hpz, hel, hel2, add5, add5', add6, add6', w1', w2', w3', w4', w5', w6', w7', w8', hn', hzc]
        rw [chkK_of]; rotate_left; kernel_rfl
        simp (maxSteps := 1000000) (implicitDefEqProofs := false) (disch := first | rfl | omega | assumption) only [go_sem, ↓reduceIte, Nat.reduceEqDiff, Nat.reduceAdd, Nat.reduceLeDiff, Nat.reduceBEq, Nat.reduceMul, Nat.reduceLT, Int.reduceLT, Int.reduceLE, Int.reduceToNat, Int.reduceNeg, Int.reduceEq, Int.reduceMul, reduceCtorEq, Int.reduceBEq, Int.reduceBNe, Int.reduceAdd, Int.reduceSub, ltT, ltF, leT, leF, s1, s2, h.ws.len, t3, t4, t5, z, z0, h1, h2, h3, h4, zz, zc, hxe, hye, r1, r3, r4, r7, y1, h5, h6, h7, h8, h9, v1, v2, hwz, hpz, hel, hel2, add5, add5', add6, add6', w1', w2', w3', w4', w5', w6', w7', w8', hn', hzc]
        exact fin _ _ _ _ _ _ (by rfl) (by rfl) (by rfl) (by rfl) (by rfl) (by rfl) (by rfl) (by rfl) (by rfl) (by rfl) (by rfl) (by rfl) (by rfl) (by rfl) (by rfl)
    · simp only [Col.av]
      refine (callFL_eq fn10 rfl (by simp [Try.f10])).trans ?_
      simp (maxSteps := 1000000) (implicitDefEqProofs := false) (disch := first | rfl | omega | assumption) only [go_sem, ↓reduceIte, Nat.reduceEqDiff, Nat.reduceAdd, Nat.reduceLeDiff, Nat.reduceBEq, Nat.reduceMul, Nat.reduceLT, Int.reduceLT, Int.reduceLE, Int.reduceToNat, Int.reduceNeg, Int.reduceEq, Int.reduceMul, reduceCtorEq, Int.reduceBEq, Int.reduceBNe, Int.reduceAdd, Int.reduceSub, s1, s2, hH, hh, hV, hv, law_alive]

end Go.Ab
