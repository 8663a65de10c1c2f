/-
  The law's results that the document fixes.
-/
import Derived.Test.YtcalhkhkiahecaaGreatKK4
namespace Go.Ab
open Go.Proofs
set_option linter.unusedSimpArgs false
set_option linter.unusedVariables false
set_option maxRecDepth 100000
set_option maxHeartbeats 2000000

variable {H : Heap}


abbrev vw0 : AV := .sl true [I 12, I 20, I 17]
abbrev vr0 : AV := .sl true [.agg [I 0, I 10, I 13], .agg [I 1, I 5, I 8]]
abbrev vr1 : AV := .sl false [.agg [I 0, I 10, I 13], .agg [I 1, I 5, I 8], .agg [I 0, I 0, I 2]]

theorem s_Part (n k : Int) (a b : Int) (hn : (wi n 0 2000 && wi k 0 2) = true) (ha : n / sF0.w k.toNat = a) (hb : ptZ (sF0.w k.toNat) n = b) (H : Heap) : callFL cfg0 prog0 false 7 [.agg [vw0, I 100, I 200, vr0], I n, I k] H none = some ⟨.ret (.tup [I a, I b, I 0]), H, none⟩ := by
  have h := fr_Part (sAt0 H) (by decide) n k
  rw [v_valid, if_pos rfl, show ((sF0.ws.length : Int) - 1) = 2 from rfl, hn, if_pos rfl, ha, hb] at h
  exact h
theorem s_Lengths (H : Heap) : callFL cfg0 prog0 false 9 [.agg [vw0, I 100, I 200, vr0]] H none = some ⟨.ret (.tup [.sl false ([(126, 128), (186, 188)].map spA), I 0]), H, none⟩ := by
  have h := fr_Lengths (sAt0 H) (by decide)
  rw [v_valid, v_lens] at h
  exact h
theorem s_Count (H : Heap) : callFL cfg0 prog0 false 11 [.agg [vw0, I 100, I 200, vr0]] H none = some ⟨.ret (.tup [I 6, I 0]), H, none⟩ := by
  have h := fr_Count (sAt0 H) (by decide)
  rw [v_count] at h
  exact h
theorem s_Near (n b : Int) (hb : sF0.near n = (b, 0)) (H : Heap) : callFL cfg0 prog0 false 14 [.agg [vw0, I 100, I 200, vr0], I n] H none = some ⟨.ret (.tup [I b, I 0]), H, none⟩ := by
  have h := fr_Near (sAt0 H) (by decide) n
  rw [hb] at h
  exact h
theorem s_Whole (n : Int) (b : List Int) (hb : sF0.whole n = (b, 0)) (H : Heap) : callFL cfg0 prog0 false 16 [.agg [vw0, I 100, I 200, vr0], I n] H none = some ⟨.ret (.tup [.sl false (b.map I), I 0]), H, none⟩ := by
  have h := fr_Whole (sAt0 H) (by decide) n
  rw [hb] at h
  exact h
theorem s_Parts (n b : Int) (hb : sF0.parts n = (b, 0)) (H : Heap) : callFL cfg0 prog0 false 18 [.agg [vw0, I 100, I 200, vr0], I n] H none = some ⟨.ret (.tup [I b, I 0]), H, none⟩ := by
  have h := fr_Parts (sAt0 H) (by decide) n
  rw [hb] at h
  exact h
theorem s_Period (H : Heap) : callFL cfg0 prog0 false 20 [.agg [vw0, I 100, I 200, vr0]] H none = some ⟨.ret (.tup [I 1020, I 0]), H, none⟩ := by
  have h := fr_Period (sAt0 H) (by decide)
  rw [v_period] at h
  exact h
theorem s_Ask (H : Heap) : callFL cfg0 prog0 false 23 [.agg [vw0, I 100, I 200, vr0]] H none = some ⟨.ret (.tup [I 2, I 1, I 0]), H, none⟩ := by
  have h := fr_Ask (sAt0 H) (by decide)
  rw [v_ask] at h
  exact h
theorem s_Wrong1 (H : Heap) : callFL cfg0 prog0 false 25 [.agg [vw0, I 100, I 200, vr1]] H none = some ⟨.ret (.tup [I 1, I 1, I 0]), H, none⟩ := by
  have h := fr_Wrong (sAt1 H) (by decide)
  rw [v_wrong1] at h
  exact h
theorem s_Clash1 (H : Heap) : callFL cfg0 prog0 false 27 [.agg [vw0, I 100, I 200, vr1]] H none = some ⟨.ret (.tup [I 5, I 0]), H, none⟩ := by
  have h := fr_Clash (sAt1 H) (by decide)
  rw [v_clash1] at h
  exact h
theorem slI (b : Bool) (xs : List Int) : SlOk H 1 (.sl b (xs.map I)) (xs.map I) := ⟨rfl, fun x hx => by
  obtain ⟨i, _, rfl⟩ := List.mem_map.1 hx; rfl⟩
theorem slS (b : Bool) (xs : List (Int × Int)) : SlOk H 2 (.sl b (xs.map spA)) (xs.map spA) := ⟨rfl, fun x hx => by
  obtain ⟨i, _, rfl⟩ := List.mem_map.1 hx; rfl⟩

theorem law_alive (H : Heap) : callFL cfg0 prog0 false 6 [] H none = some ⟨.ret (.bool true), H, none⟩ := by
  have h1 := s_Part 128 2 7 10 (by decide) (by decide) (by decide) H
  have h2 := s_Near 157 128 v_near1 H
  have h3 := s_Whole 0 _ v_whole0 H
  have h4 := s_Parts 0 _ v_parts0 H
  have h5 : callFL cfg0 prog0 false 13 [.sl false [.agg [I 126, I 128], .agg [I 186, I 188]], .sl true [.agg [I 126, I 128], .agg [I 186, I 188]]] H none = some ⟨.ret (.bool true), H, none⟩ := rf_Spans (H := H) (slS false [(126, 128), (186, 188)]) (slS true [(126, 128), (186, 188)]) (by decide)
  have h6 : callFL cfg0 prog0 false 22 [.sl false [I 10, I 15], .sl true [I 10, I 15]] H none = some ⟨.ret (.bool true), H, none⟩ := rf_Ints (H := H) (slI false [10, 15]) (slI true [10, 15]) (by decide)
  have h7 := law_sample1 0 0 2 H
  have h8 := s_Lengths H
  have h9 := law_sample0 H
  simp only [List.map_cons, List.map_nil, spA] at h3 h8
  refine (callFL_eq fn6 rfl (by simp [Tryz.f6])).trans ?_
  simp (maxSteps := 1000000) (implicitDefEqProofs := false) (disch := first | rfl | omega | assumption) only [go_sem, ltT, ltF, leT, leF, h9, h1, h8, s_Count, h2, h3, h4, s_Period, s_Ask, h7, law_read, law_span, s_Wrong1, s_Clash1, h5, h6]
  done

end Go.Ab
/-
  The reference, walked: Part, Lengths, Count, Near.
-/
namespace Go.Ab
open Go.Proofs
set_option linter.unusedSimpArgs false
set_option linter.unusedVariables false
set_option maxRecDepth 100000
set_option maxHeartbeats 2000000

variable {H : Heap}


theorem SlOk.old {sz : Nat} {v : AV} {xs : List AV} (h : SlOk H sz v xs) (A B : Heap) : pairM (some (H ++ A, H ++ B)) (gslOf v) = true := by
  rcases h.obj with hg | ⟨l, hg, hlt, hget⟩
  · rw [hg]; rfl
  · rw [hg, pairM_some]
    have hs : ∀ l : List AV, sameL l l = true := fun l => by
      induction l with
      | nil => rfl
      | cons x r ih => simp [sameL, AV.same_refl, ih]
    simp only [sameAt, List.getElem?_append_left hlt, hget, AO.same, hs]
    simp

theorem rf_Part {f : Frg} {vw vr : AV} (hf : FrAt H f vw vr) (hl : f.ws.length ≤ 1000 ∧ f.rs.length ≤ 1000) (n k : Int) :
    callFL cfg0 prog0 false 8 [.agg [vw, I f.lo, I f.hi, vr], I n, I k] H none = some ⟨.ret (.tup (if f.valid then (if wi n 0 2000 && wi k 0 ((f.ws.length : Int) - 1) then [I (n / f.w k.toNat), I (ptZ (f.w k.toNat) n), I 0] else [I 0, I 0, I 2]) else [I 0, I 0, I 1])), H, none⟩ := by
  have s1 := hf.ws.scal
  have s2 := hf.rs.scal
  have hN := fun G : Heap => rf_Length n G
  have hC := fun G : Heap => rf_Colour (hf.app G) hl.1 k
  have hK := fun (b : Bool) (G : Heap) => rf_check (hf.app G) hl b
  simp only [Frg.chk] at hK
  cases hv : f.valid
  · simp only [hv, Bool.false_eq_true, if_false] at hK ⊢
    cases k1 : wi n 0 2000
    · rw [k1] at hN
      refine (callFL_eq fn8 rfl (by simp [Tryz.f8])).trans ?_
      simp (maxSteps := 1000000) (implicitDefEqProofs := false) (disch := first | rfl | omega | assumption) only [go_sem, ltT, ltF, leT, leF, s1, s2]
      rw [chkK_of]; rotate_left; kernel_rfl
      simp (maxSteps := 1000000) (implicitDefEqProofs := false) (disch := first | rfl | omega | assumption) only [go_sem, ltT, ltF, leT, leF, s1, s2, hN, hK]
      done
    · rw [k1] at hN
      refine (callFL_eq fn8 rfl (by simp [Tryz.f8])).trans ?_
      simp (maxSteps := 1000000) (implicitDefEqProofs := false) (disch := first | rfl | omega | assumption) only [go_sem, ltT, ltF, leT, leF, s1, s2]
      rw [chkK_of]; rotate_left; kernel_rfl
      simp (maxSteps := 1000000) (implicitDefEqProofs := false) (disch := first | rfl | omega | assumption) only [go_sem, ltT, ltF, leT, leF, s1, s2, hN, hC, hK]
      done
  · have ho := f.valid_iff.1 hv
    simp only [hv, if_true] at hK ⊢
    cases k1 : wi n 0 2000
    · rw [k1] at hN
      simp only [Bool.false_and, Bool.false_eq_true, if_false]
      refine (callFL_eq fn8 rfl (by simp [Tryz.f8])).trans ?_
      simp (maxSteps := 1000000) (implicitDefEqProofs := false) (disch := first | rfl | omega | assumption) only [go_sem, ltT, ltF, leT, leF, s1, s2]
      rw [chkK_of]; rotate_left; kernel_rfl
      simp (maxSteps := 1000000) (implicitDefEqProofs := false) (disch := first | rfl | omega | assumption) only [go_sem, ltT, ltF, leT, leF, s1, s2, hN, hK]
      done
    · cases k2 : wi k 0 ((f.ws.length : Int) - 1)
      · rw [k1] at hN
        rw [k2] at hC
        simp only [Bool.and_false, Bool.false_eq_true, if_false]
        refine (callFL_eq fn8 rfl (by simp [Tryz.f8])).trans ?_
        simp (maxSteps := 1000000) (implicitDefEqProofs := false) (disch := first | rfl | omega | assumption) only [go_sem, ltT, ltF, leT, leF, s1, s2]
        rw [chkK_of]; rotate_left; kernel_rfl
        simp (maxSteps := 1000000) (implicitDefEqProofs := false) (disch := first | rfl | omega | assumption) only [go_sem, ltT, ltF, leT, leF, s1, s2, hN, hC, hK]
        done
      · rw [k1] at hN
        rw [k2] at hC
        simp only [Bool.and_self, if_true]
        have b1 : 0 ≤ n ∧ n ≤ 2000 := by simpa [wi] using k1
        have b2 : 0 ≤ k ∧ k ≤ (f.ws.length : Int) - 1 := by simpa [wi] using k2
        obtain ⟨c, hc⟩ : ∃ c : Nat, k = c := ⟨k.toNat, by omega⟩
        subst hc
        have hcl : c < f.ws.length := by omega
        have hO := fun G : Heap => rf_Of (hf.app G) ho hcl b1
        obtain ⟨a1, a2, a3, a4, a5⟩ := hf.ws.fF (d := 0)
        have hw := ho.wave c hcl
        have hwe : f.ws.getD c 0 = f.w c := rfl
        have hel := fun (k : Int) (off : Nat) => ptrOf_elA (k := k) (off := off) hf.ws
        have z : ¬ f.w c = 0 := by omega
        have e1 : n.tdiv (f.w c) = n / f.w c := Int.tdiv_eq_ediv_of_nonneg b1.1
        have q0 : 0 ≤ n / f.w c := Int.ediv_nonneg b1.1 (by omega)
        have q1 : n / f.w c ≤ n := Int.ediv_le_self _ b1.1
        simp only [Int.toNat_natCast]
        refine (callFL_eq fn8 rfl (by simp [Tryz.f8])).trans ?_
        simp (maxSteps := 1000000) (implicitDefEqProofs := false) (disch := first | rfl | omega | assumption) only [go_sem, ltT, ltF, leT, leF, s1, s2]
        rw [chkK_of]; rotate_left; kernel_rfl
        simp (maxSteps := 1000000) (implicitDefEqProofs := false) (disch := first | rfl | omega | assumption) only [go_sem, ltT, ltF, leT, leF, s1, s2, hN, hC, hK]
        rw [chkK_of]; rotate_left; kernel_rfl
        simp (maxSteps := 1000000) (implicitDefEqProofs := false) (disch := first | rfl | omega | assumption) only [go_sem, ltT, ltF, leT, leF, s1, s2, a1, a2, a3, a4, hwe, z, e1, hO, hf.ws.old, hel, ld_ne, ld_eq, Option.or_none]
        done

theorem told_bd (f : Frg) (b : Bool) : (f.told b).1.length ≤ 401 ∧ ∀ j, j < (f.told b).1.length → 0 ≤ (f.told b).1.getD j 0 ∧ (f.told b).1.getD j 0 ≤ 2000 := by
  simp only [Frg.told]
  split
  · rename_i hv
    split
    · split
      · simp
      · exact lens_bd (f.valid_iff.1 hv) f.all
    · simp
  · simp

theorem rl_loop (xs : List Int) (hx : xs.length ≤ 401 ∧ ∀ j, j < xs.length → 0 ≤ xs.getD j 0 ∧ xs.getD j 0 ≤ 2000) (v0 : AV) (r : List (Int × Int)) (bq : Bool) (e : Int) :
    ∀ (q j : Nat), j + q = xs.length → ∀ (acc : List (Int × Int)), spBd acc j → (xs.drop j).foldl spStep acc = r → ∀ E : Env, E.get 4 = .sl bq (xs.map I) → E.get 5 = I e → E.get 6 = .gsl (H.length + 1) acc.length → E.get 7 = I j →
    Option.map (finishC H.length) (execL cfg0 prog0 ⟨10, none, false, H.length⟩ (todoAt Tryz.f10 4) ⟨E, [], H ++ [.box v0, .grow 2 (acc.map spA)], none⟩) = some ⟨.ret (.tup [.sl false (r.map spA), I e]), H, none⟩ := by
  intro q
  have lx : (xs.map I).length = xs.length := List.length_map _
  induction q with
  | zero =>
    intro j hj acc ha hr E g4 g5 g6 g7
    have hk' : ¬ (j : Int) < ((xs.length : Nat) : Int) := by omega
    rw [List.drop_of_length_le (by omega)] at hr
    simp only [List.foldl_nil] at hr
    subst hr
    simp only [loopIt, todoPast, todoAt, todoOf, firstReg, ↓reduceIte, Option.some.injEq, Nat.reduceEqDiff, reduceCtorEq, Tryz.f10]
    rw [execL_inLoop]
    have t0 := fun N => spLt acc N
    have la : (acc.map spA).length = acc.length := List.length_map _
    simp (maxSteps := 1000000) (implicitDefEqProofs := false) (disch := first | rfl | omega | assumption) only [go_sem, g4, g5, g6, g7, ltT, ltF, leT, leF, hk', lx, t0, la]
    done
  | succ q ih =>
    intro j hj acc ha hr E g4 g5 g6 g7
    have hk' : (j : Int) < ((xs.length : Nat) : Int) := by omega
    have hk2 : j < xs.length := by omega
    have hd : xs.drop j = xs.getD j 0 :: xs.drop (j + 1) := by rw [List.drop_eq_getElem_cons hk2]; simp [hk2]
    have hb := hx.2 j hk2
    rw [hd, List.foldl_cons] at hr
    obtain ⟨a1, a2, a3, a4, a5⟩ := (slI (H := H) bq xs).fF (d := 0)
    obtain ⟨n, en⟩ : ∃ n, xs.getD j 0 = n := ⟨_, rfl⟩
    rw [en] at hr hb
    have la : (acc.map spA).length = acc.length := List.length_map _
    have haj := ha.1
    have hadd : ∀ o1 : AO, addElem (H ++ [o1, .grow 2 (acc.map spA)]) 2 true (.gsl (H.length + 1) acc.length) [.agg [I n, I n]] = some (.gsl (H.length + 1) (acc.length + 1), H ++ [o1, .grow 2 ((acc ++ [(n, n)]).map spA)]) := by
      intro o1
      rw [add_gsl (xs := acc.map spA) (by rw [get_at']; rfl) la rfl rfl (by simp; omega), set_at', List.map_append]
      rfl
    rcases List.eq_nil_or_concat acc with rfl | ⟨ini, p, rfl⟩
    · simp only [List.map_nil, List.length_nil, Nat.zero_add, List.nil_append] at hadd g6
      simp only [loopIt, todoPast, todoAt, todoOf, firstReg, ↓reduceIte, Option.some.injEq, Nat.reduceEqDiff, reduceCtorEq, Tryz.f10]
      rw [execL_inLoop]
      simp (maxSteps := 1000000) (implicitDefEqProofs := false) (disch := first | rfl | omega | assumption) only [go_sem, g4, g5, g6, g7, ltT, ltF, leT, leF, hk', lx]
      rw [chkK_of]; rotate_left; kernel_rfl
      simp (maxSteps := 1000000) (implicitDefEqProofs := false) (disch := first | rfl | omega | assumption) only [go_sem, g4, g5, g6, g7, ltT, ltF, leT, leF, hk', a1, a2, a3, a4, en]
      rw [chkK_of]; rotate_left; kernel_rfl
      simp (maxSteps := 1000000) (implicitDefEqProofs := false) (disch := first | rfl | omega | assumption) only [go_sem, g4, g5, g6, g7, ltT, ltF, leT, leF, hk', a1, a2, a3, a4, en, hadd]
      exact ih (j + 1) (by omega) _ ⟨by simp [spStep], by simp [spStep]; exact hb⟩ hr _ (by exact g4) (by exact g5) (by rfl) (by rfl)
    · have hp := ha.2 p (by simp)
      have hle : (ini.concat p).length = ini.length + 1 := by simp
      have ek : ((ini.length + 1 : Nat) : Int) - 1 = (ini.length : Int) := by omega
      have hpos : (0 : Int) < ((ini.length + 1 : Nat) : Int) := by omega
      have b1 : ∀ o1 : AO, SlOk (H ++ [o1, .grow 2 ((ini.concat p).map spA)]) 2 (.gsl (H.length + 1) (ini.length + 1)) ((ini.concat p).map spA) := fun o1 => ⟨⟨by rw [get_at']; rfl, by simp⟩, fun x hx => by
        obtain ⟨i, _, rfl⟩ := List.mem_map.1 hx; rfl⟩
      have hgp : ((ini.concat p).map spA)[ini.length]? = some (spA p) := by simp
      have c1 : ∀ (o1 : AO) (te : Ty), te.size = 2 → idxAddr (H ++ [o1, .grow 2 ((ini.concat p).map spA)]) te (.gsl (H.length + 1) (ini.length + 1)) (ini.length : Int) = some (.eptr (H.length + 1) (ini.length + 1) ini.length 0) := fun o1 te ht => ((b1 o1).at (k := (ini.length : Int)) (by omega) hgp).1 te ht
      have hst : spStep (ini.concat p) n = if p.2 + 1 = n then ini.concat (p.1, n) else ini.concat p ++ [(n, n)] := by simp [spStep]
      have hse : ((ini.concat p).map spA).set ini.length (.agg [I p.1, I n]) = (ini.concat (p.1, n)).map spA := by simp [spA]
      have hgq : ((ini.concat p).map spA)[ini.length]? = some (.agg [I p.1, I p.2]) := hgp
      have hln : ((ini.concat p).map spA).length = ini.length + 1 := by simp
      rw [hst] at hr
      rw [hle] at hadd g6
      by_cases hc : p.2 + 1 = n
      · rw [if_pos hc] at hr
        have hcb : (p.2 == n - 1) = true := by simp; omega
        simp only [loopIt, todoPast, todoAt, todoOf, firstReg, ↓reduceIte, Option.some.injEq, Nat.reduceEqDiff, reduceCtorEq, Tryz.f10]
        rw [execL_inLoop]
        simp (maxSteps := 1000000) (implicitDefEqProofs := false) (disch := first | rfl | omega | assumption) only [go_sem, g4, g5, g6, g7, ltT, ltF, leT, leF, hk', lx]
        rw [chkK_of]; rotate_left; kernel_rfl
        simp (maxSteps := 1000000) (implicitDefEqProofs := false) (disch := first | rfl | omega | assumption) only [go_sem, g4, g5, g6, g7, ltT, ltF, leT, leF, hk', a1, a2, a3, a4, en, hpos, ek, c1, hgq, hln, hcb, hse]
        exact ih (j + 1) (by omega) _ ⟨by simp at haj ⊢; omega, fun q hq => by
          rw [List.concat_eq_append] at hq
          rcases List.mem_append.1 hq with hq | hq
          · exact ha.2 q (by simp [hq])
          · rw [List.mem_singleton] at hq; subst hq; exact hb⟩ hr _ (by exact g4) (by exact g5) (by rw [show (ini.concat (p.1, n)).length = ini.length + 1 by simp]; exact g6) (by rfl)
      · rw [if_neg hc] at hr
        have hcb : (p.2 == n - 1) = false := by simp; omega
        simp only [loopIt, todoPast, todoAt, todoOf, firstReg, ↓reduceIte, Option.some.injEq, Nat.reduceEqDiff, reduceCtorEq, Tryz.f10]
        rw [execL_inLoop]
        simp (maxSteps := 1000000) (implicitDefEqProofs := false) (disch := first | rfl | omega | assumption) only [go_sem, g4, g5, g6, g7, ltT, ltF, leT, leF, hk', lx]
        rw [chkK_of]; rotate_left; kernel_rfl
        simp (maxSteps := 1000000) (implicitDefEqProofs := false) (disch := first | rfl | omega | assumption) only [go_sem, g4, g5, g6, g7, ltT, ltF, leT, leF, hk', a1, a2, a3, a4, en, hpos, ek, c1, hgq, hln, hcb]
        rw [chkK_of]; rotate_left; kernel_rfl
        simp (maxSteps := 1000000) (implicitDefEqProofs := false) (disch := first | rfl | omega | assumption) only [go_sem, g4, g5, g6, g7, ltT, ltF, leT, leF, hk', a1, a2, a3, a4, en, hadd]
        exact ih (j + 1) (by omega) _ ⟨by simp at haj ⊢; omega, fun q hq => by
          rcases List.mem_append.1 hq with hq | hq
          · exact ha.2 q hq
          · rw [List.mem_singleton] at hq; subst hq; exact hb⟩ hr _ (by exact g4) (by exact g5) (by rw [show (ini.concat p ++ [(n, n)]).length = ini.length + 2 by simp]; rfl) (by rfl)

theorem rf_Lengths {f : Frg} {vw vr : AV} (hf : FrAt H f vw vr) (hl : f.ws.length ≤ 1000 ∧ f.rs.length ≤ 1000) :
    callFL cfg0 prog0 false 10 [.agg [vw, I f.lo, I f.hi, vr]] H none = some ⟨.ret (.tup [.sl false ((spans (f.told true).1).map spA), I (f.told true).2]), H, none⟩ := by
  have s1 := hf.ws.scal
  have s2 := hf.rs.scal
  have hT := fun G : Heap => rf_told (hf.app G) hl true
  have hb := told_bd f true
  have h := rl_loop (H := H) (f.told true).1 hb (.agg [vw, I f.lo, I f.hi, vr]) _ (!decide ((f.told true).2 = 0)) (f.told true).2 (f.told true).1.length 0 (by omega) [] ⟨by simp, by simp⟩ rfl
  simp only [List.length_nil, List.map_nil, List.drop_zero] at h
  generalize f.told true = t at *
  refine (callFL_eq fn10 rfl (by simp [Tryz.f10])).trans ?_
  simp (maxSteps := 1000000) (implicitDefEqProofs := false) (disch := first | rfl | omega | assumption) only [go_sem, ltT, ltF, leT, leF, s1, s2, hT]
  exact h _ (by rfl) (by rfl) (by rfl) (by rfl)

theorem rf_Count {f : Frg} {vw vr : AV} (hf : FrAt H f vw vr) (hl : f.ws.length ≤ 1000 ∧ f.rs.length ≤ 1000) :
    callFL cfg0 prog0 false 12 [.agg [vw, I f.lo, I f.hi, vr]] H none = some ⟨.ret (.tup [I f.count.1, I f.count.2]), H, none⟩ := by
  have s1 := hf.ws.scal
  have s2 := hf.rs.scal
  have hK := fun G : Heap => rf_check (hf.app G) hl true
  simp only [Frg.chk, if_true] at hK
  simp only [Frg.count]
  cases hv : f.valid
  · simp only [hv, Bool.false_eq_true, if_false] at hK ⊢
    refine (callFL_eq fn12 rfl (by simp [Tryz.f12])).trans ?_
    simp (maxSteps := 1000000) (implicitDefEqProofs := false) (disch := first | rfl | omega | assumption) only [go_sem, ltT, ltF, leT, leF, s1, s2, hK]
    done
  · have ho := f.valid_iff.1 hv
    have hT := fun G : Heap => rf_Truths (hf.app G) ho
    have lm : ((f.lens f.all).map I).length = (f.lens f.all).length := List.length_map _
    simp only [hv, if_true] at hK ⊢
    refine (callFL_eq fn12 rfl (by simp [Tryz.f12])).trans ?_
    simp (maxSteps := 1000000) (implicitDefEqProofs := false) (disch := first | rfl | omega | assumption) only [go_sem, ltT, ltF, leT, leF, s1, s2, hK, hT, lm]
    done

theorem rf_apart (a b : Int) (ha : 0 ≤ a ∧ a ≤ 2000) (hb : 0 ≤ b ∧ b ≤ 2000) (H : Heap) : callFL cfg0 prog0 false 56 [I a, I b] H none = some ⟨.ret (I (apw b a)), H, none⟩ := by
  have e : (if a - b < b - a then b - a else a - b) = apw b a := rfl
  refine (callFL_eq fn56 rfl (by simp [Tryz.f56])).trans ?_
  simp (maxSteps := 1000000) (implicitDefEqProofs := false) (disch := first | rfl | omega | assumption) only [go_sem, ltT, ltF, leT, leF, e]
  done

theorem rn_loop (xs : List Int) (hx : xs.length ≤ 401 ∧ ∀ j, j < xs.length → 0 ≤ xs.getD j 0 ∧ xs.getD j 0 ≤ 2000) (v0 : AV) (w : Int) (hw : 0 ≤ w ∧ w ≤ 2000) (r : Int) (bq : Bool) :
    ∀ (q j : Nat), j + q = xs.length → ∀ (b : Int), 0 ≤ b ∧ b ≤ 2000 → (xs.drop j).foldl (nearS w) b = r → ∀ E : Env, E.get 1 = I w → E.get 6 = .sl bq (xs.map I) → E.get 8 = I b → E.get 9 = I j →
    Option.map (finishC H.length) (execL cfg0 prog0 ⟨15, none, false, H.length⟩ (todoAt Tryz.f15 6) ⟨E, [], H ++ [.box v0], none⟩) = some ⟨.ret (.tup [I r, I 0]), H, none⟩ := by
  intro q
  have lx : (xs.map I).length = xs.length := List.length_map _
  induction q with
  | zero =>
    intro j hj b hb hr E g1 g6 g8 g9
    have hk' : ¬ (j : Int) < ((xs.length : Nat) : Int) := by omega
    rw [List.drop_of_length_le (by omega)] at hr
    simp only [List.foldl_nil] at hr
    subst hr
    simp only [loopIt, todoPast, todoAt, todoOf, firstReg, ↓reduceIte, Option.some.injEq, Nat.reduceEqDiff, reduceCtorEq, Tryz.f15]
    rw [execL_inLoop]
    simp (maxSteps := 1000000) (implicitDefEqProofs := false) (disch := first | rfl | omega | assumption) only [go_sem, g1, g6, g8, g9, ltT, ltF, leT, leF, hk', lx]
    done
  | succ q ih =>
    intro j hj b hb hr E g1 g6 g8 g9
    have hk' : (j : Int) < ((xs.length : Nat) : Int) := by omega
    have hk2 : j < xs.length := by omega
    have hd : xs.drop j = xs.getD j 0 :: xs.drop (j + 1) := by rw [List.drop_eq_getElem_cons hk2]; simp [hk2]
    have hbj := hx.2 j hk2
    rw [hd, List.foldl_cons] at hr
    obtain ⟨a1, a2, a3, a4, a5⟩ := (slI (H := H) bq xs).fF (d := 0)
    obtain ⟨n, en⟩ : ∃ n, xs.getD j 0 = n := ⟨_, rfl⟩
    rw [en] at hr hbj
    have h1 := fun G : Heap => rf_apart n w hbj hw G
    have h2 := fun G : Heap => rf_apart b w hb hw G
    by_cases hc : apw w n < apw w b
    · have e : nearS w b n = n := by simp only [nearS]; rw [if_pos (by omega)]
      rw [e] at hr
      simp only [loopIt, todoPast, todoAt, todoOf, firstReg, ↓reduceIte, Option.some.injEq, Nat.reduceEqDiff, reduceCtorEq, Tryz.f15]
      rw [execL_inLoop]
      simp (maxSteps := 1000000) (implicitDefEqProofs := false) (disch := first | rfl | omega | assumption) only [go_sem, g1, g6, g8, g9, ltT, ltF, leT, leF, hk', lx, a1, a2, a3, a4, en, h1, h2, hc]
      exact ih (j + 1) (by omega) n hbj hr _ (by exact g1) (by exact g6) (by rfl) (by rfl)
    · have e : nearS w b n = b := by simp only [nearS]; rw [if_neg (by omega)]
      rw [e] at hr
      simp only [loopIt, todoPast, todoAt, todoOf, firstReg, ↓reduceIte, Option.some.injEq, Nat.reduceEqDiff, reduceCtorEq, Tryz.f15]
      rw [execL_inLoop]
      simp (maxSteps := 1000000) (implicitDefEqProofs := false) (disch := first | rfl | omega | assumption) only [go_sem, g1, g6, g8, g9, ltT, ltF, leT, leF, hk', lx, a1, a2, a3, a4, en, h1, h2, hc]
      exact ih (j + 1) (by omega) b hb hr _ (by exact g1) (by exact g6) (by exact g8) (by rfl)

theorem rf_Near {f : Frg} {vw vr : AV} (hf : FrAt H f vw vr) (hl : f.ws.length ≤ 1000 ∧ f.rs.length ≤ 1000) (w : Int) :
    callFL cfg0 prog0 false 15 [.agg [vw, I f.lo, I f.hi, vr], I w] H none = some ⟨.ret (.tup [I (f.near w).1, I (f.near w).2]), H, none⟩ := by
  have s1 := hf.ws.scal
  have s2 := hf.rs.scal
  have hN := fun G : Heap => rf_Length w G
  have hT := fun (b : Bool) (G : Heap) => rf_told (hf.app G) hl b
  simp only [Frg.told] at hT
  simp only [Frg.near]
  cases hv : f.valid
  · simp only [hv, Bool.false_eq_true, if_false] at hT ⊢
    refine (callFL_eq fn15 rfl (by simp [Tryz.f15])).trans ?_
    simp (maxSteps := 1000000) (implicitDefEqProofs := false) (disch := first | rfl | omega | assumption) only [go_sem, ltT, ltF, leT, leF, s1, s2]
    rw [chkK_of]; rotate_left; kernel_rfl
    simp (maxSteps := 1000000) (implicitDefEqProofs := false) (disch := first | rfl | omega | assumption) only [go_sem, ltT, ltF, leT, leF, s1, s2, hN, hT]
    done
  · have ho := f.valid_iff.1 hv
    simp only [hv, if_true] at hT ⊢
    cases k1 : wi w 0 2000
    · rw [k1] at hN
      have hT0 := hT false
      simp only [Bool.false_eq_true, if_false] at hT0 ⊢
      refine (callFL_eq fn15 rfl (by simp [Tryz.f15])).trans ?_
      simp (maxSteps := 1000000) (implicitDefEqProofs := false) (disch := first | rfl | omega | assumption) only [go_sem, ltT, ltF, leT, leF, s1, s2]
      rw [chkK_of]; rotate_left; kernel_rfl
      simp (maxSteps := 1000000) (implicitDefEqProofs := false) (disch := first | rfl | omega | assumption) only [go_sem, ltT, ltF, leT, leF, s1, s2, hN, hT0]
      done
    · rw [k1] at hN
      have hT0 := hT true
      have b1 : 0 ≤ w ∧ w ≤ 2000 := by simpa [wi] using k1
      simp only [if_true] at hT0 ⊢
      cases he : (f.lens f.all).isEmpty
      · simp only [he, Bool.false_eq_true, if_false] at hT0 ⊢
        have hb := lens_bd ho f.all
        have hpos : 0 < (f.lens f.all).length := by cases hx : f.lens f.all with | nil => rw [hx] at he; cases he | cons => simp
        generalize f.lens f.all = xs at *
        have hb0 := hb.2 0 hpos
        have hnl : xs.foldl (nearS w) (xs.getD 0 0) = nearL w xs := by
          cases xs with
          | nil => simp at hpos
          | cons m r => simp [nearL, nearS]
        have h := fun bq => rn_loop (H := H) xs hb (.agg [vw, I f.lo, I f.hi, vr]) w b1 (nearL w xs) bq xs.length 0 (by omega) (xs.getD 0 0) hb0 (by rw [List.drop_zero]; exact hnl)
        obtain ⟨a1, a2, a3, a4, a5⟩ := (slI (H := H) false xs).fF (d := 0)
        have h0 : (0 : Int) < ((xs.length : Nat) : Int) := by omega
        refine (callFL_eq fn15 rfl (by simp [Tryz.f15])).trans ?_
        simp (maxSteps := 1000000) (implicitDefEqProofs := false) (disch := first | rfl | omega | assumption) only [go_sem, ltT, ltF, leT, leF, s1, s2]
        rw [chkK_of]; rotate_left; kernel_rfl
        simp (maxSteps := 1000000) (implicitDefEqProofs := false) (disch := first | rfl | omega | assumption) only [go_sem, ltT, ltF, leT, leF, s1, s2, hN, hT0, a1, a2, a3, a4, h0]
        exact h false _ (by rfl) (by rfl) (by rfl) (by rfl)
      · simp only [he, if_true] at hT0 ⊢
        refine (callFL_eq fn15 rfl (by simp [Tryz.f15])).trans ?_
        simp (maxSteps := 1000000) (implicitDefEqProofs := false) (disch := first | rfl | omega | assumption) only [go_sem, ltT, ltF, leT, leF, s1, s2]
        rw [chkK_of]; rotate_left; kernel_rfl
        simp (maxSteps := 1000000) (implicitDefEqProofs := false) (disch := first | rfl | omega | assumption) only [go_sem, ltT, ltF, leT, leF, s1, s2, hN, hT0]
        done

end Go.Ab
/-
  The reference, walked: Whole, Parts, Period.
-/
namespace Go.Ab
open Go.Proofs
set_option linter.unusedSimpArgs false
set_option linter.unusedVariables false
set_option maxRecDepth 100000
set_option maxHeartbeats 2000000

variable {H : Heap}


theorem rw_loop {f : Frg} {vw vr : AV} (hf : FrAt H f vw vr) (ho : f.Ok) (c : Nat) (hc : c < f.ws.length) (xs : List Int) (hx : xs.length ≤ 401 ∧ ∀ j, j < xs.length → 0 ≤ xs.getD j 0 ∧ xs.getD j 0 ≤ 2000) (r : List Int) (bq : Bool) :
    ∀ (q j : Nat), j + q = xs.length → ∀ (acc : List Int), acc.length ≤ j → (xs.drop j).foldl (wstep (f.w c)) acc = r → ∀ E : Env, E.get 1 = I c → E.get 2 = .ptr H.length 0 → E.get 6 = .sl bq (xs.map I) → E.get 8 = .gsl (H.length + 1) acc.length → E.get 9 = I j →
    Option.map (finishC H.length) (execL cfg0 prog0 ⟨17, none, false, H.length⟩ (todoAt Tryz.f17 6) ⟨E, [], H ++ [.box (.agg [vw, I f.lo, I f.hi, vr]), .grow 1 (acc.map I)], none⟩) = some ⟨.ret (.tup [.sl false (r.map I), I 0]), H, none⟩ := by
  intro q
  have lx : (xs.map I).length = xs.length := List.length_map _
  have s1 := hf.ws.scal
  have s2 := hf.rs.scal
  obtain ⟨c1, c2, c3, c4, c5⟩ := hf.ws.fF (d := 0)
  induction q with
  | zero =>
    intro j hj acc ha hr E g1 g2 g6 g8 g9
    have hk' : ¬ (j : Int) < ((xs.length : Nat) : Int) := by omega
    rw [List.drop_of_length_le (by omega)] at hr
    simp only [List.foldl_nil] at hr
    subst hr
    simp only [loopIt, todoPast, todoAt, todoOf, firstReg, ↓reduceIte, Option.some.injEq, Nat.reduceEqDiff, reduceCtorEq, Tryz.f17]
    rw [execL_inLoop]
    have t0 := fun N => ltI (N := N) acc
    have la : (acc.map I).length = acc.length := List.length_map _
    simp (maxSteps := 1000000) (implicitDefEqProofs := false) (disch := first | rfl | omega | assumption) only [go_sem, g1, g2, g6, g8, g9, ltT, ltF, leT, leF, hk', lx, t0, la]
    done
  | succ q ih =>
    intro j hj acc ha hr E g1 g2 g6 g8 g9
    have hk' : (j : Int) < ((xs.length : Nat) : Int) := by omega
    have hk2 : j < xs.length := by omega
    have hd : xs.drop j = xs.getD j 0 :: xs.drop (j + 1) := by rw [List.drop_eq_getElem_cons hk2]; simp [hk2]
    have hbj := hx.2 j hk2
    rw [hd, List.foldl_cons] at hr
    obtain ⟨a1, a2, a3, a4, a5⟩ := (slI (H := H) bq xs).fF (d := 0)
    obtain ⟨n, en⟩ : ∃ n, xs.getD j 0 = n := ⟨_, rfl⟩
    rw [en] at hr hbj
    have hw := ho.wave c hc
    have hwe : f.ws.getD c 0 = f.w c := rfl
    have z : ¬ f.w c = 0 := by omega
    have e1 : n.tdiv (f.w c) = n / f.w c := Int.tdiv_eq_ediv_of_nonneg hbj.1
    have q0 : 0 ≤ n / f.w c := Int.ediv_nonneg hbj.1 (by omega)
    have q1 : n / f.w c ≤ n := Int.ediv_le_self _ hbj.1
    have la : (acc.map I).length = acc.length := List.length_map _
    have hadd : ∀ (o1 : AO) (x : Int), addElem (H ++ [o1, .grow 1 (acc.map I)]) 1 false (.gsl (H.length + 1) acc.length) [I x] = some (.gsl (H.length + 1) (acc.length + 1), H ++ [o1, .grow 1 ((acc ++ [x]).map I)]) := by
      intro o1 x
      rw [add_gsl (xs := acc.map I) (by rw [get_at']; rfl) la rfl rfl (by simp; omega), set_at', List.map_append]
      rfl
    have hstd : wstep (f.w c) acc n = if acc.getLast? = some (n / f.w c) then acc else acc ++ [n / f.w c] := rfl
    rw [hstd] at hr
    generalize f.w c = w at *
    generalize n / w = m at *
    rcases List.eq_nil_or_concat acc with rfl | ⟨ini, p, rfl⟩
    · simp only [List.map_nil, List.length_nil, Nat.zero_add, List.nil_append] at hadd g8
      have hnn : ([] : List Int).getLast? = some m ↔ False := by simp
      simp only [hnn, if_false, List.nil_append] at hr
      simp only [loopIt, todoPast, todoAt, todoOf, firstReg, ↓reduceIte, Option.some.injEq, Nat.reduceEqDiff, reduceCtorEq, Tryz.f17]
      rw [execL_inLoop]
      simp (maxSteps := 1000000) (implicitDefEqProofs := false) (disch := first | rfl | omega | assumption) only [go_sem, g1, g2, g6, g8, g9, ltT, ltF, leT, leF, hk', lx, s1, s2]
      rw [chkK_of]; rotate_left; kernel_rfl
      simp (maxSteps := 1000000) (implicitDefEqProofs := false) (disch := first | rfl | omega | assumption) only [go_sem, g1, g2, g6, g8, g9, ltT, ltF, leT, leF, hk', a1, a2, a3, a4, en, s1, s2, c1, c2, c3, c4, hwe, z, e1, hadd]
      exact ih (j + 1) (by omega) [m] (by simp) hr _ (by exact g1) (by exact g2) (by exact g6) (by rfl) (by rfl)
    · have hle : (ini.concat p).length = ini.length + 1 := by simp
      have ek : ((ini.length + 1 : Nat) : Int) - 1 = (ini.length : Int) := by omega
      have hz0 : (((ini.length + 1 : Nat) : Int) == 0) = false := by simp; omega
      have b1 : ∀ o1 : AO, SlOk (H ++ [o1, .grow 1 ((ini.concat p).map I)]) 1 (.gsl (H.length + 1) (ini.length + 1)) ((ini.concat p).map I) := fun o1 => ⟨⟨by rw [get_at']; rfl, by simp⟩, fun x hx => by
        obtain ⟨i, _, rfl⟩ := List.mem_map.1 hx; rfl⟩
      have hgp : ((ini.concat p).map I)[ini.length]? = some (I p) := by simp
      have d1 : ∀ (o1 : AO) (te : Ty), te.size = 1 → idxAddr (H ++ [o1, .grow 1 ((ini.concat p).map I)]) te (.gsl (H.length + 1) (ini.length + 1)) (ini.length : Int) = some (.eptr (H.length + 1) (ini.length + 1) ini.length 0) := fun o1 te ht => ((b1 o1).at (k := (ini.length : Int)) (by omega) hgp).1 te ht
      have hln : ((ini.concat p).map I).length = ini.length + 1 := by simp
      have hgl : (ini.concat p).getLast? = some p := by simp
      rw [hgl] at hr
      rw [hle] at hadd g8 ha
      by_cases hcp : p = m
      · rw [if_pos (by rw [hcp])] at hr
        have hbn : (p != m) = false := by simp [hcp]
        simp only [loopIt, todoPast, todoAt, todoOf, firstReg, ↓reduceIte, Option.some.injEq, Nat.reduceEqDiff, reduceCtorEq, Tryz.f17]
        rw [execL_inLoop]
        simp (maxSteps := 1000000) (implicitDefEqProofs := false) (disch := first | rfl | omega | assumption) only [go_sem, g1, g2, g6, g8, g9, ltT, ltF, leT, leF, hk', lx, s1, s2]
        rw [chkK_of]; rotate_left; kernel_rfl
        simp (maxSteps := 1000000) (implicitDefEqProofs := false) (disch := first | rfl | omega | assumption) only [go_sem, g1, g2, g6, g8, g9, ltT, ltF, leT, leF, hk', a1, a2, a3, a4, en, s1, s2, c1, c2, c3, c4, hwe, z, e1, hz0, ek, d1, hgp, hln, hbn]
        exact ih (j + 1) (by omega) (ini.concat p) (by rw [hle]; omega) hr _ (by exact g1) (by exact g2) (by exact g6) (by rw [hle]; exact g8) (by rfl)
      · rw [if_neg (fun h => hcp (by simpa using h))] at hr
        have hbn : (p != m) = true := bne_iff_ne.2 hcp
        simp only [loopIt, todoPast, todoAt, todoOf, firstReg, ↓reduceIte, Option.some.injEq, Nat.reduceEqDiff, reduceCtorEq, Tryz.f17]
        rw [execL_inLoop]
        simp (maxSteps := 1000000) (implicitDefEqProofs := false) (disch := first | rfl | omega | assumption) only [go_sem, g1, g2, g6, g8, g9, ltT, ltF, leT, leF, hk', lx, s1, s2]
        rw [chkK_of]; rotate_left; kernel_rfl
        simp (maxSteps := 1000000) (implicitDefEqProofs := false) (disch := first | rfl | omega | assumption) only [go_sem, g1, g2, g6, g8, g9, ltT, ltF, leT, leF, hk', a1, a2, a3, a4, en, s1, s2, c1, c2, c3, c4, hwe, z, e1, hz0, ek, d1, hgp, hln, hbn, hadd]
        exact ih (j + 1) (by omega) (ini.concat p ++ [m]) (by rw [List.length_append, hle]; simp; omega) hr _ (by exact g1) (by exact g2) (by exact g6) (by rw [List.length_append, hle]; rfl) (by rfl)

theorem rf_Whole {f : Frg} {vw vr : AV} (hf : FrAt H f vw vr) (hl : f.ws.length ≤ 1000 ∧ f.rs.length ≤ 1000) (w : Int) :
    callFL cfg0 prog0 false 17 [.agg [vw, I f.lo, I f.hi, vr], I w] H none = some ⟨.ret (.tup [.sl (!decide ((f.whole w).2 = 0)) ((f.whole w).1.map I), I (f.whole w).2]), H, none⟩ := by
  have s1 := hf.ws.scal
  have s2 := hf.rs.scal
  have hC := fun G : Heap => rf_Colour (hf.app G) hl.1 w
  have hT := fun (b : Bool) (G : Heap) => rf_told (hf.app G) hl b
  simp only [Frg.told] at hT
  cases hv : f.valid
  · have ht : f.whole w = ([], 1) := by simp only [Frg.whole, hv, Bool.false_eq_true, if_false]
    rw [ht]
    simp only [hv, Bool.false_eq_true, if_false] at hT
    refine (callFL_eq fn17 rfl (by simp [Tryz.f17])).trans ?_
    simp (maxSteps := 1000000) (implicitDefEqProofs := false) (disch := first | rfl | omega | assumption) only [go_sem, ltT, ltF, leT, leF, s1, s2]
    rw [chkK_of]; rotate_left; kernel_rfl
    simp (maxSteps := 1000000) (implicitDefEqProofs := false) (disch := first | rfl | omega | assumption) only [go_sem, ltT, ltF, leT, leF, s1, s2, hC, hT]
    done
  · have ho := f.valid_iff.1 hv
    simp only [hv, if_true] at hT
    cases k1 : wi w 0 ((f.ws.length : Int) - 1)
    · rw [k1] at hC
      have hT0 := hT false
      have ht : f.whole w = ([], 2) := by simp only [Frg.whole, hv, k1, if_true, Bool.false_eq_true, if_false]
      rw [ht]
      simp only [Bool.false_eq_true, if_false] at hT0
      refine (callFL_eq fn17 rfl (by simp [Tryz.f17])).trans ?_
      simp (maxSteps := 1000000) (implicitDefEqProofs := false) (disch := first | rfl | omega | assumption) only [go_sem, ltT, ltF, leT, leF, s1, s2]
      rw [chkK_of]; rotate_left; kernel_rfl
      simp (maxSteps := 1000000) (implicitDefEqProofs := false) (disch := first | rfl | omega | assumption) only [go_sem, ltT, ltF, leT, leF, s1, s2, hC, hT0]
      done
    · rw [k1] at hC
      have hT0 := hT true
      have b1 : 0 ≤ w ∧ w ≤ (f.ws.length : Int) - 1 := by simpa [wi] using k1
      obtain ⟨c, hc⟩ : ∃ c : Nat, w = c := ⟨w.toNat, by omega⟩
      subst hc
      simp only [if_true] at hT0
      cases he : (f.lens f.all).isEmpty
      · simp only [he, Bool.false_eq_true, if_false] at hT0
        have ht : f.whole c = (wholeL (f.cnt c), 0) := by simp only [Frg.whole, hv, k1, if_true, he, Bool.false_eq_true, if_false, Int.toNat_natCast]
        rw [ht]
        have hb := lens_bd ho f.all
        have hw := ho.wave c (by omega)
        have hwa := whole_all (w := f.w c) (by omega) (lens_up f f.all)
        have h := fun bq => rw_loop (H := H) hf ho c (by omega) (f.lens f.all) hb (allW (f.w c) (f.lens f.all)) bq (f.lens f.all).length 0 (by omega) [] (by simp) (by rw [List.drop_zero]; rfl)
        simp only [Frg.cnt]
        rw [hwa]
        simp only [List.length_nil, List.map_nil] at h
        generalize allW (f.w c) (f.lens f.all) = aw at *
        generalize f.lens f.all = xs at *
        refine (callFL_eq fn17 rfl (by simp [Tryz.f17])).trans ?_
        simp (maxSteps := 1000000) (implicitDefEqProofs := false) (disch := first | rfl | omega | assumption) only [go_sem, ltT, ltF, leT, leF, s1, s2]
        rw [chkK_of]; rotate_left; kernel_rfl
        simp (maxSteps := 1000000) (implicitDefEqProofs := false) (disch := first | rfl | omega | assumption) only [go_sem, ltT, ltF, leT, leF, s1, s2, hC, hT0]
        exact h false _ (by rfl) (by rfl) (by rfl) (by rfl) (by rfl)
      · simp only [he, if_true] at hT0
        have ht : f.whole c = ([], 10) := by simp only [Frg.whole, hv, k1, if_true, he]
        rw [ht]
        refine (callFL_eq fn17 rfl (by simp [Tryz.f17])).trans ?_
        simp (maxSteps := 1000000) (implicitDefEqProofs := false) (disch := first | rfl | omega | assumption) only [go_sem, ltT, ltF, leT, leF, s1, s2]
        rw [chkK_of]; rotate_left; kernel_rfl
        simp (maxSteps := 1000000) (implicitDefEqProofs := false) (disch := first | rfl | omega | assumption) only [go_sem, ltT, ltF, leT, leF, s1, s2, hC, hT0]
        done

theorem add_bit {a p : Nat} (h : a.testBit p = false) : a + 2 ^ p = a ||| 2 ^ p := by
  have hp := Nat.two_pow_pos p
  have e2 : (2 : Nat) ^ (p + 1) = 2 * 2 ^ p := by rw [Nat.pow_succ]; omega
  have hB : a % 2 ^ p < 2 ^ p := Nat.mod_lt _ hp
  have hdm := Nat.div_add_mod a (2 ^ p)
  rw [Nat.testBit_eq_decide_div_mod_eq] at h
  have hev : a / 2 ^ p % 2 = 0 := by
    have : ¬ a / 2 ^ p % 2 = 1 := by simpa using h
    omega
  obtain ⟨A, hA⟩ : ∃ A, a / 2 ^ p = 2 * A := ⟨a / 2 ^ p / 2, by omega⟩
  have ha : a = 2 ^ (p + 1) * A + a % 2 ^ p := by
    rw [hA] at hdm
    have e3 : 2 ^ (p + 1) * A = 2 ^ p * (2 * A) := by rw [Nat.pow_succ, Nat.mul_assoc]
    omega
  generalize a % 2 ^ p = B at *
  have k1 : 2 ^ (p + 1) * A + B = 2 ^ (p + 1) * A ||| B := Nat.two_pow_add_eq_or_of_lt (by omega) A
  have k2 : 2 ^ p + B = 2 ^ p ||| B := by
    have := Nat.two_pow_add_eq_or_of_lt hB 1
    simpa using this
  have k3 : 2 ^ (p + 1) * A + (2 ^ p + B) = 2 ^ (p + 1) * A ||| (2 ^ p + B) := Nat.two_pow_add_eq_or_of_lt (by omega) A
  have k4 : a + 2 ^ p = 2 ^ (p + 1) * A + (2 ^ p + B) := by omega
  have k5 : a = 2 ^ (p + 1) * A ||| B := by omega
  rw [k4, k3, k2, k5, Nat.or_assoc, Nat.or_comm B]

theorem or_bit {a p : Nat} (h : a.testBit p = true) : a ||| 2 ^ p = a := by
  apply Nat.eq_of_testBit_eq
  intro k
  rw [Nat.testBit_or, Nat.testBit_two_pow]
  by_cases e : p = k
  · subst e; simp [h]
  · simp [e]

theorem rp_loop {f : Frg} {vw vr : AV} (hf : FrAt H f vw vr) (ho : f.Ok) (c : Nat) (hc : c < f.ws.length) (xs : List Int) (hx : xs.length ≤ 401 ∧ ∀ j, j < xs.length → 0 ≤ xs.getD j 0 ∧ xs.getD j 0 ≤ 2000) (r : Nat) (bq : Bool) :
    ∀ (q j : Nat), j + q = xs.length → ∀ (a : Nat), a < 2 ^ 20 → (xs.drop j).foldl (fun a x => orP a (ptZ (f.w c) x)) a = r → ∀ E : Env, E.get 1 = I c → E.get 2 = .ptr H.length 0 → E.get 6 = .sl bq (xs.map I) → E.get 8 = I a → E.get 9 = I j →
    Option.map (finishC H.length) (execL cfg0 prog0 ⟨19, none, false, H.length⟩ (todoAt Tryz.f19 6) ⟨E, [], H ++ [.box (.agg [vw, I f.lo, I f.hi, vr])], none⟩) = some ⟨.ret (.tup [I r, I 0]), H, none⟩ := by
  intro q
  have lx : (xs.map I).length = xs.length := List.length_map _
  have s1 := hf.ws.scal
  have s2 := hf.rs.scal
  induction q with
  | zero =>
    intro j hj a ha hr E g1 g2 g6 g8 g9
    have hk' : ¬ (j : Int) < ((xs.length : Nat) : Int) := by omega
    rw [List.drop_of_length_le (by omega)] at hr
    simp only [List.foldl_nil] at hr
    subst hr
    simp only [loopIt, todoPast, todoAt, todoOf, firstReg, ↓reduceIte, Option.some.injEq, Nat.reduceEqDiff, reduceCtorEq, Tryz.f19]
    rw [execL_inLoop]
    simp (maxSteps := 1000000) (implicitDefEqProofs := false) (disch := first | rfl | omega | assumption) only [go_sem, g1, g2, g6, g8, g9, ltT, ltF, leT, leF, hk', lx]
    done
  | succ q ih =>
    intro j hj a ha hr E g1 g2 g6 g8 g9
    have hk' : (j : Int) < ((xs.length : Nat) : Int) := by omega
    have hk2 : j < xs.length := by omega
    have hd : xs.drop j = xs.getD j 0 :: xs.drop (j + 1) := by rw [List.drop_eq_getElem_cons hk2]; simp [hk2]
    have hbj := hx.2 j hk2
    rw [hd, List.foldl_cons] at hr
    obtain ⟨a1, a2, a3, a4, a5⟩ := (slI (H := H) bq xs).fF (d := 0)
    obtain ⟨n, en⟩ : ∃ n, xs.getD j 0 = n := ⟨_, rfl⟩
    rw [en] at hr hbj
    have hw := ho.wave c hc
    have hO := fun G : Heap => rf_Of (hf.app G) ho hc hbj
    have hpb := ptZ_bd (w := f.w c) (n := n) (by omega)
    obtain ⟨p, hp⟩ : ∃ p : Nat, ptZ (f.w c) n = p := ⟨(ptZ (f.w c) n).toNat, by omega⟩
    have hor : orP a (ptZ (f.w c) n) = a ||| 2 ^ p := by rw [hp]; rfl
    rw [hor] at hr
    simp only [hp] at hO
    have hH := fun G : Heap => rf_Has (s := a) (n := p) (by omega) (by omega) G
    have hP := fun G : Heap => rf_power p (by omega) G
    have h2 : (2 : Nat) ^ p < 2 ^ 20 := Nat.pow_lt_pow_right (by omega) (by omega)
    cases hb : a.testBit p
    · rw [hb] at hH
      have hab := add_bit hb
      have hlt : a ||| 2 ^ p < 2 ^ 20 := Nat.or_lt_two_pow ha h2
      rw [← hab] at hr hlt
      have ea : ((a : Nat) : Int) + ((2 ^ p : Nat) : Int) = ((a + 2 ^ p : Nat) : Int) := by omega
      simp only [loopIt, todoPast, todoAt, todoOf, firstReg, ↓reduceIte, Option.some.injEq, Nat.reduceEqDiff, reduceCtorEq, Tryz.f19]
      rw [execL_inLoop]
      simp (maxSteps := 1000000) (implicitDefEqProofs := false) (disch := first | rfl | omega | assumption) only [go_sem, g1, g2, g6, g8, g9, ltT, ltF, leT, leF, hk', lx]
      rw [chkK_of]; rotate_left; kernel_rfl
      simp (maxSteps := 1000000) (implicitDefEqProofs := false) (disch := first | rfl | omega | assumption) only [go_sem, g1, g2, g6, g8, g9, ltT, ltF, leT, leF, hk', a1, a2, a3, a4, en, s1, s2, hO, hH, hP, ea]
      exact ih (j + 1) (by omega) (a + 2 ^ p) hlt hr _ (by exact g1) (by exact g2) (by exact g6) (by rfl) (by rfl)
    · rw [hb] at hH
      rw [or_bit hb] at hr
      simp only [loopIt, todoPast, todoAt, todoOf, firstReg, ↓reduceIte, Option.some.injEq, Nat.reduceEqDiff, reduceCtorEq, Tryz.f19]
      rw [execL_inLoop]
      simp (maxSteps := 1000000) (implicitDefEqProofs := false) (disch := first | rfl | omega | assumption) only [go_sem, g1, g2, g6, g8, g9, ltT, ltF, leT, leF, hk', lx]
      rw [chkK_of]; rotate_left; kernel_rfl
      simp (maxSteps := 1000000) (implicitDefEqProofs := false) (disch := first | rfl | omega | assumption) only [go_sem, g1, g2, g6, g8, g9, ltT, ltF, leT, leF, hk', a1, a2, a3, a4, en, s1, s2, hO, hH]
      exact ih (j + 1) (by omega) a ha hr _ (by exact g1) (by exact g2) (by exact g6) (by exact g8) (by rfl)

theorem rf_Parts {f : Frg} {vw vr : AV} (hf : FrAt H f vw vr) (hl : f.ws.length ≤ 1000 ∧ f.rs.length ≤ 1000) (w : Int) :
    callFL cfg0 prog0 false 19 [.agg [vw, I f.lo, I f.hi, vr], I w] H none = some ⟨.ret (.tup [I (f.parts w).1, I (f.parts w).2]), H, none⟩ := by
  have s1 := hf.ws.scal
  have s2 := hf.rs.scal
  have hC := fun G : Heap => rf_Colour (hf.app G) hl.1 w
  have hT := fun (b : Bool) (G : Heap) => rf_told (hf.app G) hl b
  simp only [Frg.told] at hT
  simp only [Frg.parts]
  cases hv : f.valid
  · simp only [hv, Bool.false_eq_true, if_false] at hT ⊢
    refine (callFL_eq fn19 rfl (by simp [Tryz.f19])).trans ?_
    simp (maxSteps := 1000000) (implicitDefEqProofs := false) (disch := first | rfl | omega | assumption) only [go_sem, ltT, ltF, leT, leF, s1, s2]
    rw [chkK_of]; rotate_left; kernel_rfl
    simp (maxSteps := 1000000) (implicitDefEqProofs := false) (disch := first | rfl | omega | assumption) only [go_sem, ltT, ltF, leT, leF, s1, s2, hC, hT]
    done
  · have ho := f.valid_iff.1 hv
    simp only [hv, if_true] at hT ⊢
    cases k1 : wi w 0 ((f.ws.length : Int) - 1)
    · rw [k1] at hC
      have hT0 := hT false
      simp only [Bool.false_eq_true, if_false] at hT0 ⊢
      refine (callFL_eq fn19 rfl (by simp [Tryz.f19])).trans ?_
      simp (maxSteps := 1000000) (implicitDefEqProofs := false) (disch := first | rfl | omega | assumption) only [go_sem, ltT, ltF, leT, leF, s1, s2]
      rw [chkK_of]; rotate_left; kernel_rfl
      simp (maxSteps := 1000000) (implicitDefEqProofs := false) (disch := first | rfl | omega | assumption) only [go_sem, ltT, ltF, leT, leF, s1, s2, hC, hT0]
      done
    · rw [k1] at hC
      have hT0 := hT true
      have b1 : 0 ≤ w ∧ w ≤ (f.ws.length : Int) - 1 := by simpa [wi] using k1
      obtain ⟨c, hc⟩ : ∃ c : Nat, w = c := ⟨w.toNat, by omega⟩
      subst hc
      simp only [if_true, Int.toNat_natCast] at hT0 ⊢
      cases he : (f.lens f.all).isEmpty
      · simp only [he, Bool.false_eq_true, if_false] at hT0 ⊢
        have hb := lens_bd ho f.all
        have hpa := parts_all (f.w c) (f.lens f.all)
        have h := fun bq => rp_loop (H := H) hf ho c (by omega) (f.lens f.all) hb (allP (f.w c) (f.lens f.all)) bq (f.lens f.all).length 0 (by omega) 0 (by decide) (by rw [List.drop_zero]; rfl)
        simp only [Frg.cnt]
        rw [hpa]
        generalize allP (f.w c) (f.lens f.all) = aw at *
        generalize f.lens f.all = xs at *
        refine (callFL_eq fn19 rfl (by simp [Tryz.f19])).trans ?_
        simp (maxSteps := 1000000) (implicitDefEqProofs := false) (disch := first | rfl | omega | assumption) only [go_sem, ltT, ltF, leT, leF, s1, s2]
        rw [chkK_of]; rotate_left; kernel_rfl
        simp (maxSteps := 1000000) (implicitDefEqProofs := false) (disch := first | rfl | omega | assumption) only [go_sem, ltT, ltF, leT, leF, s1, s2, hC, hT0]
        exact h false _ (by rfl) (by rfl) (by rfl) (by rfl) (by rfl)
      · simp only [he, if_true] at hT0 ⊢
        refine (callFL_eq fn19 rfl (by simp [Tryz.f19])).trans ?_
        simp (maxSteps := 1000000) (implicitDefEqProofs := false) (disch := first | rfl | omega | assumption) only [go_sem, ltT, ltF, leT, leF, s1, s2]
        rw [chkK_of]; rotate_left; kernel_rfl
        simp (maxSteps := 1000000) (implicitDefEqProofs := false) (disch := first | rfl | omega | assumption) only [go_sem, ltT, ltF, leT, leF, s1, s2, hC, hT0]
        done

/-! ### The period -/

theorem dvd_lcm {n w m : Nat} (hn : 1 ≤ n) (hw : 1 ≤ w) : w ∣ n * m ↔ w / Nat.gcd n w ∣ m := by
  have hg : 0 < Nat.gcd n w := Nat.gcd_pos_of_pos_left _ (by omega)
  obtain ⟨a, ha⟩ := Nat.gcd_dvd_left n w
  obtain ⟨b, hb⟩ := Nat.gcd_dvd_right n w
  have hco : Nat.Coprime a b := by
    have := Nat.coprime_div_gcd_div_gcd hg
    rw [Nat.div_eq_of_eq_mul_right hg ha, Nat.div_eq_of_eq_mul_right hg hb] at this
    exact this
  have e1 : w / Nat.gcd n w = b := Nat.div_eq_of_eq_mul_right hg hb
  rw [e1]
  generalize Nat.gcd n w = g at *
  subst ha
  subst hb
  rw [Nat.mul_assoc]
  constructor
  · intro h
    have := Nat.dvd_of_mul_dvd_mul_left hg h
    exact hco.symm.dvd_of_dvd_mul_left this
  · rintro ⟨k, rfl⟩
    exact ⟨a * k, by rw [Nat.mul_assoc, Nat.mul_left_comm a]⟩

theorem lcm_is {n w : Nat} (hn : 1 ≤ n) : Nat.lcm n w = n * (w / Nat.gcd n w) := by
  rw [Nat.lcm]
  exact Nat.mul_div_assoc _ (Nat.gcd_dvd_right n w)

theorem rq_in {f : Frg} {vw vr : AV} (hf : FrAt H f vw vr) (ho : f.Ok) (i : Nat) (hi : i < f.ws.length) (n Kn : Nat) (hn : 1 ≤ n ∧ n ≤ 216000) (hK1 : 1 ≤ Kn ∧ Kn ≤ 60) (hK2 : ∀ m, (f.w i).toNat ∣ n * m ↔ Kn ∣ m) (K : List Item) (R : Option Done) (hK : ∀ E : Env, E.get 1 = .ptr H.length 0 → E.get 5 = I (n * Kn : Nat) → E.get 6 = I i → Option.map (finishC H.length) (execL cfg0 prog0 ⟨21, none, false, H.length⟩ K ⟨E, [], H ++ [.box (.agg [vw, I f.lo, I f.hi, vr])], none⟩) = R)  :
    ∀ (q j : Nat), j + q = Kn - 1 → ∀ E : Env, E.get 1 = .ptr H.length 0 → E.get 5 = I (n * (j + 1) : Nat) → E.get 6 = I i → E.get 7 = I n → E.get 8 = I j →
    Option.map (finishC H.length) (execL cfg0 prog0 ⟨21, none, false, H.length⟩ (loopIt Tryz.f21 10 :: .inBlock 2 :: K) ⟨E, [], H ++ [.box (.agg [vw, I f.lo, I f.hi, vr])], none⟩) = R := by
  intro q
  obtain ⟨a1, a2, a3, a4, a5⟩ := hf.ws.fF (d := 0)
  have s1 := hf.ws.scal
  have s2 := hf.rs.scal
  have hw := ho.wave i hi
  have hwe : f.ws.getD i 0 = f.w i := rfl
  obtain ⟨w, hwn⟩ : ∃ w : Nat, f.w i = w := ⟨(f.w i).toNat, by omega⟩
  rw [hwn] at hwe hw
  have hwt : (f.w i).toNat = w := by omega
  rw [hwt] at hK2
  have z : ¬ ((w : Nat) : Int) = 0 := by omega
  induction q with
  | zero =>
    intro j hj  E g1 g5 g6 g7 g8
    have hk' : ¬ (j : Int) < ((Kn - 1 : Nat) : Int) := by omega
    have ej : j + 1 = Kn := by omega
    rw [ej] at g5
    simp only [loopIt, todoPast, todoAt, todoOf, firstReg, ↓reduceIte, Option.some.injEq, Nat.reduceEqDiff, reduceCtorEq, Tryz.f21]
    rw [execL_inLoop]
    have e1 : ((n * Kn : Nat) : Int).tmod ((w : Nat) : Int) = 0 := by
      have h := (hK2 Kn).2 (Nat.dvd_refl Kn)
      have h2 : ((n * Kn : Nat) : Int).tmod ((w : Nat) : Int) = ((n * Kn % w : Nat) : Int) := rfl
      rw [h2, Nat.mod_eq_zero_of_dvd h]; rfl
    have h60 : (j : Int) < 60 := by omega
    simp (maxSteps := 1000000) (implicitDefEqProofs := false) (disch := first | rfl | omega | assumption) only [go_sem, g1, g5, g6, g7, g8, ltT, ltF, leT, leF, hk', s1, s2, a1, a2, a3, a4, hwe, z, e1, h60]
    exact hK _ (by exact g1) (by exact g5) (by exact g6)
  | succ q ih =>
    intro j hj  E g1 g5 g6 g7 g8
    have hk' : (j : Int) < ((Kn - 1 : Nat) : Int) := by omega
    have hk2 : j < Kn - 1 := by omega
    have h60 : (j : Int) < 60 := by omega
    have hnd : ¬ w ∣ n * (j + 1) := fun h => by
      have := Nat.le_of_dvd (by omega) ((hK2 (j + 1)).1 h)
      omega
    have e1 : (((n * (j + 1) : Nat) : Int).tmod ((w : Nat) : Int) != 0) = true := by
      have h2 : ((n * (j + 1) : Nat) : Int).tmod ((w : Nat) : Int) = ((n * (j + 1) % w : Nat) : Int) := rfl
      rw [h2, bne_iff_ne]
      intro h
      exact hnd (Nat.dvd_of_mod_eq_zero (by omega))
    have hm : n * (j + 1) ≤ 216000 * 60 := Nat.mul_le_mul hn.2 (by omega)
    have e2 : ((n * (j + 1) : Nat) : Int) + ((n : Nat) : Int) = ((n * (j + 2) : Nat) : Int) := by rw [show j + 2 = j + 1 + 1 from rfl, Nat.mul_succ n (j + 1)]; omega
    have hm2 : n * (j + 2) ≤ 216000 * 61 := Nat.mul_le_mul hn.2 (by omega)
    simp only [loopIt, todoPast, todoAt, todoOf, firstReg, ↓reduceIte, Option.some.injEq, Nat.reduceEqDiff, reduceCtorEq, Tryz.f21]
    rw [execL_inLoop]
    simp (maxSteps := 1000000) (implicitDefEqProofs := false) (disch := first | rfl | omega | assumption) only [go_sem, g1, g5, g6, g7, g8, ltT, ltF, leT, leF, hk', s1, s2, a1, a2, a3, a4, hwe, z, e1, h60, e2]
    exact ih (j + 1) (by omega) _ (by exact g1) (by rfl) (by exact g6) (by exact g7) (by rfl)

theorem rq_loop {f : Frg} {vw vr : AV} (hf : FrAt H f vw vr) (ho : f.Ok) (r : Nat) :
    ∀ (q j : Nat), j + q = f.ws.length → ∀ (n : Nat), LcB n j → lcmL n (f.ws.drop j) = r → ∀ E : Env, E.get 1 = .ptr H.length 0 → E.get 5 = I n → E.get 6 = I j →
    Option.map (finishC H.length) (execL cfg0 prog0 ⟨21, none, false, H.length⟩ (todoAt Tryz.f21 6) ⟨E, [], H ++ [.box (.agg [vw, I f.lo, I f.hi, vr])], none⟩) = some ⟨.ret (.tup [I r, I 0]), H, none⟩ := by
  intro q
  have s1 := hf.ws.scal
  have s2 := hf.rs.scal
  have l1 := hf.ws.len
  rw [List.length_map] at l1
  have h4 := ho.many
  induction q with
  | zero =>
    intro j hj n hn hr E g1 g5 g6
    have hk' : ¬ (j : Int) < ((f.ws.length : Nat) : Int) := by omega
    rw [List.drop_of_length_le (by omega)] at hr
    simp only [lcmL, List.foldl_nil] at hr
    subst hr
    simp only [loopIt, todoPast, todoAt, todoOf, firstReg, ↓reduceIte, Option.some.injEq, Nat.reduceEqDiff, reduceCtorEq, Tryz.f21]
    rw [execL_inLoop]
    simp (maxSteps := 1000000) (implicitDefEqProofs := false) (disch := first | rfl | omega | assumption) only [go_sem, g1, g5, g6, ltT, ltF, leT, leF, hk', s1, s2, l1]
    done
  | succ q ih =>
    intro j hj n hn hr E g1 g5 g6
    have hk' : (j : Int) < ((f.ws.length : Nat) : Int) := by omega
    have hk2 : j < f.ws.length := by omega
    have hd : f.ws.drop j = f.ws.getD j 0 :: f.ws.drop (j + 1) := by rw [List.drop_eq_getElem_cons hk2]; simp [hk2]
    have hw := ho.wave j hk2
    have hn1 : 1 ≤ n := hn.1
    have hn2 : n ≤ 216000 := Nat.le_trans hn.2 (Nat.le_trans (Nat.pow_le_pow_right (by omega) (show j ≤ 3 by omega)) (by decide))
    have hg : 0 < Nat.gcd n (f.w j).toNat := Nat.gcd_pos_of_pos_left _ (by omega)
    have hKp : 1 ≤ (f.w j).toNat / Nat.gcd n (f.w j).toNat := (Nat.le_div_iff_mul_le hg).2 (by rw [Nat.one_mul]; exact Nat.le_of_dvd (by omega) (Nat.gcd_dvd_right _ _))
    have hKl : (f.w j).toNat / Nat.gcd n (f.w j).toNat ≤ (f.w j).toNat := Nat.div_le_self _ _
    have hlc := lcm_is (w := (f.w j).toNat) hn1
    have hin := rq_in hf ho j hk2 n ((f.w j).toNat / Nat.gcd n (f.w j).toNat) ⟨hn1, hn2⟩ ⟨hKp, by omega⟩ (fun m => dvd_lcm hn1 (by omega))
    rw [← hlc] at hin
    have hr2 : lcmL (Nat.lcm n (f.w j).toNat) (f.ws.drop (j + 1)) = r := by
      rw [hd] at hr
      exact hr
    have hbd : LcB (Nat.lcm n (f.w j).toNat) (j + 1) := by
      refine ⟨Nat.lcm_pos (by omega) (by omega), ?_⟩
      rw [hlc, Nat.pow_succ]
      exact Nat.mul_le_mul hn.2 (by omega)
    have en1 : ((n : Nat) : Int) = ((n * (0 + 1) : Nat) : Int) := by simp
    have key := ih (j + 1) (by omega) _ hbd hr2
    generalize Nat.lcm n (f.w j).toNat = L at *
    generalize (f.w j).toNat / Nat.gcd n (f.w j).toNat = K at *
    simp only [loopIt, todoPast, todoAt, todoOf, firstReg, ↓reduceIte, Option.some.injEq, Nat.reduceEqDiff, reduceCtorEq, Tryz.f21]
    rw [execL_inLoop]
    simp (maxSteps := 1000000) (implicitDefEqProofs := false) (disch := first | rfl | omega | assumption) only [go_sem, g1, g5, g6, ltT, ltF, leT, leF, hk', s1, s2, l1]
    refine hin _ _ (fun E g1 g5 g6 => ?_) (K - 1) 0 (by omega) _ (by exact g1) (by rw [← en1]; exact g5) (by exact g6) (by rfl) (by rfl)
    simp (maxSteps := 1000000) (implicitDefEqProofs := false) (disch := first | rfl | omega | assumption) only [go_sem, g1, g5, g6, ltT, ltF, leT, leF, hk']
    exact key _ (by exact g1) (by exact g5) (by rfl)

theorem rf_Period {f : Frg} {vw vr : AV} (hf : FrAt H f vw vr) (hl : f.ws.length ≤ 1000 ∧ f.rs.length ≤ 1000) :
    callFL cfg0 prog0 false 21 [.agg [vw, I f.lo, I f.hi, vr]] H none = some ⟨.ret (.tup [I f.period.1, I f.period.2]), H, none⟩ := by
  have s1 := hf.ws.scal
  have s2 := hf.rs.scal
  have hK := fun G : Heap => rf_check (hf.app G) hl true
  simp only [Frg.chk, if_true] at hK
  simp only [Frg.period]
  cases hv : f.valid
  · simp only [hv, Bool.false_eq_true, if_false] at hK ⊢
    refine (callFL_eq fn21 rfl (by simp [Tryz.f21])).trans ?_
    simp (maxSteps := 1000000) (implicitDefEqProofs := false) (disch := first | rfl | omega | assumption) only [go_sem, ltT, ltF, leT, leF, s1, s2, hK]
    done
  · have ho := f.valid_iff.1 hv
    simp only [hv, if_true] at hK ⊢
    have h := rq_loop hf ho (lcmL 1 f.ws) f.ws.length 0 (by omega) 1 ⟨by omega, by omega⟩ rfl
    refine (callFL_eq fn21 rfl (by simp [Tryz.f21])).trans ?_
    simp (maxSteps := 1000000) (implicitDefEqProofs := false) (disch := first | rfl | omega | assumption) only [go_sem, ltT, ltF, leT, leF, s1, s2, hK]
    exact h _ (by rfl) (by rfl) (by rfl)

end Go.Ab
/-
  The reference, walked: left, Ask, Wrong, Clash.
-/
namespace Go.Ab
open Go.Proofs
set_option linter.unusedSimpArgs false
set_option linter.unusedVariables false
set_option maxRecDepth 100000
set_option maxHeartbeats 2000000

variable {H : Heap}


/-! ### How many are left -/

/-- How many of the first lengths leave a part. -/
def cntP (w : Int) (xs : List Int) (j k : Nat) : Nat := ((xs.take j).filter fun n => decide (ptZ w n = (k : Int))).length
def cntL (w : Int) (xs : List Int) (j : Nat) : List Int := (List.range 20).map fun k => ((cntP w xs j k : Nat) : Int)

/-- The greatest of the counts. -/
def MostOf (g : Nat → Nat) (m : Int) : Prop := (∀ k, k < 20 → ((g k : Nat) : Int) ≤ m) ∧ (m = 0 ∨ ∃ k, k < 20 ∧ m = ((g k : Nat) : Int)) ∧ 0 ≤ m

/-! ### The best set -/

/-- The best of the sets that were looked at. -/
structure BestS (n : Nat) (P : Nat → Bool) (j b : Nat) : Prop where
  lt : b < 2 ^ n
  ok : P b = true
  old : b = 2 ^ n - 1 ∨ b < j
  min : ∀ y, y < j → y < 2 ^ n → P y = true → pop b < pop y ∨ (pop b = pop y ∧ b ≤ y)

end Go.Ab
/-
  FringeTells, FringeSets.
-/
namespace Go.Ab
open Go.Proofs
set_option linter.unusedSimpArgs false
set_option linter.unusedVariables false
set_option maxRecDepth 100000
set_option maxHeartbeats 2000000

variable {H : Heap}

theorem law_long {f : Frg} {vw vr : AV} (h : FrAt H f vw vr) :
    callFL cfg0 prog0 false 5 [.agg [vw, I f.lo, I f.hi, vr]] H none = some ⟨.ret (.bool (decide (40 < f.ws.length ∨ 40 < f.rs.length))), H, none⟩ := by
  have s1 := h.ws.scal
  have s2 := h.rs.scal
  have n1 := h.ws.len
  have n2 := h.rs.len
  rw [List.length_map] at n1 n2
  by_cases c1 : (f.ws.length : Int) < f.rs.length
  · by_cases c2 : (40 : Int) < f.rs.length
    · have : decide (40 < f.ws.length ∨ 40 < f.rs.length) = true := decide_eq_true (by omega)
      rw [this]
      refine (callFL_eq fn5 rfl (by simp [Tryz.f5])).trans ?_
      simp (maxSteps := 1000000) (implicitDefEqProofs := false) (disch := first | rfl | omega | assumption) only [go_sem, ltT, ltF, leT, leF, s1, s2, n1, n2, c1, c2]
      done
    · have : decide (40 < f.ws.length ∨ 40 < f.rs.length) = false := decide_eq_false (by omega)
      rw [this]
      refine (callFL_eq fn5 rfl (by simp [Tryz.f5])).trans ?_
      simp (maxSteps := 1000000) (implicitDefEqProofs := false) (disch := first | rfl | omega | assumption) only [go_sem, ltT, ltF, leT, leF, s1, s2, n1, n2, c1, c2]
      done
  · by_cases c2 : (40 : Int) < f.ws.length
    · have : decide (40 < f.ws.length ∨ 40 < f.rs.length) = true := decide_eq_true (by omega)
      rw [this]
      refine (callFL_eq fn5 rfl (by simp [Tryz.f5])).trans ?_
      simp (maxSteps := 1000000) (implicitDefEqProofs := false) (disch := first | rfl | omega | assumption) only [go_sem, ltT, ltF, leT, leF, s1, s2, n1, n2, c1, c2]
      done
    · have : decide (40 < f.ws.length ∨ 40 < f.rs.length) = false := decide_eq_false (by omega)
      rw [this]
      refine (callFL_eq fn5 rfl (by simp [Tryz.f5])).trans ?_
      simp (maxSteps := 1000000) (implicitDefEqProofs := false) (disch := first | rfl | omega | assumption) only [go_sem, ltT, ltF, leT, leF, s1, s2, n1, n2, c1, c2]
      done

theorem part_three (f : Frg) (n k : Int) : ∃ a b e : Int, (if f.valid then (if wi n 0 2000 && wi k 0 ((f.ws.length : Int) - 1) then [I (n / f.w k.toNat), I (ptZ (f.w k.toNat) n), I 0] else [I 0, I 0, I 2]) else [I 0, I 0, I 1]) = [I a, I b, I e] := by
  split
  · split
    · exact ⟨_, _, _, rfl⟩
    · exact ⟨_, _, _, rfl⟩
  · exact ⟨_, _, _, rfl⟩

theorem spans_two (f : Frg) : ∃ (b : Bool), (if f.valid then (if (f.lens f.all).isEmpty then [AV.sl true [], I 10] else [.sl false ((spans (f.lens f.all)).map spA), I 0]) else [.sl true [], I 1]) = [AV.sl b ((spans (f.told true).1).map spA), I (f.told true).2] := by
  simp only [Frg.told, if_true]
  cases f.valid
  · exact ⟨true, rfl⟩
  · cases he : (f.lens f.all).isEmpty
    · exact ⟨false, by simp⟩
    · exact ⟨true, by simp [spans]⟩

theorem spans_len (f : Frg) : (spans (f.told true).1).length ≤ 1000000 := by
  simp only [Frg.told, if_true]
  cases hv : f.valid
  · simp [spans]
  · cases he : (f.lens f.all).isEmpty
    · have := (spans_bd (f.valid_iff.1 hv) f.all).2
      simp only [if_true, Bool.false_eq_true, if_false]
      omega
    · simp [spans]

theorem whole_len (f : Frg) (w : Int) : (f.whole w).1.length ≤ 1000000 := by
  simp only [Frg.whole]
  split
  · rename_i hv
    split
    · split
      · simp
      · have hb := cnt_bd (f.valid_iff.1 hv) w.toNat
        have hd := dedup_lenI (((f.cnt w.toNat).map (fun p => p.1.1)).mergeSort fun x y => decide (x ≤ y))
        rw [List.length_mergeSort, List.length_map] at hd
        simp only [wholeL]
        omega
    · simp
  · simp

theorem law_FringeTells {f : Frg} {vw vr : AV} (hf : FrAt H f vw vr) (n k : Int) :
    callFL cfg0 prog0 false 3 [.agg [vw, I f.lo, I f.hi, vr], I n, I k] H none = some ⟨.ret (.bool true), H, none⟩ := by
  have s1 := hf.ws.scal
  have s2 := hf.rs.scal
  have hk' : True := trivial
  have hL := law_long (hf.app [.box (.agg [vw, I f.lo, I f.hi, vr])])
  have hA := fun G : Heap => law_alive G
  by_cases hlg : 40 < f.ws.length ∨ 40 < f.rs.length
  · rw [decide_eq_true hlg] at hL
    refine (callFL_eq fn3 rfl (by simp [Tryz.f3])).trans ?_
    simp (maxSteps := 1000000) (implicitDefEqProofs := false) (disch := first | rfl | omega | assumption) only [go_sem, ltT, ltF, leT, leF, s1, s2, hL, hA]
    done
  rw [decide_eq_false hlg] at hL
  have hl : f.ws.length ≤ 1000 ∧ f.rs.length ≤ 1000 := by omega
  have hf' := hf.app [.box (.agg [vw, I f.lo, I f.hi, vr])]
  have p1 := fr_Part hf' hl n k
  have p2 := rf_Part hf' hl n k
  obtain ⟨a, b, e, he⟩ := part_three f n k
  rw [he] at p1 p2
  have l1 := fr_Lengths hf' hl
  have l2 := rf_Lengths hf' hl
  obtain ⟨bF, hs⟩ := spans_two f
  rw [hs] at l1
  have c1 := fr_Count hf' hl
  have c2 := rf_Count hf' hl
  have n1 := fr_Near hf' hl n
  have n2 := rf_Near hf' hl n
  have w1 := fr_Whole hf' hl k
  have w2 := rf_Whole hf' hl k
  have q1 := fr_Parts hf' hl k
  have q2 := rf_Parts hf' hl k
  have d1 := fr_Period hf' hl
  have d2 := rf_Period hf' hl
  have hsl := spans_len f
  have hwl := whole_len f k
  have hS := rf_Spans (H := H ++ [.box (.agg [vw, I f.lo, I f.hi, vr])]) (slS bF (spans (f.told true).1)) (slS false (spans (f.told true).1)) ⟨hsl, hsl⟩
  have hI := rf_Ints (H := H ++ [.box (.agg [vw, I f.lo, I f.hi, vr])]) (slI (!decide ((f.whole k).2 = 0)) (f.whole k).1) (slI (!decide ((f.whole k).2 = 0)) (f.whole k).1) ⟨hwl, hwl⟩
  have t1 : decide (spans (f.told true).1 = spans (f.told true).1) = true := by simp
  have t2 : decide ((f.whole k).1 = (f.whole k).1) = true := by simp
  rw [t1] at hS
  rw [t2] at hI
  have hnn : ∀ x : Int, (x != x) = false := fun x => by simp
  have hii : ∀ x : Int, (x == x) = true := fun x => by simp
  generalize (!decide ((f.whole k).2 = 0)) = bw at *
  generalize (f.whole k).1 = wl at *
  generalize (f.whole k).2 = we at *
  generalize spans (f.told true).1 = ps at *
  generalize (f.told true).2 = te at *
  refine (callFL_eq fn3 rfl (by simp [Tryz.f3])).trans ?_
  simp (maxSteps := 1000000) (implicitDefEqProofs := false) (disch := first | rfl | omega | assumption) only [go_sem, ltT, ltF, leT, leF, s1, s2, hL, hA, p1, p2, l1, l2, c1, c2, hnn, hS, n1, n2, w1, w2, q1, q2, d1, d2, hii, hI]
  done

end Go.Ab
