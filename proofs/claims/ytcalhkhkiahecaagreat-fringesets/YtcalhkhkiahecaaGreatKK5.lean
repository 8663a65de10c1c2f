/-
  The law's results that the document fixes.
-/
import Derived.Test.YtcalhkhkiahecaaGreatKK4
namespace Go.Ab
open Go.Proofs
set_option linter.unusedSimpArgs false
set_option linter.unusedVariables false
set_option maxRecDepth 100000
set_option maxHeartbeats 2000000

variable {H : Heap}


abbrev vw0 : AV := .sl true [I 12, I 20, I 17]
abbrev vr0 : AV := .sl true [.agg [I 0, I 10, I 13], .agg [I 1, I 5, I 8]]
abbrev vr1 : AV := .sl false [.agg [I 0, I 10, I 13], .agg [I 1, I 5, I 8], .agg [I 0, I 0, I 2]]

theorem s_Part (n k : Int) (a b : Int) (hn : (wi n 0 2000 && wi k 0 2) = true) (ha : n / sF0.w k.toNat = a) (hb : ptZ (sF0.w k.toNat) n = b) (H : Heap) : callFL cfg0 prog0 false 7 [.agg [vw0, I 100, I 200, vr0], I n, I k] H none = some ⟨.ret (.tup [I a, I b, I 0]), H, none⟩ := by
  have h := fr_Part (sAt0 H) (by decide) n k
  rw [v_valid, if_pos rfl, show ((sF0.ws.length : Int) - 1) = 2 from rfl, hn, if_pos rfl, ha, hb] at h
  exact h
theorem s_Lengths (H : Heap) : callFL cfg0 prog0 false 9 [.agg [vw0, I 100, I 200, vr0]] H none = some ⟨.ret (.tup [.sl false ([(126, 128), (186, 188)].map spA), I 0]), H, none⟩ := by
  have h := fr_Lengths (sAt0 H) (by decide)
  rw [v_valid, v_lens] at h
  exact h
theorem s_Count (H : Heap) : callFL cfg0 prog0 false 11 [.agg [vw0, I 100, I 200, vr0]] H none = some ⟨.ret (.tup [I 6, I 0]), H, none⟩ := by
  have h := fr_Count (sAt0 H) (by decide)
  rw [v_count] at h
  exact h
theorem s_Near (n b : Int) (hb : sF0.near n = (b, 0)) (H : Heap) : callFL cfg0 prog0 false 14 [.agg [vw0, I 100, I 200, vr0], I n] H none = some ⟨.ret (.tup [I b, I 0]), H, none⟩ := by
  have h := fr_Near (sAt0 H) (by decide) n
  rw [hb] at h
  exact h
theorem s_Whole (n : Int) (b : List Int) (hb : sF0.whole n = (b, 0)) (H : Heap) : callFL cfg0 prog0 false 16 [.agg [vw0, I 100, I 200, vr0], I n] H none = some ⟨.ret (.tup [.sl false (b.map I), I 0]), H, none⟩ := by
  have h := fr_Whole (sAt0 H) (by decide) n
  rw [hb] at h
  exact h
theorem s_Parts (n b : Int) (hb : sF0.parts n = (b, 0)) (H : Heap) : callFL cfg0 prog0 false 18 [.agg [vw0, I 100, I 200, vr0], I n] H none = some ⟨.ret (.tup [I b, I 0]), H, none⟩ := by
  have h := fr_Parts (sAt0 H) (by decide) n
  rw [hb] at h
  exact h
theorem s_Period (H : Heap) : callFL cfg0 prog0 false 20 [.agg [vw0, I 100, I 200, vr0]] H none = some ⟨.ret (.tup [I 1020, I 0]), H, none⟩ := by
  have h := fr_Period (sAt0 H) (by decide)
  rw [v_period] at h
  exact h
theorem s_Ask (H : Heap) : callFL cfg0 prog0 false 23 [.agg [vw0, I 100, I 200, vr0]] H none = some ⟨.ret (.tup [I 2, I 1, I 0]), H, none⟩ := by
  have h := fr_Ask (sAt0 H) (by decide)
  rw [v_ask] at h
  exact h
theorem s_Wrong1 (H : Heap) : callFL cfg0 prog0 false 25 [.agg [vw0, I 100, I 200, vr1]] H none = some ⟨.ret (.tup [I 1, I 1, I 0]), H, none⟩ := by
  have h := fr_Wrong (sAt1 H) (by decide)
  rw [v_wrong1] at h
  exact h
theorem s_Clash1 (H : Heap) : callFL cfg0 prog0 false 27 [.agg [vw0, I 100, I 200, vr1]] H none = some ⟨.ret (.tup [I 5, I 0]), H, none⟩ := by
  have h := fr_Clash (sAt1 H) (by decide)
  rw [v_clash1] at h
  exact h
theorem slI (b : Bool) (xs : List Int) : SlOk H 1 (.sl b (xs.map I)) (xs.map I) := ⟨rfl, fun x hx => by
  obtain ⟨i, _, rfl⟩ := List.mem_map.1 hx; rfl⟩
theorem slS (b : Bool) (xs : List (Int × Int)) : SlOk H 2 (.sl b (xs.map spA)) (xs.map spA) := ⟨rfl, fun x hx => by
  obtain ⟨i, _, rfl⟩ := List.mem_map.1 hx; rfl⟩

theorem law_alive (H : Heap) : callFL cfg0 prog0 false 6 [] H none = some ⟨.ret (.bool true), H, none⟩ := by
  have h1 := s_Part 128 2 7 10 (by decide) (by decide) (by decide) H
  have h2 := s_Near 157 128 v_near1 H
  have h3 := s_Whole 0 _ v_whole0 H
  have h4 := s_Parts 0 _ v_parts0 H
  have h5 : callFL cfg0 prog0 false 13 [.sl false [.agg [I 126, I 128], .agg [I 186, I 188]], .sl true [.agg [I 126, I 128], .agg [I 186, I 188]]] H none = some ⟨.ret (.bool true), H, none⟩ := rf_Spans (H := H) (slS false [(126, 128), (186, 188)]) (slS true [(126, 128), (186, 188)]) (by decide)
  have h6 : callFL cfg0 prog0 false 22 [.sl false [I 10, I 15], .sl true [I 10, I 15]] H none = some ⟨.ret (.bool true), H, none⟩ := rf_Ints (H := H) (slI false [10, 15]) (slI true [10, 15]) (by decide)
  have h7 := law_sample1 0 0 2 H
  have h8 := s_Lengths H
  have h9 := law_sample0 H
  simp only [List.map_cons, List.map_nil, spA] at h3 h8
  refine (callFL_eq fn6 rfl (by simp [Tryz.f6])).trans ?_
  simp (maxSteps := 1000000) (implicitDefEqProofs := false) (disch := first | rfl | omega | assumption) only [go_sem, ltT, ltF, leT, leF, h9, h1, h8, s_Count, h2, h3, h4, s_Period, s_Ask, h7, law_read, law_span, s_Wrong1, s_Clash1, h5, h6]
  done

end Go.Ab
/-
  The reference, walked: Part, Lengths, Count, Near.
-/
namespace Go.Ab
open Go.Proofs
set_option linter.unusedSimpArgs false
set_option linter.unusedVariables false
set_option maxRecDepth 100000
set_option maxHeartbeats 2000000

variable {H : Heap}


theorem SlOk.old {sz : Nat} {v : AV} {xs : List AV} (h : SlOk H sz v xs) (A B : Heap) : pairM (some (H ++ A, H ++ B)) (gslOf v) = true := by
  rcases h.obj with hg | ⟨l, hg, hlt, hget⟩
  · rw [hg]; rfl
  · rw [hg, pairM_some]
    have hs : ∀ l : List AV, sameL l l = true := fun l => by
      induction l with
      | nil => rfl
      | cons x r ih => simp [sameL, AV.same_refl, ih]
    simp only [sameAt, List.getElem?_append_left hlt, hget, AO.same, hs]
    simp

end Go.Ab
/-
  The reference, walked: Whole, Parts, Period.
-/
namespace Go.Ab
open Go.Proofs
set_option linter.unusedSimpArgs false
set_option linter.unusedVariables false
set_option maxRecDepth 100000
set_option maxHeartbeats 2000000

variable {H : Heap}


end Go.Ab
/-
  The reference, walked: left, Ask, Wrong, Clash.
-/
namespace Go.Ab
open Go.Proofs
set_option linter.unusedSimpArgs false
set_option linter.unusedVariables false
set_option maxRecDepth 100000
set_option maxHeartbeats 2000000

variable {H : Heap}


/-! ### How many are left -/

/-- How many of the first lengths leave a part. -/
def cntP (w : Int) (xs : List Int) (j k : Nat) : Nat := ((xs.take j).filter fun n => decide (ptZ w n = (k : Int))).length
def cntL (w : Int) (xs : List Int) (j : Nat) : List Int := (List.range 20).map fun k => ((cntP w xs j k : Nat) : Int)

theorem cntL_len (w : Int) (xs : List Int) (j : Nat) : (cntL w xs j).length = 20 := by simp [cntL]
theorem cntL_at (w : Int) (xs : List Int) (j : Nat) {k : Nat} (hk : k < 20) : (cntL w xs j)[k]? = some ((cntP w xs j k : Nat) : Int) := by simp [cntL, hk]

theorem cntP_le (w : Int) (xs : List Int) (j k : Nat) : cntP w xs j k ≤ j := by
  have h1 := List.length_filter_le (fun n => decide (ptZ w n = (k : Int))) (xs.take j)
  have h2 := List.length_take_le j xs
  simp only [cntP]; omega

theorem cntP_succ (w : Int) (xs : List Int) {j : Nat} (hj : j < xs.length) {p : Nat} (hp : ptZ w (xs.getD j 0) = (p : Int)) (k : Nat) : cntP w xs (j + 1) k = cntP w xs j k + (if p = k then 1 else 0) := by
  have e : xs[j] = xs.getD j 0 := by simp [hj]
  simp only [cntP, List.take_succ_eq_append_getElem hj, List.filter_append, List.length_append, e]
  congr 1
  by_cases h : p = k
  · subst h
    rw [List.filter_cons_of_pos (by rw [decide_eq_true_eq]; exact hp), if_pos rfl]
    rfl
  · have : ¬ ptZ w (xs.getD j 0) = (k : Int) := by rw [hp]; omega
    rw [List.filter_cons_of_neg (by simpa using this), if_neg h]
    rfl

theorem cntL_set (w : Int) (xs : List Int) {j : Nat} (hj : j < xs.length) {p : Nat} (hp : ptZ w (xs.getD j 0) = (p : Int)) (hp20 : p < 20) : (cntL w xs j).set p (((cntP w xs j p : Nat) : Int) + 1) = cntL w xs (j + 1) := by
  apply List.ext_getElem?
  intro k
  by_cases hk : k < 20
  · rw [cntL_at _ _ _ hk, cntP_succ w xs hj hp, List.getElem?_set]
    by_cases e : p = k
    · subst e
      rw [if_pos rfl, if_pos (by rw [cntL_len]; exact hk), if_pos rfl]
      simp
    · rw [if_neg e, if_neg e, cntL_at _ _ _ hk]; rfl
  · rw [List.getElem?_eq_none (by rw [List.length_set, cntL_len]; omega), List.getElem?_eq_none (by rw [cntL_len]; omega)]

/-- The greatest of the counts. -/
def MostOf (g : Nat → Nat) (m : Int) : Prop := (∀ k, k < 20 → ((g k : Nat) : Int) ≤ m) ∧ (m = 0 ∨ ∃ k, k < 20 ∧ m = ((g k : Nat) : Int)) ∧ 0 ≤ m

theorem most_one {g : Nat → Nat} {m m' : Int} (h : MostOf g m) (h' : MostOf g m') : m = m' := by
  obtain ⟨a1, a2, a3⟩ := h
  obtain ⟨b1, b2, b3⟩ := h'
  have k1 : m ≤ m' := by
    rcases a2 with rfl | ⟨k, hk, rfl⟩
    · exact b3
    · exact b1 k hk
  have k2 : m' ≤ m := by
    rcases b2 with rfl | ⟨k, hk, rfl⟩
    · exact a3
    · exact a1 k hk
  omega

theorem mGo_of {f : Frg} {c : Nat} : MostOf (f.lenP c) (f.most c) := by
  have key : ∀ (q j : Nat) (a : Int), a ≤ mGo f c j q a ∧ (∀ k, j ≤ k → k < j + q → ((f.lenP c k : Nat) : Int) ≤ mGo f c j q a) ∧ (mGo f c j q a = a ∨ ∃ k, j ≤ k ∧ k < j + q ∧ mGo f c j q a = ((f.lenP c k : Nat) : Int)) := by
    intro q
    induction q with
    | zero => exact fun j a => ⟨Int.le_refl _, fun k h1 h2 => by omega, Or.inl rfl⟩
    | succ q ih =>
      intro j a
      obtain ⟨i1, i2, i3⟩ := ih (j + 1) (mx2 a (f.lenP c j : Nat))
      have hx : a ≤ mx2 a (f.lenP c j : Nat) ∧ ((f.lenP c j : Nat) : Int) ≤ mx2 a (f.lenP c j : Nat) ∧ (mx2 a (f.lenP c j : Nat) = a ∨ mx2 a (f.lenP c j : Nat) = ((f.lenP c j : Nat) : Int)) := by simp only [mx2]; split <;> omega
      simp only [mGo]
      refine ⟨by omega, fun k h1 h2 => ?_, ?_⟩
      · by_cases e : k = j
        · subst e; omega
        · exact i2 k (by omega) (by omega)
      · rcases i3 with i3 | ⟨k, k1, k2, k3⟩
        · rcases hx.2.2 with h | h
          · left; omega
          · right; exact ⟨j, by omega, by omega, by omega⟩
        · right; exact ⟨k, by omega, by omega, k3⟩
  have h := key 20 0 0
  rw [mGo_most] at h
  refine ⟨fun k hk => h.2.1 k (by omega) (by omega), ?_, h.1⟩
  rcases h.2.2 with h2 | ⟨k, _, k2, k3⟩
  · exact Or.inl h2
  · exact Or.inr ⟨k, by omega, k3⟩

theorem lf_loop {f : Frg} {vw vr : AV} (hf : FrAt H f vw vr) (ho : f.Ok) (c : Nat) (hc : c < f.ws.length) (xs : List Int) (hx : xs.length ≤ 401 ∧ ∀ j, j < xs.length → 0 ≤ xs.getD j 0 ∧ xs.getD j 0 ≤ 2000) (bq : Bool) (r : Int) (hr : ∀ m, MostOf (cntP (f.w c) xs xs.length) m → m = r) :
    ∀ (q j : Nat), j + q = xs.length → ∀ (m : Int), MostOf (cntP (f.w c) xs j) m → ∀ E : Env, E.get 1 = .sl bq (xs.map I) → E.get 2 = I c → E.get 3 = .ptr H.length 0 → E.get 7 = .gsl (H.length + 1) 20 → E.get 8 = I m → E.get 9 = I j →
    Option.map (finishC H.length) (execL cfg0 prog0 ⟨70, none, false, H.length⟩ (todoAt Tryz.f70 4) ⟨E, [], H ++ [.box (.agg [vw, I f.lo, I f.hi, vr]), .grow 1 ((cntL (f.w c) xs j).map I)], none⟩) = some ⟨.ret (I r), H, none⟩ := by
  intro q
  have lx : (xs.map I).length = xs.length := List.length_map _
  have s1 := hf.ws.scal
  have s2 := hf.rs.scal
  induction q with
  | zero =>
    intro j hj m hm E g1 g2 g3 g7 g8 g9
    have hk' : ¬ (j : Int) < ((xs.length : Nat) : Int) := by omega
    have ej : j = xs.length := by omega
    rw [ej] at hm
    have hmr := hr m hm
    subst hmr
    simp only [loopIt, todoPast, todoAt, todoOf, firstReg, ↓reduceIte, Option.some.injEq, Nat.reduceEqDiff, reduceCtorEq, Tryz.f70]
    rw [execL_inLoop]
    simp (maxSteps := 1000000) (implicitDefEqProofs := false) (disch := first | rfl | omega | assumption) only [go_sem, g1, g2, g3, g7, g8, g9, ltT, ltF, leT, leF, hk', lx]
    done
  | succ q ih =>
    intro j hj m hm E g1 g2 g3 g7 g8 g9
    have hk' : (j : Int) < ((xs.length : Nat) : Int) := by omega
    have hk2 : j < xs.length := by omega
    have hbj := hx.2 j hk2
    obtain ⟨a1, a2, a3, a4, a5⟩ := (slI (H := H) bq xs).fF (d := 0)
    obtain ⟨n, en⟩ : ∃ n, xs.getD j 0 = n := ⟨_, rfl⟩
    have hw := ho.wave c hc
    rw [en] at hbj
    have hO := fun G : Heap => rf_Of (hf.app G) ho hc hbj
    have hpb := ptZ_bd (w := f.w c) (n := n) (by omega)
    obtain ⟨p, hp⟩ : ∃ p : Nat, ptZ (f.w c) n = p := ⟨(ptZ (f.w c) n).toNat, by omega⟩
    have hp20 : p < 20 := by omega
    simp only [hp] at hO
    have hpj : ptZ (f.w c) (xs.getD j 0) = (p : Int) := by rw [en]; exact hp
    have hset := cntL_set (f.w c) xs hk2 hpj hp20
    have hcl := cntP_le (f.w c) xs j p
    have hsu := fun k => cntP_succ (f.w c) xs hk2 hpj k
    have hat := cntL_at (f.w c) xs j hp20
    have hat1 := cntL_at (f.w c) xs (j + 1) hp20
    have hspp := hsu p
    rw [if_pos rfl] at hspp
    rw [hspp] at hat1
    have hll := cntL_len (f.w c) xs j
    have hll1 := cntL_len (f.w c) xs (j + 1)
    have hml : ∀ j, ((cntL (f.w c) xs j).map I).length = 20 := fun j => by rw [List.length_map, cntL_len]
    have hga : ((cntL (f.w c) xs j).map I)[p]? = some (I (cntP (f.w c) xs j p : Nat)) := by rw [List.getElem?_map, hat]; rfl
    have hgb : ((cntL (f.w c) xs (j + 1)).map I)[p]? = some (I ((cntP (f.w c) xs j p : Nat) + 1 : Int)) := by rw [List.getElem?_map, hat1]; simp
    have hcv : IntKind.i64.wrap (((cntP (f.w c) xs j p : Nat) : Int) + 1) = ((cntP (f.w c) xs j p : Nat) : Int) + 1 := w64 (by omega) (by omega)
    have hpl : ((p : Nat) : Int) < 20 := by omega
    have hia : ∀ (te : Ty) (j' : Nat), te.size = 1 → idxAddr (H ++ [.box (.agg [vw, I f.lo, I f.hi, vr]), .grow 1 ((cntL (f.w c) xs j').map I)]) te (.gsl (H.length + 1) 20) (p : Int) = some (.eptr (H.length + 1) 20 p 0) := by
      intro te j' ht
      simp only [idxAddr, get_at', List.getElem?_cons_succ, List.getElem?_cons_zero, hml, ht]
      simp [hp20]
    have hst : ∀ (b : Nat) (z : Option Value), evStore b (H ++ [.box (.agg [vw, I f.lo, I f.hi, vr]), .grow 1 ((cntL (f.w c) xs j).map I)]) ⟨.int .i64, 1, 8, z⟩ (.eptr (H.length + 1) 20 p 0) (I (((cntP (f.w c) xs j p : Nat) : Int) + 1)) = some (H ++ [.box (.agg [vw, I f.lo, I f.hi, vr]), .grow 1 ((cntL (f.w c) xs (j + 1)).map I)]) := by
      intro b z
      rw [← hset]
      simp only [evStore_eptr, get_at', List.getElem?_cons_succ, List.getElem?_cons_zero, hml, hga]
      simp [AV.lt, writePart, allScalar, AV.cells, AV.scalar, splice, AV.withCells, List.map_set, set_at']
    obtain ⟨m1, m2, m3⟩ := hm
    have hmx : MostOf (cntP (f.w c) xs (j + 1)) (if m < ((cntP (f.w c) xs j p : Nat) : Int) + 1 then ((cntP (f.w c) xs j p : Nat) : Int) + 1 else m) := by
      refine ⟨fun k hk => ?_, ?_, ?_⟩
      · have h1 := m1 k hk
        rw [hsu k]
        by_cases e : p = k
        · subst e; rw [if_pos rfl]; split <;> omega
        · rw [if_neg e]; split <;> omega
      · split
        · right; exact ⟨p, hp20, by rw [hspp]; omega⟩
        · rename_i hlt
          rcases m2 with m2 | ⟨k, k1, k2⟩
          · have := m1 p hp20; omega
          · by_cases e : p = k
            · subst e; omega
            · right; exact ⟨k, k1, by rw [hsu k, if_neg e]; omega⟩
      · split <;> omega
    have key := ih (j + 1) (by omega) _ hmx
    generalize hcc : cntP (f.w c) xs j p = cc at *
    simp only [loopIt, todoPast, todoAt, todoOf, firstReg, ↓reduceIte, Option.some.injEq, Nat.reduceEqDiff, reduceCtorEq, Tryz.f70]
    rw [execL_inLoop]
    simp (maxSteps := 1000000) (implicitDefEqProofs := false) (disch := first | rfl | omega | assumption) only [go_sem, g1, g2, g3, g7, g8, g9, ltT, ltF, leT, leF, hk', lx]
    rw [chkK_of]; rotate_left; kernel_rfl
    simp (maxSteps := 1000000) (implicitDefEqProofs := false) (disch := first | rfl | omega | assumption) only [go_sem, g1, g2, g3, g7, g8, g9, ltT, ltF, leT, leF, hk', a1, a2, a3, a4, en, s1, s2, hO, hia, hml, hga, hgb, hst]
    exact key _ (by exact g1) (by exact g2) (by exact g3) (by exact g7) (by rfl) (by rfl)

theorem rf_left {f : Frg} {vw vr : AV} (hf : FrAt H f vw vr) (ho : f.Ok) {c : Nat} (hc : c < f.ws.length) (bq : Bool) :
    callFL cfg0 prog0 false 70 [.agg [vw, I f.lo, I f.hi, vr], .sl bq ((f.lens f.all).map I), I c] H none = some ⟨.ret (I (f.most c)), H, none⟩ := by
  have s1 := hf.ws.scal
  have s2 := hf.rs.scal
  have hb := lens_bd ho f.all
  have h := lf_loop hf ho c hc (f.lens f.all) hb bq (f.most c) (fun m hm => most_one (g := f.lenP c) (by
    have e : cntP (f.w c) (f.lens f.all) (f.lens f.all).length = f.lenP c := by
      funext k
      simp only [cntP, Frg.lenP, List.take_length]
    rw [e] at hm
    exact hm) mGo_of) (f.lens f.all).length 0 (by omega) 0 ⟨fun k hk => by simp [cntP], Or.inl rfl, Int.le_refl _⟩
  have e0 : (cntL (f.w c) (f.lens f.all) 0).map I = List.replicate 20 (I 0) := by
    apply List.ext_getElem?
    intro k
    by_cases hk : k < 20
    · rw [List.getElem?_map, cntL_at _ _ _ hk, List.getElem?_replicate, if_pos hk]
      simp [cntP]
    · rw [List.getElem?_eq_none (by rw [List.length_map, cntL_len]; omega), List.getElem?_eq_none (by simp; omega)]
  rw [e0] at h
  refine (callFL_eq fn70 rfl (by simp [Tryz.f70])).trans ?_
  simp (maxSteps := 1000000) (implicitDefEqProofs := false) (disch := first | rfl | omega | assumption) only [go_sem, ltT, ltF, leT, leF, s1, s2]
  exact h _ (by rfl) (by rfl) (by rfl) (by rfl) (by rfl) (by rfl)

theorem ra_loop {f : Frg} {vw vr : AV} (hf : FrAt H f vw vr) (ho : f.Ok) (r : Int × Int) :
    ∀ (q j : Nat), j + q = f.ws.length → ∀ (b : Nat), b < f.ws.length → 1 ≤ j → f.askGo j q ((b : Int), f.most b) = r → ∀ E : Env, E.get 1 = .ptr H.length 0 → E.get 5 = .sl false ((f.lens f.all).map I) → E.get 7 = I b → E.get 8 = I j →
    Option.map (finishC H.length) (execL cfg0 prog0 ⟨24, none, false, H.length⟩ (todoAt Tryz.f24 6) ⟨E, [], H ++ [.box (.agg [vw, I f.lo, I f.hi, vr])], none⟩) = some ⟨.ret (.tup [I r.1, I r.2, I 0]), H, none⟩ := by
  intro q
  have s1 := hf.ws.scal
  have s2 := hf.rs.scal
  have l1 := hf.ws.len
  rw [List.length_map] at l1
  have h4 := ho.many
  induction q with
  | zero =>
    intro j hj b hb h1 hr E g1 g5 g7 g8
    have hk' : ¬ (j : Int) < ((f.ws.length : Nat) : Int) := by omega
    simp only [Frg.askGo] at hr
    subst hr
    simp only [loopIt, todoPast, todoAt, todoOf, firstReg, ↓reduceIte, Option.some.injEq, Nat.reduceEqDiff, reduceCtorEq, Tryz.f24]
    rw [execL_inLoop]
    have hL := fun G : Heap => rf_left (hf.app G) ho hb false
    simp (maxSteps := 1000000) (implicitDefEqProofs := false) (disch := first | rfl | omega | assumption) only [go_sem, g1, g5, g7, g8, ltT, ltF, leT, leF, hk', s1, s2, l1, hL]
    done
  | succ q ih =>
    intro j hj b hb h1 hr E g1 g5 g7 g8
    have hk' : (j : Int) < ((f.ws.length : Nat) : Int) := by omega
    have hk2 : j < f.ws.length := by omega
    have hL1 := fun G : Heap => rf_left (hf.app G) ho hk2 false
    have hL2 := fun G : Heap => rf_left (hf.app G) ho hb false
    simp only [Frg.askGo] at hr
    have hj0 : ¬ j = 0 := by omega
    by_cases hc : f.most j < f.most b
    · rw [if_pos (Or.inr hc)] at hr
      simp only [loopIt, todoPast, todoAt, todoOf, firstReg, ↓reduceIte, Option.some.injEq, Nat.reduceEqDiff, reduceCtorEq, Tryz.f24]
      rw [execL_inLoop]
      simp (maxSteps := 1000000) (implicitDefEqProofs := false) (disch := first | rfl | omega | assumption) only [go_sem, g1, g5, g7, g8, ltT, ltF, leT, leF, hk', s1, s2, l1]
      rw [chkK_of]; rotate_left; kernel_rfl
      simp (maxSteps := 1000000) (implicitDefEqProofs := false) (disch := first | rfl | omega | assumption) only [go_sem, g1, g5, g7, g8, ltT, ltF, leT, leF, hk', s1, s2, hL1, hL2, hc]
      exact ih (j + 1) (by omega) j hk2 (by omega) hr _ (by exact g1) (by exact g5) (by rfl) (by rfl)
    · rw [if_neg (by rintro (h | h); exact hj0 h; exact hc h)] at hr
      simp only [loopIt, todoPast, todoAt, todoOf, firstReg, ↓reduceIte, Option.some.injEq, Nat.reduceEqDiff, reduceCtorEq, Tryz.f24]
      rw [execL_inLoop]
      simp (maxSteps := 1000000) (implicitDefEqProofs := false) (disch := first | rfl | omega | assumption) only [go_sem, g1, g5, g7, g8, ltT, ltF, leT, leF, hk', s1, s2, l1]
      rw [chkK_of]; rotate_left; kernel_rfl
      simp (maxSteps := 1000000) (implicitDefEqProofs := false) (disch := first | rfl | omega | assumption) only [go_sem, g1, g5, g7, g8, ltT, ltF, leT, leF, hk', s1, s2, hL1, hL2, hc]
      exact ih (j + 1) (by omega) b hb (by omega) hr _ (by exact g1) (by exact g5) (by exact g7) (by rfl)

theorem rf_Ask {f : Frg} {vw vr : AV} (hf : FrAt H f vw vr) (hl : f.ws.length ≤ 1000 ∧ f.rs.length ≤ 1000) :
    callFL cfg0 prog0 false 24 [.agg [vw, I f.lo, I f.hi, vr]] H none = some ⟨.ret (.tup [I f.ask.1, I f.ask.2.1, I f.ask.2.2]), H, none⟩ := by
  have s1 := hf.ws.scal
  have s2 := hf.rs.scal
  have hT := fun G : Heap => rf_told (hf.app G) hl true
  simp only [Frg.told, if_true] at hT
  cases hv : f.valid
  · have ht : f.ask = (0, 0, 1) := by simp only [Frg.ask, hv, Bool.false_eq_true, if_false]
    rw [ht]
    simp only [hv, Bool.false_eq_true, if_false] at hT
    refine (callFL_eq fn24 rfl (by simp [Tryz.f24])).trans ?_
    simp (maxSteps := 1000000) (implicitDefEqProofs := false) (disch := first | rfl | omega | assumption) only [go_sem, ltT, ltF, leT, leF, s1, s2, hT]
    done
  · have ho := f.valid_iff.1 hv
    simp only [hv, if_true] at hT
    cases he : (f.lens f.all).isEmpty
    · have ht : f.ask = ((f.askGo 0 f.ws.length (0, 0)).1, (f.askGo 0 f.ws.length (0, 0)).2, 0) := by simp only [Frg.ask, hv, if_true, he, Bool.false_eq_true, if_false]
      rw [ht]
      simp only [he, Bool.false_eq_true, if_false] at hT
      have h4 := ho.many
      obtain ⟨m, hm⟩ : ∃ m, f.ws.length = m + 1 := ⟨f.ws.length - 1, by omega⟩
      have ha : f.askGo 0 f.ws.length (0, 0) = f.askGo 1 m (((0 : Nat) : Int), f.most 0) := by
        rw [hm]
        simp only [Frg.askGo, true_or, if_true]
      rw [ha]
      have h := ra_loop hf ho _ m 1 (by omega) 0 (by omega) (by omega) rfl
      generalize f.askGo 1 m (((0 : Nat) : Int), f.most 0) = r at *
      refine (callFL_eq fn24 rfl (by simp [Tryz.f24])).trans ?_
      simp (maxSteps := 1000000) (implicitDefEqProofs := false) (disch := first | rfl | omega | assumption) only [go_sem, ltT, ltF, leT, leF, s1, s2, hT]
      exact h _ (by rfl) (by rfl) (by rfl) (by rfl)
    · have ht : f.ask = (0, 0, 10) := by simp only [Frg.ask, hv, if_true, he]
      rw [ht]
      simp only [he, if_true] at hT
      refine (callFL_eq fn24 rfl (by simp [Tryz.f24])).trans ?_
      simp (maxSteps := 1000000) (implicitDefEqProofs := false) (disch := first | rfl | omega | assumption) only [go_sem, ltT, ltF, leT, leF, s1, s2, hT]
      done

/-! ### The best set -/

/-- The best of the sets that were looked at. -/
structure BestS (n : Nat) (P : Nat → Bool) (j b : Nat) : Prop where
  lt : b < 2 ^ n
  ok : P b = true
  old : b = 2 ^ n - 1 ∨ b < j
  min : ∀ y, y < j → y < 2 ^ n → P y = true → pop b < pop y ∨ (pop b = pop y ∧ b ≤ y)

theorem pop_all : ∀ n < 7, ∀ s < 2 ^ n, pop s ≤ pop (2 ^ n - 1) ∧ (pop s = pop (2 ^ n - 1) → s = 2 ^ n - 1) := by decide +kernel
theorem sub_all : ∀ n < 7, ∀ s < 2 ^ n, 2 ^ n - 1 - s = diffN (2 ^ n - 1) s := by decide +kernel

theorem best_yes {n : Nat} {P : Nat → Bool} {j b : Nat} (h : BestS n P j b) (hj : j < 2 ^ n) (hp : pop j < pop b) (hP : P j = true) : BestS n P (j + 1) j :=
  ⟨hj, hP, Or.inr (Nat.lt_succ_self _), fun y hy hy2 hPy => by
    by_cases e : y = j
    · subst e; exact Or.inr ⟨rfl, Nat.le_refl _⟩
    · have := h.min y (by omega) hy2 hPy; omega⟩

theorem best_no {n : Nat} (hn : n < 7) {P : Nat → Bool} {j b : Nat} (h : BestS n P j b) (hj : j < 2 ^ n) (hno : ¬ (pop j < pop b ∧ P j = true)) : BestS n P (j + 1) b :=
  ⟨h.lt, h.ok, h.old.elim Or.inl (fun k => Or.inr (by omega)), fun y hy hy2 hPy => by
    by_cases e : y = j
    · subst e
      have h1 : ¬ pop y < pop b := fun k => hno ⟨k, hPy⟩
      by_cases e2 : pop b = pop y
      · refine Or.inr ⟨e2, ?_⟩
        rcases h.old with k | k
        · have := (pop_all n hn y hy2).2 (by rw [← e2, k])
          omega
        · omega
      · left; omega
    · exact h.min y (by omega) hy2 hPy⟩

theorem best_is {n : Nat} {P : Nat → Bool} {b x : Nat} (h : BestS n P (2 ^ n) b) (h1 : x < 2 ^ n) (h2 : P x = true) (h3 : ∀ y, y < 2 ^ n → P y = true → pop x < pop y ∨ (pop x = pop y ∧ x ≤ y)) : b = x := by
  have a := h.min x h1 h1 h2
  have b' := h3 b h.lt h.ok
  omega

theorem can_len (f : Frg) (s : Nat) : decide ((0 : Int) < ((f.lens s).length : Nat)) = f.can s ∧ ((((f.lens s).length : Nat) : Int) == 0) = !f.can s := by
  simp only [Frg.can]
  cases f.lens s with
  | nil => exact ⟨rfl, rfl⟩
  | cons x r => exact ⟨by simp, by simp; omega⟩

theorem rwr_loop {f : Frg} {vw vr : AV} (hf : FrAt H f vw vr) (ho : f.Ok) (r : Nat) (hr : ∀ b, BestS f.rs.length (fun s => f.can (diffN f.all s)) (2 ^ f.rs.length) b → b = r) :
    ∀ (q j : Nat), j + q = 2 ^ f.rs.length → ∀ (b : Nat), BestS f.rs.length (fun s => f.can (diffN f.all s)) j b → ∀ E : Env, E.get 1 = .ptr H.length 0 → E.get 6 = I b → E.get 7 = I j →
    Option.map (finishC H.length) (execL cfg0 prog0 ⟨26, none, false, H.length⟩ (todoAt Tryz.f26 6) ⟨E, [], H ++ [.box (.agg [vw, I f.lo, I f.hi, vr])], none⟩) = some ⟨.ret (.tup [I (pop r), I r, I 0]), H, none⟩ := by
  intro q
  have s1 := hf.ws.scal
  have s2 := hf.rs.scal
  have h6 := ho.reads
  have h2 : (2 : Nat) ^ f.rs.length ≤ 2 ^ 6 := Nat.pow_le_pow_right (by omega) h6
  have h0 := Nat.two_pow_pos f.rs.length
  have ha := all_is f
  have hE := fun G : Heap => rf_every (hf.app G) ho
  induction q with
  | zero =>
    intro j hj b hb E g1 g6 g7
    have hk' : ¬ (j : Int) < ((2 ^ f.rs.length : Nat) : Int) := by omega
    have ej : j = 2 ^ f.rs.length := by omega
    rw [ej] at hb
    have hbr := hr b hb
    subst hbr
    simp only [loopIt, todoPast, todoAt, todoOf, firstReg, ↓reduceIte, Option.some.injEq, Nat.reduceEqDiff, reduceCtorEq, Tryz.f26]
    rw [execL_inLoop]
    have hle : ¬ (j : Int) ≤ ((f.all : Nat) : Int) := by omega
    have hlt := hb.lt
    have hS := fun G : Heap => rf_Size (s := b) (by omega) G
    simp (maxSteps := 1000000) (implicitDefEqProofs := false) (disch := first | rfl | omega | assumption) only [go_sem, g1, g6, g7, ltT, ltF, leT, leF, hk', s1, s2, hE, hle, hS]
    done
  | succ q ih =>
    intro j hj b hb E g1 g6 g7
    have hk' : (j : Int) < ((2 ^ f.rs.length : Nat) : Int) := by omega
    have hk2 : j < 2 ^ f.rs.length := by omega
    have hle : (j : Int) ≤ ((f.all : Nat) : Int) := by omega
    have hlt := hb.lt
    have hS1 := fun G : Heap => rf_Size (s := j) (by omega) G
    have hS2 := fun G : Heap => rf_Size (s := b) (by omega) G
    have hsub := sub_all f.rs.length (by omega) j hk2
    rw [← ha] at hsub
    have hdl : diffN f.all j < 2 ^ 6 := diffN_lt (by omega)
    have hT := fun G : Heap => rf_truths (hf.app G) ho (s := diffN f.all j) hdl
    have es : ((f.all : Nat) : Int) - (j : Int) = ((diffN f.all j : Nat) : Int) := by omega
    have lm : ((f.lens (diffN f.all j)).map I).length = (f.lens (diffN f.all j)).length := List.length_map _
    obtain ⟨q1, q2⟩ := can_len f (diffN f.all j)
    by_cases hp : pop j < pop b
    · have hpi : ((pop j : Nat) : Int) < ((pop b : Nat) : Int) := by omega
      cases hc : f.can (diffN f.all j)
      · rw [hc, decide_eq_false_iff_not] at q1
        have key := ih (j + 1) (by omega) b (best_no (by omega) hb hk2 (fun h => by simp only [hc] at h; exact absurd h.2 (by decide)))
        simp only [loopIt, todoPast, todoAt, todoOf, firstReg, ↓reduceIte, Option.some.injEq, Nat.reduceEqDiff, reduceCtorEq, Tryz.f26]
        rw [execL_inLoop]
        simp (maxSteps := 1000000) (implicitDefEqProofs := false) (disch := first | rfl | omega | assumption) only [go_sem, g1, g6, g7, ltT, ltF, leT, leF, hk', s1, s2, hE, hle]
        rw [chkK_of]; rotate_left; kernel_rfl
        simp (maxSteps := 1000000) (implicitDefEqProofs := false) (disch := first | rfl | omega | assumption) only [go_sem, g1, g6, g7, ltT, ltF, leT, leF, hk', s1, s2, hE, hS1, hS2, hpi, es, hT, lm, q1]
        exact key _ (by exact g1) (by exact g6) (by rfl)
      · rw [hc, decide_eq_true_eq] at q1
        have key := ih (j + 1) (by omega) j (best_yes hb hk2 hp hc)
        simp only [loopIt, todoPast, todoAt, todoOf, firstReg, ↓reduceIte, Option.some.injEq, Nat.reduceEqDiff, reduceCtorEq, Tryz.f26]
        rw [execL_inLoop]
        simp (maxSteps := 1000000) (implicitDefEqProofs := false) (disch := first | rfl | omega | assumption) only [go_sem, g1, g6, g7, ltT, ltF, leT, leF, hk', s1, s2, hE, hle]
        rw [chkK_of]; rotate_left; kernel_rfl
        simp (maxSteps := 1000000) (implicitDefEqProofs := false) (disch := first | rfl | omega | assumption) only [go_sem, g1, g6, g7, ltT, ltF, leT, leF, hk', s1, s2, hE, hS1, hS2, hpi, es, hT, lm, q1]
        exact key _ (by exact g1) (by rfl) (by rfl)
    · have hpi : ¬ ((pop j : Nat) : Int) < ((pop b : Nat) : Int) := by omega
      have key := ih (j + 1) (by omega) b (best_no (by omega) hb hk2 (fun h => hp h.1))
      simp only [loopIt, todoPast, todoAt, todoOf, firstReg, ↓reduceIte, Option.some.injEq, Nat.reduceEqDiff, reduceCtorEq, Tryz.f26]
      rw [execL_inLoop]
      simp (maxSteps := 1000000) (implicitDefEqProofs := false) (disch := first | rfl | omega | assumption) only [go_sem, g1, g6, g7, ltT, ltF, leT, leF, hk', s1, s2, hE, hle]
      rw [chkK_of]; rotate_left; kernel_rfl
      simp (maxSteps := 1000000) (implicitDefEqProofs := false) (disch := first | rfl | omega | assumption) only [go_sem, g1, g6, g7, ltT, ltF, leT, leF, hk', s1, s2, hS1, hS2, hpi]
      exact key _ (by exact g1) (by exact g6) (by rfl)

theorem best_all {f : Frg} {P : Nat → Bool} (h : P f.all = true) : BestS f.rs.length P 0 f.all := by
  have h0 := Nat.two_pow_pos f.rs.length
  have ha := all_is f
  exact ⟨by omega, h, Or.inl ha, fun y hy => by omega⟩

theorem rf_Wrong {f : Frg} {vw vr : AV} (hf : FrAt H f vw vr) (hl : f.ws.length ≤ 1000 ∧ f.rs.length ≤ 1000) :
    callFL cfg0 prog0 false 26 [.agg [vw, I f.lo, I f.hi, vr]] H none = some ⟨.ret (.tup [I f.wrong.1, I f.wrong.2.1, I f.wrong.2.2]), H, none⟩ := by
  have s1 := hf.ws.scal
  have s2 := hf.rs.scal
  have hK := fun G : Heap => rf_check (hf.app G) hl true
  simp only [Frg.chk, if_true] at hK
  cases hv : f.valid
  · have ht : f.wrong = (0, 0, 1) := by simp only [Frg.wrong, hv, Bool.false_eq_true, if_false]
    rw [ht]
    simp only [hv, Bool.false_eq_true, if_false] at hK
    refine (callFL_eq fn26 rfl (by simp [Tryz.f26])).trans ?_
    simp (maxSteps := 1000000) (implicitDefEqProofs := false) (disch := first | rfl | omega | assumption) only [go_sem, ltT, ltF, leT, leF, s1, s2, hK]
    done
  · have ho := f.valid_iff.1 hv
    simp only [hv, if_true] at hK
    have hE := fun G : Heap => rf_every (hf.app G) ho
    obtain ⟨o, o1, o2, o3, o4⟩ := wrong_is ho
    rw [o1]
    have h := rwr_loop hf ho o (fun b hb => best_is hb o2 o3 o4) (2 ^ f.rs.length) 0 (by omega) f.all (best_all (by
      have e : diffN f.all f.all = 0 := by simp [diffN]
      rw [e]; exact can_zero ho))
    refine (callFL_eq fn26 rfl (by simp [Tryz.f26])).trans ?_
    simp (maxSteps := 1000000) (implicitDefEqProofs := false) (disch := first | rfl | omega | assumption) only [go_sem, ltT, ltF, leT, leF, s1, s2, hK, hE]
    exact h _ (by rfl) (by rfl) (by rfl)

theorem rcl_loop {f : Frg} {vw vr : AV} (hf : FrAt H f vw vr) (ho : f.Ok) (r : Nat) (hr : ∀ b, BestS f.rs.length (fun s => !f.can s) (2 ^ f.rs.length) b → b = r) :
    ∀ (q j : Nat), j + q = 2 ^ f.rs.length → ∀ (b : Nat), BestS f.rs.length (fun s => !f.can s) j b → ∀ E : Env, E.get 1 = .ptr H.length 0 → E.get 5 = I b → E.get 6 = I j →
    Option.map (finishC H.length) (execL cfg0 prog0 ⟨28, none, false, H.length⟩ (todoAt Tryz.f28 8) ⟨E, [], H ++ [.box (.agg [vw, I f.lo, I f.hi, vr])], none⟩) = some ⟨.ret (.tup [I r, I 0]), H, none⟩ := by
  intro q
  have s1 := hf.ws.scal
  have s2 := hf.rs.scal
  have h6 := ho.reads
  have h2 : (2 : Nat) ^ f.rs.length ≤ 2 ^ 6 := Nat.pow_le_pow_right (by omega) h6
  have h0 := Nat.two_pow_pos f.rs.length
  have ha := all_is f
  have hE := fun G : Heap => rf_every (hf.app G) ho
  induction q with
  | zero =>
    intro j hj b hb E g1 g5 g6
    have hk' : ¬ (j : Int) < ((2 ^ f.rs.length : Nat) : Int) := by omega
    have ej : j = 2 ^ f.rs.length := by omega
    rw [ej] at hb
    have hbr := hr b hb
    subst hbr
    simp only [loopIt, todoPast, todoAt, todoOf, firstReg, ↓reduceIte, Option.some.injEq, Nat.reduceEqDiff, reduceCtorEq, Tryz.f28]
    rw [execL_inLoop]
    have hle : ¬ (j : Int) ≤ ((f.all : Nat) : Int) := by omega
    simp (maxSteps := 1000000) (implicitDefEqProofs := false) (disch := first | rfl | omega | assumption) only [go_sem, g1, g5, g6, ltT, ltF, leT, leF, hk', s1, s2, hE, hle]
    done
  | succ q ih =>
    intro j hj b hb E g1 g5 g6
    have hk' : (j : Int) < ((2 ^ f.rs.length : Nat) : Int) := by omega
    have hk2 : j < 2 ^ f.rs.length := by omega
    have hle : (j : Int) ≤ ((f.all : Nat) : Int) := by omega
    have hlt := hb.lt
    have hS1 := fun G : Heap => rf_Size (s := j) (by omega) G
    have hS2 := fun G : Heap => rf_Size (s := b) (by omega) G
    have hT := fun G : Heap => rf_truths (hf.app G) ho (s := j) (by omega)
    have lm : ((f.lens j).map I).length = (f.lens j).length := List.length_map _
    obtain ⟨q1, q2⟩ := can_len f j
    by_cases hp : pop j < pop b
    · have hpi : ((pop j : Nat) : Int) < ((pop b : Nat) : Int) := by omega
      cases hc : f.can j
      · rw [hc] at q2
        have key := ih (j + 1) (by omega) j (best_yes hb hk2 hp (by simp only [hc]; rfl))
        simp only [loopIt, todoPast, todoAt, todoOf, firstReg, ↓reduceIte, Option.some.injEq, Nat.reduceEqDiff, reduceCtorEq, Tryz.f28]
        rw [execL_inLoop]
        simp (maxSteps := 1000000) (implicitDefEqProofs := false) (disch := first | rfl | omega | assumption) only [go_sem, g1, g5, g6, ltT, ltF, leT, leF, hk', s1, s2, hE, hle, hS1, hS2, hpi, hT, lm, q2]
        exact key _ (by exact g1) (by rfl) (by rfl)
      · rw [hc] at q2
        have key := ih (j + 1) (by omega) b (best_no (by omega) hb hk2 (fun h => by simp only [hc] at h; exact absurd h.2 (by decide)))
        simp only [loopIt, todoPast, todoAt, todoOf, firstReg, ↓reduceIte, Option.some.injEq, Nat.reduceEqDiff, reduceCtorEq, Tryz.f28]
        rw [execL_inLoop]
        simp (maxSteps := 1000000) (implicitDefEqProofs := false) (disch := first | rfl | omega | assumption) only [go_sem, g1, g5, g6, ltT, ltF, leT, leF, hk', s1, s2, hE, hle, hS1, hS2, hpi, hT, lm, q2]
        exact key _ (by exact g1) (by exact g5) (by rfl)
    · have hpi : ¬ ((pop j : Nat) : Int) < ((pop b : Nat) : Int) := by omega
      have key := ih (j + 1) (by omega) b (best_no (by omega) hb hk2 (fun h => hp h.1))
      simp only [loopIt, todoPast, todoAt, todoOf, firstReg, ↓reduceIte, Option.some.injEq, Nat.reduceEqDiff, reduceCtorEq, Tryz.f28]
      rw [execL_inLoop]
      simp (maxSteps := 1000000) (implicitDefEqProofs := false) (disch := first | rfl | omega | assumption) only [go_sem, g1, g5, g6, ltT, ltF, leT, leF, hk', s1, s2, hE, hle, hS1, hS2, hpi]
      exact key _ (by exact g1) (by exact g5) (by rfl)

theorem rf_Clash {f : Frg} {vw vr : AV} (hf : FrAt H f vw vr) (hl : f.ws.length ≤ 1000 ∧ f.rs.length ≤ 1000) :
    callFL cfg0 prog0 false 28 [.agg [vw, I f.lo, I f.hi, vr]] H none = some ⟨.ret (.tup [I f.clash.1, I f.clash.2]), H, none⟩ := by
  have s1 := hf.ws.scal
  have s2 := hf.rs.scal
  have hK := fun G : Heap => rf_check (hf.app G) hl true
  simp only [Frg.chk, if_true] at hK
  cases hv : f.valid
  · have ht : f.clash = (0, 1) := by simp only [Frg.clash, hv, Bool.false_eq_true, if_false]
    rw [ht]
    simp only [hv, Bool.false_eq_true, if_false] at hK
    refine (callFL_eq fn28 rfl (by simp [Tryz.f28])).trans ?_
    simp (maxSteps := 1000000) (implicitDefEqProofs := false) (disch := first | rfl | omega | assumption) only [go_sem, ltT, ltF, leT, leF, s1, s2, hK]
    done
  · have ho := f.valid_iff.1 hv
    simp only [hv, if_true] at hK
    have hE := fun G : Heap => rf_every (hf.app G) ho
    have hT := fun G : Heap => rf_Truths (hf.app G) ho
    have lm : ((f.lens f.all).map I).length = (f.lens f.all).length := List.length_map _
    obtain ⟨q1, q2⟩ := can_len f f.all
    cases hc : f.can f.all
    · rw [hc, decide_eq_false_iff_not] at q1
      obtain ⟨x, x1, x2, x3, x4, x5⟩ := clash_is ho hc
      rw [x1]
      have h := rcl_loop hf ho x (fun b hb => best_is hb x2 (by simp only [x4]; rfl) (fun y hy hyc => x5 y hy (by simpa using hyc))) (2 ^ f.rs.length) 0 (by omega) f.all (best_all (by simp only [hc]; rfl))
      refine (callFL_eq fn28 rfl (by simp [Tryz.f28])).trans ?_
      simp (maxSteps := 1000000) (implicitDefEqProofs := false) (disch := first | rfl | omega | assumption) only [go_sem, ltT, ltF, leT, leF, s1, s2, hK, hE, hT, lm, q1]
      exact h _ (by rfl) (by rfl) (by rfl)
    · rw [hc, decide_eq_true_eq] at q1
      rw [clash_ok ho hc]
      refine (callFL_eq fn28 rfl (by simp [Tryz.f28])).trans ?_
      simp (maxSteps := 1000000) (implicitDefEqProofs := false) (disch := first | rfl | omega | assumption) only [go_sem, ltT, ltF, leT, leF, s1, s2, hK, hT, lm, q1]
      done

end Go.Ab
/-
  FringeTells, FringeSets.
-/
namespace Go.Ab
open Go.Proofs
set_option linter.unusedSimpArgs false
set_option linter.unusedVariables false
set_option maxRecDepth 100000
set_option maxHeartbeats 2000000

variable {H : Heap}

theorem law_long {f : Frg} {vw vr : AV} (h : FrAt H f vw vr) :
    callFL cfg0 prog0 false 5 [.agg [vw, I f.lo, I f.hi, vr]] H none = some ⟨.ret (.bool (decide (40 < f.ws.length ∨ 40 < f.rs.length))), H, none⟩ := by
  have s1 := h.ws.scal
  have s2 := h.rs.scal
  have n1 := h.ws.len
  have n2 := h.rs.len
  rw [List.length_map] at n1 n2
  by_cases c1 : (f.ws.length : Int) < f.rs.length
  · by_cases c2 : (40 : Int) < f.rs.length
    · have : decide (40 < f.ws.length ∨ 40 < f.rs.length) = true := decide_eq_true (by omega)
      rw [this]
      refine (callFL_eq fn5 rfl (by simp [Tryz.f5])).trans ?_
      simp (maxSteps := 1000000) (implicitDefEqProofs := false) (disch := first | rfl | omega | assumption) only [go_sem, ltT, ltF, leT, leF, s1, s2, n1, n2, c1, c2]
      done
    · have : decide (40 < f.ws.length ∨ 40 < f.rs.length) = false := decide_eq_false (by omega)
      rw [this]
      refine (callFL_eq fn5 rfl (by simp [Tryz.f5])).trans ?_
      simp (maxSteps := 1000000) (implicitDefEqProofs := false) (disch := first | rfl | omega | assumption) only [go_sem, ltT, ltF, leT, leF, s1, s2, n1, n2, c1, c2]
      done
  · by_cases c2 : (40 : Int) < f.ws.length
    · have : decide (40 < f.ws.length ∨ 40 < f.rs.length) = true := decide_eq_true (by omega)
      rw [this]
      refine (callFL_eq fn5 rfl (by simp [Tryz.f5])).trans ?_
      simp (maxSteps := 1000000) (implicitDefEqProofs := false) (disch := first | rfl | omega | assumption) only [go_sem, ltT, ltF, leT, leF, s1, s2, n1, n2, c1, c2]
      done
    · have : decide (40 < f.ws.length ∨ 40 < f.rs.length) = false := decide_eq_false (by omega)
      rw [this]
      refine (callFL_eq fn5 rfl (by simp [Tryz.f5])).trans ?_
      simp (maxSteps := 1000000) (implicitDefEqProofs := false) (disch := first | rfl | omega | assumption) only [go_sem, ltT, ltF, leT, leF, s1, s2, n1, n2, c1, c2]
      done

theorem law_FringeSets {f : Frg} {vw vr : AV} (hf : FrAt H f vw vr) :
    callFL cfg0 prog0 false 4 [.agg [vw, I f.lo, I f.hi, vr]] H none = some ⟨.ret (.bool true), H, none⟩ := by
  have s1 := hf.ws.scal
  have s2 := hf.rs.scal
  have hk' : True := trivial
  have hL := law_long (hf.app [.box (.agg [vw, I f.lo, I f.hi, vr])])
  have hA := fun G : Heap => law_alive G
  by_cases hlg : 40 < f.ws.length ∨ 40 < f.rs.length
  · rw [decide_eq_true hlg] at hL
    refine (callFL_eq fn4 rfl (by simp [Tryz.f4])).trans ?_
    simp (maxSteps := 1000000) (implicitDefEqProofs := false) (disch := first | rfl | omega | assumption) only [go_sem, ltT, ltF, leT, leF, s1, s2, hL, hA]
    done
  rw [decide_eq_false hlg] at hL
  have hl : f.ws.length ≤ 1000 ∧ f.rs.length ≤ 1000 := by omega
  have hf' := hf.app [.box (.agg [vw, I f.lo, I f.hi, vr])]
  have a1 := fr_Ask hf' hl
  have a2 := rf_Ask hf' hl
  have b1 := fr_Wrong hf' hl
  have b2 := rf_Wrong hf' hl
  have c1 := fr_Clash hf' hl
  have c2 := rf_Clash hf' hl
  have hii : ∀ x : Int, (x == x) = true := fun x => by simp
  refine (callFL_eq fn4 rfl (by simp [Tryz.f4])).trans ?_
  simp (maxSteps := 1000000) (implicitDefEqProofs := false) (disch := first | rfl | omega | assumption) only [go_sem, ltT, ltF, leT, leF, s1, s2, hL, hA, a1, a2, b1, b2, c1, c2, hii]
  done

end Go.Ab
