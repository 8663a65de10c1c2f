/-
  The reference, walked: can, Count, Hope, Best.
-/
import Derived.Test.YteeefmibaggekaaKK5
import Derived.Test.YteeefmibaggekaaKK3
namespace Go.Ab
open Go.Proofs
set_option linter.unusedSimpArgs false
set_option linter.unusedVariables false
set_option maxRecDepth 100000
set_option maxHeartbeats 2000000

variable {H : Heap}


theorem stks_len {w : Wg} (ho : w.Ok) (b : Bool) {s : Nat} (hs : s < 2 ^ w.bs.length) : ((w.stks b s).length : Int) = (w.tal b ⟨s, pc0, false⟩).1 := by
  have hk := start_ok hs
  have h1 := (tal_ext w b (cnt s) ⟨s, pc0, false⟩).len
  rw [tal_fuel ho b (cnt s) 6 ⟨s, pc0, false⟩ hk (Nat.le_refl _) (cnt_le (hk.lt64 ho))] at h1
  exact h1.symm

theorem stks_le {w : Wg} (ho : w.Ok) (b : Bool) {s : Nat} (hs : s < 2 ^ w.bs.length) : (w.stks b s).length ≤ 1000000 := by
  have h1 := stks_len ho b hs
  have h2 := (tal_bd ho b (start_ok hs)).2.1
  have h3 := cnt_le ((start_ok hs).lt64 ho)
  have h4 : ((10 ^ cnt s : Nat) : Int) ≤ 1000000 := by
    have : 10 ^ cnt s ≤ 10 ^ 6 := Nat.pow_le_pow_right (by omega) h3
    omega
  simp only at h2
  omega

theorem mem_stks {w : Wg} (ho : w.Ok) {b : Bool} {s : Nat} (hs : s < 2 ^ w.bs.length) (h0 : s ≠ 0) (l : List Pc) : l ∈ w.stks b s ↔ w.stk l = true ∧ w.hld b l = true ∧ w.setOf s l := by
  rw [Wg.stks, mem_ext ho b (cnt s) ⟨s, pc0, false⟩ l (start_ok hs) (Nat.le_refl _), goes_set ho hs]
  constructor
  · rintro (⟨_, h⟩ | h)
    · exact absurd h h0
    · exact h
  · exact .inr

theorem full_pos {w : Wg} (ho : w.Ok) : 2 ^ w.bs.length - 1 ≠ 0 := by
  have h1 := ho.n.1
  simp only [Wg.n] at h1
  have : 2 ^ 1 ≤ 2 ^ w.bs.length := Nat.pow_le_pow_right (by omega) h1
  omega

theorem ref_can {w : Wg} {vb va : AV} (h : WgAt H w vb va) (ho : w.Ok) {s : Nat} (hs : s < 2 ^ w.bs.length) (h0 : s ≠ 0) :
    callFL cfg0 prog0 false 76 [.agg [vb, va], I s] H none = some ⟨.ret (.bool (w.canS s)), H, none⟩ := by
  have s1 := h.bs.scal
  have s2 := h.ps.scal
  have hS := fun G : Heap => ref_stacks (h.app G) ho false hs h0 (stks_le ho false hs)
  have hc : ((w.stks false s).map stA).all (fun v => v.cells.length == 1) = true := by simp [stA, AV.cells]
  have e : decide ((((w.stks false s).length : Nat) : Int) > 0) = w.canS s := by
    rw [stks_len ho false hs]; rfl
  have hl : (((w.stks false s).map stA).length : Int) = ((w.stks false s).length : Nat) := by rw [List.length_map]
  refine (callFL_eq fn76 rfl (by simp [Try.f76])).trans ?_
  simp (maxSteps := 1000000) (implicitDefEqProofs := false) (disch := first | rfl | omega | assumption) only [go_sem, s1, s2, hS, hc, hl, e]
  done

theorem ref_Count {w : Wg} {vb va : AV} (h : WgAt H w vb va) (hl : w.bs.length ≤ 1000 ∧ w.ps.length ≤ 1000) :
    callFL cfg0 prog0 false 22 [.agg [vb, va]] H none = some ⟨.ret (.tup [I w.count.1, I w.count.2]), H, none⟩ := by
  have s1 := h.bs.scal
  have s2 := h.ps.scal
  have hC := fun G : Heap => ref_check (h.app G) hl true
  simp only [Wg.count]
  cases hv : w.valid
  · simp only [hv, Bool.false_eq_true, if_false] at hC ⊢
    refine (callFL_eq fn22 rfl (by simp [Try.f22])).trans ?_
    simp (maxSteps := 1000000) (implicitDefEqProofs := false) (disch := first | rfl | omega | assumption) only [go_sem, ltT, ltF, leT, leF, s1, s2, hC]
    done
  · have ho := (Wg.valid_iff w).1 hv
    simp only [hv, if_true] at hC ⊢
    have hA := fun G : Heap => ref_all (h.app G) ho.n.2
    have hS := fun G : Heap => ref_stacks (h.app G) ho false (full_lt w) (full_pos ho) (stks_le ho false (full_lt w))
    have hl : (((w.stks false (2 ^ w.bs.length - 1)).length : Nat) : Int) = (w.tal false w.full).1 := stks_len ho false (full_lt w)
    refine (callFL_eq fn22 rfl (by simp [Try.f22])).trans ?_
    simp (maxSteps := 1000000) (implicitDefEqProofs := false) (disch := first | rfl | omega | assumption) only [go_sem, ltT, ltF, leT, leF, s1, s2, hC]
    rw [chkK_of]; rotate_left; kernel_rfl
    simp (maxSteps := 1000000) (implicitDefEqProofs := false) (disch := first | rfl | omega | assumption) only [go_sem, ltT, ltF, leT, leF, s1, s2, hC, hA, hS, hl]
    done

theorem ref_Hope {w : Wg} {vb va : AV} (h : WgAt H w vb va) (hl : w.bs.length ≤ 1000 ∧ w.ps.length ≤ 1000) :
    callFL cfg0 prog0 false 26 [.agg [vb, va]] H none = some ⟨.ret (.tup [I w.hope.1, I w.hope.2]), H, none⟩ := by
  have s1 := h.bs.scal
  have s2 := h.ps.scal
  have hC := fun G : Heap => ref_check (h.app G) hl true
  simp only [Wg.hope]
  cases hv : w.valid
  · simp only [hv, Bool.false_eq_true, if_false] at hC ⊢
    refine (callFL_eq fn26 rfl (by simp [Try.f26])).trans ?_
    simp (maxSteps := 1000000) (implicitDefEqProofs := false) (disch := first | rfl | omega | assumption) only [go_sem, ltT, ltF, leT, leF, s1, s2, hC]
    done
  · have ho := (Wg.valid_iff w).1 hv
    simp only [hv, if_true] at hC ⊢
    have hA := fun G : Heap => ref_all (h.app G) ho.n.2
    have hK := fun G : Heap => ref_can (h.app G) ho (full_lt w) (full_pos ho)
    have hKe : w.canS (2 ^ w.bs.length - 1) = w.can false := rfl
    have hS := fun G : Heap => ref_stacks (h.app G) ho true (full_lt w) (full_pos ho) (stks_le ho true (full_lt w))
    have hl : (((w.stks true (2 ^ w.bs.length - 1)).length : Nat) : Int) = (w.tal true w.full).1 := stks_len ho true (full_lt w)
    have hge := (tal_bd ho true (full_ok w)).1
    rw [hKe] at hK
    cases c1 : w.can false
    · simp only [c1, Bool.false_eq_true, if_false] at hK ⊢
      have e : (((w.tal true w.full).1 == 0) : Bool) = !w.can true := by
        simp only [Wg.can]
        by_cases h0 : (w.tal true w.full).1 = 0
        · simp [h0]
        · have : 0 < (w.tal true w.full).1 := by omega
          simp [h0, this]
      cases c2 : w.can true
      · simp only [c2, Bool.false_eq_true, if_false, Bool.not_false] at e ⊢
        refine (callFL_eq fn26 rfl (by simp [Try.f26])).trans ?_
        simp (maxSteps := 1000000) (implicitDefEqProofs := false) (disch := first | rfl | omega | assumption) only [go_sem, ltT, ltF, leT, leF, s1, s2, hC]
        rw [chkK_of]; rotate_left; kernel_rfl
        simp (maxSteps := 1000000) (implicitDefEqProofs := false) (disch := first | rfl | omega | assumption) only [go_sem, ltT, ltF, leT, leF, s1, s2, hC, hA, hK]
        rw [chkK_of]; rotate_left; kernel_rfl
        simp (maxSteps := 1000000) (implicitDefEqProofs := false) (disch := first | rfl | omega | assumption) only [go_sem, ltT, ltF, leT, leF, s1, s2, hC, hA, hK, hS, hl, e]
        done
      · simp only [c2, if_true, Bool.not_true] at e ⊢
        refine (callFL_eq fn26 rfl (by simp [Try.f26])).trans ?_
        simp (maxSteps := 1000000) (implicitDefEqProofs := false) (disch := first | rfl | omega | assumption) only [go_sem, ltT, ltF, leT, leF, s1, s2, hC]
        rw [chkK_of]; rotate_left; kernel_rfl
        simp (maxSteps := 1000000) (implicitDefEqProofs := false) (disch := first | rfl | omega | assumption) only [go_sem, ltT, ltF, leT, leF, s1, s2, hC, hA, hK]
        rw [chkK_of]; rotate_left; kernel_rfl
        simp (maxSteps := 1000000) (implicitDefEqProofs := false) (disch := first | rfl | omega | assumption) only [go_sem, ltT, ltF, leT, leF, s1, s2, hC, hA, hK, hS, hl, e]
        done
    · simp only [c1, if_true] at hK ⊢
      refine (callFL_eq fn26 rfl (by simp [Try.f26])).trans ?_
      simp (maxSteps := 1000000) (implicitDefEqProofs := false) (disch := first | rfl | omega | assumption) only [go_sem, ltT, ltF, leT, leF, s1, s2, hC]
      rw [chkK_of]; rotate_left; kernel_rfl
      simp (maxSteps := 1000000) (implicitDefEqProofs := false) (disch := first | rfl | omega | assumption) only [go_sem, ltT, ltF, leT, leF, s1, s2, hC, hA, hK]
      done

def minF (f : List Pc → Int) (L : List (List Pc)) (m : List Pc) (j q : Nat) : List Pc := foldF (fun m i => if f (L.getD i []) < f m then L.getD i [] else m) m j q

theorem minF_le (f : List Pc → Int) (L : List (List Pc)) (t : Int) (r : List Pc) : ∀ (q j : Nat) (m : List Pc), j + q = L.length → (∀ l ∈ L, t ≤ f l) → t ≤ f m → (f m = t ∧ r = m) ∨ (f m ≠ t ∧ (L.drop j).find? (fun l => f l == t) = some r) → minF f L m j q = r
  | 0, j, m, hj, hL, hm, h => by
    rcases h with ⟨_, rfl⟩ | ⟨h1, h2⟩
    · rfl
    · rw [List.drop_eq_nil_of_le (by omega)] at h2; cases h2
  | q + 1, j, m, hj, hL, hm, h => by
    have hjl : j < L.length := by omega
    have hg : L.getD j [] = L[j] := by simp [hjl]
    have hx := hL _ (List.getElem_mem hjl)
    have e : minF f L m j (q + 1) = minF f L (if f L[j] < f m then L[j] else m) (j + 1) q := by simp only [minF, foldF, hg]
    rw [e]
    refine minF_le f L t r q (j + 1) _ (by omega) hL (by split <;> assumption) ?_
    rcases h with ⟨h1, rfl⟩ | ⟨h1, h2⟩
    · rw [if_neg (by omega)]
      exact .inl ⟨h1, rfl⟩
    · rw [List.drop_eq_getElem_cons hjl, List.find?_cons] at h2
      cases hc : f L[j] == t
      · rw [hc] at h2
        have hne : f L[j] ≠ t := by simpa using hc
        refine .inr ⟨?_, h2⟩
        split <;> assumption
      · rw [hc] at h2
        cases h2
        have he : f L[j] = t := by simpa using hc
        rw [if_pos (by omega)]
        exact .inl ⟨he, rfl⟩

theorem minF_best {w : Wg} (ho : w.Ok) (ht : 0 < (w.tal false w.full).1) : minF (fun l => (w.flm l).2) (w.stks false (2 ^ w.bs.length - 1)) ((w.stks false (2 ^ w.bs.length - 1)).getD 0 []) 0 (w.stks false (2 ^ w.bs.length - 1)).length = w.bestL w.bs.length w.full ∧ (w.flm (w.bestL w.bs.length w.full)).2 = (w.tal false w.full).2 := by
  have hcf : cnt (2 ^ w.bs.length - 1) = w.bs.length := cnt_full ho.n.2
  have hfind := bestL_find ho (cnt (2 ^ w.bs.length - 1)) w.bs.length w.full (full_ok w) hcf (by omega) ht
  have hf : ∀ l, w.fmL w.full l = (w.flm l).2 := fun l => (flm_fm w _ _ l).symm
  simp only [hf] at hfind
  have hleast := (tal_least ho (b := false) (full_ok w)).2.1
  have hm : ∀ l, l ∈ w.stks false (2 ^ w.bs.length - 1) ↔ w.goes false w.full l := fun l => mem_ext ho false _ w.full l (full_ok w) (Nat.le_refl _)
  have hge : ∀ l ∈ w.stks false (2 ^ w.bs.length - 1), (w.tal false w.full).2 ≤ (w.flm l).2 := fun l hl => by
    rw [← hf]; exact (hleast l ((hm l).1 hl)).2
  have hfind' : (w.stks false (2 ^ w.bs.length - 1)).find? (fun l => (w.flm l).2 == (w.tal false w.full).2) = some (w.bestL w.bs.length w.full) := hfind
  refine ⟨?_, by have := List.find?_some hfind'; simpa using this⟩
  have hpos : 0 < (w.stks false (2 ^ w.bs.length - 1)).length := by
    have := stks_len ho false (full_lt w)
    have e : (w.tal false ⟨2 ^ w.bs.length - 1, pc0, false⟩).1 = (w.tal false w.full).1 := rfl
    omega
  generalize w.stks false (2 ^ w.bs.length - 1) = L at *
  have hg : L.getD 0 [] = L[0] := by simp [hpos]
  have h0 := hge _ (List.getElem_mem hpos)
  refine minF_le _ L (w.tal false w.full).2 _ L.length 0 _ (by omega) hge (by rw [hg]; exact h0) ?_
  rw [hg, List.drop_zero]
  by_cases he : (w.flm L[0]).2 = (w.tal false w.full).2
  · refine .inl ⟨he, ?_⟩
    have : L = L[0] :: L.drop 1 := by rw [← List.drop_eq_getElem_cons hpos, List.drop_zero]
    rw [this, List.find?_cons] at hfind'
    have hb : ((w.flm L[0]).2 == (w.tal false w.full).2) = true := by simpa using he
    rw [hb] at hfind'
    simpa using hfind'.symm
  · exact .inr ⟨he, hfind'⟩

theorem stk_len {w : Wg} (ho : w.Ok) {l : List Pc} (h : w.stk l = true) : l.length ≤ w.bs.length := by
  obtain ⟨_, h1, h2⟩ := stk_iff.1 h
  have key : ∀ (n : Nat) (m : List Int), m.Nodup → (∀ x ∈ m, 0 ≤ x ∧ x < (n : Int)) → m.length ≤ n := by
    intro n
    induction n with
    | zero =>
      intro m _ hm
      cases m with
      | nil => simp
      | cons a r => have := hm a (List.mem_cons_self ..); omega
    | succ n ih =>
      intro m hn hm
      have h1 := ih (m.erase (n : Int)) (hn.erase _) (fun x hx => by
        have hx' := (hn.mem_erase_iff).1 hx
        have := hm x hx'.2
        have := hx'.1
        omega)
      have := List.length_erase_le (a := (n : Int)) (l := m)
      by_cases hmem : (n : Int) ∈ m
      · rw [List.length_erase_of_mem hmem] at h1; omega
      · rw [List.erase_of_not_mem hmem] at h1; omega
  have := key w.bs.length (l.map Pc.b) h2 (fun x hx => by
    obtain ⟨y, hy, rfl⟩ := List.mem_map.1 hx
    have := h1 y hy
    exact ⟨this.1, this.2.1⟩)
  rwa [List.length_map] at this

theorem rb_loop {w : Wg} {vb va : AV} (h : WgAt H w vb va) (ho : w.Ok) {L : List (List Pc)} (hL : ∀ l ∈ L, w.poks l ∧ l.length ≤ 1000) (hLl : L.length ≤ 1000000) (r : List Pc) :
    ∀ (q j : Nat), j + q = L.length → ∀ (m : List Pc), w.poks m ∧ m.length ≤ 1000 → minF (fun l => (w.flm l).2) L m j q = r → ∀ E : Env, E.get 1 = .ptr H.length 0 → E.get 6 = .sl false (L.map stA) → E.get 7 = .sl false (m.map Pc.av) → E.get 8 = I j →
    Option.map (finishC H.length) (execL cfg0 prog0 ⟨24, none, false, H.length⟩ (todoAt Try.f24 9) ⟨E, [], H ++ [.box (.agg [vb, va])], none⟩) = some ⟨.ret (.tup [I (w.flm r).2, .sl false (r.map Pc.av), I 0]), H, none⟩ := by
  intro q
  have hsL : SlOk H 1 (.sl false (L.map stA)) (L.map stA) := ⟨rfl, fun x hx => by obtain ⟨i, _, rfl⟩ := List.mem_map.1 hx; rfl⟩
  obtain ⟨a1, a2, a3, a4, a5⟩ := hsL.fF (d := [])
  have s1 := h.bs.scal
  have s2 := h.ps.scal
  have n0 : (L.map stA).length = L.length := List.length_map _
  have c0 : ((L.map stA).all fun v => v.cells.length == 1) = true := by simp [stA, AV.cells]
  induction q with
  | zero =>
    intro j hj m hm hr E g1 g6 g7 g8
    have hk' : ¬ (j : Int) < ((L.length : Nat) : Int) := by omega
    simp only [minF, foldF] at hr
    subst hr
    simp only [loopIt, todoPast, todoAt, todoOf, firstReg, ↓reduceIte, Option.some.injEq, Nat.reduceEqDiff, reduceCtorEq, Try.f24]
    rw [execL_inLoop]
    have hF := fun G : Heap => ref_Film (h.app G) ho (slP (H := H ++ G) (b := false) m) hm.2 hm.1
    simp only [spA] at hF
    simp (maxSteps := 1000000) (implicitDefEqProofs := false) (disch := first | rfl | omega | assumption) only [go_sem, g1, g6, g7, g8, ltT, ltF, leT, leF, hk', s1, s2, n0, c0, hF]
    done
  | succ q ih =>
    intro j hj m hm hr E g1 g6 g7 g8
    have hk' : (j : Int) < ((L.length : Nat) : Int) := by omega
    have hk2 : j < L.length := by omega
    have hjm : L.getD j [] ∈ L := by
      have : L.getD j [] = L[j] := by simp [show j < L.length by omega]
      rw [this]; exact List.getElem_mem _
    obtain ⟨hx1, hx2⟩ := hL _ hjm
    have hF := fun G : Heap => ref_Film (h.app G) ho (slP (H := H ++ G) (b := false) m) hm.2 hm.1
    have hG := fun G : Heap => ref_Film (h.app G) ho (slP (H := H ++ G) (b := false) (L.getD j [])) hx2 hx1
    have hu : minF (fun l => (w.flm l).2) L m j (q + 1) = minF (fun l => (w.flm l).2) L (if (w.flm (L.getD j [])).2 < (w.flm m).2 then L.getD j [] else m) (j + 1) q := rfl
    rw [hu] at hr
    have hrd : ∀ x : List Pc, (stA x).cells[0]? = some (.sl false (x.map Pc.av)) := fun _ => rfl
    simp only [spA] at hF hG
    obtain ⟨x, hxx⟩ : ∃ x, L.getD j [] = x := ⟨_, rfl⟩
    rw [hxx] at hx1 hx2 hG hr
    by_cases c : (w.flm x).2 < (w.flm m).2
    · rw [if_pos c] at hr
      simp only [loopIt, todoPast, todoAt, todoOf, firstReg, ↓reduceIte, Option.some.injEq, Nat.reduceEqDiff, reduceCtorEq, Try.f24]
      rw [execL_inLoop]
      simp (maxSteps := 1000000) (implicitDefEqProofs := false) (disch := first | rfl | omega | assumption) only [go_sem, g1, g6, g7, g8, ltT, ltF, leT, leF, hk', s1, s2, n0, c0]
      rw [chkK_of]; rotate_left; kernel_rfl
      simp (maxSteps := 1000000) (implicitDefEqProofs := false) (disch := first | rfl | omega | assumption) only [go_sem, g1, g6, g7, g8, ltT, ltF, leT, leF, hk', s1, s2, n0, c0, a1, a2, a3, a4, a5, hrd, hxx, hF, hG, c]
      exact ih (j + 1) (by omega) x ⟨hx1, hx2⟩ hr _ (by exact g1) (by exact g6) (by rfl) (by rfl)
    · rw [if_neg c] at hr
      simp only [loopIt, todoPast, todoAt, todoOf, firstReg, ↓reduceIte, Option.some.injEq, Nat.reduceEqDiff, reduceCtorEq, Try.f24]
      rw [execL_inLoop]
      simp (maxSteps := 1000000) (implicitDefEqProofs := false) (disch := first | rfl | omega | assumption) only [go_sem, g1, g6, g7, g8, ltT, ltF, leT, leF, hk', s1, s2, n0, c0]
      rw [chkK_of]; rotate_left; kernel_rfl
      simp (maxSteps := 1000000) (implicitDefEqProofs := false) (disch := first | rfl | omega | assumption) only [go_sem, g1, g6, g7, g8, ltT, ltF, leT, leF, hk', s1, s2, n0, c0, a1, a2, a3, a4, a5, hrd, hxx, hF, hG, c]
      exact ih (j + 1) (by omega) m hm hr _ (by exact g1) (by exact g6) (by exact g7) (by rfl)

theorem stks_ok {w : Wg} (ho : w.Ok) (b : Bool) {s : Nat} (hs : s < 2 ^ w.bs.length) (h0 : s ≠ 0) : ∀ l ∈ w.stks b s, w.poks l ∧ l.length ≤ 1000 := by
  intro l hl
  have h1 := (mem_stks ho hs h0 l).1 hl
  refine ⟨(stk_pok h1.1).1, ?_⟩
  have h5 := ho.n.2
  simp only [Wg.n] at h5
  have := stk_len ho h1.1
  omega

theorem ref_Best {w : Wg} {vb va : AV} (h : WgAt H w vb va) (hl : w.bs.length ≤ 1000 ∧ w.ps.length ≤ 1000) :
    callFL cfg0 prog0 false 24 [.agg [vb, va]] H none = some ⟨.ret (.tup [I w.best.1, plA w.best.2.1, I w.best.2.2]), H, none⟩ := by
  have s1 := h.bs.scal
  have s2 := h.ps.scal
  have hC := fun G : Heap => ref_check (h.app G) hl true
  simp only [Wg.best]
  cases hv : w.valid
  · simp only [hv, Bool.false_eq_true, if_false, plA] at hC ⊢
    refine (callFL_eq fn24 rfl (by simp [Try.f24])).trans ?_
    simp (maxSteps := 1000000) (implicitDefEqProofs := false) (disch := first | rfl | omega | assumption) only [go_sem, ltT, ltF, leT, leF, s1, s2, hC]
    done
  have ho := (Wg.valid_iff w).1 hv
  simp only [hv, if_true] at hC ⊢
  have hA := fun G : Heap => ref_all (h.app G) ho.n.2
  have hS := fun G : Heap => ref_stacks (h.app G) ho false (full_lt w) (full_pos ho) (stks_le ho false (full_lt w))
  have hl : (((w.stks false (2 ^ w.bs.length - 1)).length : Nat) : Int) = (w.tal false w.full).1 := stks_len ho false (full_lt w)
  have hok := stks_ok ho false (full_lt w) (full_pos ho)
  have hLl := stks_le ho false (full_lt w)
  have hge := (tal_bd ho false (full_ok w)).1
  by_cases ht : 0 < (w.tal false w.full).1
  · obtain ⟨b1, b2⟩ := minF_best ho ht
    rw [← b2]
    generalize w.stks false (2 ^ w.bs.length - 1) = L at *
    have hp : 0 < L.length := by omega
    have hne : ((L.length : Int) == 0) = false := by simpa using (by omega : ¬ (L.length : Int) = 0)
    obtain ⟨x, hxx⟩ : ∃ x, L.getD 0 [] = x := ⟨_, rfl⟩
    have hx : x ∈ L := by
      have : L.getD 0 [] = L[0] := by simp [hp]
      rw [← hxx, this]; exact List.getElem_mem _
    rw [hxx] at b1
    have h1 := rb_loop h ho hok hLl (w.bestL w.bs.length w.full) L.length 0 (by omega) x (hok x hx) b1
    have hsL : SlOk (H ++ [.box (.agg [vb, va])]) 1 (.sl false (L.map stA)) (L.map stA) := ⟨rfl, fun x hx => by obtain ⟨i, _, rfl⟩ := List.mem_map.1 hx; rfl⟩
    obtain ⟨a1, a2, a3, a4, a5⟩ := hsL.fF (d := [])
    have n0 : (L.map stA).length = L.length := List.length_map _
    have c0 : ((L.map stA).all fun v => v.cells.length == 1) = true := by simp [stA, AV.cells]
    have hrd : ∀ x : List Pc, (stA x).cells[0]? = some (.sl false (x.map Pc.av)) := fun _ => rfl
    have hpi : (0 : Int) < (L.length : Int) := by omega
    simp only [if_pos ht, plA]
    refine (callFL_eq fn24 rfl (by simp [Try.f24])).trans ?_
    simp (maxSteps := 1000000) (implicitDefEqProofs := false) (disch := first | rfl | omega | assumption) only [go_sem, ltT, ltF, leT, leF, s1, s2, hC]
    rw [chkK_of]; rotate_left; kernel_rfl
    simp (maxSteps := 1000000) (implicitDefEqProofs := false) (disch := first | rfl | omega | assumption) only [go_sem, ltT, ltF, leT, leF, s1, s2, hC, hA, hS, n0, c0, hne, hpi, a1, a2, a3, a4, a5, hrd, hxx]
    exact h1 _ (by rfl) (by rfl) (by rfl) (by rfl)
  · have hz : (w.tal false w.full).1 = 0 := by omega
    rw [hz] at hl
    simp only [if_neg ht, plA]
    have c0 : (((w.stks false (2 ^ w.bs.length - 1)).map stA).all fun v => v.cells.length == 1) = true := by simp [stA, AV.cells]
    refine (callFL_eq fn24 rfl (by simp [Try.f24])).trans ?_
    simp (maxSteps := 1000000) (implicitDefEqProofs := false) (disch := first | rfl | omega | assumption) only [go_sem, ltT, ltF, leT, leF, s1, s2, hC]
    rw [chkK_of]; rotate_left; kernel_rfl
    simp (maxSteps := 1000000) (implicitDefEqProofs := false) (disch := first | rfl | omega | assumption) only [go_sem, ltT, ltF, leT, leF, s1, s2, hC, hA, hS, hl, c0]
    done

end Go.Ab
/-
  Polish.
-/
namespace Go.Ab
open Go.Proofs
set_option linter.unusedSimpArgs false
set_option linter.unusedVariables false
set_option maxRecDepth 100000
set_option maxHeartbeats 2000000

variable {H : Heap}


def z0 (b : Bk) : Bk := ⟨b.lo, b.hi, ⟨b.f0.lo, b.f0.hi, 0⟩, b.f1⟩
def z1 (b : Bk) : Bk := ⟨b.lo, b.hi, b.f0, ⟨b.f1.lo, b.f1.hi, 0⟩⟩
/-- A block with the faces of a set polished. -/
def polB (s i : Nat) (b : Bk) : Bk := if s.testBit (2 * i + 1) then z1 (if s.testBit (2 * i) then z0 b else b) else if s.testBit (2 * i) then z0 b else b
def polS (s : Nat) (L : List Bk) (i : Nat) : List Bk := L.set i (polB s i (L.getD i bk0))
def polL (s : Nat) (L : List Bk) : List Bk := foldF (polS s) L 0 L.length

theorem st_4 {n b : Nat} {o0 o1 : AO} {z : Option Value} {M : List Bk} {j : Nat} (hM : M.length = n) (hj : j < n) : evStore b (H ++ [o0, o1, .grow 8 (M.map Bk.av)]) ⟨.int .i64, 1, 8, z⟩ (elA (.gsl (H.length + 2) n) (j : Int) 4) (.int .i64 0) = some (H ++ [o0, o1, .grow 8 ((M.set j (z0 (M.getD j bk0))).map Bk.av)]) := by
  subst hM
  have h1 : (M.map Bk.av)[j]? = some (M.getD j bk0).av := by simp [hj]
  have h2 : (H ++ [o0, o1, .grow 8 (M.map Bk.av)])[H.length + 2]? = some (.grow 8 (M.map Bk.av)) := by rw [get_at']; rfl
  simp only [elA, Int.toNat_natCast, evStore, h2, List.length_map, h1, Bk.av]
  simp [AV.lt, writePart, allScalar, AV.cells, AV.scalar, splice, AV.withCells, List.map_set, z0, set_at', Bk.av]

theorem st_7 {n b : Nat} {o0 o1 : AO} {z : Option Value} {M : List Bk} {j : Nat} (hM : M.length = n) (hj : j < n) : evStore b (H ++ [o0, o1, .grow 8 (M.map Bk.av)]) ⟨.int .i64, 1, 8, z⟩ (elA (.gsl (H.length + 2) n) (j : Int) 7) (.int .i64 0) = some (H ++ [o0, o1, .grow 8 ((M.set j (z1 (M.getD j bk0))).map Bk.av)]) := by
  subst hM
  have h1 : (M.map Bk.av)[j]? = some (M.getD j bk0).av := by simp [hj]
  have h2 : (H ++ [o0, o1, .grow 8 (M.map Bk.av)])[H.length + 2]? = some (.grow 8 (M.map Bk.av)) := by rw [get_at']; rfl
  simp only [elA, Int.toNat_natCast, evStore, h2, List.length_map, h1, Bk.av]
  simp [AV.lt, writePart, allScalar, AV.cells, AV.scalar, splice, AV.withCells, List.map_set, z1, set_at', Bk.av]

theorem polS_len (s : Nat) (L : List Bk) (i : Nat) : (polS s L i).length = L.length := by simp [polS]
theorem set_self' (L : List Bk) (j : Nat) : L.set j (L.getD j bk0) = L := by
  apply List.ext_getElem?
  intro i
  rw [List.getElem?_set]
  by_cases h : j = i
  · subst h
    by_cases h2 : j < L.length
    · simp [h2]
    · simp [h2]
  · simp [h]
theorem getD_set (L : List Bk) {j : Nat} (h : j < L.length) (x : Bk) : (L.set j x).getD j bk0 = x := by simp [h]

theorem pol_loop {va vb : AV} (s1 : vb.scalar = true) (s2 : va.scalar = true) (tv : va.lt H.length = true) (hsv : ∀ A : Heap, sealG A H.length va = va) (s : Nat) (hs : s < 1024) (n : Nat) (hn : n ≤ 5) (r : List Bk) :
    ∀ (q j : Nat), j + q = n → ∀ (L : List Bk), L.length = n → foldF (polS s) L j q = r → ∀ E : Env, E.get 1 = U s → E.get 2 = .ptr H.length 0 → E.get 4 = .ptr (H.length + 1) 0 → E.get 5 = .gsl (H.length + 2) n → E.get 17 = I n → E.get 18 = I j →
    Option.map (finishC H.length) (execL cfg0 prog0 ⟨85, none, false, H.length⟩ (todoAt Try.f85 4) ⟨E, [], H ++ [.box (.agg [vb, va]), .box (.agg [.sl true [], .sl true []]), .grow 8 (L.map Bk.av)], none⟩) = some ⟨.ret (.agg [.sl false (r.map Bk.av), va]), H, none⟩ := by
  intro q
  skip
  induction q with
  | zero =>
    intro j hj L hL hr E g1 g2 g4 g5 g17 g18
    have hk' : ¬ (j : Int) < ((n : Nat) : Int) := by omega
    simp only [foldF] at hr
    subst hr
    have la : (L.map Bk.av).length = n := by rw [List.length_map, hL]
    have t3 : ltL H.length (L.map Bk.av) = true := ltL_map (fun _ => rfl) L
    have t4 : ltL 0 (L.map Bk.av) = true := ltL_map (fun _ => rfl) L
    simp only [loopIt, todoPast, todoAt, todoOf, firstReg, ↓reduceIte, Option.some.injEq, Nat.reduceEqDiff, reduceCtorEq, Try.f85]
    rw [execL_inLoop]
    simp (maxSteps := 1000000) (implicitDefEqProofs := false) (disch := first | rfl | omega | assumption) only [go_sem, g1, g2, g4, g5, g17, g18, ltT, ltF, leT, leF, hk', s1, s2, la, t3, t4, tv, hsv]
    done
  | succ q ih =>
    intro j hj L hL hr E g1 g2 g4 g5 g17 g18
    have hk' : (j : Int) < ((n : Nat) : Int) := by omega
    have hk2 : j < n := by omega
    simp only [foldF] at hr
    have key := ih (j + 1) (by omega) (polS s L j) (by rw [polS_len]; exact hL) hr
    have f1 := @SlOk.fF (H ++ [.box (.agg [vb, va]), .box (.agg [.sl true [], .sl true []]), .grow 8 (L.map Bk.av)]) Bk Bk.av bk0 8 (.gsl (H.length + 2) n) L ⟨⟨by rw [get_at']; rfl, by rw [List.length_map, hL]⟩, fun x hx => by obtain ⟨i, _, rfl⟩ := List.mem_map.1 hx; rfl⟩
    obtain ⟨-, a2, -, -, a5⟩ := f1
    have f2 := @SlOk.fF (H ++ [.box (.agg [vb, va]), .box (.agg [.sl true [], .sl true []]), .grow 8 ((L.set j (z0 (L.getD j bk0))).map Bk.av)]) Bk Bk.av bk0 8 (.gsl (H.length + 2) n) (L.set j (z0 (L.getD j bk0))) ⟨⟨by rw [get_at']; rfl, by rw [List.length_map, List.length_set, hL]⟩, fun x hx => by obtain ⟨i, _, rfl⟩ := List.mem_map.1 hx; rfl⟩
    obtain ⟨-, b2, -, -, b5⟩ := f2
    rw [hL] at a2
    rw [List.length_set, hL] at b2
    have h0 := shrN (s := s) (j := 2 * j) (by omega)
    have h1 := shrN (s := s) (j := 2 * j + 1) (by omega)
    have k0 := bitU (s := s) (j := 2 * j) (by omega)
    have k1 := bitU (s := s) (j := 2 * j + 1) (by omega)
    have m0 := and_one (s := s) (j := 2 * j)
    have m1 := and_one (s := s) (j := 2 * j + 1)
    have x0 : IntKind.i64.wrap (2 * (j : Int)) = ((2 * j : Nat) : Int) := by rw [w64 (by omega) (by omega)]; omega
    have x1 : IntKind.i64.wrap (((2 * j : Nat) : Int) + 0) = ((2 * j : Nat) : Int) := by rw [w64 (by omega) (by omega)]; omega
    have x2 : IntKind.i64.wrap (((2 * j : Nat) : Int) + 1) = ((2 * j + 1 : Nat) : Int) := by rw [w64 (by omega) (by omega)]; omega
    have z2 : ¬ ((2 * j : Nat) : Int) < 0 := by omega
    have z3 : ¬ ((2 * j + 1 : Nat) : Int) < 0 := by omega
    have hjn : j < n := hk2
    have u1 := fun (o0 o1 : AO) (b : Nat) (z : Option Value) => @st_4 H n b o0 o1 z L j hL hjn
    have u2 := fun (o0 o1 : AO) (b : Nat) (z : Option Value) => @st_7 H n b o0 o1 z L j hL hjn
    have u3 := fun (o0 o1 : AO) (b : Nat) (z : Option Value) => @st_7 H n b o0 o1 z (L.set j (z0 (L.getD j bk0))) j (by rw [List.length_set]; exact hL) hjn
    rw [getD_set L (by omega)] at u3
    rw [List.set_set] at u3
    have hself := set_self' L j
    simp only [polS] at key
    generalize L.getD j bk0 = bj at *
    cases c0 : s.testBit (2 * j)
    · rw [c0] at m0
      cases c1 : s.testBit (2 * j + 1)
      · rw [c1] at m1
        have e : polB s j bj = bj := by simp only [polB, c0, c1, if_true, Bool.false_eq_true, if_false]
        rw [e, hself] at key
        simp only [loopIt, todoPast, todoAt, todoOf, firstReg, ↓reduceIte, Option.some.injEq, Nat.reduceEqDiff, reduceCtorEq, Try.f85]
        rw [execL_inLoop]
        simp (maxSteps := 1000000) (implicitDefEqProofs := false) (disch := first | rfl | omega | assumption) only [go_sem, g1, g2, g4, g5, g17, g18, ltT, ltF, leT, leF, hk', s1, s2, h0, h1, k0, k1, m0, m1, x0, x1, x2, z2, z3, a2, a5, b2, b5, u1, u2, u3]
        rw [execL_inLoop]
        simp (maxSteps := 1000000) (implicitDefEqProofs := false) (disch := first | rfl | omega | assumption) only [go_sem, g1, g2, g4, g5, g17, g18, ltT, ltF, leT, leF, hk', s1, s2, h0, h1, k0, k1, m0, m1, x0, x1, x2, z2, z3, a2, a5, b2, b5, u1, u2, u3]
        rw [execL_inLoop]
        simp (maxSteps := 1000000) (implicitDefEqProofs := false) (disch := first | rfl | omega | assumption) only [go_sem, g1, g2, g4, g5, g17, g18, ltT, ltF, leT, leF, hk', s1, s2, h0, h1, k0, k1, m0, m1, x0, x1, x2, z2, z3, a2, a5, b2, b5, u1, u2, u3]
        rw [execL_inLoop]
        simp (maxSteps := 1000000) (implicitDefEqProofs := false) (disch := first | rfl | omega | assumption) only [go_sem, g1, g2, g4, g5, g17, g18, ltT, ltF, leT, leF, hk', s1, s2, h0, h1, k0, k1, m0, m1, x0, x1, x2, z2, z3, a2, a5, b2, b5, u1, u2, u3]
        exact key _ (by exact g1) (by exact g2) (by exact g4) (by exact g5) (by exact g17) (by rfl)
      · rw [c1] at m1
        have e : polB s j bj = z1 bj := by simp only [polB, c0, c1, if_true, Bool.false_eq_true, if_false]
        rw [e] at key
        simp only [loopIt, todoPast, todoAt, todoOf, firstReg, ↓reduceIte, Option.some.injEq, Nat.reduceEqDiff, reduceCtorEq, Try.f85]
        rw [execL_inLoop]
        simp (maxSteps := 1000000) (implicitDefEqProofs := false) (disch := first | rfl | omega | assumption) only [go_sem, g1, g2, g4, g5, g17, g18, ltT, ltF, leT, leF, hk', s1, s2, h0, h1, k0, k1, m0, m1, x0, x1, x2, z2, z3, a2, a5, b2, b5, u1, u2, u3]
        rw [execL_inLoop]
        simp (maxSteps := 1000000) (implicitDefEqProofs := false) (disch := first | rfl | omega | assumption) only [go_sem, g1, g2, g4, g5, g17, g18, ltT, ltF, leT, leF, hk', s1, s2, h0, h1, k0, k1, m0, m1, x0, x1, x2, z2, z3, a2, a5, b2, b5, u1, u2, u3]
        rw [execL_inLoop]
        simp (maxSteps := 1000000) (implicitDefEqProofs := false) (disch := first | rfl | omega | assumption) only [go_sem, g1, g2, g4, g5, g17, g18, ltT, ltF, leT, leF, hk', s1, s2, h0, h1, k0, k1, m0, m1, x0, x1, x2, z2, z3, a2, a5, b2, b5, u1, u2, u3]
        rw [execL_inLoop]
        simp (maxSteps := 1000000) (implicitDefEqProofs := false) (disch := first | rfl | omega | assumption) only [go_sem, g1, g2, g4, g5, g17, g18, ltT, ltF, leT, leF, hk', s1, s2, h0, h1, k0, k1, m0, m1, x0, x1, x2, z2, z3, a2, a5, b2, b5, u1, u2, u3]
        exact key _ (by exact g1) (by exact g2) (by exact g4) (by exact g5) (by exact g17) (by rfl)
    · rw [c0] at m0
      cases c1 : s.testBit (2 * j + 1)
      · rw [c1] at m1
        have e : polB s j bj = z0 bj := by simp only [polB, c0, c1, if_true, Bool.false_eq_true, if_false]
        rw [e] at key
        simp only [loopIt, todoPast, todoAt, todoOf, firstReg, ↓reduceIte, Option.some.injEq, Nat.reduceEqDiff, reduceCtorEq, Try.f85]
        rw [execL_inLoop]
        simp (maxSteps := 1000000) (implicitDefEqProofs := false) (disch := first | rfl | omega | assumption) only [go_sem, g1, g2, g4, g5, g17, g18, ltT, ltF, leT, leF, hk', s1, s2, h0, h1, k0, k1, m0, m1, x0, x1, x2, z2, z3, a2, a5, b2, b5, u1, u2, u3]
        rw [execL_inLoop]
        simp (maxSteps := 1000000) (implicitDefEqProofs := false) (disch := first | rfl | omega | assumption) only [go_sem, g1, g2, g4, g5, g17, g18, ltT, ltF, leT, leF, hk', s1, s2, h0, h1, k0, k1, m0, m1, x0, x1, x2, z2, z3, a2, a5, b2, b5, u1, u2, u3]
        rw [execL_inLoop]
        simp (maxSteps := 1000000) (implicitDefEqProofs := false) (disch := first | rfl | omega | assumption) only [go_sem, g1, g2, g4, g5, g17, g18, ltT, ltF, leT, leF, hk', s1, s2, h0, h1, k0, k1, m0, m1, x0, x1, x2, z2, z3, a2, a5, b2, b5, u1, u2, u3]
        rw [execL_inLoop]
        simp (maxSteps := 1000000) (implicitDefEqProofs := false) (disch := first | rfl | omega | assumption) only [go_sem, g1, g2, g4, g5, g17, g18, ltT, ltF, leT, leF, hk', s1, s2, h0, h1, k0, k1, m0, m1, x0, x1, x2, z2, z3, a2, a5, b2, b5, u1, u2, u3]
        exact key _ (by exact g1) (by exact g2) (by exact g4) (by exact g5) (by exact g17) (by rfl)
      · rw [c1] at m1
        have e : polB s j bj = z1 (z0 bj) := by simp only [polB, c0, c1, if_true, Bool.false_eq_true, if_false]
        rw [e] at key
        simp only [loopIt, todoPast, todoAt, todoOf, firstReg, ↓reduceIte, Option.some.injEq, Nat.reduceEqDiff, reduceCtorEq, Try.f85]
        rw [execL_inLoop]
        simp (maxSteps := 1000000) (implicitDefEqProofs := false) (disch := first | rfl | omega | assumption) only [go_sem, g1, g2, g4, g5, g17, g18, ltT, ltF, leT, leF, hk', s1, s2, h0, h1, k0, k1, m0, m1, x0, x1, x2, z2, z3, a2, a5, b2, b5, u1, u2, u3]
        rw [execL_inLoop]
        simp (maxSteps := 1000000) (implicitDefEqProofs := false) (disch := first | rfl | omega | assumption) only [go_sem, g1, g2, g4, g5, g17, g18, ltT, ltF, leT, leF, hk', s1, s2, h0, h1, k0, k1, m0, m1, x0, x1, x2, z2, z3, a2, a5, b2, b5, u1, u2, u3]
        rw [execL_inLoop]
        simp (maxSteps := 1000000) (implicitDefEqProofs := false) (disch := first | rfl | omega | assumption) only [go_sem, g1, g2, g4, g5, g17, g18, ltT, ltF, leT, leF, hk', s1, s2, h0, h1, k0, k1, m0, m1, x0, x1, x2, z2, z3, a2, a5, b2, b5, u1, u2, u3]
        rw [execL_inLoop]
        simp (maxSteps := 1000000) (implicitDefEqProofs := false) (disch := first | rfl | omega | assumption) only [go_sem, g1, g2, g4, g5, g17, g18, ltT, ltF, leT, leF, hk', s1, s2, h0, h1, k0, k1, m0, m1, x0, x1, x2, z2, z3, a2, a5, b2, b5, u1, u2, u3]
        exact key _ (by exact g1) (by exact g2) (by exact g4) (by exact g5) (by exact g17) (by rfl)

theorem polF_len (s : Nat) : ∀ (q j : Nat) (L : List Bk), (foldF (polS s) L j q).length = L.length
  | 0, _, _ => rfl
  | q + 1, j, L => by rw [foldF, polF_len s q, polS_len]

theorem polF_at (s i : Nat) : ∀ (q j : Nat) (L : List Bk), j + q ≤ L.length → (foldF (polS s) L j q).getD i bk0 = if j ≤ i ∧ i < j + q then polB s i (L.getD i bk0) else L.getD i bk0
  | 0, j, L, h => by
    rw [if_neg (by omega)]; rfl
  | q + 1, j, L, h => by
    rw [foldF, polF_at s i q (j + 1) (polS s L j) (by rw [polS_len]; omega)]
    have e : (polS s L j).getD i bk0 = if j = i then polB s i (L.getD i bk0) else L.getD i bk0 := by
      by_cases hji : j = i
      · subst hji
        rw [if_pos rfl, polS, getD_set L (by omega)]
      · rw [if_neg hji]
        simp [polS, List.getElem?_set_ne hji]
    rw [e]
    by_cases h1 : j = i
    · subst h1
      rw [if_neg (by omega), if_pos rfl, if_pos (by omega)]
    · rw [if_neg h1]
      by_cases h2 : j + 1 ≤ i ∧ i < j + 1 + q
      · rw [if_pos h2, if_pos (by omega)]
      · rw [if_neg h2, if_neg (by omega)]

/-- A wring, some of whose faces were polished. -/
def Wg.pol (w : Wg) (s : Nat) : Wg := ⟨polL s w.bs, w.ps⟩
theorem pol_n (w : Wg) (s : Nat) : (w.pol s).bs.length = w.bs.length := polF_len s _ _ _
theorem pol_b (w : Wg) (s : Nat) {i : Nat} (h : i < w.bs.length) : (w.pol s).b i = polB s i (w.b i) := by
  have := polF_at s i w.bs.length 0 w.bs (by omega)
  rw [if_pos (by omega)] at this
  exact this

theorem polB_keep (s i : Nat) (b : Bk) : (polB s i b).lo = b.lo ∧ (polB s i b).hi = b.hi ∧ (polB s i b).f0.lo = b.f0.lo ∧ (polB s i b).f0.hi = b.f0.hi ∧ (polB s i b).f1.lo = b.f1.lo ∧ (polB s i b).f1.hi = b.f1.hi ∧ (polB s i b).f0.st = (if s.testBit (2 * i) then 0 else b.f0.st) ∧ (polB s i b).f1.st = (if s.testBit (2 * i + 1) then 0 else b.f1.st) := by
  simp only [polB]
  cases s.testBit (2 * i) <;> cases s.testBit (2 * i + 1) <;> simp [z0, z1]

theorem pol_ok {w : Wg} (ho : w.Ok) (s : Nat) : (w.pol s).Ok := by
  have hn := pol_n w s
  refine ⟨by simp only [Wg.n, hn]; exact ho.n, ho.np, fun i hi => ?_, fun i hi => ?_, fun i hi => ?_, fun i hi => ?_⟩
  · simp only [Wg.n, hn] at hi
    obtain ⟨k1, k2, -⟩ := polB_keep s i (w.b i)
    rw [pol_b w s hi, k1, k2]
    exact ho.sp i hi
  · simp only [Wg.n, hn] at hi
    obtain ⟨-, -, k1, k2, -, -, k3, -⟩ := polB_keep s i (w.b i)
    have h0 := ho.f0 i hi
    rw [pol_b w s hi]
    refine ⟨by rw [k1, k2]; exact h0.sp, ?_⟩
    rw [k3]
    split
    · omega
    · exact h0.st
  · simp only [Wg.n, hn] at hi
    obtain ⟨-, -, -, -, k1, k2, -, k3⟩ := polB_keep s i (w.b i)
    have h0 := ho.f1 i hi
    rw [pol_b w s hi]
    refine ⟨by rw [k1, k2]; exact h0.sp, ?_⟩
    rw [k3]
    split
    · omega
    · exact h0.st
  · have := ho.ap i hi
    simp only [Wg.n] at this ⊢
    rw [hn]
    exact this

def bkV (L : List Bk) : AV := .sl false (L.map Bk.av)

theorem pol_at {w : Wg} {vb va : AV} (h : WgAt H w vb va) (s : Nat) : WgAt H (w.pol s) (bkV (w.pol s).bs) va := ⟨⟨rfl, fun x hx => by obtain ⟨i, _, rfl⟩ := List.mem_map.1 hx; rfl⟩, h.ps⟩

theorem wr_polished {w : Wg} {vb va : AV} (h : WgAt H w vb va) (hl : w.bs.length ≤ 5) (s : Nat) (hs : s < 1024) :
    callFL cfg0 prog0 false 85 [.agg [vb, va], U s] H none = some ⟨.ret (.agg [bkV (w.pol s).bs, va]), H, none⟩ := by
  have s1 := h.bs.scal
  have s2 := h.ps.scal
  have n1 := h.bs.len
  rw [List.length_map] at n1
  have c1 := h.bs.cel
  have he := fun G : Heap => (h.bs.app G).elems
  have he2 : ltL 0 (w.bs.map Bk.av) = true := ltL_map (fun _ => rfl) _
  have he3 := elemsOk_map (f := Bk.av) (sz := 8) (a := true) (fun _ => rfl) w.bs
  have h1 := pol_loop (H := H) (vb := vb) s1 s2 h.ps.lt0 (fun A => h.ps.sld A) s hs w.bs.length hl (polL s w.bs) w.bs.length 0 (by omega) w.bs rfl rfl
  have e1 : bkV (w.pol s).bs = .sl false ((polL s w.bs).map Bk.av) := rfl
  rw [e1]
  refine (callFL_eq fn85 rfl (by simp [Try.f85])).trans ?_
  simp (maxSteps := 1000000) (implicitDefEqProofs := false) (disch := first | rfl | omega | assumption) only [go_sem, ltT, ltF, leT, leF, s1, s2, n1, c1, evCopy, he, he2, he3, List.length_replicate]
  exact h1 _ (by rfl) (by rfl) (by rfl) (by rfl) (by rfl) (by rfl)

end Go.Ab
/-
  Polish.
-/
namespace Go.Ab
open Go.Proofs
set_option linter.unusedSimpArgs false
set_option linter.unusedVariables false
set_option maxRecDepth 100000
set_option maxHeartbeats 2000000

variable {H : Heap}


/-- Whether all blocks can be wrung with some faces polished. -/
def Wg.canP (w : Wg) (s : Nat) : Bool := decide (0 < ((w.pol s).tal false ⟨2 ^ w.bs.length - 1, pc0, false⟩).1)

theorem wr_pol2 {w : Wg} {vb va : AV} {l m pa pb : Nat} {b : Bool} (hS : ShAt H l m w b vb va) (ho : w.Ok) (hA : H[pa]? = some (.box (.agg [vb, va]))) (hB : H[pb]? = some (.box (.ptr l 0))) (s : Nat) (hs : s < 1024) :
    callFL cfg0 prog0 false 84 [U s, .ptr pa 0, .ptr pb 0] H none = some ⟨.ret (.bool (w.canP s)), H, none⟩ := by
  have h5 := ho.n.2
  simp only [Wg.n] at h5
  have hp := wr_polished hS.wat h5 s hs
  have hpk := pol_ok ho s
  have hO := wr_openA (pol_at hS.wat s) ⟨by rw [pol_n]; omega, by have := ho.np; simp only [Wg.pol]; omega⟩ (((w.pol s).valid_iff).2 hpk)
  have hAl := fun G => wr_all (hS.app G) ho.n.2
  have hC := wr_can (opG_at (pol_at hS.wat s)) hpk (s := 2 ^ w.bs.length - 1) (by rw [pol_n]; exact full_lt w)
  have e : w.canP s = decide (0 < ((w.pol s).tal false ⟨2 ^ w.bs.length - 1, pc0, false⟩).1) := rfl
  rw [← e] at hC
  simp only [opG, Wg.n] at hO hAl hC
  have lA := (List.getElem?_eq_some_iff.1 hA).1
  have lB := (List.getElem?_eq_some_iff.1 hB).1
  have hB' := fun G : Heap => (by rw [List.getElem?_append_left lB]; exact hB : (H ++ G)[pb]? = some (.box (.ptr l 0)))
  refine (callFL_eq fn84 rfl (by simp [Try.f84])).trans ?_
  simp (maxSteps := 1000000) (implicitDefEqProofs := false) (disch := first | rfl | omega | assumption) only [go_sem, ltT, ltF, leT, leF, hA, hB]
  rw [chkK_of]; rotate_left; kernel_rfl
  simp (maxSteps := 1000000) (implicitDefEqProofs := false) (disch := first | rfl | omega | assumption) only [go_sem, ltT, ltF, leT, leF, hA, hB, hB', hp, hO, hAl, hC]
  done

def Wg.polishS (w : Wg) : Option Nat := firstF w.canP (setL (2 * w.bs.length)) 0 (setL (2 * w.bs.length)).length
/-- What Polish answers. -/
def Wg.polish (w : Wg) : Int × Int × Int := if w.valid then (match w.polishS with
  | some x => ((pop x : Nat), (x : Nat), 0)
  | none => (0, 0, 4)) else (0, 0, 1)

theorem wr_Polish {w : Wg} {vb va : AV} (h : WgAt H w vb va) (hl : w.bs.length ≤ 1000 ∧ w.ps.length ≤ 1000) :
    callFL cfg0 prog0 false 31 [.agg [vb, va]] H none = some ⟨.ret (.tup [I w.polish.1, I w.polish.2.1, I w.polish.2.2]), H, none⟩ := by
  have s1 := h.bs.scal
  have s2 := h.ps.scal
  have n1 := h.bs.len
  rw [List.length_map] at n1
  have c1 := h.bs.cel
  have hN := fun G => wd_Polishn (H.length + 1) G
  have hD := fun (e : Int) (a : AO) (G : Heap) => wd_Polishs (H.length + 1) e 0 (H ++ (a :: .box (I 0) :: G)) (by rw [get_at' 1]; rfl)
  simp only [Wg.polish]
  cases hv : w.valid
  · have hO := wr_openX (h.app [.box (.agg [vb, va]), .box (I 0)]) hl hv
    simp only [Bool.false_eq_true, if_false]
    refine (callFL_eq fn31 rfl (by simp [Try.f31])).trans ?_
    simp (maxSteps := 1000000) (implicitDefEqProofs := false) (disch := first | rfl | omega | assumption) only [go_sem, ltT, ltF, leT, leF, s1, s2, hO, hD]
    done
  have ho := w.valid_iff.1 hv
  have h5 := ho.n.2
  simp only [Wg.n] at h5
  have hp2 : (2 : Nat) ^ (2 * w.bs.length) ≤ 2 ^ 10 := Nat.pow_le_pow_right (by omega) (by omega)
  have hO := wr_openA (h.app [.box (.agg [vb, va]), .box (I 0)]) hl hv
  have hS := opG_in (H := H) (G0 := [.box (.agg [vb, va]), .box (I 0)]) (n := H.length + 2) (by simp) h
  have hSe := fun G => wr_sets (2 * w.bs.length) (by omega) G
  have hsl : SlOk (H ++ [.box (.agg [vb, va]), .box (I 0), .box (.agg [vb, va]), .map 71 (apM w.ps), .box (.agg (shC vb va (fcsN w.b) (vwA false) (H.length + 3))), .box (.ptr (H.length + 4) 0), .grow 1 ((setL (2 * w.bs.length)).map U)]) 1 (.gsl (H.length + 6) (2 ^ (2 * w.bs.length))) ((setL (2 * w.bs.length)).map U) :=
    ⟨⟨by rw [get_at']; rfl, by rw [List.length_map, setL_len]⟩, fun x hx => by obtain ⟨i, _, rfl⟩ := List.mem_map.1 hx; rfl⟩
  have hF := wr_firstU hsl (by rw [setL_len]; omega) (.func 84) [] [.ptr H.length 0, .ptr (H.length + 5) 0] w.canP rfl (fun j G hj => by
    have hc := wr_pol2 (pa := H.length) (pb := H.length + 5) (hS (.box (.ptr (H.length + 4) 0) :: .grow 1 ((setL (2 * w.bs.length)).map U) :: G)) ho (by rw [get_at]; rfl) (by rw [get_at' 5]; rfl) ((setL (2 * w.bs.length)).getD j 0) (by have := setL_lt (2 * w.bs.length) j hj; omega)
    rw [callVL_func]
    simp only [opG, List.append_assoc, List.cons_append, List.nil_append, Nat.add_assoc, Nat.reduceAdd] at hc ⊢
    exact hc)
  have hmS : w.polishS = firstF w.canP (setL (2 * w.bs.length)) 0 (setL (2 * w.bs.length)).length := rfl
  rw [← hmS] at hF
  have x0 : IntKind.i64.wrap (2 * (w.bs.length : Int)) = ((2 * w.bs.length : Nat) : Int) := by rw [w64 (by omega) (by omega)]; omega
  simp only [if_true]
  simp only [opG, List.length_append, List.length_cons, List.length_nil, Nat.zero_add, Nat.reduceAdd, Nat.add_assoc, List.append_assoc, List.cons_append, List.nil_append, List.append_nil] at hO ⊢
  cases hm : w.polishS with
  | none =>
    rw [hm] at hF
    simp only [firA] at hF ⊢
    refine (callFL_eq fn31 rfl (by simp [Try.f31])).trans ?_
    simp (maxSteps := 1000000) (implicitDefEqProofs := false) (disch := first | rfl | omega | assumption) only [go_sem, ltT, ltF, leT, leF, s1, s2, hO]
    simp (maxSteps := 1000000) (implicitDefEqProofs := false) (disch := first | rfl | omega | assumption) only [go_sem, ltT, ltF, leT, leF, s1, s2, n1, c1, x0, hO, hSe, hF, wr_must, hD]
    done
  | some x =>
    rw [hm] at hF
    have hxl := firstF_lt (setL_lt (2 * w.bs.length)) (hmS.symm.trans hm)
    have hOn := fun G : Heap => ones (H := G) (x := x) (by omega)
    simp only [firA] at hF ⊢
    refine (callFL_eq fn31 rfl (by simp [Try.f31])).trans ?_
    simp (maxSteps := 1000000) (implicitDefEqProofs := false) (disch := first | rfl | omega | assumption) only [go_sem, ltT, ltF, leT, leF, s1, s2, hO]
    simp (maxSteps := 1000000) (implicitDefEqProofs := false) (disch := first | rfl | omega | assumption) only [go_sem, ltT, ltF, leT, leF, s1, s2, n1, c1, x0, hO, hSe, hF, hOn, wr_must, hN]
    done

end Go.Ab
/-
  The sample; what is alive.
-/
namespace Go.Ab
open Go.Proofs
set_option linter.unusedSimpArgs false
set_option linter.unusedVariables false
set_option maxRecDepth 100000
set_option maxHeartbeats 2000000

variable {H : Heap}


theorem law_span (a b : Int) (H : Heap) : callFL cfg0 prog0 false 36 [I a, I b] H none = some ⟨.ret (.agg [I a, I b]), H, none⟩ := by
  refine (callFL_eq fn36 rfl (by simp [Try.f36])).trans ?_
  simp (maxSteps := 1000000) (implicitDefEqProofs := false) (disch := first | rfl | omega | assumption) only [go_sem, ltT, ltF, leT, leF]

theorem law_face (a b c : Int) (H : Heap) : callFL cfg0 prog0 false 88 [I a, I b, I c] H none = some ⟨.ret (.agg [I a, I b, I c]), H, none⟩ := by
  have h1 := fun G : Heap => law_span a b G
  refine (callFL_eq fn88 rfl (by simp [Try.f88])).trans ?_
  simp (maxSteps := 1000000) (implicitDefEqProofs := false) (disch := first | rfl | omega | assumption) only [go_sem, ltT, ltF, leT, leF, h1]

theorem law_block (a b : Int) (x y : Fc) (H : Heap) : callFL cfg0 prog0 false 87 [I a, I b, x.av, y.av] H none = some ⟨.ret (Bk.av ⟨a, b, x, y⟩), H, none⟩ := by
  have h1 := fun G : Heap => law_span a b G
  obtain ⟨x1, x2, x3⟩ := x
  obtain ⟨y1, y2, y3⟩ := y
  simp only [Fc.av, Bk.av]
  refine (callFL_eq fn87 rfl (by simp [Try.f87])).trans ?_
  simp (maxSteps := 1000000) (implicitDefEqProofs := false) (disch := first | rfl | omega | assumption) only [go_sem, ltT, ltF, leT, leF]
  rw [chkK_of]; rotate_left; kernel_rfl
  simp (maxSteps := 1000000) (implicitDefEqProofs := false) (disch := first | rfl | omega | assumption) only [go_sem, ltT, ltF, leT, leF, h1]

def smpB : List Bk := [⟨10, 10, ⟨1, 1, 0⟩, ⟨0, 2, 2⟩⟩, ⟨20, 21, ⟨1, 1, 0⟩, ⟨2, 2, 0⟩⟩, ⟨5, 5, ⟨0, 0, 1⟩, ⟨3, 3, 0⟩⟩]

theorem law_sample {v : AV} {ps : List Ap} (hv : SlOk H 2 v (ps.map Ap.av)) : callFL cfg0 prog0 false 33 [v] H none = some ⟨.ret (.agg [.sl true (smpB.map Bk.av), v]), H, none⟩ := by
  have s0 := hv.scal
  have t0 := hv.lt0
  have hf := fun (a b c : Int) (G : Heap) => law_face a b c G
  have hb := fun (a b x1 x2 x3 y1 y2 y3 : Int) (G : Heap) => law_block a b ⟨x1, x2, x3⟩ ⟨y1, y2, y3⟩ G
  have t1 := hv.sld
  have t2 := hv.ltn 1
  have c0 := hv.cel
  simp only [Fc.av, Bk.av] at hb
  simp only [smpB, List.map_cons, List.map_nil, Bk.av]
  refine (callFL_eq fn33 rfl (by simp [Try.f33])).trans ?_
  simp (maxSteps := 1000000) (implicitDefEqProofs := false) (disch := first | rfl | omega | assumption) only [go_sem, ltT, ltF, leT, leF, s0, t0, hf, hb, t1, t2, c0]
  done

/-- The blocks of places, and what is up, in turn. -/
def flatP (l : List Pc) : List Int := l.flatMap fun p => [p.b, p.u]

theorem flatP_len : ∀ l : List Pc, (flatP l).length = 2 * l.length
  | [] => rfl
  | p :: r => by
    have := flatP_len r
    simp only [flatP, List.flatMap_cons, List.length_append, List.length_cons, List.length_nil] at this ⊢
    omega

theorem flatP_at : ∀ (l : List Pc) (j : Nat), j < l.length → (flatP l).getD (2 * j) 0 = (pcA l j).b ∧ (flatP l).getD (2 * j + 1) 0 = (pcA l j).u
  | [], j, h => by simp at h
  | p :: r, 0, _ => by simp [flatP, pcA]
  | p :: r, j + 1, h => by
    have := flatP_at r j (by simpa using h)
    have e1 : 2 * (j + 1) = 2 * j + 2 := by omega
    rw [e1]
    simp only [flatP, pcA, List.flatMap_cons, List.cons_append, List.nil_append, List.getD_cons_succ] at this ⊢
    exact this

theorem stc_loop {v : AV} {l : List Pc} (hv : SlOk H 1 v ((flatP l).map I)) (hl : l.length ≤ 1000) :
    ∀ (q j : Nat), j + q = l.length → ∀ (L : List Pc), L = l.take j → ∀ E : Env, E.get 0 = v → E.get 2 = .gsl H.length j → E.get 3 = I (2 * j : Nat) →
    Option.map (finishC H.length) (execL cfg0 prog0 ⟨34, none, false, H.length⟩ (todoAt Try.f34 2) ⟨E, [], H ++ [.grow 2 (L.map Pc.av)], none⟩) = some ⟨.ret (.sl false (l.map Pc.av)), H, none⟩ := by
  intro q
  have n0 := hv.len
  rw [List.length_map, flatP_len] at n0
  have s0 := hv.scal
  induction q with
  | zero =>
    intro j hj L hL E g0 g2 g3
    have hk' : ¬ (j : Int) < ((l.length : Nat) : Int) := by omega
    have ej : j = l.length := by omega
    subst ej
    subst hL
    rw [List.take_length]
    simp only [loopIt, todoPast, todoAt, todoOf, firstReg, ↓reduceIte, Option.some.injEq, Nat.reduceEqDiff, reduceCtorEq, Try.f34]
    rw [execL_inLoop]
    have hz : ¬ ((2 * l.length : Nat) : Int) + 1 < ((2 * l.length : Nat) : Int) := by omega
    have la : (l.map Pc.av).length = l.length := List.length_map _
    have t3 : ltL H.length (l.map Pc.av) = true := ltL_map (fun _ => rfl) l
    have t4 : ltL 0 (l.map Pc.av) = true := ltL_map (fun _ => rfl) l
    simp (maxSteps := 1000000) (implicitDefEqProofs := false) (disch := first | rfl | omega | assumption) only [go_sem, g0, g2, g3, ltT, ltF, leT, leF, hk', n0, s0, hz, la, t3, t4]
    done
  | succ q ih =>
    intro j hj L hL E g0 g2 g3
    have hk' : (j : Int) < ((l.length : Nat) : Int) := by omega
    have hk2 : j < l.length := by omega
    subst hL
    have hz : ((2 * j : Nat) : Int) + 1 < ((2 * l.length : Nat) : Int) := by omega
    obtain ⟨a1, a2, a3, a4⟩ := hv.fI
    rw [flatP_len] at a1 a2 a3 a4
    obtain ⟨e1, e2⟩ := flatP_at l j hk2
    have x1 : (((2 * j : Nat) : Int)).toNat = 2 * j := by omega
    have x2 : (((2 * j : Nat) : Int) + 1).toNat = 2 * j + 1 := by omega
    have x3 : IntKind.i64.wrap (((2 * j : Nat) : Int) + 1) = ((2 * j : Nat) : Int) + 1 := w64 (by omega) (by omega)
    have x4 : IntKind.i64.wrap (((2 * j : Nat) : Int) + 2) = ((2 * (j + 1) : Nat) : Int) := by rw [w64 (by omega) (by omega)]; omega
    have o1 := hv.old
    have o2 := fun (k : Int) (off : Nat) => ptrOf_elA (k := k) (off := off) hv
    have la : ((l.take j).map Pc.av).length = j := by simp; omega
    have htk : l.take (j + 1) = l.take j ++ [pcA l j] := by
      rw [List.take_succ_eq_append_getElem hk2]
      simp [pcA, hk2]
    have key := ih (j + 1) (by omega) (l.take j ++ [pcA l j]) htk.symm
    generalize pcA l j = p at *
    obtain ⟨pb, pu⟩ := p
    have hadd : addElem (H ++ [.grow 2 ((l.take j).map Pc.av)]) 2 true (.gsl H.length j) [.agg [I pb, I pu]] = some (.gsl H.length (j + 1), H ++ [.grow 2 ((l.take j ++ [(⟨pb, pu⟩ : Pc)]).map Pc.av)]) := by
      rw [add_gsl (xs := (l.take j).map Pc.av) (by rw [get_at]; rfl) la rfl rfl (by simp; omega), set_at, List.map_append]
      rfl
    simp only at e1 e2
    simp only [loopIt, todoPast, todoAt, todoOf, firstReg, ↓reduceIte, Option.some.injEq, Nat.reduceEqDiff, reduceCtorEq, Try.f34]
    rw [execL_inLoop]
    simp (maxSteps := 1000000) (implicitDefEqProofs := false) (disch := first | rfl | omega | assumption) only [go_sem, g0, g2, g3, ltT, ltF, leT, leF, hk', n0, s0, hz, x3]
    rw [chkK_of]; rotate_left; kernel_rfl
    simp (maxSteps := 1000000) (implicitDefEqProofs := false) (disch := first | rfl | omega | assumption) only [go_sem, g0, g2, g3, ltT, ltF, leT, leF, hk', n0, s0, hz, a1, a2, a3, a4, x1, x2, x3, x4, e1, e2, o1, o2, ld_ne, ld_eq, or_none', hadd]
    exact key _ (by exact g0) (by rfl) (by rfl)

theorem law_stack {v : AV} {l : List Pc} (hv : SlOk H 1 v ((flatP l).map I)) (hl : l.length ≤ 1000) : callFL cfg0 prog0 false 34 [v] H none = some ⟨.ret (.sl false (l.map Pc.av)), H, none⟩ := by
  have h1 := stc_loop hv hl l.length 0 (by omega) [] rfl
  have s0 := hv.scal
  refine (callFL_eq fn34 rfl (by simp [Try.f34])).trans ?_
  simp (maxSteps := 1000000) (implicitDefEqProofs := false) (disch := first | rfl | omega | assumption) only [go_sem, ltT, ltF, leT, leF, s0]
  exact h1 _ (by rfl) (by rfl) (by rfl)

end Go.Ab
/-
  What is alive.
-/
namespace Go.Ab
open Go.Proofs
set_option linter.unusedSimpArgs false
set_option linter.unusedVariables false
set_option maxRecDepth 100000
set_option maxHeartbeats 2000000

variable {H : Heap}


deriving instance DecidableEq for Pc

def smp : Wg := ⟨smpB, []⟩
def smpX : Wg := ⟨smpB, [⟨0, 1⟩]⟩

theorem v_check : smp.check [⟨0, 0⟩, ⟨1, 0⟩, ⟨2, 1⟩] = (1, 2, 0) := by decide +kernel
theorem v_holds : smp.holds [⟨0, 0⟩, ⟨1, 0⟩, ⟨2, 1⟩] = (1, 0) := by decide +kernel
theorem v_length : smp.length [⟨0, 1⟩, ⟨1, 0⟩] = ((32, 35), 0) := by decide +kernel
theorem v_count : smp.count = (4, 0) := by decide +kernel
theorem v_best : smp.best = (7, some [⟨0, 0⟩, ⟨1, 0⟩, ⟨2, 0⟩], 0) := by decide +kernel
theorem v_hope : smpX.hope = (1, 0) := by decide +kernel
theorem v_most : smpX.most = (2, 5, 0) := by decide +kernel
theorem v_polish : smpX.polish = (1, 16, 0) := by decide +kernel
theorem v_holds2 : smp.holds [⟨0, 0⟩, ⟨1, 0⟩, ⟨2, 0⟩] = (2, 0) := by decide +kernel

def neP (x y : Pc) : Bool := !(x.b == y.b && x.u == y.u)
/-- Two lists of places are the same. -/
def sameP (xs ys : List Pc) : Bool := decide (xs.length = ys.length) && !anyF (fun i => neP (pcA xs i) (pcA ys i)) 0 xs.length

theorem same_loop {v1 v2 : AV} {xs ys : List Pc} (h1 : SlOk H 2 v1 (xs.map Pc.av)) (h2 : SlOk H 2 v2 (ys.map Pc.av)) (hx : xs.length ≤ 1000) (hy : ys.length = xs.length) (r : Bool) :
    ∀ (q j : Nat), j + q = xs.length → (!anyF (fun i => neP (pcA xs i) (pcA ys i)) j q) = r → ∀ E : Env, E.get 0 = v1 → E.get 1 = v2 → E.get 5 = I j →
    Option.map (finishC H.length) (execL cfg0 prog0 ⟨27, none, false, H.length⟩ (todoAt Try.f27 4) ⟨E, [], H, none⟩) = some ⟨.ret (.bool r), H, none⟩ := by
  intro q
  obtain ⟨a1, a2, a3, a4, a5⟩ := h1.fF (d := pc0)
  obtain ⟨b1, b2, b3, b4, b5⟩ := h2.fF (d := pc0)
  have n1 := h1.len
  rw [List.length_map] at n1
  rw [hy] at b1 b2 b3 b4
  induction q with
  | zero =>
    intro j hj hr E g0 g1 g5
    have hk' : ¬ (j : Int) < ((xs.length : Nat) : Int) := by omega
    simp only [anyF, Bool.not_false] at hr
    subst hr
    simp only [loopIt, todoPast, todoAt, todoOf, firstReg, ↓reduceIte, Option.some.injEq, Nat.reduceEqDiff, reduceCtorEq, Try.f27]
    rw [execL_inLoop]
    simp (maxSteps := 1000000) (implicitDefEqProofs := false) (disch := first | rfl | omega | assumption) only [go_sem, g0, g1, g5, ltT, ltF, leT, leF, hk', n1]
    done
  | succ q ih =>
    intro j hj hr E g0 g1 g5
    have hk' : (j : Int) < ((xs.length : Nat) : Int) := by omega
    have hk2 : j < xs.length := by omega
    have hu : anyF (fun i => neP (pcA xs i) (pcA ys i)) j (q + 1) = (neP (pcA xs j) (pcA ys j) || anyF (fun i => neP (pcA xs i) (pcA ys i)) (j + 1) q) := rfl
    rw [hu] at hr
    obtain ⟨⟨xb, xu⟩, hxe⟩ : ∃ x, xs.getD j pc0 = x := ⟨_, rfl⟩
    obtain ⟨⟨yb, yu⟩, hye⟩ : ∃ x, ys.getD j pc0 = x := ⟨_, rfl⟩
    have e : neP (pcA xs j) (pcA ys j) = !(xb == yb && xu == yu) := by
      show neP (xs.getD j pc0) (ys.getD j pc0) = _
      rw [hxe, hye]; rfl
    rw [e] at hr
    have hrd : ∀ (a b : Int) (o : Nat) (ty : Ty), readPart (Pc.av ⟨a, b⟩).cells o ty = readPart [I a, I b] o ty := fun _ _ _ _ => rfl
    have hsm : sameL [I xb, I xu] [I yb, I yu] = (xb == yb && xu == yu) := by simp [sameL, AV.same]
    cases c1 : (xb == yb)
    · rw [c1] at hr
      simp only [Bool.false_and, Bool.not_false, Bool.true_or, Bool.not_true] at hr
      subst hr
      simp only [loopIt, todoPast, todoAt, todoOf, firstReg, ↓reduceIte, Option.some.injEq, Nat.reduceEqDiff, reduceCtorEq, Try.f27]
      rw [execL_inLoop]
      simp (maxSteps := 1000000) (implicitDefEqProofs := false) (disch := first | rfl | omega | assumption) only [go_sem, g0, g1, g5, ltT, ltF, leT, leF, hk', n1]
      rw [chkK_of]; rotate_left; kernel_rfl
      simp (maxSteps := 1000000) (implicitDefEqProofs := false) (disch := first | rfl | omega | assumption) only [go_sem, g0, g1, g5, ltT, ltF, leT, leF, hk', n1, a2, a4, b2, b4, hxe, hye, hrd, c1, hsm]
      done
    · cases c2 : (xu == yu)
      · rw [c1, c2] at hr
        simp only [Bool.and_false, Bool.not_false, Bool.true_or, Bool.not_true] at hr
        subst hr
        simp only [loopIt, todoPast, todoAt, todoOf, firstReg, ↓reduceIte, Option.some.injEq, Nat.reduceEqDiff, reduceCtorEq, Try.f27]
        rw [execL_inLoop]
        simp (maxSteps := 1000000) (implicitDefEqProofs := false) (disch := first | rfl | omega | assumption) only [go_sem, g0, g1, g5, ltT, ltF, leT, leF, hk', n1]
        rw [chkK_of]; rotate_left; kernel_rfl
        simp (maxSteps := 1000000) (implicitDefEqProofs := false) (disch := first | rfl | omega | assumption) only [go_sem, g0, g1, g5, ltT, ltF, leT, leF, hk', n1, a2, a4, b2, b4, hxe, hye, hrd, c1, c2, hsm]
        done
      · rw [c1, c2] at hr
        simp only [Bool.and_self, Bool.not_true, Bool.false_or] at hr
        simp only [loopIt, todoPast, todoAt, todoOf, firstReg, ↓reduceIte, Option.some.injEq, Nat.reduceEqDiff, reduceCtorEq, Try.f27]
        rw [execL_inLoop]
        simp (maxSteps := 1000000) (implicitDefEqProofs := false) (disch := first | rfl | omega | assumption) only [go_sem, g0, g1, g5, ltT, ltF, leT, leF, hk', n1]
        rw [chkK_of]; rotate_left; kernel_rfl
        simp (maxSteps := 1000000) (implicitDefEqProofs := false) (disch := first | rfl | omega | assumption) only [go_sem, g0, g1, g5, ltT, ltF, leT, leF, hk', n1, a2, a4, b2, b4, hxe, hye, hrd, c1, c2, hsm]
        exact ih (j + 1) (by omega) hr _ (by exact g0) (by exact g1) (by rfl)

theorem ref_Same {v1 v2 : AV} {xs ys : List Pc} (h1 : SlOk H 2 v1 (xs.map Pc.av)) (h2 : SlOk H 2 v2 (ys.map Pc.av)) (hx : xs.length ≤ 1000) (hy : ys.length ≤ 1000) : callFL cfg0 prog0 false 27 [v1, v2] H none = some ⟨.ret (.bool (sameP xs ys)), H, none⟩ := by
  have n1 := h1.len
  have n2 := h2.len
  rw [List.length_map] at n1 n2
  simp only [sameP]
  by_cases h : xs.length = ys.length
  · rw [decide_eq_true h, Bool.true_and]
    have hb : (((xs.length : Int)) != (ys.length : Int)) = false := by simp [h]
    have h3 := same_loop h1 h2 hx h.symm _ xs.length 0 (by omega) rfl
    refine (callFL_eq fn27 rfl (by simp [Try.f27])).trans ?_
    simp (maxSteps := 1000000) (implicitDefEqProofs := false) (disch := first | rfl | omega | assumption) only [go_sem, ltT, ltF, leT, leF, n1, n2, hb]
    exact h3 _ (by rfl) (by rfl) (by rfl)
  · rw [decide_eq_false h, Bool.false_and]
    have hb : (((xs.length : Int)) != (ys.length : Int)) = true := by simp; omega
    refine (callFL_eq fn27 rfl (by simp [Try.f27])).trans ?_
    simp (maxSteps := 1000000) (implicitDefEqProofs := false) (disch := first | rfl | omega | assumption) only [go_sem, ltT, ltF, leT, leF, n1, n2, hb]
    done

theorem law_apart (H : Heap) : callFL cfg0 prog0 false 35 [] H none = some ⟨.ret (.agg [.sl true (smpB.map Bk.av), .sl true [.agg [I 0, I 1]]]), H, none⟩ := by
  have h1 := fun G : Heap => law_sample (H := G) (v := .sl true [.agg [I 0, I 1]]) (ps := [⟨0, 1⟩]) ⟨rfl, fun x hx => by obtain ⟨i, _, rfl⟩ := List.mem_map.1 hx; rfl⟩
  simp only [smpB, List.map_cons, List.map_nil, Bk.av] at h1 ⊢
  refine (callFL_eq fn35 rfl (by simp [Try.f35])).trans ?_
  simp (maxSteps := 1000000) (implicitDefEqProofs := false) (disch := first | rfl | omega | assumption) only [go_sem, ltT, ltF, leT, leF, h1]

theorem smp_at (H : Heap) : WgAt H smp (.sl true (smpB.map Bk.av)) (.sl true []) := ⟨⟨rfl, fun x hx => by obtain ⟨i, _, rfl⟩ := List.mem_map.1 hx; rfl⟩, ⟨rfl, fun x hx => by cases hx⟩⟩
theorem smpX_at (H : Heap) : WgAt H smpX (.sl true (smpB.map Bk.av)) (.sl true [.agg [I 0, I 1]]) := ⟨⟨rfl, fun x hx => by obtain ⟨i, _, rfl⟩ := List.mem_map.1 hx; rfl⟩, ⟨rfl, fun x hx => by
  obtain ⟨i, _, rfl⟩ := List.mem_map.1 hx; rfl⟩⟩

theorem law_sample0 (H : Heap) : callFL cfg0 prog0 false 33 [.sl true []] H none = some ⟨.ret (.agg [.sl true (smpB.map Bk.av), .sl true []]), H, none⟩ := law_sample (ps := []) ⟨rfl, fun x hx => by cases hx⟩

theorem stk_at (H : Heap) (l : List Pc) : SlOk H 1 (.sl true ((flatP l).map I)) ((flatP l).map I) := ⟨rfl, fun x hx => by obtain ⟨i, _, rfl⟩ := List.mem_map.1 hx; rfl⟩

theorem law_alive (H : Heap) : callFL cfg0 prog0 false 14 [] H none = some ⟨.ret (.bool true), H, none⟩ := by
  have l1 : smp.bs.length ≤ 1000 ∧ smp.ps.length ≤ 1000 := by decide
  have l2 : smpX.bs.length ≤ 1000 ∧ smpX.ps.length ≤ 1000 := by decide
  have hs := fun G : Heap => law_sample0 G
  have hx := fun G : Heap => law_apart G
  have s1 := fun G : Heap => law_stack (H := G) (stk_at G [⟨0, 0⟩, ⟨1, 0⟩, ⟨2, 1⟩]) (by decide)
  have s2 := fun G : Heap => law_stack (H := G) (stk_at G [⟨0, 1⟩, ⟨1, 0⟩]) (by decide)
  have s3 := fun G : Heap => law_stack (H := G) (stk_at G [⟨0, 0⟩, ⟨1, 0⟩, ⟨2, 0⟩]) (by decide)
  have r1 := fun G : Heap => wr_Check (smp_at G) l1 false [⟨0, 0⟩, ⟨1, 0⟩, ⟨2, 1⟩] (by decide)
  have r2 := fun G : Heap => wr_Holds (smp_at G) l1 false [⟨0, 0⟩, ⟨1, 0⟩, ⟨2, 1⟩] (by decide)
  have r3 := fun G : Heap => wr_Length (smp_at G) l1 false [⟨0, 1⟩, ⟨1, 0⟩] (by decide)
  have r4 := fun G : Heap => wr_Count (smp_at G) l1
  have r5 := fun G : Heap => wr_Best (smp_at G) l1
  have r6 := fun G : Heap => wr_Hope (smpX_at G) l2
  have r7 := fun G : Heap => wr_Most (smpX_at G) l2
  have r8 := fun G : Heap => wr_Polish (smpX_at G) l2
  have r9 := fun G : Heap => wr_Holds (smp_at G) l1 false [⟨0, 0⟩, ⟨1, 0⟩, ⟨2, 0⟩] (by decide)
  have r0 := fun G : Heap => ref_Same (H := G) (slP (H := G) (b := false) [⟨0, 0⟩, ⟨1, 0⟩, ⟨2, 0⟩]) (slP (H := G) (b := false) [⟨0, 0⟩, ⟨1, 0⟩, ⟨2, 0⟩]) (by decide) (by decide)
  have e0 : sameP [⟨0, 0⟩, ⟨1, 0⟩, ⟨2, 0⟩] [⟨0, 0⟩, ⟨1, 0⟩, ⟨2, 0⟩] = true := by decide
  have hsp := fun (a b : Int) (G : Heap) => law_span a b G
  rw [v_check] at r1
  rw [v_holds] at r2
  rw [v_length] at r3
  rw [v_count] at r4
  rw [v_best] at r5
  rw [v_hope] at r6
  rw [v_most] at r7
  rw [v_polish] at r8
  rw [v_holds2] at r9
  rw [e0] at r0
  simp only [smpB, plA, flatP, List.map_cons, List.map_nil, Bk.av, Pc.av, List.flatMap_cons, List.flatMap_nil, List.cons_append, List.nil_append, List.append_nil] at hs hx s1 s2 s3 r1 r2 r3 r4 r5 r6 r7 r8 r9 r0
  refine (callFL_eq fn14 rfl (by simp [Try.f14])).trans ?_
  simp (maxSteps := 1000000) (implicitDefEqProofs := false) (disch := first | rfl | omega | assumption) only [go_sem, ltT, ltF, leT, leF, hs, hx, s1, s2, s3, r1, r2, r3, r4, r5, r6, r7, r8, r9]
  rw [chkK_of]; rotate_left; kernel_rfl
  simp (maxSteps := 1000000) (implicitDefEqProofs := false) (disch := first | rfl | omega | assumption) only [go_sem, ltT, ltF, leT, leF, hs, hx, s1, s2, s3, r1, r2, r3, r4, r5, r6, r7, r8, r9, r0, hsp]
  done

end Go.Ab
/-
  WringTells.
-/
namespace Go.Ab
open Go.Proofs
set_option linter.unusedSimpArgs false
set_option linter.unusedVariables false
set_option maxRecDepth 100000
set_option maxHeartbeats 2000000

variable {H : Heap}


def sumF (f : Nat → Int) : Nat → Nat → Int
  | _, 0 => 0
  | j, q + 1 => f j + sumF f (j + 1) q

theorem foldF_pair (f g : Nat → Int) : ∀ (q j : Nat) (a : Int × Int), foldF (fun (a : Int × Int) i => (a.1 + f i, a.2 + g i)) a j q = (a.1 + sumF f j q, a.2 + sumF g j q)
  | 0, j, a => by simp [foldF, sumF]
  | q + 1, j, a => by
    rw [foldF, foldF_pair f g q (j + 1)]
    simp only [sumF]
    ext <;> simp only <;> omega

theorem sumF_shift (f : Nat → Int) : ∀ (q j : Nat), sumF (fun i => f (i - 1)) (j + 1) q = sumF f j q
  | 0, _ => rfl
  | q + 1, j => by
    simp only [sumF]
    rw [sumF_shift f q (j + 1)]
    rfl

theorem sumF_add (f g : Nat → Int) : ∀ (q j : Nat), sumF (fun i => f i + g i) j q = sumF f j q + sumF g j q
  | 0, _ => rfl
  | q + 1, j => by
    simp only [sumF]
    rw [sumF_add f g q (j + 1)]
    omega

theorem sumF_con {f g : Nat → Int} : ∀ (q j : Nat), (∀ i, j ≤ i → i < j + q → f i = g i) → sumF f j q = sumF g j q
  | 0, _, _ => rfl
  | q + 1, j, h => by
    simp only [sumF]
    rw [h j (by omega) (by omega), sumF_con q (j + 1) (fun i h1 h2 => h i (by omega) (by omega))]

theorem sum_app (a b : List (Int × Int)) : sum1 (a ++ b) = sum1 a + sum1 b ∧ sum2 (a ++ b) = sum2 a + sum2 b := by
  simp [sum1, sum2]

theorem lenF_sum (w : Wg) (xs : List Pc) : ∀ (q j : Nat), sum1 (w.lenF xs j q) = sumF (fun i => (w.b (pcA xs i).b.toNat).lo + if i = 0 then 0 else (w.fa (pcA xs (i - 1))).lo + (w.fb (pcA xs i)).lo) j q ∧ sum2 (w.lenF xs j q) = sumF (fun i => (w.b (pcA xs i).b.toNat).hi + if i = 0 then 0 else (w.fa (pcA xs (i - 1))).hi + (w.fb (pcA xs i)).hi) j q
  | 0, j => ⟨rfl, rfl⟩
  | q + 1, j => by
    obtain ⟨h1, h2⟩ := lenF_sum w xs q (j + 1)
    obtain ⟨h3, h4⟩ := sum_app (w.lenAt xs j) (w.lenF xs (j + 1) q)
    have e : w.lenF xs j (q + 1) = w.lenAt xs j ++ w.lenF xs (j + 1) q := rfl
    rw [e, h3, h4, h1, h2]
    simp only [sumF, Wg.lenAt]
    by_cases h : j = 0
    · simp [h, sum1, sum2]
    · simp [h, sum1, sum2]

theorem len_eq (w : Wg) {xs : List Pc} (h0 : 0 < xs.length) : foldF (w.lnA xs) (w.flm xs) 0 xs.length = (sum1 (w.lenF xs 0 xs.length), sum2 (w.lenF xs 0 xs.length)) := by
  obtain ⟨h1, h2⟩ := lenF_sum w xs xs.length 0
  obtain ⟨n, hn⟩ : ∃ n, xs.length = n + 1 := ⟨xs.length - 1, by omega⟩
  have hf : w.flm xs = (0 + sumF (fun i => (w.fa (pcA xs i)).lo + (w.fb (pcA xs (i + 1))).lo) 0 (xs.length - 1), 0 + sumF (fun i => (w.fa (pcA xs i)).hi + (w.fb (pcA xs (i + 1))).hi) 0 (xs.length - 1)) := foldF_pair _ _ _ _ _
  have hl := foldF_pair (fun i => (w.b (pcA xs i).b.toNat).lo) (fun i => (w.b (pcA xs i).b.toNat).hi) xs.length 0 (w.flm xs)
  have key : ∀ (c f : Nat → Int), sumF (fun i => c i + if i = 0 then 0 else f (i - 1)) 0 (n + 1) = sumF c 0 (n + 1) + sumF f 0 n := by
    intro c f
    rw [sumF_add c (fun i => if i = 0 then 0 else f (i - 1))]
    have e : sumF (fun i => if i = 0 then 0 else f (i - 1)) 0 (n + 1) = sumF f 0 n := by
      simp only [sumF, if_true, Int.zero_add]
      rw [← sumF_shift f n 0]
      exact sumF_con _ _ (fun i h1 h2 => by rw [if_neg (by omega)])
    rw [e]
  have k1 := key (fun i => (w.b (pcA xs i).b.toNat).lo) (fun i => (w.fa (pcA xs i)).lo + (w.fb (pcA xs (i + 1))).lo)
  have k2 := key (fun i => (w.b (pcA xs i).b.toNat).hi) (fun i => (w.fa (pcA xs i)).hi + (w.fb (pcA xs (i + 1))).hi)
  have c1 : ∀ (f : Nat → Int) (g : Nat → Nat → Int), (∀ i, i ≠ 0 → g (i - 1) i = g (i - 1) (i - 1 + 1)) := fun f g i hi => by rw [show i - 1 + 1 = i by omega]
  have m1 : sumF (fun i => (w.b (pcA xs i).b.toNat).lo + if i = 0 then 0 else (w.fa (pcA xs (i - 1))).lo + (w.fb (pcA xs i)).lo) 0 (n + 1) = sumF (fun i => (w.b (pcA xs i).b.toNat).lo + if i = 0 then 0 else (w.fa (pcA xs (i - 1))).lo + (w.fb (pcA xs (i - 1 + 1))).lo) 0 (n + 1) := sumF_con _ _ (fun i _ _ => by
    by_cases hi : i = 0
    · simp [hi]
    · simp only [if_neg hi]; rw [show i - 1 + 1 = i by omega])
  have m2 : sumF (fun i => (w.b (pcA xs i).b.toNat).hi + if i = 0 then 0 else (w.fa (pcA xs (i - 1))).hi + (w.fb (pcA xs i)).hi) 0 (n + 1) = sumF (fun i => (w.b (pcA xs i).b.toNat).hi + if i = 0 then 0 else (w.fa (pcA xs (i - 1))).hi + (w.fb (pcA xs (i - 1 + 1))).hi) 0 (n + 1) := sumF_con _ _ (fun i _ _ => by
    by_cases hi : i = 0
    · simp [hi]
    · simp only [if_neg hi]; rw [show i - 1 + 1 = i by omega])
  rw [h1, h2]
  have e : foldF (w.lnA xs) (w.flm xs) 0 xs.length = foldF (fun (a : Int × Int) i => (a.1 + (w.b (pcA xs i).b.toNat).lo, a.2 + (w.b (pcA xs i).b.toNat).hi)) (w.flm xs) 0 xs.length := rfl
  rw [e, hl, hf, hn, m1, m2, k1, k2]
  simp only [Nat.add_sub_cancel]
  ext <;> simp only <;> omega

theorem law_long {w : Wg} {vb va : AV} (h : WgAt H w vb va) {v : AV} {xs : List Pc} (hs : SlOk H 2 v (xs.map Pc.av)) :
    callFL cfg0 prog0 false 13 [.agg [vb, va], v] H none = some ⟨.ret (.bool (decide (40 < w.bs.length ∨ 40 < w.ps.length ∨ 40 < xs.length))), H, none⟩ := by
  have s0 := hs.scal
  have s1 := h.bs.scal
  have s2 := h.ps.scal
  have n0 := hs.len
  have n1 := h.bs.len
  have n2 := h.ps.len
  have c1 := h.bs.cel
  have c2 := h.ps.cel
  rw [List.length_map] at n0 n1 n2
  have e : decide (40 < w.bs.length ∨ 40 < w.ps.length ∨ 40 < xs.length) = decide ((40 : Int) < if (if (w.bs.length : Int) < w.ps.length then (w.ps.length : Int) else w.bs.length) < xs.length then (xs.length : Int) else if (w.bs.length : Int) < w.ps.length then (w.ps.length : Int) else w.bs.length) := by
    congr 1
    apply propext
    omega
  rw [e]
  refine (callFL_eq fn13 rfl (by simp [Try.f13])).trans ?_
  simp (maxSteps := 1000000) (implicitDefEqProofs := false) (disch := first | rfl | omega | assumption) only [go_sem, s0, s1, s2, n0, n1, n2, c1, c2]

end Go.Ab
/-
  WringStacks.
-/
namespace Go.Ab
open Go.Proofs
set_option linter.unusedSimpArgs false
set_option linter.unusedVariables false
set_option maxRecDepth 100000
set_option maxHeartbeats 2000000

variable {H : Heap}


theorem sameP_refl (xs : List Pc) : sameP xs xs = true := by
  simp only [sameP, Bool.and_eq_true, decide_eq_true_eq, true_and, Bool.not_eq_true', anyF_false]
  intro i _ _
  simp [neP]

theorem ref_SameO {o : Option (List Pc)} (h : ∀ l, o = some l → l.length ≤ 1000) (H : Heap) : callFL cfg0 prog0 false 27 [plA o, plA o] H none = some ⟨.ret (.bool true), H, none⟩ := by
  cases o with
  | none => exact ref_Same (H := H) (slP (b := true) []) (slP (b := true) []) (by simp) (by simp)
  | some l =>
    have h1 := ref_Same (H := H) (slP (b := false) l) (slP (b := false) l) (h l rfl) (h l rfl)
    rw [sameP_refl] at h1
    exact h1

theorem best_len {w : Wg} : ∀ l, w.best.2.1 = some l → l.length ≤ 1000 := by
  intro l hl
  simp only [Wg.best] at hl
  cases hv : w.valid
  · rw [hv] at hl; cases hl
  have ho := w.valid_iff.1 hv
  rw [hv, if_pos rfl] at hl
  by_cases ht : 0 < (w.tal false w.full).1
  · rw [if_pos ht] at hl
    cases hl
    have hg := (bestL_goes ho w.bs.length w.full (full_ok w) (cnt_full ho.n.2) ht).1
    rcases (goes_set ho (full_lt w) _).1 hg with ⟨h, _⟩ | ⟨h, _⟩
    · rw [h]; simp
    · have := stk_len ho h
      have h5 := ho.n.2
      simp only [Wg.n] at h5
      omega
  · rw [if_neg ht] at hl; cases hl

theorem law_WringStacks {w : Wg} {vb va : AV} (h : WgAt H w vb va) :
    callFL cfg0 prog0 false 4 [.agg [vb, va]] H none = some ⟨.ret (.bool true), H, none⟩ := by
  have s1 := h.bs.scal
  have s2 := h.ps.scal
  have hL := fun G : Heap => law_long (h.app G) (slP (H := H ++ G) (b := true) [])
  have hA := fun G : Heap => law_alive G
  simp only [List.map_nil, List.length_nil] at hL
  by_cases hlg : 40 < w.bs.length ∨ 40 < w.ps.length ∨ 40 < 0
  · rw [decide_eq_true hlg] at hL
    refine (callFL_eq fn4 rfl (by simp [Try.f4])).trans ?_
    simp (maxSteps := 1000000) (implicitDefEqProofs := false) (disch := first | rfl | omega | assumption) only [go_sem, ltT, ltF, leT, leF, s1, s2, hL, hA]
    done
  · rw [decide_eq_false hlg] at hL
    have hl : w.bs.length ≤ 1000 ∧ w.ps.length ≤ 1000 := by omega
    have r1 := fun G : Heap => wr_Count (h.app G) hl
    have r2 := fun G : Heap => ref_Count (h.app G) hl
    have r3 := fun G : Heap => wr_Best (h.app G) hl
    have r4 := fun G : Heap => ref_Best (h.app G) hl
    have r5 := fun G : Heap => wr_Hope (h.app G) hl
    have r6 := fun G : Heap => ref_Hope (h.app G) hl
    have r7 := fun G : Heap => ref_SameO (best_len (w := w)) G
    generalize w.count = a at *
    generalize w.best = b at *
    generalize w.hope = c at *
    obtain ⟨a1, a2⟩ := a
    obtain ⟨b1, b2, b3⟩ := b
    obtain ⟨c1, c2⟩ := c
    have e1 : (a1 == a1) = true := beq_self_eq_true _
    have e2 : (a2 == a2) = true := beq_self_eq_true _
    have e3 : (b1 == b1) = true := beq_self_eq_true _
    have e4 : (b3 == b3) = true := beq_self_eq_true _
    have e5 : (c1 == c1) = true := beq_self_eq_true _
    have e6 : (c2 == c2) = true := beq_self_eq_true _
    simp only at r7
    have sc : (plA b2).scalar = true := by cases b2 <;> rfl
    refine (callFL_eq fn4 rfl (by simp [Try.f4])).trans ?_
    simp (maxSteps := 1000000) (implicitDefEqProofs := false) (disch := first | rfl | omega | assumption) only [go_sem, ltT, ltF, leT, leF, s1, s2, hL]
    simp (maxSteps := 1000000) (implicitDefEqProofs := false) (disch := first | rfl | omega | assumption) only [go_sem, ltT, ltF, leT, leF, s1, s2, sc, r1, r2, r3, r4, r5, r6, r7, hA, e1, e2, e3, e4, e5, e6]
    done

end Go.Ab
