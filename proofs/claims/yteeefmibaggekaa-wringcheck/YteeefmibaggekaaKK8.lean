/-
  Length of what is no stack, wherever it lies.
-/
import Derived.Test.YteeefmibaggekaaKK2
import Derived.Test.YteeefmibaggekaaKK7
namespace Go.Ab
open Go.Proofs
set_option linter.unusedSimpArgs false
set_option linter.unusedVariables false
set_option maxRecDepth 100000
set_option maxHeartbeats 2000000

variable {H : Heap}


theorem stk_loopG {l m k : Nat} {w : Wg} {b : Bool} {vb va : AV} (h : ShAt H l m w b vb va) (hw : w.bs.length ≤ 5) {v : AV} (xs : List Pc) (hs : SlOk H 2 v (xs.map Pc.av)) (hx : xs.length ≤ 1000) (hk : H[k]? = some (.box v)) (r : Bool) :
    ∀ (q j : Nat), j + q = xs.length → ∀ (G : Heap), ∀ (es : List (AV × AV)), es = snM (xs.take j) → (!anyF (w.badAt xs) j q && decide ((0 : Int) < xs.length)) = r → ∀ E : Env, E.get 0 = .ptr l 0 → E.get 1 = .ptr k 0 → E.get 4 = .map H.length → E.get 8 = v → E.get 9 = I xs.length → E.get 10 = I j →
    Option.map (finishC H.length) (execL cfg0 prog0 ⟨99, none, false, H.length⟩ (todoAt Try.f99 3) ⟨E, [], H ++ (.map 3 es :: G), none⟩) = some ⟨.ret (.bool r), H, none⟩ := by
  intro q
  obtain ⟨a1, a2, a3, a4, a5⟩ := hs.fF (d := pc0)
  have v1 := hs.scal
  have v2 := hs.ltn 1
  have v3 := hs.len
  rw [List.length_map] at v3
  have v4 := hs.cel
  have ll : l < H.length := (List.getElem?_eq_some_iff.1 h.box).1
  have lk : k < H.length := (List.getElem?_eq_some_iff.1 hk).1
  have hkk : ∀ G : Heap, (H ++ G)[k]? = some (.box v) := fun G => by rw [List.getElem?_append_left lk]; exact hk
  have t1 : (decide (l < H.length + 1)) = true := by simp; omega
  have t2 : (decide (k < H.length + 1)) = true := by simp; omega
  have hln := h.wat.bs.len
  rw [List.length_map] at hln
  induction q with
  | zero =>
    intro j hj G es he hr E g0 g1 g4 g8 g9 g10
    have hk' : ¬ (j : Int) < ((xs.length : Nat) : Int) := by omega
    have e0 : anyF (w.badAt xs) j 0 = false := rfl
    rw [e0, Bool.not_false, Bool.true_and] at hr
    have hm := snM_lt (xs.take j) (H.length + 1)
    rw [← he] at hm
    simp only [loopIt, todoPast, todoAt, todoOf, firstReg, ↓reduceIte, Option.some.injEq, Nat.reduceEqDiff, reduceCtorEq, Try.f99]
    rw [execL_inLoop]
    cases r
    · have h0 : ¬ (0 : Int) < xs.length := by simpa using hr
      simp (maxSteps := 1000000) (implicitDefEqProofs := false) (disch := first | rfl | omega | assumption) only [go_sem, g0, g1, g4, g8, g9, g10, ltT, ltF, leT, leF, hk', v1, v2, v3, v4, t1, t2, hm, hkk, h0]
      done
    · have h0 : (0 : Int) < xs.length := by simpa using hr
      simp (maxSteps := 1000000) (implicitDefEqProofs := false) (disch := first | rfl | omega | assumption) only [go_sem, g0, g1, g4, g8, g9, g10, ltT, ltF, leT, leF, hk', v1, v2, v3, v4, t1, t2, hm, hkk, h0]
      done
  | succ q ih =>
    intro j hj G es he hr E g0 g1 g4 g8 g9 g10
    have hk' : (j : Int) < ((xs.length : Nat) : Int) := by omega
    have hk2 : j < xs.length := by omega
    have hm := snM_lt (xs.take j) (H.length + 1)
    rw [← he] at hm
    have hnx := sn_take xs hk2
    rw [← he] at hnx
    have hlk := snM_look (pcA xs j).b (xs.take j) []
    have ele : (xs.take j).foldl (fun es x => putM (I x.b) (.bool true) es) [] = es := he.symm
    rw [ele] at hlk
    have hu : anyF (w.badAt xs) j (q + 1) = (w.badAt xs j || anyF (w.badAt xs) (j + 1) q) := rfl
    have hbd : w.badAt xs j = (!wi (pcA xs j).b 0 ((w.bs.length : Int) - 1) || (!wi (pcA xs j).u 0 1 || (xs.take j).any (fun x => x.b == (pcA xs j).b))) := rfl
    rw [hu, hbd] at hr
    obtain ⟨x, hxe⟩ : ∃ x, pcA xs j = x := ⟨_, rfl⟩
    have hxe' : xs.getD j pc0 = x := hxe
    rw [hxe] at hnx hr hlk
    obtain ⟨xb, xu⟩ := x
    have hrd : ∀ ty : Ty, readPart (Pc.av ⟨xb, xu⟩).cells 0 ty = readPart [I xb, I xu] 0 ty := fun _ => rfl
    have hI := fun G => wr_isBlock (n := w.bs.length) ((h.app G).box) (fcsN_len w.b) (by exact hln) (by omega) xb
    simp only at hr hlk hnx
    cases c1 : wi xb 0 ((w.bs.length : Int) - 1)
    · rw [c1] at hr
      simp only [Bool.not_false, Bool.true_or, Bool.not_true, Bool.false_and] at hr
      subst hr
      simp only [loopIt, todoPast, todoAt, todoOf, firstReg, ↓reduceIte, Option.some.injEq, Nat.reduceEqDiff, reduceCtorEq, Try.f99]
      rw [execL_inLoop]
      simp (maxSteps := 1000000) (implicitDefEqProofs := false) (disch := first | rfl | omega | assumption) only [go_sem, g0, g1, g4, g8, g9, g10, ltT, ltF, leT, leF, hk', v1, v2, v3, v4, t1, t2, hm, hkk, a1, a2, a3, a4, a5, hxe', hrd, hI, wr_within, c1]
      done
    cases c2 : wi xu 0 1
    · rw [c1, c2] at hr
      simp only [Bool.not_false, Bool.true_or, Bool.or_true, Bool.not_true, Bool.false_and] at hr
      subst hr
      simp only [loopIt, todoPast, todoAt, todoOf, firstReg, ↓reduceIte, Option.some.injEq, Nat.reduceEqDiff, reduceCtorEq, Try.f99]
      rw [execL_inLoop]
      simp (maxSteps := 1000000) (implicitDefEqProofs := false) (disch := first | rfl | omega | assumption) only [go_sem, g0, g1, g4, g8, g9, g10, ltT, ltF, leT, leF, hk', v1, v2, v3, v4, t1, t2, hm, hkk, a1, a2, a3, a4, a5, hxe', hrd, hI, wr_within, c1, c2]
      done
    rcases Bool.eq_false_or_eq_true ((xs.take j).any (fun x => x.b == xb)) with c3 | c3
    · rw [c1, c2, c3] at hr
      simp only [Bool.or_true, Bool.true_or, Bool.not_true, Bool.false_and] at hr
      subst hr
      rw [c3] at hlk
      simp only [if_true] at hlk
      simp only [loopIt, todoPast, todoAt, todoOf, firstReg, ↓reduceIte, Option.some.injEq, Nat.reduceEqDiff, reduceCtorEq, Try.f99]
      rw [execL_inLoop]
      simp (maxSteps := 1000000) (implicitDefEqProofs := false) (disch := first | rfl | omega | assumption) only [go_sem, g0, g1, g4, g8, g9, g10, ltT, ltF, leT, leF, hk', v1, v2, v3, v4, t1, t2, hm, hkk, a1, a2, a3, a4, a5, hxe', hrd, hI, wr_within, c1, c2, hlk]
      done
    · rw [c1, c2, c3] at hr
      simp only [Bool.not_true, Bool.or_false, Bool.false_or] at hr
      rw [c3] at hlk
      simp only [Bool.false_eq_true, if_false, lookupM] at hlk
      simp only [loopIt, todoPast, todoAt, todoOf, firstReg, ↓reduceIte, Option.some.injEq, Nat.reduceEqDiff, reduceCtorEq, Try.f99]
      rw [execL_inLoop]
      simp (maxSteps := 1000000) (implicitDefEqProofs := false) (disch := first | rfl | omega | assumption) only [go_sem, g0, g1, g4, g8, g9, g10, ltT, ltF, leT, leF, hk', v1, v2, v3, v4, t1, t2, hm, hkk, a1, a2, a3, a4, a5, hxe', hrd, hI, wr_within, c1, c2, hlk]
      exact ih (j + 1) (by omega) [.box (.agg [I xb, I xu])] _ hnx.symm hr _ (by rfl) (by rfl) (by rfl) (by rfl) (by rfl) (by rfl)

theorem wr_stackG {l m k : Nat} {w : Wg} {b : Bool} {vb va : AV} (h : ShAt H l m w b vb va) (hw : w.bs.length ≤ 5) {v : AV} (xs : List Pc) (hs : SlOk H 2 v (xs.map Pc.av)) (hx : xs.length ≤ 1000) (hk : H[k]? = some (.box v)) :
    callFL cfg0 prog0 false 99 [.ptr l 0, .ptr k 0] H none = some ⟨.ret (.bool (w.stk xs)), H, none⟩ := by
  have h1 := stk_loopG h hw xs hs hx hk (w.stk xs) xs.length 0 (by omega) [] [] rfl rfl
  have lk : k < H.length := (List.getElem?_eq_some_iff.1 hk).1
  have hk' : ∀ G : Heap, (H ++ G)[k]? = some (.box v) := fun G => by rw [List.getElem?_append_left lk]; exact hk
  have v1 := hs.scal
  have v3 := hs.len
  rw [List.length_map] at v3
  have v4 := hs.cel
  refine (callFL_eq fn99 rfl (by simp [Try.f99])).trans ?_
  simp (maxSteps := 1000000) (implicitDefEqProofs := false) (disch := first | rfl | omega | assumption) only [go_sem, ltT, ltF, leT, leF, hk', v1, v3, v4]
  exact h1 _ (by rfl) (by rfl) (by rfl) (by rfl) (by rfl) (by rfl)

theorem SlOk.eok1 {sz : Nat} {v : AV} {xs : List AV} (h : SlOk H sz v xs) : elemOk 1 false v = true := by
  obtain ⟨h1, h2⟩ := h
  cases v <;> first | rfl | simp only at h1

theorem wr_LengthX {w : Wg} {vb va : AV} (h : WgAt H w vb va) (hl : w.bs.length ≤ 1000 ∧ w.ps.length ≤ 1000) {v : AV} (xs : List Pc) (hsv : SlOk H 2 v (xs.map Pc.av)) (hx : xs.length ≤ 300) (hkf : w.stk xs = false) :
    callFL cfg0 prog0 false 19 [.agg [vb, va], v] H none = some ⟨.ret (.tup [.agg [I (w.length xs).1.1, I (w.length xs).1.2], I (w.length xs).2]), H, none⟩ := by
  have s1 := h.bs.scal
  have s2 := h.ps.scal
  have s3 := hsv.scal
  have s4 := hsv.eok1
  have hI := fun G => wr_isStack v hsv.scal (.inr trivial) G
  have hD := fun (e : Int) (a b : AO) (G : Heap) => wd_Lengths (H.length + 2) e 0 (H ++ (a :: b :: .box (I 0) :: G)) (by rw [get_at' 2]; rfl)
  have hO := wr_open (H := H ++ [.box (.agg [vb, va]), .box (.agg [I 0, I 0]), .box (I 0), .box v]) (h.app _) hl (.func 99) [.ptr (H.length + 3) 0] (by simp [AV.lt, ltL, fnLt]) (w.stk xs) (fun hv => by
    have ho := w.valid_iff.1 hv
    have hs := wr_stackG (k := H.length + 3) (opG_at (h.app [.box (.agg [vb, va]), .box (.agg [I 0, I 0]), .box (I 0), .box v])) ho.n.2 xs ((hsv.app _).app _) (by omega) (by rw [List.append_assoc, get_at' 3]; rfl)
    rw [callVL_func]
    exact hs)
  simp only [List.length_append, List.length_cons, List.length_nil, Nat.zero_add, Nat.reduceAdd, Nat.add_assoc, opG, List.append_assoc, List.cons_append, List.nil_append] at hO
  cases hv : w.valid
  · simp only [hv, Bool.false_eq_true, if_false] at hO
    simp only [Wg.length, hv, Bool.false_eq_true, if_false]
    refine (callFL_eq fn19 rfl (by simp [Try.f19])).trans ?_
    simp (maxSteps := 1000000) (implicitDefEqProofs := false) (disch := first | rfl | omega | assumption) only [go_sem, ltT, ltF, leT, leF, s1, s2, s3, s4]
    rw [chkK_of]; rotate_left; kernel_rfl
    simp (maxSteps := 1000000) (implicitDefEqProofs := false) (disch := first | rfl | omega | assumption) only [go_sem, ltT, ltF, leT, leF, s1, s2, s3, s4, hI, hO, hD]
    done
  have ho := w.valid_iff.1 hv
  simp only [hv, if_true] at hO
  simp only [Wg.length, hv, if_true]
  have hk := hkf
  simp only [hk, Bool.false_eq_true, if_false] at hO ⊢
  refine (callFL_eq fn19 rfl (by simp [Try.f19])).trans ?_
  simp (maxSteps := 1000000) (implicitDefEqProofs := false) (disch := first | rfl | omega | assumption) only [go_sem, ltT, ltF, leT, leF, s1, s2, s3, s4]
  rw [chkK_of]; rotate_left; kernel_rfl
  simp (maxSteps := 1000000) (implicitDefEqProofs := false) (disch := first | rfl | omega | assumption) only [go_sem, ltT, ltF, leT, leF, s1, s2, s3, s4, hI, hO, hD]
  done

end Go.Ab
/-
  WringCheck.
-/
namespace Go.Ab
open Go.Proofs
set_option linter.unusedSimpArgs false
set_option linter.unusedVariables false
set_option maxRecDepth 100000
set_option maxHeartbeats 2000000

variable {H : Heap}


theorem cs_tru (H : Heap) (t : Tru) : TruAt H t (.sl false (t.sc.map bpA)) (.sl false (t.ro.map spA)) (.sl false (t.ln.map I)) :=
  ⟨⟨rfl, fun x hx => by obtain ⟨i, _, rfl⟩ := List.mem_map.1 hx; rfl⟩, ⟨rfl, fun x hx => by obtain ⟨i, _, rfl⟩ := List.mem_map.1 hx; rfl⟩, ⟨rfl, fun x hx => by obtain ⟨i, _, rfl⟩ := List.mem_map.1 hx; rfl⟩⟩

theorem dup_stk {w : Wg} {l : List Pc} (h0 : 0 < l.length) : w.stk (l ++ [pcA l 0]) = false := by
  rw [← Bool.not_eq_true, stk_iff]
  rintro ⟨_, _, h⟩
  rw [List.map_append, List.nodup_append] at h
  exact h.2.2 (pcA l 0).b (List.mem_map.2 ⟨_, pcA_mem h0, rfl⟩) (pcA l 0).b (by simp) rfl

theorem far_stk {w : Wg} : w.stk [⟨w.bs.length, 0⟩] = false := by
  rw [← Bool.not_eq_true, stk_iff]
  rintro ⟨_, h, _⟩
  have := (h _ (List.mem_singleton.2 rfl)).2.1
  simp only [Wg.n] at this
  omega
theorem up_stk {w : Wg} : w.stk [⟨0, 2⟩] = false := by
  rw [← Bool.not_eq_true, stk_iff]
  rintro ⟨_, h, _⟩
  have := (h _ (List.mem_singleton.2 rfl)).2.2.2
  simp only at this
  omega

theorem law_WringCheck {w : Wg} {vb va : AV} (h : WgAt H w vb va) {vy : AV} {ws : List Int} (hy : SlOk H 1 vy (ws.map B8)) (hyB : ByOk ws) :
    callFL cfg0 prog0 false 8 [.agg [vb, va], vy] H none = some ⟨.ret (.bool true), H, none⟩ := by
  have s1 := h.bs.scal
  have s2 := h.ps.scal
  have n1 := h.bs.len
  rw [List.length_map] at n1
  have c1 := h.bs.cel
  have n2 := h.ps.len
  rw [List.length_map] at n2
  have c2 := h.ps.cel
  have s3 := hy.scal
  have hL := fun G : Heap => law_long (h.app G) (slP (H := H ++ G) (b := true) [])
  have hA := fun G : Heap => law_alive G
  simp only [List.map_nil, List.length_nil] at hL
  by_cases hlg : 40 < w.bs.length ∨ 40 < w.ps.length ∨ 40 < 0
  · rw [decide_eq_true hlg] at hL
    refine (callFL_eq fn8 rfl (by simp [Try.f8])).trans ?_
    simp (maxSteps := 1000000) (implicitDefEqProofs := false) (disch := first | rfl | omega | assumption) only [go_sem, ltT, ltF, leT, leF, s1, s2, hL, hA]
    done
  rw [decide_eq_false hlg] at hL
  have hl : w.bs.length ≤ 1000 ∧ w.ps.length ≤ 1000 := by omega
  have hW := fun G : Heap => ref_Wring (h.app G) hl
  cases hv : w.valid
  · rw [hv] at hW
    refine (callFL_eq fn8 rfl (by simp [Try.f8])).trans ?_
    simp (maxSteps := 1000000) (implicitDefEqProofs := false) (disch := first | rfl | omega | assumption) only [go_sem, ltT, ltF, leT, leF, s1, s2, hL, hW, hA]
    done
  have ho := w.valid_iff.1 hv
  rw [hv] at hW
  have hn := ho.n
  simp only [Wg.n] at hn
  have hM := fun G : Heap => law_made (h.app G) ⟨by omega, by omega⟩ (hy.app G) hyB
  have hk := made_stk (w := w) (by omega) hyB
  have hml := stk_len ho hk
  generalize madeL w.bs.length ws = l at *
  obtain ⟨hp, h0⟩ := stk_pok hk
  have r1 := fun G : Heap => wr_Check (h.app G) hl false l (by omega)
  have r3 := fun G : Heap => wr_Holds (h.app G) hl false l (by omega)
  have r5 := fun G : Heap => wr_Length (h.app G) hl false l (by omega)
  have hck : w.check l = if (w.brk false l).2 = 0 then (0, 0, 4) else ((w.brk false l).1, (w.brk false l).2, 0) := by simp only [Wg.check, hv, hk, if_true]
  have hhd : w.holds l = (if (w.brk false l).2 = 0 then (2, 0) else if (w.brk true l).2 = 0 then (1, 0) else (0, 0)) := by simp only [Wg.holds, hv, hk, if_true]
  have hll := length_is hv hk
  obtain ⟨bk1, bk2⟩ := back_all hv hk
  have b3 := fun G : Heap => wr_Holds (h.app G) hl false (back l) (by rw [back_len]; omega)
  have b5 := fun G : Heap => wr_Length (h.app G) hl false (back l) (by rw [back_len]; omega)
  rw [bk1, hhd] at b3
  rw [bk2, hll] at b5
  rw [hck] at r1
  rw [hhd] at r3
  rw [hll] at r5
  -- what is no stack
  have x2 := fun G : Heap => wr_Holds (h.app G) hl true [] (by simp)
  have x2e : w.holds [] = (0, 2) := by simp [Wg.holds, hv, Wg.stk]
  rw [x2e] at x2
  have x3 := fun G : Heap => wr_Check (h.app G) hl false [⟨w.bs.length, 0⟩] (by simp)
  have x3e : w.check [⟨w.bs.length, 0⟩] = (0, 0, 2) := by simp [Wg.check, hv, far_stk]
  rw [x3e] at x3
  have x3s := fun G : Heap => law_stack (H := G) (stk_at G [⟨w.bs.length, 0⟩]) (by simp)
  have x4 := fun G : Heap => wr_Holds (h.app G) hl false [⟨0, 2⟩] (by simp)
  have x4e : w.holds [⟨0, 2⟩] = (0, 2) := by simp [Wg.holds, hv, up_stk]
  rw [x4e] at x4
  have x4s := fun G : Heap => law_stack (H := G) (stk_at G [⟨0, 2⟩]) (by simp)
  simp only [flatP, List.map_cons, List.map_nil, List.flatMap_cons, List.flatMap_nil, List.cons_append, List.nil_append, List.append_nil, Pc.av] at x2 x3 x3s x4 x4s
  have hadd1 : ∀ o0 o1 o2 o3 o4 o5 o6 : AO, addElem (H ++ [o0, o1, o2, o3, o4, o5, o6]) 2 true (.sl true []) (l.map Pc.av) = some (.gsl (H.length + 7) l.length, H ++ [o0, o1, o2, o3, o4, o5, o6, .grow 2 (l.map Pc.av)]) := fun o0 o1 o2 o3 o4 o5 o6 => by
    have h1 : elemsOk 2 true (l.map Pc.av) = true := elemsOk_map (fun _ => rfl) l
    have h2 : ltL 0 (l.map Pc.av) = true := ltL_map (fun _ => rfl) l
    simp only [addElem, h1, h2, elemsOk, ltL, Bool.and_true, Bool.true_and]
    rw [if_pos (by simp [maxLenA]; omega)]
    simp
  have hadd2 : ∀ o0 o1 o2 o3 o4 o5 o6 : AO, addElem (H ++ [o0, o1, o2, o3, o4, o5, o6, .grow 2 (l.map Pc.av)]) 2 true (.gsl (H.length + 7) l.length) [(pcA l 0).av] = some (.gsl (H.length + 7) (l.length + 1), H ++ [o0, o1, o2, o3, o4, o5, o6, .grow 2 ((l ++ [pcA l 0]).map Pc.av)]) := fun o0 o1 o2 o3 o4 o5 o6 => by
    rw [add_gsl (xs := l.map Pc.av) (by rw [get_at']; rfl) (by simp) (by rfl) (by rfl) (by simp; omega), set_at']
    simp
  have x1 := fun o0 o1 o2 o3 o4 o5 o6 : AO => wr_LengthX (h.app [o0, o1, o2, o3, o4, o5, o6, .grow 2 ((l ++ [pcA l 0]).map Pc.av)]) hl (v := .gsl (H.length + 7) (l.length + 1)) (l ++ [pcA l 0]) ⟨⟨by rw [get_at']; rfl, by simp⟩, fun x hx => by obtain ⟨y, _, rfl⟩ := List.mem_map.1 hx; rfl⟩ (by simp; omega) (dup_stk h0)
  have x1e : w.length (l ++ [pcA l 0]) = ((0, 0), 2) := by simp only [Wg.length, hv, dup_stk h0, if_true, Bool.false_eq_true, if_false]
  rw [x1e] at x1
  -- truths
  have tk1 : w.cs.take w.bs.length = w.cs := take_all w _
  have tk2 : w.rl.take w.bs.length = w.rl := take_all w _
  have tk3 : w.rh.take w.bs.length = w.rh := take_all w _
  have tk4 : w.tw.ln.take w.bs.length = w.tw.ln := take_all w _
  have tk5 : w.tl.ln.take w.bs.length = w.tl.ln := take_all w _
  have tk6 : w.th.ln.take w.bs.length = w.th.ln := take_all w _
  have lt1 : (w.cs.map bpA).length = w.bs.length := by simp [Wg.cs]
  have lt2 : (w.rl.map spA).length = w.bs.length := by simp [Wg.rl]
  have lt3 : (w.rh.map spA).length = w.bs.length := by simp [Wg.rh]
  have lt4 : (w.tw.ln.map I).length = w.bs.length := by simp [Wg.tw]
  have lt5 : (w.tl.ln.map I).length = w.bs.length := by simp [Wg.tl]
  have lt6 : (w.th.ln.map I).length = w.bs.length := by simp [Wg.th]
  have m0 : ∀ (N : Nat) (L : List Pc), ltL N (L.map Pc.av) = true := fun N L => ltL_map (fun _ => rfl) L
  have m1 : ∀ (N : Nat) (L : List (Bool × Bool)), ltL N (L.map bpA) = true := fun N L => ltL_map (fun _ => rfl) L
  have m2 : ∀ (N : Nat) (L : List (Int × Int)), ltL N (L.map spA) = true := fun N L => ltL_map (fun _ => rfl) L
  have m3 : ∀ (N : Nat) (L : List Int), ltL N (L.map I) = true := fun N L => ltL_map (fun _ => rfl) L
  have t1 := h.bs.ltn 5
  have t2 := h.ps.ltn 5
  have hlow : ∀ G : Heap, callFL cfg0 prog0 false 40 [.agg [.sl false (w.cs.map bpA), .sl false (w.rl.map spA), .sl false (w.tl.ln.map I)], .agg [vb, va], .sl false (l.map Pc.av)] (H ++ G) none = _ := fun G => law_look (h.app G) (cs_tru (H ++ G) w.tl) (tl_ok ho) hl (slP (H := H ++ G) (b := false) l) (by omega) hp
  have hhigh : ∀ G : Heap, callFL cfg0 prog0 false 40 [.agg [.sl false (w.cs.map bpA), .sl false (w.rh.map spA), .sl false (w.th.ln.map I)], .agg [vb, va], .sl false (l.map Pc.av)] (H ++ G) none = _ := fun G => law_look (h.app G) (cs_tru (H ++ G) w.th) (th_ok ho) hl (slP (H := H ++ G) (b := false) l) (by omega) hp
  rw [end_low hp h0] at hlow
  rw [end_high hp h0] at hhigh
  have hworst : ∀ (G : Heap) (xs : List Pc), xs.length ≤ 1000 → w.poks xs → callFL cfg0 prog0 false 40 [.agg [.sl false (w.cs.map bpA), .sl false (w.rl.map spA), .sl false (w.tw.ln.map I)], .agg [vb, va], .sl false (xs.map Pc.av)] (H ++ G) none = some ⟨.ret (.tup [.bool (w.hld false xs), I ((w.tw.look w xs).2.1 + (w.tw.look w xs).2.2), I (w.tw.look w xs).2.2]), H ++ G, none⟩ := fun G xs hx hp' => by
    have := law_look (h.app G) (cs_tru (H ++ G) w.tw) (tw_ok ho) hl (slP (H := H ++ G) (b := false) xs) hx hp'
    rw [tw_holds ho hp'] at this
    exact this
  generalize (w.flm l).1 + sumF (fun i => (w.b (pcA l i).b.toNat).lo) 0 l.length = A at *
  generalize (w.flm l).2 + sumF (fun i => (w.b (pcA l i).b.toNat).hi) 0 l.length = B at *
  have e7 : sameL [I A, I B] [I A, I B] = true := by simp [sameL, AV.same]
  have hSp := fun (a b : Int) (G : Heap) => law_span a b G
  have hpu : ∀ i, i < l.length → 0 ≤ (pcA l i).u ∧ (pcA l i).u ≤ 1 := fun i hi => (hp i hi).2.2
  have lbk : ((back l).map Pc.av).length = l.length := by rw [List.length_map, back_len]
  have ho2' : ∀ (N : Nat) (a b c : List AV), (AO.box (.agg [.sl false a, .sl false b, .sl false c])).lt N = true := fun _ _ _ _ => rfl
  obtain ⟨⟨hxb, hxu⟩, hx0⟩ : ∃ x, l.getD 0 pc0 = x := ⟨_, rfl⟩
  have hr0 : (Pc.av ⟨hxb, hxu⟩).cells = [I hxb, I hxu] := rfl
  obtain ⟨a1, a2, a3, a4, a5⟩ := (slP (H := H) (b := false) l).fF (d := pc0)
  have o1 := (slP (H := H) (b := false) l).old
  have o2 := fun (k : Int) (off : Nat) => ptrOf_elA (k := k) (off := off) (slP (H := H) (b := false) l)
  have hL0 : (0 : Int) < (l.length : Int) := by omega
  have hp0 : pcA l 0 = ⟨hxb, hxu⟩ := hx0
  rw [hp0] at hadd2 x1
  simp only [show Pc.av ⟨hxb, hxu⟩ = .agg [I hxb, I hxu] from rfl] at hadd2
  have hwl := fun G : Heap => hworst G l (by omega) hp
  by_cases hb : (w.brk false l).2 = 0
  · simp only [if_pos hb] at r1 r3 b3
    have hhl : w.hld false l = true := by rw [brk_hld]; exact decide_eq_true hb
    rw [hhl] at hwl
    refine (callFL_eq fn8 rfl (by simp [Try.f8])).trans ?_
    simp (maxSteps := 1000000) (implicitDefEqProofs := false) (disch := first | rfl | omega | assumption) only [go_sem, ltT, ltF, leT, leF, s1, s2, hL, hW, hM, r1, r3, r5, t1, t2, n1, c1]
    refine ck_out h ho l 0 0 4 2 (.box (.agg [I A, I B])) (fun _ => rfl) _ _ (fun E k2 k5 k6 k7 k8 k9 k11 k13 k14 k15 => ?_) w.bs.length 0 (by omega) [] _ (by rfl) (by rfl) (by rfl) (by rfl) (by rfl) (by rfl) (by rfl) (by rfl) (by rfl) (by rfl) (by rfl) (by rfl) (by rfl)
    simp (maxSteps := 1000000) (implicitDefEqProofs := false) (disch := first | rfl | omega | assumption) only [go_sem, ltT, ltF, leT, leF, k2, k5, k6, k7, k8, k9, k11, k13, k14, k15, s1, s2, t1, t2, tk1, tk2, tk3, tk4, tk5, tk6, lt1, lt2, lt3, lt4, lt5, lt6, m0, m1, m2, m3, hlow, hhigh]
    rw [chkK_of]; rotate_left; kernel_rfl
    simp (maxSteps := 1000000) (implicitDefEqProofs := false) (disch := first | rfl | omega | assumption) only [go_sem, ltT, ltF, leT, leF, k2, k5, k6, k7, k8, k9, k11, k13, k14, k15, s1, s2, t1, t2, hSp, e7]
    refine ck_back s1 s2 h.bs.lt0 h.ps.lt0 (fun m => ⟨h.bs.ltn m, h.ps.ltn m⟩) l (by omega) hpu 0 0 4 2 (.box (.agg [I A, I B])) (.box (.agg [.sl false (w.cs.map bpA), .sl false (w.rl.map spA), .sl false (w.tw.ln.map I)])) (.box (.agg [.sl false (w.cs.map bpA), .sl false (w.rl.map spA), .sl false (w.tl.ln.map I)])) (.box (.agg [.sl false (w.cs.map bpA), .sl false (w.rh.map spA), .sl false (w.th.ln.map I)])) (fun _ => rfl) (fun _ => rfl) (fun _ => rfl) (fun _ => rfl) _ _ (fun E k2 k5 k6 k7 k8 k9 k11 k13 k29 => ?_) l.length 0 (by omega) [] _ (by rfl) (by rfl) (by rfl) (by rfl) (by rfl) (by rfl) (by rfl) (by rfl) (by rfl) (by rfl) (by rfl)
    simp (maxSteps := 1000000) (implicitDefEqProofs := false) (disch := first | rfl | omega | assumption) only [go_sem, ltT, ltF, leT, leF, k2, k5, k6, k7, k8, k9, k11, k13, k29, s1, s2, t1, t2, m0, lbk, ho2', b3, b5, e7, hwl]
    rw [chkK_of]; rotate_left; kernel_rfl
    simp (maxSteps := 1000000) (implicitDefEqProofs := false) (disch := first | rfl | omega | assumption) only [go_sem, ltT, ltF, leT, leF, k2, k5, s1, s2, n1, c1, hadd1, hadd2, x1, a1, a2, a3, a4, a5, hx0, hr0, hL0, x2, o1, o2, ld_ne, ld_eq, or_none']
    rw [chkK_of]; rotate_left; kernel_rfl
    simp (maxSteps := 1000000) (implicitDefEqProofs := false) (disch := first | rfl | omega | assumption) only [go_sem, ltT, ltF, leT, leF, k2, k5, s1, s2, n1, c1, x3s, x3]
    rw [chkK_of]; rotate_left; kernel_rfl
    simp (maxSteps := 1000000) (implicitDefEqProofs := false) (disch := first | rfl | omega | assumption) only [go_sem, ltT, ltF, leT, leF, k2, k5, s1, s2, x4s, x4, hA]
    done
  · simp only [if_neg hb] at r1 r3 b3
    obtain ⟨k, kl, kb, kj, ki⟩ := brk_is hb
    obtain ⟨th1, th2⟩ := take_holds kl kj ki
    rw [kb] at r1
    have hw1 := fun G : Heap => hworst G (l.take (k + 1)) (by rw [List.length_take]; omega) (take_poks hp _)
    have hw2 := fun G : Heap => hworst G (l.take (k + 2)) (by rw [List.length_take]; omega) (take_poks hp _)
    rw [th1] at hw1
    rw [th2] at hw2
    simp only [List.map_take] at hw1 hw2
    have hjr := jt_rule kj
    have hapk := ap_any w (pcA l k).b (pcA l (k + 1)).b
    generalize w.jt false (pcA l k) (pcA l (k + 1)) = jt at *
    have q1 : ¬ (k : Int) < 0 := by omega
    have q2 : ¬ ((l.length : Int) - 1) ≤ (k : Int) := by omega
    have q3 : IntKind.i64.wrap ((l.length : Int) - 1) = (l.length : Int) - 1 := w64 (by omega) (by omega)
    have q4 : IntKind.i64.wrap ((k : Int) + 1) = (k : Int) + 1 := w64 (by omega) (by omega)
    have q5 : IntKind.i64.wrap ((k : Int) + 2) = (k : Int) + 2 := w64 (by omega) (by omega)
    have q6 : ((k : Int) + 1).toNat = k + 1 := by omega
    have q7 : ((k : Int) + 2).toNat = k + 2 := by omega
    have q8 : ((l.map Pc.av).all fun v => v.cells.length == 2) = true := by simp [Pc.av, AV.cells]
    obtain ⟨nn, hnn, hnz⟩ : ∃ nn : Int, (if (w.brk true l).2 = 0 then ((1 : Int), (0 : Int)) else (0, 0)) = (nn, 0) ∧ nn ≠ 2 := by
      split
      · exact ⟨1, rfl, by omega⟩
      · exact ⟨0, rfl, by omega⟩
    rw [hnn] at r3 b3
    have hn2 : (nn == 2) = false := by simpa using hnz
    have hnn2 : (nn != nn) = false := by simp
    refine (callFL_eq fn8 rfl (by simp [Try.f8])).trans ?_
    simp (maxSteps := 1000000) (implicitDefEqProofs := false) (disch := first | rfl | omega | assumption) only [go_sem, ltT, ltF, leT, leF, s1, s2, hL, hW, hM, r1, r3, r5, t1, t2, n1, c1, hn2]
    refine ck_out h ho l k jt 0 nn (.box (.agg [I A, I B])) (fun _ => rfl) _ _ (fun E k2 k5 k6 k7 k8 k9 k11 k13 k14 k15 => ?_) w.bs.length 0 (by omega) [] _ (by rfl) (by rfl) (by rfl) (by rfl) (by rfl) (by rfl) (by rfl) (by rfl) (by rfl) (by rfl) (by rfl) (by rfl) (by rfl)
    simp (maxSteps := 1000000) (implicitDefEqProofs := false) (disch := first | rfl | omega | assumption) only [go_sem, ltT, ltF, leT, leF, k2, k5, k6, k7, k8, k9, k11, k13, k14, k15, s1, s2, t1, t2, tk1, tk2, tk3, tk4, tk5, tk6, lt1, lt2, lt3, lt4, lt5, lt6, m0, m1, m2, m3, hlow, hhigh]
    rw [chkK_of]; rotate_left; kernel_rfl
    simp (maxSteps := 1000000) (implicitDefEqProofs := false) (disch := first | rfl | omega | assumption) only [go_sem, ltT, ltF, leT, leF, k2, k5, k6, k7, k8, k9, k11, k13, k14, k15, s1, s2, t1, t2, hSp, e7]
    refine ck_back s1 s2 h.bs.lt0 h.ps.lt0 (fun m => ⟨h.bs.ltn m, h.ps.ltn m⟩) l (by omega) hpu k jt 0 nn (.box (.agg [I A, I B])) (.box (.agg [.sl false (w.cs.map bpA), .sl false (w.rl.map spA), .sl false (w.tw.ln.map I)])) (.box (.agg [.sl false (w.cs.map bpA), .sl false (w.rl.map spA), .sl false (w.tl.ln.map I)])) (.box (.agg [.sl false (w.cs.map bpA), .sl false (w.rh.map spA), .sl false (w.th.ln.map I)])) (fun _ => rfl) (fun _ => rfl) (fun _ => rfl) (fun _ => rfl) _ _ (fun E k2 k5 k6 k7 k8 k9 k11 k13 k29 => ?_) l.length 0 (by omega) [] _ (by rfl) (by rfl) (by rfl) (by rfl) (by rfl) (by rfl) (by rfl) (by rfl) (by rfl) (by rfl) (by rfl)
    simp (maxSteps := 1000000) (implicitDefEqProofs := false) (disch := first | rfl | omega | assumption) only [go_sem, ltT, ltF, leT, leF, k2, k5, k6, k7, k8, k9, k11, k13, k29, s1, s2, t1, t2, m0, lbk, ho2', b3, b5, e7, hnn2, q1, q2, q3]
    rw [chkK_of]; rotate_left; kernel_rfl
    simp (maxSteps := 1000000) (implicitDefEqProofs := false) (disch := first | rfl | omega | assumption) only [go_sem, ltT, ltF, leT, leF, k2, k5, k6, k7, k8, k9, k11, k13, s1, s2, q4, q6, q8, hw1]
    rw [chkK_of]; rotate_left; kernel_rfl
    simp (maxSteps := 1000000) (implicitDefEqProofs := false) (disch := first | rfl | omega | assumption) only [go_sem, ltT, ltF, leT, leF, k2, k5, k6, k7, k8, k9, k11, k13, s1, s2, q5, q7, q8, hw2, n2, c2]
    refine ck_ap h hl.2 l k (by omega) (by omega) jt true false (.box (.agg [I A, I B])) (.box (.agg [.sl false (w.cs.map bpA), .sl false (w.rl.map spA), .sl false (w.tw.ln.map I)])) (.box (.agg [.sl false (w.cs.map bpA), .sl false (w.rl.map spA), .sl false (w.tl.ln.map I)])) (.box (.agg [.sl false (w.cs.map bpA), .sl false (w.rh.map spA), .sl false (w.th.ln.map I)])) (.box (.agg [I A, I B])) (fun _ => rfl) (fun _ => rfl) (fun _ => rfl) (fun _ => rfl) (fun _ => rfl) _ _ _ (fun E k2 k5 k6 k7 k36 k39 k42 => ?_) w.ps.length 0 (by omega) [] false (Bool.false_or _) _ (by rfl) (by rfl) (by rfl) (by rfl) (by rfl) (by rfl) (by rfl) (by rfl) (by rfl) (by rfl)
    rw [← hapk] at k42
    rcases hjr with ⟨ha, rfl⟩ | ⟨ha, rfl⟩
    · rw [ha] at k42
      simp (maxSteps := 1000000) (implicitDefEqProofs := false) (disch := first | rfl | omega | assumption) only [go_sem, ltT, ltF, leT, leF, k2, k5, k6, k7, k36, k39, k42, s1, s2]
      rw [chkK_of]; rotate_left; kernel_rfl
      simp (maxSteps := 1000000) (implicitDefEqProofs := false) (disch := first | rfl | omega | assumption) only [go_sem, ltT, ltF, leT, leF, k2, k5, s1, s2, n1, c1, hadd1, hadd2, x1, a1, a2, a3, a4, a5, hx0, hr0, hL0, x2, o1, o2, ld_ne, ld_eq, or_none']
      rw [chkK_of]; rotate_left; kernel_rfl
      simp (maxSteps := 1000000) (implicitDefEqProofs := false) (disch := first | rfl | omega | assumption) only [go_sem, ltT, ltF, leT, leF, k2, k5, s1, s2, n1, c1, x3s, x3]
      rw [chkK_of]; rotate_left; kernel_rfl
      simp (maxSteps := 1000000) (implicitDefEqProofs := false) (disch := first | rfl | omega | assumption) only [go_sem, ltT, ltF, leT, leF, k2, k5, s1, s2, x4s, x4, hA]
    · rw [ha] at k42
      simp (maxSteps := 1000000) (implicitDefEqProofs := false) (disch := first | rfl | omega | assumption) only [go_sem, ltT, ltF, leT, leF, k2, k5, k6, k7, k36, k39, k42, s1, s2]
      rw [chkK_of]; rotate_left; kernel_rfl
      simp (maxSteps := 1000000) (implicitDefEqProofs := false) (disch := first | rfl | omega | assumption) only [go_sem, ltT, ltF, leT, leF, k2, k5, s1, s2, n1, c1, hadd1, hadd2, x1, a1, a2, a3, a4, a5, hx0, hr0, hL0, x2, o1, o2, ld_ne, ld_eq, or_none']
      rw [chkK_of]; rotate_left; kernel_rfl
      simp (maxSteps := 1000000) (implicitDefEqProofs := false) (disch := first | rfl | omega | assumption) only [go_sem, ltT, ltF, leT, leF, k2, k5, s1, s2, n1, c1, x3s, x3]
      rw [chkK_of]; rotate_left; kernel_rfl
      simp (maxSteps := 1000000) (implicitDefEqProofs := false) (disch := first | rfl | omega | assumption) only [go_sem, ltT, ltF, leT, leF, k2, k5, s1, s2, x4s, x4, hA]

end Go.Ab
