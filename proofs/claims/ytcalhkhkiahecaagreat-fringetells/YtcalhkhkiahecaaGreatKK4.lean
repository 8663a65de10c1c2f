/-
  Ask: how many lengths at each part.
-/
import Derived.Test.YtcalhkhkiahecaaGreatKK3
import Derived.Test.YtcalhkhkiahecaaGreatKK1
namespace Go.Ab
open Go.Proofs
set_option linter.unusedSimpArgs false
set_option linter.unusedVariables false
set_option maxRecDepth 100000
set_option maxHeartbeats 2000000

variable {H : Heap}


def sumK (k : Nat) (l : List ((Int × Int) × Int)) : Int := l.foldl (fun (a : Int) (p : (Int × Int) × Int) => if p.1.2 = (k : Int) then a + p.2 else a) 0
def arrK (l : List ((Int × Int) × Int)) : List AV := (List.range 20).map fun k => I (sumK k l)

theorem sumK_snoc (k : Nat) (l : List ((Int × Int) × Int)) (p : (Int × Int) × Int) : sumK k (l ++ [p]) = if p.1.2 = k then sumK k l + p.2 else sumK k l := by
  simp [sumK]

theorem sumK_perm (k : Nat) {l l' : List ((Int × Int) × Int)} (h : l.Perm l') : sumK k l = sumK k l' := by
  refine h.foldl_eq' (fun x _ y _ z => ?_) 0
  split <;> split <;> omega

theorem arrK_perm {l l' : List ((Int × Int) × Int)} (h : l.Perm l') : arrK l = arrK l' := by
  simp only [arrK]
  exact List.map_congr_left fun k _ => by rw [sumK_perm k h]

theorem arrK_len (l : List ((Int × Int) × Int)) : (arrK l).length = 20 := by simp [arrK]

theorem arrK_set (l : List ((Int × Int) × Int)) (p : (Int × Int) × Int) (h0 : 0 ≤ p.1.2) : (arrK l).set p.1.2.toNat (I (sumK p.1.2.toNat l + p.2)) = arrK (l ++ [p]) := by
  apply List.ext_getElem
  · simp [arrK]
  · intro i h1 h2
    rw [List.getElem_set]
    simp only [arrK, List.getElem_map, List.getElem_range, sumK_snoc]
    by_cases e : p.1.2.toNat = i
    · subst e
      rw [if_pos rfl, if_pos (by omega)]
    · rw [if_neg e, if_neg (by omega)]

def CtB (es : List ((Int × Int) × Int)) (j : Nat) : Prop := ∀ p ∈ es, 1 ≤ p.2 ∧ p.2 ≤ j

theorem sumK_bd (k : Nat) : ∀ (l : List ((Int × Int) × Int)) {j : Nat}, CtB l j → ∀ a : Int, 0 ≤ a → 0 ≤ l.foldl (fun (a : Int) (p : (Int × Int) × Int) => if p.1.2 = (k : Int) then a + p.2 else a) a ∧ l.foldl (fun (a : Int) (p : (Int × Int) × Int) => if p.1.2 = (k : Int) then a + p.2 else a) a ≤ a + l.length * j
  | [], j, _, a, ha => by exact ⟨by simpa using ha, by simp⟩
  | p :: r, j, h, a, ha => by
    have hp := h p List.mem_cons_self
    have e : ((p :: r).length : Int) * j = r.length * j + j := by simp only [List.length_cons]; rw [show ((r.length + 1 : Nat) : Int) = (r.length : Int) + 1 by omega, Int.add_mul]; omega
    have hr : CtB r j := fun q hq => h q (List.mem_cons_of_mem _ hq)
    simp only [List.foldl_cons]
    rw [e]
    split
    · have := sumK_bd k r hr (a + p.2) (by omega); omega
    · have := sumK_bd k r hr a ha; omega

theorem as_in {f : Frg} {vw vr : AV} (hf : FrAt H f vw vr) (es : List ((Int × Int) × Int)) (hn : 0 < es.length) (hm : es.length ≤ 401) (hp : PtB es) (hcb : CtB es 401) (b m j : Int) (K : List Item) (D : Done)
    (hK : ∀ E : Env, E.get 2 = I 0 → E.get 3 = I 0 → E.get 4 = .ptr (H.length + 1) 0 → E.get 5 = .ptr (H.length + 2) 0 → E.get 6 = I b → E.get 7 = I m → E.get 8 = I j → E.get 9 = .ptr (H.length + 3) 0 → E.get 19 = I f.ws.length → E.get 20 = I j → ∀ G : Heap,
      execL cfg0 prog0 ⟨23, none, false, H.length⟩ K ⟨E, [.fn (.func 68) [] [.ptr (H.length + 1) 0]], H ++ (.box (.agg [vw, I f.lo, I f.hi, vr]) :: .box (I 0) :: .box (.agg [vw, I f.lo, I f.hi, vr]) :: .box (.agg (arrK es)) :: G), none⟩ = some D) :
    ∀ (q : Nat) (seen rest : List Nat), rest.length = q → Met es.length seen rest → ∀ E : Env, E.get 2 = I 0 → E.get 3 = I 0 → E.get 4 = .ptr (H.length + 1) 0 → E.get 5 = .ptr (H.length + 2) 0 → E.get 6 = I b → E.get 7 = I m → E.get 8 = I j → E.get 9 = .ptr (H.length + 3) 0 → E.get 19 = I f.ws.length → E.get 20 = I j → E.get 26 = .ptr (H.length + 6) 0 → ∀ G : Heap,
    execL cfg0 prog0 ⟨23, none, false, H.length⟩ (loopIt Tryz.f23 9 :: .inBlock 2 :: K) ⟨E, [.fn (.func 68) [] [.ptr (H.length + 1) 0]], H ++ (.box (.agg [vw, I f.lo, I f.hi, vr]) :: .box (I 0) :: .box (.agg [vw, I f.lo, I f.hi, vr]) :: .box (.agg (arrK (seen.map (atC es)))) :: .box (.agg [vw, I f.lo, I f.hi, vr]) :: .map 53 (esA es) :: .iter (H.length + 5) es.length seen :: G), none⟩ = some D := by
  have s1 := hf.ws.scal
  have s2 := hf.rs.scal
  have t1 := hf.ws.ltn 7
  have t2 := hf.rs.ltn 7
  have hle := esA_len es
  have hml := esA_lt (H.length + 7) es
  have hk' : True := trivial
  intro q
  induction q with
  | zero =>
    intro seen rest hq hmet E g2 g3 g4 g5 g6 g7 g8 g9 g19 g20 g26 G
    have hlt := fun N => ltL_map (f := fun k => I (sumK k (seen.map (atC es)))) (N := N) (fun _ => rfl) (List.range 20)
    have hal : ∀ N, ltL N (arrK (seen.map (atC es))) = true := hlt
    simp only [loopIt, todoPast, todoAt, todoOf, firstReg, ↓reduceIte, Option.some.injEq, Nat.reduceEqDiff, reduceCtorEq, Tryz.f23]
    rw [execL_inLoop]
    simp (maxSteps := 1000000) (implicitDefEqProofs := false) (disch := first | rfl | omega | assumption) only [go_sem, g2, g3, g4, g5, g6, g7, g8, g9, g19, g20, g26, ltT, ltF, leT, leF, hk']
    refine exec_nx (e := [(2, I 0), (3, I 0), (4, .ptr (H.length + 1) 0), (5, .ptr (H.length + 2) 0), (6, I b), (7, I m), (8, I j), (9, .ptr (H.length + 3) 0), (19, I f.ws.length), (20, I j), (26, .ptr (H.length + 6) 0)]) (df := [.fn (.func 68) [] [.ptr (H.length + 1) 0]]) (H := H ++ [.box (.agg [vw, I f.lo, I f.hi, vr]), .box (I 0), .box (.agg [vw, I f.lo, I f.hi, vr]), .box (.agg (arrK (seen.map (atC es)))), .box (.agg [vw, I f.lo, I f.hi, vr]), .map 53 (esA es), .iter (H.length + 5) es.length seen]) (pn := none) (n := es.length) (m := H.length + 5) (seen := seen) (li := H.length + 6) (kt := 53) (es := esA es) (by simp (maxSteps := 1000000) (implicitDefEqProofs := false) (disch := first | rfl | omega | assumption) only [go_sem, g2, g3, g4, g5, g6, g7, g8, g9, g19, g20, g26, ltT, ltF, leT, leF, hk', t1, t2, hml, hal]) ?_ ?_ ?_ ?_ ?_ ?_
    · simp (maxSteps := 1000000) (implicitDefEqProofs := false) (disch := first | rfl | omega | assumption) only [go_sem, g2, g3, g4, g5, g6, g7, g8, g9, g19, g20, g26, ltT, ltF, leT, leF, hk']
    · simp (maxSteps := 1000000) (implicitDefEqProofs := false) (disch := first | rfl | omega | assumption) only [go_sem, g2, g3, g4, g5, g6, g7, g8, g9, g19, g20, g26, ltT, ltF, leT, leF, hk']
    · simp (maxSteps := 1000000) (implicitDefEqProofs := false) (disch := first | rfl | omega | assumption) only [go_sem, g2, g3, g4, g5, g6, g7, g8, g9, g19, g20, g26, ltT, ltF, leT, leF, hk']
    · exact hle
    · intro hall
      have hre := hmet.fin hall
      rw [hre] at hmet
      have hpa : arrK (seen.map (atC es)) = arrK es := arrK_perm (by
        have := met_perm (fun p => p) hmet.done
        simpa using this)
      rw [hpa]
      simp (maxSteps := 1000000) (implicitDefEqProofs := false) (disch := first | rfl | omega | assumption) only [go_sem, g2, g3, g4, g5, g6, g7, g8, g9, g19, g20, g26, ltT, ltF, leT, leF, hk']
      exact hK _ (by rfl) (by rfl) (by rfl) (by rfl) (by rfl) (by rfl) (by rfl) (by rfl) (by rfl) (by rfl) _
    · intro i hi hs
      obtain ⟨rest', h1, h2⟩ := hmet.go hi hs
      omega
  | succ q ih =>
    intro seen rest hq hmet E g2 g3 g4 g5 g6 g7 g8 g9 g19 g20 g26 G
    have hlt := fun N => ltL_map (f := fun k => I (sumK k (seen.map (atC es)))) (N := N) (fun _ => rfl) (List.range 20)
    have hal : ∀ N, ltL N (arrK (seen.map (atC es))) = true := hlt
    simp only [loopIt, todoPast, todoAt, todoOf, firstReg, ↓reduceIte, Option.some.injEq, Nat.reduceEqDiff, reduceCtorEq, Tryz.f23] at ih ⊢
    rw [execL_inLoop]
    simp (maxSteps := 1000000) (implicitDefEqProofs := false) (disch := first | rfl | omega | assumption) only [go_sem, g2, g3, g4, g5, g6, g7, g8, g9, g19, g20, g26, ltT, ltF, leT, leF, hk']
    refine exec_nx (e := [(2, I 0), (3, I 0), (4, .ptr (H.length + 1) 0), (5, .ptr (H.length + 2) 0), (6, I b), (7, I m), (8, I j), (9, .ptr (H.length + 3) 0), (19, I f.ws.length), (20, I j), (26, .ptr (H.length + 6) 0)]) (df := [.fn (.func 68) [] [.ptr (H.length + 1) 0]]) (H := H ++ [.box (.agg [vw, I f.lo, I f.hi, vr]), .box (I 0), .box (.agg [vw, I f.lo, I f.hi, vr]), .box (.agg (arrK (seen.map (atC es)))), .box (.agg [vw, I f.lo, I f.hi, vr]), .map 53 (esA es), .iter (H.length + 5) es.length seen]) (pn := none) (n := es.length) (m := H.length + 5) (seen := seen) (li := H.length + 6) (kt := 53) (es := esA es) (by simp (maxSteps := 1000000) (implicitDefEqProofs := false) (disch := first | rfl | omega | assumption) only [go_sem, g2, g3, g4, g5, g6, g7, g8, g9, g19, g20, g26, ltT, ltF, leT, leF, hk', t1, t2, hml, hal]) ?_ ?_ ?_ ?_ ?_ ?_
    · simp (maxSteps := 1000000) (implicitDefEqProofs := false) (disch := first | rfl | omega | assumption) only [go_sem, g2, g3, g4, g5, g6, g7, g8, g9, g19, g20, g26, ltT, ltF, leT, leF, hk']
    · simp (maxSteps := 1000000) (implicitDefEqProofs := false) (disch := first | rfl | omega | assumption) only [go_sem, g2, g3, g4, g5, g6, g7, g8, g9, g19, g20, g26, ltT, ltF, leT, leF, hk']
    · simp (maxSteps := 1000000) (implicitDefEqProofs := false) (disch := first | rfl | omega | assumption) only [go_sem, g2, g3, g4, g5, g6, g7, g8, g9, g19, g20, g26, ltT, ltF, leT, leF, hk']
    · exact hle
    · intro hall
      have hre := hmet.fin hall
      rw [hre] at hq
      simp at hq
    · intro i hi hs
      have hat : (esA es).getD i (.undef, .undef) = (.agg [I (atC es i).1.1, I (atC es i).1.2], I (atC es i).2) := es_at hi
      have hat2 : (esA es)[i]? = some (.agg [I (atC es i).1.1, I (atC es i).1.2], I (atC es i).2) := es_at2 hi
      have hmi : atC es i ∈ es := by simp only [atC, List.getD_eq_getElem?_getD, List.getElem?_eq_getElem hi, Option.getD_some]; exact List.getElem_mem hi
      have hb := hp _ hmi
      have hc := hcb _ hmi
      obtain ⟨rest', h1, h2⟩ := hmet.go hi hs
      have key := ih (seen ++ [i]) rest' (by omega) h1
      have hget : (arrK (seen.map (atC es)))[(atC es i).1.2.toNat]? = some (I (sumK (atC es i).1.2.toNat (seen.map (atC es)))) := by
        simp only [arrK, List.getElem?_map]
        rw [List.getElem?_range (by omega)]
        rfl
      have hset := arrK_set (seen.map (atC es)) (atC es i) hb.1
      rw [show seen.map (atC es) ++ [atC es i] = (seen ++ [i]).map (atC es) by simp] at hset
      have hp19 : ((atC es i).1.2.toNat ≤ 19) = True := eq_true (by omega)
      rw [List.set_eq_take_append_cons_drop, if_pos (by rw [arrK_len]; omega)] at hset
      have hsb := sumK_bd (atC es i).1.2.toNat (seen.map (atC es)) (j := 401) (fun p hp' => by
        obtain ⟨x, hx, rfl⟩ := List.mem_map.1 hp'
        have hxn : x < es.length := List.mem_range.1 (hmet.mem_iff.1 (List.mem_append_left _ hx))
        exact hcb _ (by simp only [atC, List.getD_eq_getElem?_getD, List.getElem?_eq_getElem hxn, Option.getD_some]; exact List.getElem_mem hxn)) 0 (by omega)
      have hsl : seen.length ≤ es.length := by
        have := hmet.length_eq
        simp only [List.length_append, List.length_range] at this; omega
      have hwr : IntKind.i64.wrap (sumK (atC es i).1.2.toNat (seen.map (atC es)) + (atC es i).2) = sumK (atC es i).1.2.toNat (seen.map (atC es)) + (atC es i).2 := by
        simp only [List.length_map] at hsb
        simp only [sumK] at hsb ⊢
        exact w64 (by omega) (by omega)
      have hals := arrK_len (seen.map (atC es))
      simp (maxSteps := 1000000) (implicitDefEqProofs := false) (disch := first | rfl | omega | assumption) only [go_sem, g2, g3, g4, g5, g6, g7, g8, g9, g19, g20, g26, ltT, ltF, leT, leF, hk', hle, hat, hat2, hget, hset, hwr, hals, hp19, if_true]
      exact key _ (by rfl) (by rfl) (by rfl) (by rfl) (by rfl) (by rfl) (by rfl) (by rfl) (by rfl) (by rfl) (by rfl) _

end Go.Ab
/-
  Ask: the largest of them, and the walk.
-/
namespace Go.Ab
open Go.Proofs
set_option linter.unusedSimpArgs false
set_option linter.unusedVariables false
set_option maxRecDepth 100000
set_option maxHeartbeats 2000000

variable {H : Heap}


def mx2 (m x : Int) : Int := if m < x then x else m
def mxL (xs : List Int) : Int := (xs.drop 1).foldl mx2 (xs.getD 0 0)

theorem mx_loop {xs : List Int} (hx : xs.length ≤ 1000) (r : Int) :
    ∀ (q j : Nat), j + q = xs.length → ∀ (m : Int), (xs.drop j).foldl mx2 m = r → ∀ E : Env, E.get 0 = .sl false (xs.map I) → E.get 3 = I m → E.get 4 = I j →
    Option.map (finishC H.length) (execL cfg0 prog0 ⟨69, none, false, H.length⟩ (todoAt Tryz.f69 5) ⟨E, [], H, none⟩) = some ⟨.ret (I r), H, none⟩ := by
  intro q
  induction q with
  | zero =>
    intro j hj m hr E g0 g3 g4
    have hk' : ¬ (j : Int) < ((xs.length : Nat) : Int) := by omega
    rw [List.drop_of_length_le (by omega)] at hr
    simp only [List.foldl_nil] at hr
    subst hr
    have hll : ((xs.map I).length : Int) = xs.length := by rw [List.length_map]
    simp only [loopIt, todoPast, todoAt, todoOf, firstReg, ↓reduceIte, Option.some.injEq, Nat.reduceEqDiff, reduceCtorEq, Tryz.f69]
    rw [execL_inLoop]
    simp (maxSteps := 1000000) (implicitDefEqProofs := false) (disch := first | rfl | omega | assumption) only [go_sem, g0, g3, g4, ltT, ltF, leT, leF, hk', List.length_map]
    done
  | succ q ih =>
    intro j hj m hr E g0 g3 g4
    have hk' : (j : Int) < ((xs.length : Nat) : Int) := by omega
    have hk2 : j < xs.length := by omega
    have hd : xs.drop j = xs.getD j 0 :: xs.drop (j + 1) := by rw [List.drop_eq_getElem_cons hk2]; simp [hk2]
    rw [hd, List.foldl_cons] at hr
    have hsl : SlOk H 1 (.sl false (xs.map I)) (xs.map I) := ⟨rfl, fun x hx => by
      obtain ⟨i, _, rfl⟩ := List.mem_map.1 hx; rfl⟩
    obtain ⟨a1, a2, a3, a4, a5⟩ := hsl.fF (d := 0)
    simp only [loopIt, todoPast, todoAt, todoOf, firstReg, ↓reduceIte, Option.some.injEq, Nat.reduceEqDiff, reduceCtorEq, Tryz.f69]
    rw [execL_inLoop]
    simp (maxSteps := 1000000) (implicitDefEqProofs := false) (disch := first | rfl | omega | assumption) only [go_sem, g0, g3, g4, ltT, ltF, leT, leF, hk', a1, a2, a3, a4, a5, List.length_map]
    exact ih (j + 1) (by omega) _ hr _ (by exact g0) (by rfl) (by rfl)

theorem fr_max {xs : List Int} (hp : 0 < xs.length) (hx : xs.length ≤ 1000) (H : Heap) : callFL cfg0 prog0 false 69 [.sl false (xs.map I)] H none = some ⟨.ret (I (mxL xs)), H, none⟩ := by
  have hsl : SlOk H 1 (.sl false (xs.map I)) (xs.map I) := ⟨rfl, fun x hx => by
      obtain ⟨i, _, rfl⟩ := List.mem_map.1 hx; rfl⟩
  obtain ⟨a1, a2, a3, a4, a5⟩ := hsl.fF (d := 0)
  have h1 : ¬ (xs.length : Int) < 1 := by omega
  have hL := mx_loop (H := H) hx (mxL xs) (xs.length - 1) 1 (by omega) (xs.getD 0 0) rfl
  refine (callFL_eq fn69 rfl (by simp [Tryz.f69])).trans ?_
  simp (maxSteps := 1000000) (implicitDefEqProofs := false) (disch := first | rfl | omega | assumption) only [go_sem, ltT, ltF, leT, leF, a1, a2, a3, a4, a5, List.length_map, h1]
  exact hL _ (by rfl) (by rfl) (by rfl)

def arrI (l : List ((Int × Int) × Int)) : List Int := (List.range 20).map fun k => sumK k l
theorem arrI_map (l : List ((Int × Int) × Int)) : arrK l = (arrI l).map I := by simp [arrK, arrI]

def Frg.most (f : Frg) (j : Nat) : Int := mxL (arrI (f.cnt j))
def Frg.askGo (f : Frg) : Nat → Nat → Int × Int → Int × Int
  | _, 0, s => s
  | j, q + 1, (b, m) => f.askGo (j + 1) q (if j = 0 ∨ f.most j < m then ((j : Nat), f.most j) else (b, m))
def Frg.ask (f : Frg) : Int × Int × Int := if f.valid then (if (f.lens f.all).isEmpty then (0, 0, 10) else ((f.askGo 0 f.ws.length (0, 0)).1, (f.askGo 0 f.ws.length (0, 0)).2, 0)) else (0, 0, 1)

theorem getC_mem : ∀ {es : List ((Int × Int) × Int)} {k : Int × Int} {c : Int}, getC es k = some c → (k, c) ∈ es
  | (k', c') :: r, k, c, h => by
    simp only [getC] at h
    split at h
    · rename_i e; cases h; rw [e]; exact List.mem_cons_self
    · exact List.mem_cons_of_mem _ (getC_mem h)

theorem setC_mem2 (k : Int × Int) (c : Int) : ∀ es, ∀ p ∈ setC es k c, p = (k, c) ∨ p ∈ es
  | [], p, h => by simp only [setC, List.mem_singleton] at h; exact Or.inl h
  | (k', c') :: r, p, h => by
    simp only [setC] at h
    split at h
    · rcases List.mem_cons.1 h with h | h
      · exact Or.inl h
      · exact Or.inr (List.mem_cons_of_mem _ h)
    · rcases List.mem_cons.1 h with h | h
      · exact Or.inr (by rw [h]; exact List.mem_cons_self)
      · rcases setC_mem2 k c r p h with h | h
        · exact Or.inl h
        · exact Or.inr (List.mem_cons_of_mem _ h)

theorem cnt_ct (w : Int) : ∀ (xs : List Int) (es : List ((Int × Int) × Int)) (j : Nat), CtB es j → CtB (xs.foldl (incC w) es) (j + xs.length)
  | [], es, j, h => h
  | x :: r, es, j, h => by
    have h1 : CtB (incC w es x) (j + 1) := by
      intro p hp
      rcases setC_mem2 _ _ _ p hp with rfl | hp
      · cases hg : getC es (x / w, ptZ w x) with
        | none => simp only [Option.getD_none]; omega
        | some c0 => have := h _ (getC_mem hg); simp only [Option.getD_some] at this ⊢; omega
      · have := h p hp; omega
    have := cnt_ct w r _ _ h1
    simp only [List.length_cons, List.foldl_cons]
    rw [show j + (r.length + 1) = j + 1 + r.length by omega]
    exact this

theorem cnt_ct4 {f : Frg} (ho : f.Ok) (n : Nat) : CtB (f.cnt n) 401 := by
  have h := cnt_ct (f.w n) (f.lens f.all) [] 0 (fun p hp => by cases hp)
  have h2 := (lens_bd ho f.all).1
  intro p hp
  have := h p hp
  omega

theorem ask_loop {f : Frg} {vw vr : AV} (ho : f.Ok) (hf : FrAt H f vw vr) (hc : (f.lens f.all).isEmpty = false) (r : Int × Int) (D : Done)
    (hD : D = ⟨.ret (.tup [I r.1, I r.2, I 0]), H ++ [.box (.agg [vw, I f.lo, I f.hi, vr]), .box (I 0), .box (.agg [vw, I f.lo, I f.hi, vr])], none⟩) :
    ∀ (q j : Nat), j + q = f.ws.length → ∀ b m : Int, f.askGo j q (b, m) = r → ∀ E : Env, E.get 2 = I 0 → E.get 3 = I 0 → E.get 4 = .ptr (H.length + 1) 0 → E.get 5 = .ptr (H.length + 2) 0 → E.get 6 = I b → E.get 7 = I m → E.get 19 = I f.ws.length → E.get 20 = I j → ∀ G : Heap,
    execL cfg0 prog0 ⟨23, none, false, H.length⟩ (todoAt Tryz.f23 5) ⟨E, [.fn (.func 68) [] [.ptr (H.length + 1) 0]], H ++ (.box (.agg [vw, I f.lo, I f.hi, vr]) :: .box (I 0) :: .box (.agg [vw, I f.lo, I f.hi, vr]) :: G), none⟩ = some D := by
  have s1 := hf.ws.scal
  have s2 := hf.rs.scal
  have t1 := hf.ws.ltn 3
  have t2 := hf.rs.ltn 3
  have hm4 := ho.many
  have hN := fun G : Heap => wd_Askn (H.length + 1) G
  intro q
  induction q with
  | zero =>
    intro j hj b m hr E g2 g3 g4 g5 g6 g7 g19 g20 G
    have hk' : ¬ (j : Int) < ((f.ws.length : Nat) : Int) := by omega
    simp only [loopIt, todoPast, todoAt, todoOf, firstReg, ↓reduceIte, Option.some.injEq, Nat.reduceEqDiff, reduceCtorEq, Tryz.f23]
    rw [execL_inLoop]
    simp (maxSteps := 1000000) (implicitDefEqProofs := false) (disch := first | rfl | omega | assumption) only [go_sem, g2, g3, g4, g5, g6, g7, g19, g20, ltT, ltF, leT, leF, hk', t1, t2, hN]
    rw [hD, ← hr]
    rfl
  | succ q ih =>
    intro j hj b m hr E g2 g3 g4 g5 g6 g7 g19 g20 G
    have hk' : (j : Int) < ((f.ws.length : Nat) : Int) := by omega
    have hC := fun G : Heap => fr_counts ho (hf.app G) j (by omega)
    have h1 := cnt_pos (f.w j) hc
    have h2 := cnt_bd ho j
    have h3 := as_in hf (f.cnt j) h1 h2 (cnt_pt ho j (by omega)) (cnt_ct4 ho j) b m j
    have h4 := fun G : Heap => fr_max (xs := arrI (f.cnt j)) (by simp [arrI]) (by simp [arrI]) G
    simp only [hc, Bool.false_eq_true, if_false, Frg.cnt] at hC h3 h4
    simp only [loopIt, todoPast, todoAt, todoOf, firstReg, ↓reduceIte, Option.some.injEq, Nat.reduceEqDiff, reduceCtorEq, Tryz.f23] at ih h3 ⊢
    rw [execL_inLoop]
    simp (maxSteps := 1000000) (implicitDefEqProofs := false) (disch := first | rfl | omega | assumption) only [go_sem, g2, g3, g4, g5, g6, g7, g19, g20, ltT, ltF, leT, leF, hk', t1, t2, hC, esA_len]
    refine h3 _ _ ?_ _ [] _ rfl (Met.zero _) _ (by rfl) (by rfl) (by rfl) (by rfl) (by rfl) (by rfl) (by rfl) (by rfl) (by rfl) (by rfl) (by rfl) _
    intro E g2 g3 g4 g5 g6 g7 g8 g9 g19 g20 G
    rw [arrI_map]
    have hwr : f.most j = mxL (arrI (cntC (f.w j) (f.lens f.all))) := rfl
    have hal : ∀ N, ltL N ((arrI (cntC (f.w j) (f.lens f.all))).map I) = true := fun N => ltL_map (fun _ => rfl) _
    have h20 : (arrI (cntC (f.w j) (f.lens f.all))).length = 20 := by simp [arrI]
    simp only [Frg.askGo] at hr
    by_cases h0 : (j : Int) = 0
    · have h0' : j = 0 := by omega
      subst h0'
      simp only [true_or, if_true] at hr
      simp (maxSteps := 1000000) (implicitDefEqProofs := false) (disch := first | rfl | omega | assumption) only [go_sem, g2, g3, g4, g5, g6, g7, g8, g9, g19, g20, ltT, ltF, leT, leF, hk', t1, t2, h0, h4, hal, h20, List.length_map]
      exact ih (0 + 1) (by omega) _ _ hr _ (by rfl) (by rfl) (by rfl) (by rfl) (by rfl) (by rfl) (by rfl) (by rfl) _
    · have h0' : ¬ j = 0 := by omega
      simp only [h0', false_or, hwr] at hr
      have hje : ((j : Int) == 0) = false := by simpa using h0
      by_cases hlt : mxL (arrI (cntC (f.w j) (f.lens f.all))) < m
      · rw [if_pos hlt] at hr
        simp (maxSteps := 1000000) (implicitDefEqProofs := false) (disch := first | rfl | omega | assumption) only [go_sem, g2, g3, g4, g5, g6, g7, g8, g9, g19, g20, ltT, ltF, leT, leF, hk', t1, t2, hje, h4, hal, h20, List.length_map, hlt]
        exact ih (j + 1) (by omega) _ _ hr _ (by rfl) (by rfl) (by rfl) (by rfl) (by rfl) (by rfl) (by rfl) (by rfl) _
      · rw [if_neg hlt] at hr
        simp (maxSteps := 1000000) (implicitDefEqProofs := false) (disch := first | rfl | omega | assumption) only [go_sem, g2, g3, g4, g5, g6, g7, g8, g9, g19, g20, ltT, ltF, leT, leF, hk', t1, t2, hje, h4, hal, h20, List.length_map, hlt]
        exact ih (j + 1) (by omega) _ _ hr _ (by rfl) (by rfl) (by rfl) (by rfl) (by rfl) (by rfl) (by rfl) (by rfl) _

theorem fr_Ask {f : Frg} {vw vr : AV} (hf : FrAt H f vw vr) (hl : f.ws.length ≤ 1000 ∧ f.rs.length ≤ 1000) :
    callFL cfg0 prog0 false 23 [.agg [vw, I f.lo, I f.hi, vr]] H none = some ⟨.ret (.tup [I f.ask.1, I f.ask.2.1, I f.ask.2.2]), H, none⟩ := by
  have s1 := hf.ws.scal
  have s2 := hf.rs.scal
  have n1 := hf.ws.len
  have t1 := hf.ws.ltn 3
  have t2 := hf.rs.ltn 3
  rw [List.length_map] at n1
  have hk' : True := trivial
  have hO := fun G : Heap => fr_openA (hf.app G) hl
  have hS := fun (e : Int) (a : AO) (G : Heap) => wd_Asks (H.length + 1) e 0 (H ++ (a :: .box (I 0) :: G)) (by rw [get_at' 1]; rfl)
  cases hv : f.valid
  · simp only [hv, Bool.false_eq_true, if_false, Frg.ask] at hO ⊢
    refine (callFL_eq fn23 rfl (by simp [Tryz.f23])).trans ?_
    simp (maxSteps := 1000000) (implicitDefEqProofs := false) (disch := first | rfl | omega | assumption) only [go_sem, ltT, ltF, leT, leF, s1, s2, hO, hS]
    done
  · have ho := f.valid_iff.1 hv
    simp only [hv, if_true, Frg.ask] at hO ⊢
    cases hc : (f.lens f.all).isEmpty
    · simp only [hc, Bool.false_eq_true, if_false] at ⊢
      have h1 := ask_loop ho hf hc _ _ rfl f.ws.length 0 (by omega) 0 0 rfl
      simp only [loopIt, todoPast, todoAt, todoOf, firstReg, ↓reduceIte, Option.some.injEq, Nat.reduceEqDiff, reduceCtorEq, Tryz.f23] at h1
      refine (callFL_eq fn23 rfl (by simp [Tryz.f23])).trans ?_
      simp (maxSteps := 1000000) (implicitDefEqProofs := false) (disch := first | rfl | omega | assumption) only [go_sem, ltT, ltF, leT, leF, s1, s2, hO, n1]
      refine (congrArg (Option.map (finishC H.length)) (h1 _ (by rfl) (by rfl) (by rfl) (by rfl) (by rfl) (by rfl) (by rfl) (by rfl) [])).trans ?_
      simp (maxSteps := 1000000) (implicitDefEqProofs := false) (disch := first | rfl | omega | assumption) only [go_sem, ltT, ltF, leT, leF, s1, s2]
      done
    · have hC := fun G : Heap => fr_counts ho (hf.app G) 0 (by have := ho.many; omega)
      have h0 : (0 : Int) < (f.ws.length : Int) := by have := ho.many; omega
      simp only [hc, if_true, Int.natCast_zero] at hC ⊢
      refine (callFL_eq fn23 rfl (by simp [Tryz.f23])).trans ?_
      simp (maxSteps := 1000000) (implicitDefEqProofs := false) (disch := first | rfl | omega | assumption) only [go_sem, ltT, ltF, leT, leF, s1, s2, hO, n1]
      rw [execL_inLoop]
      simp (maxSteps := 1000000) (implicitDefEqProofs := false) (disch := first | rfl | omega | assumption) only [go_sem, ltT, ltF, leT, leF, s1, s2, hO, n1, t1, t2, h0, hC, hS]
      done

end Go.Ab
/-
  The reference: valid fringes, lists that are the same, sizes of sets.
-/
namespace Go.Ab
open Go.Proofs
set_option linter.unusedSimpArgs false
set_option linter.unusedVariables false
set_option maxRecDepth 100000
set_option maxHeartbeats 2000000

variable {H : Heap}


theorem rf_in (n lo hi : Int) (H : Heap) : callFL cfg0 prog0 false 85 [I n, I lo, I hi] H none = some ⟨.ret (.bool (wi n lo hi)), H, none⟩ := by
  simp only [wi]
  by_cases h1 : lo ≤ n
  · by_cases h2 : n ≤ hi
    · skip
      refine (callFL_eq fn85 rfl (by simp [Tryz.f85])).trans ?_
      simp (maxSteps := 1000000) (implicitDefEqProofs := false) (disch := first | rfl | omega | assumption) only [go_sem, ltT, ltF, leT, leF, h1, h2]
      done
    · skip
      refine (callFL_eq fn85 rfl (by simp [Tryz.f85])).trans ?_
      simp (maxSteps := 1000000) (implicitDefEqProofs := false) (disch := first | rfl | omega | assumption) only [go_sem, ltT, ltF, leT, leF, h1, h2]
      done
  · skip
    refine (callFL_eq fn85 rfl (by simp [Tryz.f85])).trans ?_
    simp (maxSteps := 1000000) (implicitDefEqProofs := false) (disch := first | rfl | omega | assumption) only [go_sem, ltT, ltF, leT, leF, h1]
    done

theorem rf_Colour {f : Frg} {vw vr : AV} (h : FrAt H f vw vr) (hl : f.ws.length ≤ 1000) (n : Int) : callFL cfg0 prog0 false 42 [.agg [vw, I f.lo, I f.hi, vr], I n] H none = some ⟨.ret (.bool (wi n 0 ((f.ws.length : Int) - 1))), H, none⟩ := by
  have s1 := h.ws.scal
  have s2 := h.rs.scal
  have n1 := h.ws.len
  rw [List.length_map] at n1
  refine (callFL_eq fn42 rfl (by simp [Tryz.f42])).trans ?_
  simp (maxSteps := 1000000) (implicitDefEqProofs := false) (disch := first | rfl | omega | assumption) only [go_sem, ltT, ltF, leT, leF, s1, s2, n1, rf_in]
  done

theorem rfw_loop {f : Frg} {vw vr : AV} (h : FrAt H f vw vr) (hl : f.ws.length ≤ 1000) (r : Bool) (K : List Item) (R : Option Done) (hK : r = true → ∀ E : Env, E.get 1 = .ptr H.length 0 → Option.map (finishC H.length) (execL cfg0 prog0 ⟨84, none, false, H.length⟩ K ⟨E, [], H ++ [.box (.agg [vw, I f.lo, I f.hi, vr])], none⟩) = R) (e1 : r = false → R = some ⟨.ret (.bool false), H, none⟩) :
    ∀ (q j : Nat), j + q = f.ws.length → f.wsOk j q = r → ∀ E : Env, E.get 1 = .ptr H.length 0 → E.get 3 = I j →
    Option.map (finishC H.length) (execL cfg0 prog0 ⟨84, none, false, H.length⟩ (loopIt Tryz.f84 4 :: .inBlock 0 :: K) ⟨E, [], H ++ [.box (.agg [vw, I f.lo, I f.hi, vr])], none⟩) = R := by
  intro q
  obtain ⟨a1, a2, a3, a4, a5⟩ := h.ws.fF (d := 0)
  have n1 := h.ws.len
  rw [List.length_map] at n1
  induction q with
  | zero =>
    intro j hj hr E g1 g3
    have hk' : ¬ (j : Int) < ((f.ws.length : Nat) : Int) := by omega
    have hr1 : r = true := by rw [← hr]; rfl
    simp only [loopIt, todoPast, todoAt, todoOf, firstReg, ↓reduceIte, Option.some.injEq, Nat.reduceEqDiff, reduceCtorEq, Tryz.f84]
    rw [execL_inLoop]
    simp (maxSteps := 1000000) (implicitDefEqProofs := false) (disch := first | rfl | omega | assumption) only [go_sem, g1, g3, ltT, ltF, leT, leF, hk', n1]
    exact hK hr1 _ (by exact g1)
  | succ q ih =>
    intro j hj hr E g1 g3
    have hk' : (j : Int) < ((f.ws.length : Nat) : Int) := by omega
    have hk2 : j < f.ws.length := by omega
    have hu : f.wsOk j (q + 1) = (wi (f.w j) 2 60 && f.wsOk (j + 1) q) := by
      simp only [Frg.wsOk, anyF]
      cases wi (f.w j) 2 60 <;> simp
    rw [hu] at hr
    have hw : f.ws.getD j 0 = f.w j := rfl
    cases hc : wi (f.w j) 2 60
    · rw [hc, Bool.false_and] at hr
      rw [e1 hr.symm]
      simp only [loopIt, todoPast, todoAt, todoOf, firstReg, ↓reduceIte, Option.some.injEq, Nat.reduceEqDiff, reduceCtorEq, Tryz.f84]
      rw [execL_inLoop]
      simp (maxSteps := 1000000) (implicitDefEqProofs := false) (disch := first | rfl | omega | assumption) only [go_sem, g1, g3, ltT, ltF, leT, leF, hk', a1, a2, a3, a4, n1, hw, rf_in, hc]
      done
    · rw [hc, Bool.true_and] at hr
      simp only [loopIt, todoPast, todoAt, todoOf, firstReg, ↓reduceIte, Option.some.injEq, Nat.reduceEqDiff, reduceCtorEq, Tryz.f84]
      rw [execL_inLoop]
      simp (maxSteps := 1000000) (implicitDefEqProofs := false) (disch := first | rfl | omega | assumption) only [go_sem, g1, g3, ltT, ltF, leT, leF, hk', a1, a2, a3, a4, n1, hw, rf_in, hc]
      exact ih (j + 1) (by omega) hr _ (by exact g1) (by rfl)

theorem rfr_loop {f : Frg} {vw vr : AV} (h : FrAt H f vw vr) (hl : f.ws.length ≤ 1000 ∧ f.rs.length ≤ 1000) (r : Bool) :
    ∀ (q j : Nat), j + q = f.rs.length → ∀ (G : Heap), f.rsOk j q = r → ∀ E : Env, E.get 1 = .ptr H.length 0 → E.get 4 = I j →
    Option.map (finishC H.length) (execL cfg0 prog0 ⟨84, none, false, H.length⟩ (todoAt Tryz.f84 11) ⟨E, [], H ++ (.box (.agg [vw, I f.lo, I f.hi, vr]) :: G), none⟩) = some ⟨.ret (.bool r), H, none⟩ := by
  intro q
  obtain ⟨a1, a2, a3, a4, a5⟩ := h.rs.fF (d := rd0)
  have s1 := h.ws.scal
  have s2 := h.rs.scal
  have n2 := h.rs.len
  rw [List.length_map] at n2
  induction q with
  | zero =>
    intro j hj G hr E g1 g4
    have hk' : ¬ (j : Int) < ((f.rs.length : Nat) : Int) := by omega
    have hr1 : r = true := by rw [← hr]; rfl
    simp only [loopIt, todoPast, todoAt, todoOf, firstReg, ↓reduceIte, Option.some.injEq, Nat.reduceEqDiff, reduceCtorEq, Tryz.f84]
    rw [execL_inLoop]
    simp (maxSteps := 1000000) (implicitDefEqProofs := false) (disch := first | rfl | omega | assumption) only [go_sem, g1, g4, ltT, ltF, leT, leF, hk', s1, s2, n2]
    rw [hr1]
    done
  | succ q ih =>
    intro j hj G hr E g1 g4
    have hk' : (j : Int) < ((f.rs.length : Nat) : Int) := by omega
    have hk2 : j < f.rs.length := by omega
    have hu : f.rsOk j (q + 1) = (f.rdOk (f.r j) && f.rsOk (j + 1) q) := by
      simp only [Frg.rsOk, anyF]
      cases f.rdOk (f.r j) <;> simp
    rw [hu] at hr
    obtain ⟨x, hx⟩ : ∃ x, f.rs.getD j rd0 = x := ⟨_, rfl⟩
    rw [show f.r j = x from hx] at hr
    have hrd := fun x : Rd => (show readPart x.av.cells 0 ⟨.struct [(0, 3), (1, 24)], 3, 24, some (.agg #[.int .i64 0, .int .i64 0, .int .i64 0])⟩ = some (.agg [I x.c, I x.lo, I x.hi]) from rfl)
    have hC := fun G : Heap => rf_Colour (h.app G) hl.1 x.c
    have hok : f.rdOk x = (wi x.c 0 ((f.ws.length : Int) - 1) && (wi x.lo 0 19 && (decide (x.lo ≤ x.hi) && decide (x.hi ≤ x.lo + 19)))) := rfl
    have hwi : wi x.hi x.lo (x.lo + 19) = (decide (x.lo ≤ x.hi) && decide (x.hi ≤ x.lo + 19)) := rfl
    have e20 : x.lo + 20 - 1 = x.lo + 19 := by omega
    cases hc1 : wi x.c 0 ((f.ws.length : Int) - 1)
    · rw [hok, hc1, Bool.false_and, Bool.false_and] at hr
      subst hr
      simp only [loopIt, todoPast, todoAt, todoOf, firstReg, ↓reduceIte, Option.some.injEq, Nat.reduceEqDiff, reduceCtorEq, Tryz.f84]
      rw [execL_inLoop]
      simp (maxSteps := 1000000) (implicitDefEqProofs := false) (disch := first | rfl | omega | assumption) only [go_sem, g1, g4, ltT, ltF, leT, leF, hk', s1, s2, n2, a1, a2, a3, a4, hx, hrd, hC, rf_in, hc1]
      done
    · cases hc2 : wi x.lo 0 19
      · rw [hok, hc1, hc2, Bool.false_and, Bool.and_false, Bool.false_and] at hr
        subst hr
        simp only [loopIt, todoPast, todoAt, todoOf, firstReg, ↓reduceIte, Option.some.injEq, Nat.reduceEqDiff, reduceCtorEq, Tryz.f84]
        rw [execL_inLoop]
        simp (maxSteps := 1000000) (implicitDefEqProofs := false) (disch := first | rfl | omega | assumption) only [go_sem, g1, g4, ltT, ltF, leT, leF, hk', s1, s2, n2, a1, a2, a3, a4, hx, hrd, hC, rf_in, hc1, hc2]
        done
      · have hlb : 0 ≤ x.lo ∧ x.lo ≤ 19 := by simpa [wi] using hc2
        rw [hok, hc1, hc2, Bool.true_and, Bool.true_and, ← hwi] at hr
        cases hc3 : wi x.hi x.lo (x.lo + 19)
        · rw [hc3, Bool.false_and] at hr
          subst hr
          simp only [loopIt, todoPast, todoAt, todoOf, firstReg, ↓reduceIte, Option.some.injEq, Nat.reduceEqDiff, reduceCtorEq, Tryz.f84]
          rw [execL_inLoop]
          simp (maxSteps := 1000000) (implicitDefEqProofs := false) (disch := first | rfl | omega | assumption) only [go_sem, g1, g4, ltT, ltF, leT, leF, hk', s1, s2, n2, a1, a2, a3, a4, hx, hrd, hC, rf_in, hc1, hc2, e20, hc3]
          done
        · rw [hc3, Bool.true_and] at hr
          simp only [loopIt, todoPast, todoAt, todoOf, firstReg, ↓reduceIte, Option.some.injEq, Nat.reduceEqDiff, reduceCtorEq, Tryz.f84]
          rw [execL_inLoop]
          simp (maxSteps := 1000000) (implicitDefEqProofs := false) (disch := first | rfl | omega | assumption) only [go_sem, g1, g4, ltT, ltF, leT, leF, hk', s1, s2, n2, a1, a2, a3, a4, hx, hrd, hC, rf_in, hc1, hc2, e20, hc3]
          exact ih (j + 1) (by omega) _ hr _ (by exact g1) (by rfl)

theorem rf_Fringe {f : Frg} {vw vr : AV} (h : FrAt H f vw vr) (hl : f.ws.length ≤ 1000 ∧ f.rs.length ≤ 1000) :
    callFL cfg0 prog0 false 84 [.agg [vw, I f.lo, I f.hi, vr]] H none = some ⟨.ret (.bool f.valid), H, none⟩ := by
  have s1 := h.ws.scal
  have s2 := h.rs.scal
  have n1 := h.ws.len
  have n2 := h.rs.len
  rw [List.length_map] at n1 n2
  have hv : f.valid = ((wi f.ws.length 1 4 && decide ((f.rs.length : Int) ≤ 6)) && (f.wsOk 0 f.ws.length && (f.lenOk && f.rsOk 0 f.rs.length))) := rfl
  cases c1 : wi f.ws.length 1 4
  · have : f.valid = false := by rw [hv, c1]; rfl
    rw [this]
    refine (callFL_eq fn84 rfl (by simp [Tryz.f84])).trans ?_
    simp (maxSteps := 1000000) (implicitDefEqProofs := false) (disch := first | rfl | omega | assumption) only [go_sem, ltT, ltF, leT, leF, s1, s2, n1, n2, rf_in, c1]
    done
  by_cases c2 : (6 : Int) < f.rs.length
  · have : f.valid = false := by rw [hv, c1]; simp; omega
    rw [this]
    refine (callFL_eq fn84 rfl (by simp [Tryz.f84])).trans ?_
    simp (maxSteps := 1000000) (implicitDefEqProofs := false) (disch := first | rfl | omega | assumption) only [go_sem, ltT, ltF, leT, leF, s1, s2, n1, n2, rf_in, c1, c2]
    done
  cases c3 : f.wsOk 0 f.ws.length
  · have : f.valid = false := by rw [hv, c1, c3]; simp
    rw [this]
    refine (callFL_eq fn84 rfl (by simp [Tryz.f84])).trans ?_
    simp (maxSteps := 1000000) (implicitDefEqProofs := false) (disch := first | rfl | omega | assumption) only [go_sem, ltT, ltF, leT, leF, s1, s2, n1, n2, rf_in, c1, c2]
    exact rfw_loop h hl.1 false _ _ (fun hh => by cases hh) (fun _ => rfl) f.ws.length 0 (by omega) c3 _ (by rfl) (by rfl)
  have hv2 : f.valid = (f.lenOk && f.rsOk 0 f.rs.length) := by rw [hv, c1, c3]; simp; intro _ _; omega
  have hlk : f.lenOk = (decide (0 ≤ f.lo) && (decide (f.lo ≤ f.hi) && (decide (f.hi ≤ 2000) && decide (f.hi - f.lo ≤ 400)))) := rfl
  refine (callFL_eq fn84 rfl (by simp [Tryz.f84])).trans ?_
  simp (maxSteps := 1000000) (implicitDefEqProofs := false) (disch := first | rfl | omega | assumption) only [go_sem, ltT, ltF, leT, leF, s1, s2, n1, n2, rf_in, c1, c2]
  refine rfw_loop h hl.1 true _ _ (fun _ E g1 => ?_) (fun hh => by cases hh) f.ws.length 0 (by omega) c3 _ (by rfl) (by rfl)
  by_cases d1 : f.lo < 0
  · have : f.valid = false := by rw [hv2, hlk]; simp; omega
    rw [this]
    simp (maxSteps := 1000000) (implicitDefEqProofs := false) (disch := first | rfl | omega | assumption) only [go_sem, ltT, ltF, leT, leF, s1, s2, n1, n2, rf_in, g1, d1]
    done
  by_cases d2 : f.hi < f.lo
  · have : f.valid = false := by rw [hv2, hlk]; simp; omega
    rw [this]
    simp (maxSteps := 1000000) (implicitDefEqProofs := false) (disch := first | rfl | omega | assumption) only [go_sem, ltT, ltF, leT, leF, s1, s2, n1, n2, rf_in, g1, d1, d2]
    done
  by_cases d3 : 2000 < f.hi
  · have : f.valid = false := by rw [hv2, hlk]; simp; omega
    rw [this]
    simp (maxSteps := 1000000) (implicitDefEqProofs := false) (disch := first | rfl | omega | assumption) only [go_sem, ltT, ltF, leT, leF, s1, s2, n1, n2, rf_in, g1, d1, d2, d3]
    done
  by_cases d4 : 400 < f.hi - f.lo
  · have : f.valid = false := by rw [hv2, hlk]; simp; omega
    rw [this]
    simp (maxSteps := 1000000) (implicitDefEqProofs := false) (disch := first | rfl | omega | assumption) only [go_sem, ltT, ltF, leT, leF, s1, s2, n1, n2, rf_in, g1, d1, d2, d3, d4]
    done
  have hv3 : f.valid = f.rsOk 0 f.rs.length := by rw [hv2, hlk]; simp; intro _; omega
  rw [hv3]
  simp (maxSteps := 1000000) (implicitDefEqProofs := false) (disch := first | rfl | omega | assumption) only [go_sem, ltT, ltF, leT, leF, s1, s2, n1, n2, rf_in, g1, d1, d2, d3, d4]
  exact rfr_loop h hl _ f.rs.length 0 (by omega) [] rfl _ (by exact g1) (by rfl)

/-- Two lists that are the same, from an index on. -/
def eqG {α : Type} [DecidableEq α] (d : α) (xs ys : List α) (j q : Nat) : Bool := !anyF (fun i => decide (xs.getD i d ≠ ys.getD i d)) j q

theorem eqG_succ {α : Type} [DecidableEq α] (d : α) (xs ys : List α) (j q : Nat) : eqG d xs ys j (q + 1) = (decide (xs.getD j d = ys.getD j d) && eqG d xs ys (j + 1) q) := by
  simp only [eqG, anyF]
  by_cases h : xs.getD j d = ys.getD j d <;> simp [h]

theorem eqG_iff {α : Type} [DecidableEq α] {d : α} {xs ys : List α} (h : xs.length = ys.length) : eqG d xs ys 0 xs.length = decide (xs = ys) := by
  rw [Bool.eq_iff_iff]
  simp only [eqG, Bool.not_eq_true', anyF_false, decide_eq_true_eq]
  constructor
  · intro h1
    apply List.ext_getElem h
    intro i h2 h3
    have := h1 i (by omega) (by omega)
    simpa [h2, h3] using this
  · intro e i _ _
    subst e
    simp

theorem ints_loop {v w : AV} {xs ys : List Int} (hv : SlOk H 1 v (xs.map I)) (hw : SlOk H 1 w (ys.map I)) (hl : xs.length = ys.length) (hm : xs.length ≤ 1000000) (r : Bool) :
    ∀ (q j : Nat), j + q = xs.length → eqG 0 xs ys j q = r → ∀ E : Env, E.get 0 = v → E.get 1 = w → E.get 5 = I j →
    Option.map (finishC H.length) (execL cfg0 prog0 ⟨22, none, false, H.length⟩ (todoAt Tryz.f22 4) ⟨E, [], H, none⟩) = some ⟨.ret (.bool r), H, none⟩ := by
  intro q
  obtain ⟨a1, a2, a3, a4, a5⟩ := hv.fF (d := 0)
  obtain ⟨b1, b2, b3, b4, b5⟩ := hw.fF (d := 0)
  have n1 := hv.len
  rw [List.length_map] at n1
  induction q with
  | zero =>
    intro j hj hr E g0 g1 g5
    have hk' : ¬ (j : Int) < ((xs.length : Nat) : Int) := by omega
    have hr1 : r = true := by rw [← hr]; rfl
    simp only [loopIt, todoPast, todoAt, todoOf, firstReg, ↓reduceIte, Option.some.injEq, Nat.reduceEqDiff, reduceCtorEq, Tryz.f22]
    rw [execL_inLoop]
    simp (maxSteps := 1000000) (implicitDefEqProofs := false) (disch := first | rfl | omega | assumption) only [go_sem, g0, g1, g5, ltT, ltF, leT, leF, hk', n1]
    rw [hr1]
    done
  | succ q ih =>
    intro j hj hr E g0 g1 g5
    have hk' : (j : Int) < ((xs.length : Nat) : Int) := by omega
    have hk2 : j < xs.length := by omega
    rw [eqG_succ] at hr
    have hk3 : (j : Int) < (ys.length : Int) := by omega
    obtain ⟨x, hx⟩ : ∃ x, xs.getD j 0 = x := ⟨_, rfl⟩
    obtain ⟨y, hy⟩ : ∃ y, ys.getD j 0 = y := ⟨_, rfl⟩
    rw [hx, hy] at hr
    by_cases hc : x = y
    · subst hc
      simp only [decide_true, Bool.true_and] at hr
      have hbe : (x == x) = true := by simp
      simp only [loopIt, todoPast, todoAt, todoOf, firstReg, ↓reduceIte, Option.some.injEq, Nat.reduceEqDiff, reduceCtorEq, Tryz.f22]
      rw [execL_inLoop]
      simp (maxSteps := 1000000) (implicitDefEqProofs := false) (disch := first | rfl | omega | assumption) only [go_sem, g0, g1, g5, ltT, ltF, leT, leF, hk', n1]
      rw [chkK_of]; rotate_left; kernel_rfl
      simp (maxSteps := 1000000) (implicitDefEqProofs := false) (disch := first | rfl | omega | assumption) only [go_sem, g0, g1, g5, ltT, ltF, leT, leF, hk', n1, a1, a2, a3, a4, b1, b2, b3, b4, hx, hy, hbe]
      exact ih (j + 1) (by omega) hr _ (by exact g0) (by exact g1) (by rfl)
    · simp only [hc, decide_false, Bool.false_and] at hr
      subst hr
      have hbe : (x != y) = true := by simpa using hc
      simp only [loopIt, todoPast, todoAt, todoOf, firstReg, ↓reduceIte, Option.some.injEq, Nat.reduceEqDiff, reduceCtorEq, Tryz.f22]
      rw [execL_inLoop]
      simp (maxSteps := 1000000) (implicitDefEqProofs := false) (disch := first | rfl | omega | assumption) only [go_sem, g0, g1, g5, ltT, ltF, leT, leF, hk', n1]
      rw [chkK_of]; rotate_left; kernel_rfl
      simp (maxSteps := 1000000) (implicitDefEqProofs := false) (disch := first | rfl | omega | assumption) only [go_sem, g0, g1, g5, ltT, ltF, leT, leF, hk', n1, a1, a2, a3, a4, b1, b2, b3, b4, hx, hy, hbe, hc]
      done

theorem rf_Ints {v w : AV} {xs ys : List Int} (hv : SlOk H 1 v (xs.map I)) (hw : SlOk H 1 w (ys.map I)) (hm : xs.length ≤ 1000000 ∧ ys.length ≤ 1000000) :
    callFL cfg0 prog0 false 22 [v, w] H none = some ⟨.ret (.bool (decide (xs = ys))), H, none⟩ := by
  have n1 := hv.len
  have n2 := hw.len
  rw [List.length_map] at n1 n2
  by_cases hl : xs.length = ys.length
  · have hl' : ((xs.length : Int) != (ys.length : Int)) = false := by rw [hl]; simp
    rw [← eqG_iff (d := 0) hl]
    refine (callFL_eq fn22 rfl (by simp [Tryz.f22])).trans ?_
    simp (maxSteps := 1000000) (implicitDefEqProofs := false) (disch := first | rfl | omega | assumption) only [go_sem, ltT, ltF, leT, leF, n1, n2, hl']
    exact ints_loop hv hw hl hm.1 _ xs.length 0 (by omega) rfl _ (by rfl) (by rfl) (by rfl)
  · have hl' : ((xs.length : Int) != (ys.length : Int)) = true := by rw [bne_iff_ne]; omega
    have : decide (xs = ys) = false := by rw [decide_eq_false_iff_not]; intro e; exact hl (by rw [e])
    rw [this]
    refine (callFL_eq fn22 rfl (by simp [Tryz.f22])).trans ?_
    simp (maxSteps := 1000000) (implicitDefEqProofs := false) (disch := first | rfl | omega | assumption) only [go_sem, ltT, ltF, leT, leF, n1, n2, hl']
    done

theorem spans_loop {v w : AV} {xs ys : List (Int × Int)} (hv : SlOk H 2 v (xs.map spA)) (hw : SlOk H 2 w (ys.map spA)) (hl : xs.length = ys.length) (hm : xs.length ≤ 1000000) (r : Bool) :
    ∀ (q j : Nat), j + q = xs.length → eqG (0, 0) xs ys j q = r → ∀ E : Env, E.get 0 = v → E.get 1 = w → E.get 5 = I j →
    Option.map (finishC H.length) (execL cfg0 prog0 ⟨13, none, false, H.length⟩ (todoAt Tryz.f13 4) ⟨E, [], H, none⟩) = some ⟨.ret (.bool r), H, none⟩ := by
  intro q
  obtain ⟨a1, a2, a3, a4, a5⟩ := hv.fF (d := (0, 0))
  obtain ⟨b1, b2, b3, b4, b5⟩ := hw.fF (d := (0, 0))
  have n1 := hv.len
  rw [List.length_map] at n1
  induction q with
  | zero =>
    intro j hj hr E g0 g1 g5
    have hk' : ¬ (j : Int) < ((xs.length : Nat) : Int) := by omega
    have hr1 : r = true := by rw [← hr]; rfl
    simp only [loopIt, todoPast, todoAt, todoOf, firstReg, ↓reduceIte, Option.some.injEq, Nat.reduceEqDiff, reduceCtorEq, Tryz.f13]
    rw [execL_inLoop]
    simp (maxSteps := 1000000) (implicitDefEqProofs := false) (disch := first | rfl | omega | assumption) only [go_sem, g0, g1, g5, ltT, ltF, leT, leF, hk', n1]
    rw [hr1]
    done
  | succ q ih =>
    intro j hj hr E g0 g1 g5
    have hk' : (j : Int) < ((xs.length : Nat) : Int) := by omega
    have hk2 : j < xs.length := by omega
    rw [eqG_succ] at hr
    have hk3 : (j : Int) < (ys.length : Int) := by omega
    obtain ⟨⟨x1, x2⟩, hx⟩ : ∃ x, xs.getD j (0, 0) = x := ⟨_, rfl⟩
    obtain ⟨⟨y1, y2⟩, hy⟩ : ∃ y, ys.getD j (0, 0) = y := ⟨_, rfl⟩
    rw [hx, hy] at hr
    have hrd := fun x : Int × Int => (show readPart (spA x).cells 0 ⟨.struct [(0, 3), (1, 3)], 2, 16, some (.agg #[.int .i64 0, .int .i64 0])⟩ = some (.agg [I x.1, I x.2]) from rfl)
    by_cases hc : (x1, x2) = (y1, y2)
    · simp only [hc, decide_true, Bool.true_and] at hr
      cases hc
      have hbe : (x1 == x1) = true := by simp
      have hbe2 : (x2 == x2) = true := by simp
      simp only [loopIt, todoPast, todoAt, todoOf, firstReg, ↓reduceIte, Option.some.injEq, Nat.reduceEqDiff, reduceCtorEq, Tryz.f13]
      rw [execL_inLoop]
      simp (maxSteps := 1000000) (implicitDefEqProofs := false) (disch := first | rfl | omega | assumption) only [go_sem, g0, g1, g5, ltT, ltF, leT, leF, hk', n1]
      rw [chkK_of]; rotate_left; kernel_rfl
      simp (maxSteps := 1000000) (implicitDefEqProofs := false) (disch := first | rfl | omega | assumption) only [go_sem, g0, g1, g5, ltT, ltF, leT, leF, hk', n1, a1, a2, a3, a4, b1, b2, b3, b4, hx, hy, hbe, hbe2, hrd, spA]
      exact ih (j + 1) (by omega) hr _ (by exact g0) (by exact g1) (by rfl)
    · simp only [hc, decide_false, Bool.false_and] at hr
      subst hr
      have hbe : sameL [I x1, I x2] [I y1, I y2] = false := by
        rw [Bool.eq_false_iff]; intro h; apply hc; simp [sameL, AV.same] at h; rw [h.1, h.2]
      have hbt : (!false) = true := rfl
      simp only [loopIt, todoPast, todoAt, todoOf, firstReg, ↓reduceIte, Option.some.injEq, Nat.reduceEqDiff, reduceCtorEq, Tryz.f13]
      rw [execL_inLoop]
      simp (maxSteps := 1000000) (implicitDefEqProofs := false) (disch := first | rfl | omega | assumption) only [go_sem, g0, g1, g5, ltT, ltF, leT, leF, hk', n1]
      rw [chkK_of]; rotate_left; kernel_rfl
      simp (maxSteps := 1000000) (implicitDefEqProofs := false) (disch := first | rfl | omega | assumption) only [go_sem, g0, g1, g5, ltT, ltF, leT, leF, hk', n1, a1, a2, a3, a4, b1, b2, b3, b4, hx, hy, hbe, hbt, hc, hrd, spA]
      done

theorem rf_Spans {v w : AV} {xs ys : List (Int × Int)} (hv : SlOk H 2 v (xs.map spA)) (hw : SlOk H 2 w (ys.map spA)) (hm : xs.length ≤ 1000000 ∧ ys.length ≤ 1000000) :
    callFL cfg0 prog0 false 13 [v, w] H none = some ⟨.ret (.bool (decide (xs = ys))), H, none⟩ := by
  have n1 := hv.len
  have n2 := hw.len
  rw [List.length_map] at n1 n2
  by_cases hl : xs.length = ys.length
  · have hl' : ((xs.length : Int) != (ys.length : Int)) = false := by rw [hl]; simp
    rw [← eqG_iff (d := (0, 0)) hl]
    refine (callFL_eq fn13 rfl (by simp [Tryz.f13])).trans ?_
    simp (maxSteps := 1000000) (implicitDefEqProofs := false) (disch := first | rfl | omega | assumption) only [go_sem, ltT, ltF, leT, leF, n1, n2, hl']
    exact spans_loop hv hw hl hm.1 _ xs.length 0 (by omega) rfl _ (by rfl) (by rfl) (by rfl)
  · have hl' : ((xs.length : Int) != (ys.length : Int)) = true := by rw [bne_iff_ne]; omega
    have : decide (xs = ys) = false := by rw [decide_eq_false_iff_not]; intro e; exact hl (by rw [e])
    rw [this]
    refine (callFL_eq fn13 rfl (by simp [Tryz.f13])).trans ?_
    simp (maxSteps := 1000000) (implicitDefEqProofs := false) (disch := first | rfl | omega | assumption) only [go_sem, ltT, ltF, leT, leF, n1, n2, hl']
    done

end Go.Ab
/-
  Spans laid flat; the set of the whole numbers and of the parts (plain).
-/
namespace Go.Ab
open Go.Proofs
set_option linter.unusedSimpArgs false
set_option linter.unusedVariables false
set_option maxRecDepth 100000
set_option maxHeartbeats 2000000

variable {H : Heap}


/-- The numbers of a span, of spans. -/
def upF (a : Int) (q : Nat) : List Int := (List.range q).map fun i => a + ((i : Nat) : Int)
def flat1 (p : Int × Int) : List Int := upF p.1 (p.2 + 1 - p.1).toNat
def flatS (ps : List (Int × Int)) : List Int := ps.flatMap flat1

theorem upF_succ (a : Int) (q : Nat) : upF a (q + 1) = upF a q ++ [a + (q : Nat)] := by simp [upF, List.range_succ]
theorem mem_upF {a x : Int} {q : Nat} : x ∈ upF a q ↔ a ≤ x ∧ x < a + q := by
  simp only [upF, List.mem_map, List.mem_range]
  constructor
  · rintro ⟨i, h, rfl⟩; omega
  · intro h; exact ⟨(x - a).toNat, by omega, by omega⟩

theorem mem_flat1 {p : Int × Int} {x : Int} : x ∈ flat1 p ↔ p.1 ≤ x ∧ x ≤ p.2 := by
  rw [flat1, mem_upF]; omega

theorem mem_flatS {ps : List (Int × Int)} {x : Int} : x ∈ flatS ps ↔ ∃ p ∈ ps, p.1 ≤ x ∧ x ≤ p.2 := by
  simp only [flatS, List.mem_flatMap, mem_flat1]

theorem drop_last {α : Type} {l : List α} {p : α} (h : l.getLast? = some p) : l.dropLast ++ [p] = l := by
  have hne : l ≠ [] := by intro e; subst e; cases h
  rw [List.getLast?_eq_some_getLast hne] at h
  cases h
  exact List.dropLast_concat_getLast hne

theorem flat_step {acc : List (Int × Int)} (h : ∀ p ∈ acc, p.1 ≤ p.2) (n : Int) : flatS (spStep acc n) = flatS acc ++ [n] ∧ ∀ p ∈ spStep acc n, p.1 ≤ p.2 := by
  have e1 : flat1 (n, n) = [n] := by
    rw [flat1, show (n + 1 - n).toNat = 0 + 1 by omega, upF_succ]; simp [upF]
  have e2 : flatS (acc ++ [(n, n)]) = flatS acc ++ [n] ∧ ∀ p ∈ acc ++ [(n, n)], p.1 ≤ p.2 := by
    refine ⟨by simp only [flatS, List.flatMap_append, List.flatMap_cons, List.flatMap_nil, e1, List.append_nil], fun p hp => ?_⟩
    rcases List.mem_append.1 hp with hp | hp
    · exact h p hp
    · rw [List.mem_singleton] at hp; subst hp; exact Int.le_refl _
  simp only [spStep]
  cases hl : acc.getLast? with
  | none => exact e2
  | some p =>
    simp only
    by_cases hc : p.2 + 1 = n
    · rw [if_pos hc]
      have ha : acc.dropLast ++ [p] = acc := drop_last hl
      have hp := h p (by rw [← ha]; simp)
      have e3 : flat1 (p.1, n) = flat1 p ++ [n] := by
        rw [flat1, flat1, show (n + 1 - p.1).toNat = (p.2 + 1 - p.1).toNat + 1 by omega, upF_succ]
        congr 2
        omega
      have e4 : flatS acc = flatS acc.dropLast ++ flat1 p := by
        conv => lhs; rw [← ha]
        simp only [flatS, List.flatMap_append, List.flatMap_cons, List.flatMap_nil, List.append_nil]
      refine ⟨?_, fun q hq => ?_⟩
      · rw [e4]
        simp only [flatS, List.flatMap_append, List.flatMap_cons, List.flatMap_nil, e3, List.append_nil, List.append_assoc]
      · rcases List.mem_append.1 hq with hq | hq
        · exact h q (List.dropLast_subset acc hq)
        · rw [List.mem_singleton] at hq; subst hq; simp only; omega
    · rw [if_neg hc]; exact e2

theorem flat_fold : ∀ (xs : List Int) (acc : List (Int × Int)), (∀ p ∈ acc, p.1 ≤ p.2) → flatS (xs.foldl spStep acc) = flatS acc ++ xs ∧ ∀ p ∈ xs.foldl spStep acc, p.1 ≤ p.2
  | [], acc, h => ⟨by simp, h⟩
  | x :: r, acc, h => by
    obtain ⟨h1, h2⟩ := flat_step h x
    obtain ⟨h3, h4⟩ := flat_fold r _ h2
    refine ⟨?_, h4⟩
    simp only [List.foldl_cons]
    rw [h3, h1]; simp

theorem flat_spans (xs : List Int) : flatS (spans xs) = xs ∧ ∀ p ∈ spans xs, p.1 ≤ p.2 := by
  obtain ⟨h1, h2⟩ := flat_fold xs [] (by simp)
  exact ⟨h1.trans (by simp [flatS]), h2⟩

/-- Each lengths that is told rises. -/
theorem lensF_up (f : Frg) (s : Nat) : ∀ (q : Nat) (n : Int), (f.lensF s n q).Pairwise (· < ·)
  | 0, n => List.Pairwise.nil
  | q + 1, n => by
    have ih := lensF_up f s q (n + 1)
    simp only [Frg.lensF]
    split
    · refine List.Pairwise.cons (fun x hx => ?_) ih
      have := (mem_lensF f s x q (n + 1)).1 hx
      omega
    · exact ih
theorem lens_up (f : Frg) (s : Nat) : (f.lens s).Pairwise (· < ·) := lensF_up f s _ _

theorem up_ext {l l' : List Int} (h : l.Pairwise (· < ·)) (h' : l'.Pairwise (· < ·)) (hm : ∀ x, x ∈ l ↔ x ∈ l') : l = l' := by
  have n1 : l.Nodup := h.imp fun h => by omega
  have n2 : l'.Nodup := h'.imp fun h => by omega
  exact List.Perm.eq_of_pairwise (le := (· < ·)) (fun a b _ _ h1 h2 => by omega) h h' ((List.perm_ext_iff_of_nodup n1 n2).2 hm)

/-- The whole numbers, one after the other. -/
def wstep (w : Int) (acc : List Int) (n : Int) : List Int := if acc.getLast? = some (n / w) then acc else acc ++ [n / w]
def allW (w : Int) (xs : List Int) : List Int := xs.foldl (wstep w) []

theorem wstep_up {w : Int} {acc : List Int} {n : Int} (h : acc.Pairwise (· < ·)) (hn : ∀ a ∈ acc, a ≤ n / w) : (wstep w acc n).Pairwise (· < ·) ∧ (∀ x, x ∈ wstep w acc n ↔ x ∈ acc ∨ x = n / w) := by
  simp only [wstep]
  split
  · rename_i hl
    refine ⟨h, fun x => ⟨Or.inl, fun hx => ?_⟩⟩
    rcases hx with hx | rfl
    · exact hx
    · exact List.mem_of_getLast? hl
  · rename_i hl
    refine ⟨?_, fun x => by simp⟩
    rw [List.pairwise_append]
    refine ⟨h, List.pairwise_singleton _ _, fun a ha b hb => ?_⟩
    rw [List.mem_singleton] at hb; subst hb
    have h1 := hn a ha
    refine Classical.byContradiction fun hc => hl ?_
    have ea : a = n / w := by omega
    cases hg : acc.getLast? with
    | none => rw [List.getLast?_eq_none_iff] at hg; subst hg; cases ha
    | some m =>
      have hd := drop_last hg
      have hmn := hn m (List.mem_of_getLast? hg)
      rw [← hd] at ha h
      rcases List.mem_append.1 ha with ha | ha
      · have := (List.pairwise_append.1 h).2.2 a ha m (by simp)
        omega
      · rw [List.mem_singleton] at ha
        rw [← ha, ea]

theorem allW_fold {w : Int} (hw : 0 < w) : ∀ (xs acc : List Int), xs.Pairwise (· < ·) → acc.Pairwise (· < ·) → (∀ a ∈ acc, ∀ x ∈ xs, a ≤ x / w) →
    (xs.foldl (wstep w) acc).Pairwise (· < ·) ∧ ∀ k, k ∈ xs.foldl (wstep w) acc ↔ k ∈ acc ∨ ∃ x ∈ xs, x / w = k
  | [], acc, _, h, _ => ⟨h, fun k => by simp⟩
  | x :: r, acc, hx, h, hb => by
    have hx' := List.pairwise_cons.1 hx
    obtain ⟨h1, h2⟩ := wstep_up (w := w) (n := x) h fun a ha => hb a ha x List.mem_cons_self
    obtain ⟨h3, h4⟩ := allW_fold hw r (wstep w acc x) hx'.2 h1 fun a ha y hy => by
      rcases (h2 a).1 ha with ha | rfl
      · exact hb a ha y (List.mem_cons_of_mem _ hy)
      · exact Int.ediv_le_ediv hw (by have := hx'.1 y hy; omega)
    refine ⟨h3, fun k => ?_⟩
    simp only [List.foldl_cons]
    rw [h4, h2]
    constructor
    · rintro ((h | rfl) | ⟨y, hy, rfl⟩)
      · exact Or.inl h
      · exact Or.inr ⟨x, List.mem_cons_self, rfl⟩
      · exact Or.inr ⟨y, List.mem_cons_of_mem _ hy, rfl⟩
    · rintro (h | ⟨y, hy, rfl⟩)
      · exact Or.inl (Or.inl h)
      · rcases List.mem_cons.1 hy with rfl | hy
        · exact Or.inl (Or.inr rfl)
        · exact Or.inr ⟨y, hy, rfl⟩

theorem dedup_up : ∀ l : List Int, l.Pairwise (· ≤ ·) → (dedupI l).Pairwise (· < ·) ∧ ∀ x, x ∈ dedupI l ↔ x ∈ l
  | [], _ => ⟨List.Pairwise.nil, fun _ => Iff.rfl⟩
  | [x], _ => ⟨List.pairwise_singleton _ _, fun _ => Iff.rfl⟩
  | x :: y :: r, h => by
    obtain ⟨hx, h'⟩ := List.pairwise_cons.1 h
    obtain ⟨h1, h2⟩ := dedup_up (y :: r) h'
    simp only [dedupI]
    split
    · rename_i e
      subst e
      refine ⟨h1, fun z => ?_⟩
      rw [h2]; simp
    · rename_i e
      refine ⟨List.pairwise_cons.2 ⟨fun z hz => ?_, h1⟩, fun z => by rw [List.mem_cons, h2, List.mem_cons]; simp⟩
      have hz := (h2 z).1 hz
      have hxy := hx y List.mem_cons_self
      have hyz : y ≤ z := by
        rcases List.mem_cons.1 hz with rfl | hz
        · exact Int.le_refl _
        · exact (List.pairwise_cons.1 h').1 z hz
      omega

theorem setC_key (k : Int × Int) (c : Int) : ∀ es, ∃ p ∈ setC es k c, p.1 = k
  | [] => ⟨_, List.mem_cons_self, rfl⟩
  | (k', c') :: r => by
    simp only [setC]
    split
    · exact ⟨_, List.mem_cons_self, rfl⟩
    · obtain ⟨p, hp, e⟩ := setC_key k c r
      exact ⟨p, List.mem_cons_of_mem _ hp, e⟩

theorem setC_keep (k : Int × Int) (c : Int) : ∀ es, ∀ p ∈ es, ∃ p' ∈ setC es k c, p'.1 = p.1
  | (k', c') :: r, p, h => by
    simp only [setC]
    split
    · rename_i e
      rcases List.mem_cons.1 h with rfl | h
      · exact ⟨_, List.mem_cons_self, e⟩
      · exact ⟨p, List.mem_cons_of_mem _ h, rfl⟩
    · rcases List.mem_cons.1 h with rfl | h
      · exact ⟨_, List.mem_cons_self, rfl⟩
      · obtain ⟨p', h1, h2⟩ := setC_keep k c r p h
        exact ⟨p', List.mem_cons_of_mem _ h1, h2⟩

theorem cnt_has (w : Int) : ∀ (xs : List Int) (es : List ((Int × Int) × Int)), (∀ x ∈ xs, ∃ p ∈ xs.foldl (incC w) es, p.1 = (x / w, ptZ w x)) ∧ ∀ p ∈ es, ∃ p' ∈ xs.foldl (incC w) es, p'.1 = p.1
  | [], es => ⟨fun x h => (by cases h), fun p h => ⟨p, h, rfl⟩⟩
  | x :: r, es => by
    obtain ⟨h1, h2⟩ := cnt_has w r (incC w es x)
    refine ⟨fun y hy => ?_, fun p hp => ?_⟩
    · rcases List.mem_cons.1 hy with rfl | hy
      · obtain ⟨p, hp, e⟩ := setC_key (y / w, ptZ w y) ((getC es (y / w, ptZ w y)).getD 0 + 1) es
        obtain ⟨p', hp', e'⟩ := h2 p hp
        exact ⟨p', hp', e'.trans e⟩
      · exact h1 y hy
    · obtain ⟨p1, hp1, e1⟩ := setC_keep (x / w, ptZ w x) ((getC es (x / w, ptZ w x)).getD 0 + 1) es p hp
      obtain ⟨p', hp', e'⟩ := h2 p1 hp1
      exact ⟨p', hp', e'.trans e1⟩

theorem whole_all {w : Int} (hw : 0 < w) {xs : List Int} (hx : xs.Pairwise (· < ·)) : wholeL (cntC w xs) = allW w xs := by
  obtain ⟨h1, h2⟩ := allW_fold hw xs [] hx List.Pairwise.nil (by simp)
  have hso : (((cntC w xs).map (fun p => p.1.1)).mergeSort fun x y => decide (x ≤ y)).Pairwise (· ≤ ·) := by
    have := List.pairwise_mergeSort (le := fun x y : Int => decide (x ≤ y)) (fun a b c h1 h2 => by simp only [decide_eq_true_eq] at h1 h2 ⊢; omega) (fun a b => by simp only [Bool.or_eq_true, decide_eq_true_eq]; omega) ((cntC w xs).map (fun p => p.1.1))
    exact this.imp fun h => by simpa using h
  obtain ⟨h3, h4⟩ := dedup_up _ hso
  refine up_ext h3 h1 fun k => ?_
  show k ∈ dedupI _ ↔ k ∈ xs.foldl (wstep w) []
  rw [h2 k, h4 k, (List.mergeSort_perm _ _).mem_iff]
  simp only [List.mem_map, List.not_mem_nil, false_or]
  constructor
  · rintro ⟨p, hp, rfl⟩
    obtain ⟨x, hx, e⟩ := cntC_of hp
    exact ⟨x, hx, by rw [e]⟩
  · rintro ⟨x, hx, rfl⟩
    obtain ⟨p, hp, e⟩ := (cnt_has w xs []).1 x hx
    exact ⟨p, hp, by rw [e]⟩

theorem orG_bit {α : Type} (g : α → Int) (k : Nat) : ∀ (l : List α) (a : Nat), (l.foldl (fun a x => orP a (g x)) a).testBit k = (a.testBit k || l.any fun x => decide ((g x).toNat = k))
  | [], a => by simp
  | x :: r, a => by
    simp only [List.foldl_cons, List.any_cons]
    rw [orG_bit g k r]
    simp only [orP, Nat.testBit_or, Nat.testBit_two_pow, Bool.or_assoc]

def allP (w : Int) (xs : List Int) : Nat := xs.foldl (fun a x => orP a (ptZ w x)) 0

theorem parts_all (w : Int) (xs : List Int) : partS (cntC w xs) = allP w xs := by
  apply Nat.eq_of_testBit_eq
  intro k
  rw [partS, allP, orG_bit (fun p : (Int × Int) × Int => p.1.2), orG_bit (fun x => ptZ w x)]
  congr 1
  rw [Bool.eq_iff_iff]
  simp only [List.any_eq_true, decide_eq_true_eq]
  constructor
  · rintro ⟨p, hp, rfl⟩
    obtain ⟨x, hx, e⟩ := cntC_of hp
    exact ⟨x, hx, by rw [e]⟩
  · rintro ⟨x, hx, rfl⟩
    obtain ⟨p, hp, e⟩ := (cnt_has w xs []).1 x hx
    exact ⟨p, hp, by rw [e]⟩

end Go.Ab
/-
  Plain facts of fringes.
-/
namespace Go.Ab
open Go.Proofs
set_option linter.unusedSimpArgs false
set_option linter.unusedVariables false
set_option maxRecDepth 100000
set_option maxHeartbeats 2000000

variable {H : Heap}

theorem flat_len : ∀ (ps : List (Int × Int)), (∀ p ∈ ps, p.1 ≤ p.2) → ps.length ≤ (flatS ps).length
  | [], _ => by simp
  | p :: r, h => by
    have h1 := flat_len r fun q hq => h q (List.mem_cons_of_mem _ hq)
    have h2 := h p List.mem_cons_self
    have h3 : (flat1 p).length = (p.2 + 1 - p.1).toNat := by simp [flat1, upF]
    simp only [flatS, List.flatMap_cons, List.length_append, List.length_cons] at h1 ⊢
    omega

theorem spans_bd {f : Frg} (ho : f.Ok) (s : Nat) : (∀ p ∈ spans (f.lens s), 0 ≤ p.1 ∧ p.1 ≤ p.2 ∧ p.2 ≤ 2000 ∧ p.2 - p.1 ≤ 400 ∧ f.lo ≤ p.1 ∧ p.2 ≤ f.hi) ∧ (spans (f.lens s)).length ≤ 401 := by
  obtain ⟨h1, h2⟩ := flat_spans (f.lens s)
  have hb := lens_bd ho s
  have hl := ho.len
  refine ⟨fun p hp => ?_, ?_⟩
  · have h3 := h2 p hp
    have m1 : p.1 ∈ f.lens s := by rw [← h1]; exact mem_flatS.2 ⟨p, hp, by omega⟩
    have m2 : p.2 ∈ f.lens s := by rw [← h1]; exact mem_flatS.2 ⟨p, hp, by omega⟩
    have k1 := (mem_lens ho s p.1).1 m1
    have k2 := (mem_lens ho s p.2).1 m2
    omega
  · have := flat_len _ h2
    rw [h1] at this
    omega

theorem dedup_lenI : ∀ zs : List Int, (dedupI zs).length ≤ zs.length
  | [] => Nat.le_refl _
  | [_] => Nat.le_refl _
  | x :: y :: r => by
    have := dedup_lenI (y :: r)
    simp only [dedupI]
    split <;> simp only [List.length_cons] at this ⊢ <;> omega

theorem all_is (f : Frg) : f.all = 2 ^ f.rs.length - 1 := rfl

/-- How many lengths leave a part in a colour. -/
def Frg.lenP (f : Frg) (c k : Nat) : Nat := ((f.lens f.all).filter fun n => decide (ptZ (f.w c) n = (k : Int))).length

def mGo (f : Frg) (c : Nat) : Nat → Nat → Int → Int
  | _, 0, a => a
  | j, q + 1, a => mGo f c (j + 1) q (mx2 a (f.lenP c j : Nat))

end Go.Ab
/-
  The reference, walked: readings that are right, all truths.
-/
namespace Go.Ab
open Go.Proofs
set_option linter.unusedSimpArgs false
set_option linter.unusedVariables false
set_option maxRecDepth 100000
set_option maxHeartbeats 2000000

variable {H : Heap}


theorem pow_le {j n : Nat} (h : j ≤ n) : (2 : Nat) ^ j ≤ 2 ^ n := Nat.pow_le_pow_right (by omega) h
theorem wN {m : Nat} (h : m < 2 ^ 62) : IntKind.i64.wrap (m : Int) = m := w64 (by omega) (by omega)
abbrev pw (n : Nat) : Int := ((2 ^ n : Nat) : Int)

theorem power_loop (n : Nat) (hn : n ≤ 60) :
    ∀ (q j : Nat), j + q = n → ∀ E : Env, E.get 0 = I n → E.get 3 = I (pw j) → E.get 4 = I j →
    Option.map (finishC H.length) (execL cfg0 prog0 ⟨65, none, false, H.length⟩ (todoAt Tryz.f65 3) ⟨E, [], H, none⟩) = some ⟨.ret (I (pw n)), H, none⟩ := by
  intro q
  skip
  induction q with
  | zero =>
    intro j hj  E g0 g3 g4
    have hk' : ¬ (j : Int) < ((n : Nat) : Int) := by omega
    have ej : j = n := by omega
    subst ej
    simp only [loopIt, todoPast, todoAt, todoOf, firstReg, ↓reduceIte, Option.some.injEq, Nat.reduceEqDiff, reduceCtorEq, Tryz.f65]
    rw [execL_inLoop]
    simp (maxSteps := 1000000) (implicitDefEqProofs := false) (disch := first | rfl | omega | assumption) only [go_sem, g0, g3, g4, ltT, ltF, leT, leF, hk']
  | succ q ih =>
    intro j hj  E g0 g3 g4
    have hk' : (j : Int) < ((n : Nat) : Int) := by omega
    have hk2 : j < n := by omega
    have p1 := pow_le (show j + 1 ≤ 60 by omega)
    have e1 : (2 : Int) * ((2 ^ j : Nat) : Int) = ((2 ^ (j + 1) : Nat) : Int) := by rw [Nat.pow_succ]; omega
    have e2 := wN (m := 2 ^ (j + 1)) (by omega)
    simp only [loopIt, todoPast, todoAt, todoOf, firstReg, ↓reduceIte, Option.some.injEq, Nat.reduceEqDiff, reduceCtorEq, Tryz.f65]
    rw [execL_inLoop]
    simp (maxSteps := 1000000) (implicitDefEqProofs := false) (disch := first | rfl | omega | assumption) only [go_sem, g0, g3, g4, ltT, ltF, leT, leF, hk', e1, e2]
    exact ih (j + 1) (by omega) _ (by exact g0) (by rfl) (by rfl)

theorem rf_power (n : Nat) (hn : n ≤ 60) (H : Heap) : callFL cfg0 prog0 false 65 [I n] H none = some ⟨.ret (I (pw n)), H, none⟩ := by
  refine (callFL_eq fn65 rfl (by simp [Tryz.f65])).trans ?_
  simp (maxSteps := 1000000) (implicitDefEqProofs := false) (disch := first | rfl | omega | assumption) only [go_sem, ltT, ltF, leT, leF]
  exact power_loop n hn n 0 (by omega) _ (by rfl) (by rfl) (by rfl)

theorem rf_Has {s n : Nat} (hs : s < 2 ^ 60) (hn : n ≤ 60) (H : Heap) : callFL cfg0 prog0 false 64 [I s, I n] H none = some ⟨.ret (.bool (s.testBit n)), H, none⟩ := by
  have hp := fun G : Heap => rf_power n hn G
  have p1 := pow_le hn
  have p2 : 0 < (2 : Nat) ^ n := Nat.two_pow_pos n
  have e1 : ((s : Nat) : Int).tdiv ((2 ^ n : Nat) : Int) = ((s / 2 ^ n : Nat) : Int) := rfl
  have e2 : ((s / 2 ^ n : Nat) : Int).tmod 2 = ((s / 2 ^ n % 2 : Nat) : Int) := rfl
  have e3 : (((s / 2 ^ n % 2 : Nat) : Int) == 1) = s.testBit n := by
    rw [Nat.testBit_eq_decide_div_mod_eq]
    have : s / 2 ^ n % 2 = 0 ∨ s / 2 ^ n % 2 = 1 := by omega
    rcases this with h | h <;> rw [h] <;> rfl
  have z : ((2 ^ n : Nat) : Int) ≠ 0 := by omega
  have d := div_lt (j := n) hs
  have e4 : IntKind.i64.wrap ((s / 2 ^ n : Nat) : Int) = ((s / 2 ^ n : Nat) : Int) := wN (by omega)
  refine (callFL_eq fn64 rfl (by simp [Tryz.f64])).trans ?_
  simp (maxSteps := 1000000) (implicitDefEqProofs := false) (disch := first | rfl | omega | assumption) only [go_sem, ltT, ltF, leT, leF, hp, e1, e2, e3, e4, z]
  done

theorem rf_Length (n : Int) (H : Heap) : callFL cfg0 prog0 false 41 [I n] H none = some ⟨.ret (.bool (wi n 0 2000)), H, none⟩ := by
  have h := fun G : Heap => rf_in n 0 2000 G
  refine (callFL_eq fn41 rfl (by simp [Tryz.f41])).trans ?_
  simp (maxSteps := 1000000) (implicitDefEqProofs := false) (disch := first | rfl | omega | assumption) only [go_sem, ltT, ltF, leT, leF, h]
  done

theorem rf_Of {f : Frg} {vw vr : AV} (hf : FrAt H f vw vr) (ho : f.Ok) {c : Nat} (hc : c < f.ws.length) {n : Int} (hn : 0 ≤ n ∧ n ≤ 2000) :
    callFL cfg0 prog0 false 43 [.agg [vw, I f.lo, I f.hi, vr], I n, I c] H none = some ⟨.ret (I (ptZ (f.w c) n)), H, none⟩ := by
  have s1 := hf.ws.scal
  have s2 := hf.rs.scal
  obtain ⟨a1, a2, a3, a4, a5⟩ := hf.ws.fF (d := 0)
  have hw := ho.wave c hc
  have hwe : f.ws.getD c 0 = f.w c := rfl
  generalize f.w c = w at *
  have h1 := Int.emod_nonneg n (show w ≠ 0 by omega)
  have h2 := Int.emod_lt_of_pos n (show 0 < w by omega)
  have hb := ptZ_bd (w := w) (n := n) (by omega)
  have z : ¬ w = 0 := by omega
  have e1 : n.tmod w = n % w := Int.tmod_eq_emod_of_nonneg hn.1
  have e2 : (20 * (n % w)).tdiv w = ptZ w n := by rw [Int.tdiv_eq_ediv_of_nonneg (by omega)]; rfl
  refine (callFL_eq fn43 rfl (by simp [Tryz.f43])).trans ?_
  simp (maxSteps := 1000000) (implicitDefEqProofs := false) (disch := first | rfl | omega | assumption) only [go_sem, ltT, ltF, leT, leF, s1, s2]
  rw [chkK_of]; rotate_left; kernel_rfl
  simp (maxSteps := 1000000) (implicitDefEqProofs := false) (disch := first | rfl | omega | assumption) only [go_sem, ltT, ltF, leT, leF, s1, s2, a1, a2, a3, a4, hwe, z, e1, e2]
  done

theorem rgt_no {w lo hi n : Int} (hp : 0 ≤ ptZ w n ∧ ptZ w n < 20) (h : ∀ k : Int, lo ≤ k → k ≤ hi → ¬ k % 20 = ptZ w n) : rgt w lo hi n = false := by
  simp only [rgt, wi]
  have k1 := h (ptZ w n)
  have k2 := h (ptZ w n + 20)
  generalize ptZ w n = p at *
  rw [Bool.or_eq_false_iff]
  constructor
  · rw [Bool.and_eq_false_iff]
    by_cases h : lo ≤ p
    · right
      rw [decide_eq_false_iff_not]
      intro h2
      have := k1 h h2
      omega
    · left; simpa using h
  · rw [Bool.and_eq_false_iff]
    by_cases h : lo ≤ p + 20
    · right
      rw [decide_eq_false_iff_not]
      intro h2
      have := k2 h h2
      omega
    · left; simpa using h

def NoR (w n lo m : Int) : Prop := ∀ k : Int, lo ≤ k → k < m → ¬ k % 20 = ptZ w n

theorem right_loop {f : Frg} {vw vr : AV} (hf : FrAt H f vw vr) (ho : f.Ok) {r : Rd} (hr : 0 ≤ r.c ∧ r.c < f.ws.length ∧ 0 ≤ r.lo ∧ r.lo ≤ 19 ∧ r.lo ≤ r.hi ∧ r.hi ≤ r.lo + 19) {n : Int} (hn : 0 ≤ n ∧ n ≤ 2000) :
    ∀ (q j : Nat), j + q = (r.hi + 1 - r.lo).toNat → ∀ (m : Int), m = r.lo + j → NoR (f.w r.c.toNat) n r.lo m → ∀ E : Env, E.get 2 = I n → E.get 3 = .ptr H.length 0 → E.get 4 = .ptr (H.length + 1) 0 → E.get 7 = I m →
    Option.map (finishC H.length) (execL cfg0 prog0 ⟨96, none, false, H.length⟩ (todoAt Tryz.f96 2) ⟨E, [], H ++ [.box (.agg [vw, I f.lo, I f.hi, vr]), .box (.agg [I r.c, I r.lo, I r.hi])], none⟩) = some ⟨.ret (.bool (rgt (f.w r.c.toNat) r.lo r.hi n)), H, none⟩ := by
  intro q
  have s1 := hf.ws.scal
  have s2 := hf.rs.scal
  have hw := ho.wave r.c.toNat (by omega)
  have hO := rf_Of (hf.app [.box (.agg [vw, I f.lo, I f.hi, vr]), .box (.agg [I r.c, I r.lo, I r.hi])]) ho (c := r.c.toNat) (by omega) hn
  have hce : (r.c.toNat : Int) = r.c := by omega
  rw [hce] at hO
  have hp := ptZ_bd (w := f.w r.c.toNat) (n := n) (by omega)
  induction q with
  | zero =>
    intro j hj m hm hno E g2 g3 g4 g7
    have hk' : ¬ (j : Int) < (((r.hi + 1 - r.lo).toNat : Nat) : Int) := by omega
    have hle : ¬ m ≤ r.hi := by omega
    have hfa : rgt (f.w r.c.toNat) r.lo r.hi n = false := rgt_no hp (fun k h1 h2 => hno k h1 (by omega))
    rw [hfa]
    simp only [loopIt, todoPast, todoAt, todoOf, firstReg, ↓reduceIte, Option.some.injEq, Nat.reduceEqDiff, reduceCtorEq, Tryz.f96]
    rw [execL_inLoop]
    simp (maxSteps := 1000000) (implicitDefEqProofs := false) (disch := first | rfl | omega | assumption) only [go_sem, g2, g3, g4, g7, ltT, ltF, leT, leF, hk', s1, s2, hle]
    done
  | succ q ih =>
    intro j hj m hm hno E g2 g3 g4 g7
    have hk' : (j : Int) < (((r.hi + 1 - r.lo).toNat : Nat) : Int) := by omega
    have hk2 : j < (r.hi + 1 - r.lo).toNat := by omega
    have hle : m ≤ r.hi := by omega
    have e1 : m.tmod 20 = m % 20 := Int.tmod_eq_emod_of_nonneg (by omega)
    by_cases hc : m % 20 = ptZ (f.w r.c.toNat) n
    · have hbe : (m % 20 == ptZ (f.w r.c.toNat) n) = true := by simp [hc]
      have htr : rgt (f.w r.c.toNat) r.lo r.hi n = true := by
        simp only [rgt, wi, Bool.or_eq_true, Bool.and_eq_true, decide_eq_true_eq]
        omega
      rw [htr]
      simp only [loopIt, todoPast, todoAt, todoOf, firstReg, ↓reduceIte, Option.some.injEq, Nat.reduceEqDiff, reduceCtorEq, Tryz.f96]
      rw [execL_inLoop]
      simp (maxSteps := 1000000) (implicitDefEqProofs := false) (disch := first | rfl | omega | assumption) only [go_sem, g2, g3, g4, g7, ltT, ltF, leT, leF, hk', s1, s2, hle, e1, hO, hbe]
      done
    · have hbe : (m % 20 == ptZ (f.w r.c.toNat) n) = false := beq_eq_false_iff_ne.2 hc
      simp only [loopIt, todoPast, todoAt, todoOf, firstReg, ↓reduceIte, Option.some.injEq, Nat.reduceEqDiff, reduceCtorEq, Tryz.f96]
      rw [execL_inLoop]
      simp (maxSteps := 1000000) (implicitDefEqProofs := false) (disch := first | rfl | omega | assumption) only [go_sem, g2, g3, g4, g7, ltT, ltF, leT, leF, hk', s1, s2, hle, e1, hO, hbe]
      exact ih (j + 1) (by omega) (m + 1) (by omega) (fun k h1 h2 => by
        by_cases e : k = m
        · rw [e]; exact hc
        · exact hno k h1 (by omega)) _ (by exact g2) (by exact g3) (by exact g4) (by rfl)

theorem rf_Right {f : Frg} {vw vr : AV} (hf : FrAt H f vw vr) (ho : f.Ok) {r : Rd} (hr : 0 ≤ r.c ∧ r.c < f.ws.length ∧ 0 ≤ r.lo ∧ r.lo ≤ 19 ∧ r.lo ≤ r.hi ∧ r.hi ≤ r.lo + 19) {n : Int} (hn : 0 ≤ n ∧ n ≤ 2000) :
    callFL cfg0 prog0 false 96 [.agg [vw, I f.lo, I f.hi, vr], .agg [I r.c, I r.lo, I r.hi], I n] H none = some ⟨.ret (.bool (rgt (f.w r.c.toNat) r.lo r.hi n)), H, none⟩ := by
  have s1 := hf.ws.scal
  have s2 := hf.rs.scal
  have h := right_loop hf ho hr hn (r.hi + 1 - r.lo).toNat 0 (by omega) r.lo (by omega) (fun k h1 h2 => by omega)
  refine (callFL_eq fn96 rfl (by simp [Tryz.f96])).trans ?_
  simp (maxSteps := 1000000) (implicitDefEqProofs := false) (disch := first | rfl | omega | assumption) only [go_sem, ltT, ltF, leT, leF, s1, s2]
  exact h _ (by rfl) (by rfl) (by rfl) (by rfl)

theorem rf_every {f : Frg} {vw vr : AV} (hf : FrAt H f vw vr) (ho : f.Ok) : callFL cfg0 prog0 false 77 [.agg [vw, I f.lo, I f.hi, vr]] H none = some ⟨.ret (I f.all), H, none⟩ := by
  have s1 := hf.ws.scal
  have s2 := hf.rs.scal
  have l2 := hf.rs.len
  rw [List.length_map] at l2
  have h6 := ho.reads
  have hp := fun G : Heap => rf_power f.rs.length (by omega) G
  have h2 : (2 : Nat) ^ f.rs.length ≤ 2 ^ 6 := Nat.pow_le_pow_right (by omega) h6
  have h0 := Nat.two_pow_pos f.rs.length
  have ha := all_is f
  have e : ((2 ^ f.rs.length : Nat) : Int) - 1 = ((f.all : Nat) : Int) := by omega
  refine (callFL_eq fn77 rfl (by simp [Tryz.f77])).trans ?_
  simp (maxSteps := 1000000) (implicitDefEqProofs := false) (disch := first | rfl | omega | assumption) only [go_sem, ltT, ltF, leT, leF, s1, s2, l2, hp, e]
  done

theorem tin_loop {f : Frg} {vw vr : AV} (hf : FrAt H f vw vr) (ho : f.Ok) (s : Nat) (hs : s < 64) (n : Int) (hn : 0 ≤ n ∧ n ≤ 2000) (acc : List Int) (r : Bool) (K : List Item) (R : Option Done) (hK : ∀ E : Env, E.get 1 = I s → E.get 2 = .ptr H.length 0 → E.get 5 = .gsl (H.length + 1) acc.length → E.get 6 = I n → E.get 7 = .bool r → Option.map (finishC H.length) (execL cfg0 prog0 ⟨79, none, false, H.length⟩ K ⟨E, [], H ++ [.box (.agg [vw, I f.lo, I f.hi, vr]), .grow 1 (acc.map I)], none⟩) = R)  :
    ∀ (q j : Nat), j + q = f.rs.length → ∀ (b : Bool), (b && f.rt s n j q) = r → ∀ E : Env, E.get 1 = I s → E.get 2 = .ptr H.length 0 → E.get 5 = .gsl (H.length + 1) acc.length → E.get 6 = I n → E.get 7 = .bool b → E.get 8 = I j →
    Option.map (finishC H.length) (execL cfg0 prog0 ⟨79, none, false, H.length⟩ (loopIt Tryz.f79 7 :: .inBlock 2 :: K) ⟨E, [], H ++ [.box (.agg [vw, I f.lo, I f.hi, vr]), .grow 1 (acc.map I)], none⟩) = R := by
  intro q
  obtain ⟨a1, a2, a3, a4, a5⟩ := hf.rs.fF (d := rd0)
  have s1 := hf.ws.scal
  have s2 := hf.rs.scal
  have l2 := hf.rs.len
  rw [List.length_map] at l2
  have h6 := ho.reads
  induction q with
  | zero =>
    intro j hj b hb E g1 g2 g5 g6 g7 g8
    have hk' : ¬ (j : Int) < ((f.rs.length : Nat) : Int) := by omega
    have ebr : b = r := by rw [← hb]; simp [Frg.rt, anyF]
    subst ebr
    simp only [loopIt, todoPast, todoAt, todoOf, firstReg, ↓reduceIte, Option.some.injEq, Nat.reduceEqDiff, reduceCtorEq, Tryz.f79]
    rw [execL_inLoop]
    simp (maxSteps := 1000000) (implicitDefEqProofs := false) (disch := first | rfl | omega | assumption) only [go_sem, g1, g2, g5, g6, g7, g8, ltT, ltF, leT, leF, hk', s1, s2, l2]
    exact hK _ (by exact g1) (by exact g2) (by exact g5) (by exact g6) (by exact g7)
  | succ q ih =>
    intro j hj b hb E g1 g2 g5 g6 g7 g8
    have hk' : (j : Int) < ((f.rs.length : Nat) : Int) := by omega
    have hk2 : j < f.rs.length := by omega
    obtain ⟨x, hx⟩ : ∃ x, f.rs.getD j rd0 = x := ⟨_, rfl⟩
    have hfr : f.r j = x := hx
    have hrj := ho.rd j hk2
    rw [hfr] at hrj
    have hrd := fun x : Rd => (show readPart x.av.cells 0 ⟨.struct [(0, 3), (1, 24)], 3, 24, some (.agg #[.int .i64 0, .int .i64 0, .int .i64 0])⟩ = some (.agg [I x.c, I x.lo, I x.hi]) from rfl)
    have hH := fun G : Heap => rf_Has (s := s) (n := j) (by omega) (by omega) G
    have hR := fun G : Heap => rf_Right (hf.app G) ho hrj hn
    have hu : f.rt s n j (q + 1) = (!(s.testBit j && !rgt (f.w x.c.toNat) x.lo x.hi n) && f.rt s n (j + 1) q) := by
      simp only [Frg.rt, anyF, hfr, Bool.not_or]
    rw [hu] at hb
    generalize rgt (f.w x.c.toNat) x.lo x.hi n = g at *
    cases ht : s.testBit j
    · rw [ht] at hH hb
      simp only [loopIt, todoPast, todoAt, todoOf, firstReg, ↓reduceIte, Option.some.injEq, Nat.reduceEqDiff, reduceCtorEq, Tryz.f79]
      rw [execL_inLoop]
      simp (maxSteps := 1000000) (implicitDefEqProofs := false) (disch := first | rfl | omega | assumption) only [go_sem, g1, g2, g5, g6, g7, g8, ltT, ltF, leT, leF, hk', s1, s2, l2]
      rw [chkK_of]; rotate_left; kernel_rfl
      simp (maxSteps := 1000000) (implicitDefEqProofs := false) (disch := first | rfl | omega | assumption) only [go_sem, g1, g2, g5, g6, g7, g8, ltT, ltF, leT, leF, hk', s1, s2, l2, hH]
      exact ih (j + 1) (by omega) b (by simpa using hb) _ (by exact g1) (by exact g2) (by exact g5) (by exact g6) (by exact g7) (by rfl)
    · rw [ht] at hH hb
      cases g
      · skip
        simp only [loopIt, todoPast, todoAt, todoOf, firstReg, ↓reduceIte, Option.some.injEq, Nat.reduceEqDiff, reduceCtorEq, Tryz.f79]
        rw [execL_inLoop]
        simp (maxSteps := 1000000) (implicitDefEqProofs := false) (disch := first | rfl | omega | assumption) only [go_sem, g1, g2, g5, g6, g7, g8, ltT, ltF, leT, leF, hk', s1, s2, l2]
        rw [chkK_of]; rotate_left; kernel_rfl
        simp (maxSteps := 1000000) (implicitDefEqProofs := false) (disch := first | rfl | omega | assumption) only [go_sem, g1, g2, g5, g6, g7, g8, ltT, ltF, leT, leF, hk', s1, s2, l2, hH, a1, a2, a3, a4, hx, hrd, hR]
        exact ih (j + 1) (by omega) false (by simpa using hb) _ (by exact g1) (by exact g2) (by exact g5) (by exact g6) (by rfl) (by rfl)
      · skip
        simp only [loopIt, todoPast, todoAt, todoOf, firstReg, ↓reduceIte, Option.some.injEq, Nat.reduceEqDiff, reduceCtorEq, Tryz.f79]
        rw [execL_inLoop]
        simp (maxSteps := 1000000) (implicitDefEqProofs := false) (disch := first | rfl | omega | assumption) only [go_sem, g1, g2, g5, g6, g7, g8, ltT, ltF, leT, leF, hk', s1, s2, l2]
        rw [chkK_of]; rotate_left; kernel_rfl
        simp (maxSteps := 1000000) (implicitDefEqProofs := false) (disch := first | rfl | omega | assumption) only [go_sem, g1, g2, g5, g6, g7, g8, ltT, ltF, leT, leF, hk', s1, s2, l2, hH, a1, a2, a3, a4, hx, hrd, hR]
        exact ih (j + 1) (by omega) b (by simpa using hb) _ (by exact g1) (by exact g2) (by exact g5) (by exact g6) (by exact g7) (by rfl)

theorem tru_loop {f : Frg} {vw vr : AV} (hf : FrAt H f vw vr) (ho : f.Ok) (s : Nat) (hs : s < 64) :
    ∀ (q j : Nat), j + q = (f.hi + 1 - f.lo).toNat → ∀ (n : Int), ∀ (acc : List Int), n = f.lo + j → acc ++ f.lensF s n q = f.lens s → acc.length ≤ j → ∀ E : Env, E.get 1 = I s → E.get 2 = .ptr H.length 0 → E.get 5 = .gsl (H.length + 1) acc.length → E.get 6 = I n →
    Option.map (finishC H.length) (execL cfg0 prog0 ⟨79, none, false, H.length⟩ (todoAt Tryz.f79 3) ⟨E, [], H ++ [.box (.agg [vw, I f.lo, I f.hi, vr]), .grow 1 (acc.map I)], none⟩) = some ⟨.ret (.sl false ((f.lens s).map I)), H, none⟩ := by
  intro q
  have s1 := hf.ws.scal
  have s2 := hf.rs.scal
  have hlen := ho.len
  have hltI := fun (N : Nat) (l : List Int) => ltI (N := N) l
  induction q with
  | zero =>
    intro j hj n acc hn ha hal E g1 g2 g5 g6
    have hk' : ¬ (j : Int) < (((f.hi + 1 - f.lo).toNat : Nat) : Int) := by omega
    have hle : ¬ n ≤ f.hi := by omega
    simp only [Frg.lensF, List.append_nil] at ha
    subst ha
    simp only [loopIt, todoPast, todoAt, todoOf, firstReg, ↓reduceIte, Option.some.injEq, Nat.reduceEqDiff, reduceCtorEq, Tryz.f79]
    rw [execL_inLoop]
    have la : ((f.lens s).map I).length = (f.lens s).length := List.length_map _
    simp (maxSteps := 1000000) (implicitDefEqProofs := false) (disch := first | rfl | omega | assumption) only [go_sem, g1, g2, g5, g6, ltT, ltF, leT, leF, hk', s1, s2, hle, hltI, la]
    done
  | succ q ih =>
    intro j hj n acc hn ha hal E g1 g2 g5 g6
    have hk' : (j : Int) < (((f.hi + 1 - f.lo).toNat : Nat) : Int) := by omega
    have hk2 : j < (f.hi + 1 - f.lo).toNat := by omega
    have hle : n ≤ f.hi := by omega
    have hin := tin_loop hf ho s hs n (by omega) acc (f.right s n)
    have la : (acc.map I).length = acc.length := List.length_map _
    have hadd : addElem (H ++ [.box (.agg [vw, I f.lo, I f.hi, vr]), .grow 1 (acc.map I)]) 1 false (.gsl (H.length + 1) acc.length) [I n] = some (.gsl (H.length + 1) (acc.length + 1), H ++ [.box (.agg [vw, I f.lo, I f.hi, vr]), .grow 1 ((acc ++ [n]).map I)]) := by
      rw [add_gsl (xs := acc.map I) (by rw [get_at']; rfl) la rfl rfl (by simp; omega), set_at', List.map_append]
      rfl
    simp only [loopIt, todoPast, todoAt, todoOf, firstReg, ↓reduceIte, Option.some.injEq, Nat.reduceEqDiff, reduceCtorEq, Tryz.f79]
    rw [execL_inLoop]
    simp (maxSteps := 1000000) (implicitDefEqProofs := false) (disch := first | rfl | omega | assumption) only [go_sem, g1, g2, g5, g6, ltT, ltF, leT, leF, hk', s1, s2, hle]
    refine hin _ _ (fun E g1 g2 g5 g6 g7 => ?_) f.rs.length 0 (by omega) true (by simp) _ (by exact g1) (by exact g2) (by exact g5) (by exact g6) (by rfl) (by rfl)
    simp only [Frg.lensF] at ha
    cases hr : f.right s n
    · rw [hr] at g7 ha
      simp only [Bool.false_eq_true, if_false] at ha
      simp (maxSteps := 1000000) (implicitDefEqProofs := false) (disch := first | rfl | omega | assumption) only [go_sem, g1, g2, g5, g6, g7, ltT, ltF, leT, leF, hk']
      exact ih (j + 1) (by omega) (n + 1) acc (by omega) ha (by omega) _ (by exact g1) (by exact g2) (by exact g5) (by rfl)
    · rw [hr] at g7 ha
      simp only [if_true] at ha
      have key := ih (j + 1) (by omega) (n + 1) (acc ++ [n]) (by omega) (by rw [List.append_assoc]; exact ha) (by simp; omega)
      rw [List.length_append] at key
      simp (maxSteps := 1000000) (implicitDefEqProofs := false) (disch := first | rfl | omega | assumption) only [go_sem, g1, g2, g5, g6, g7, ltT, ltF, leT, leF, hk', hadd]
      exact key _ (by exact g1) (by exact g2) (by rfl) (by rfl)

theorem rf_truths {f : Frg} {vw vr : AV} (hf : FrAt H f vw vr) (ho : f.Ok) {s : Nat} (hs : s < 64) :
    callFL cfg0 prog0 false 79 [.agg [vw, I f.lo, I f.hi, vr], I s] H none = some ⟨.ret (.sl false ((f.lens s).map I)), H, none⟩ := by
  have s1 := hf.ws.scal
  have s2 := hf.rs.scal
  have h := tru_loop hf ho s hs (f.hi + 1 - f.lo).toNat 0 (by omega) f.lo [] (by omega) rfl (by simp)
  simp only [List.length_nil, List.map_nil] at h
  refine (callFL_eq fn79 rfl (by simp [Tryz.f79])).trans ?_
  simp (maxSteps := 1000000) (implicitDefEqProofs := false) (disch := first | rfl | omega | assumption) only [go_sem, ltT, ltF, leT, leF, s1, s2]
  exact h _ (by rfl) (by rfl) (by rfl) (by rfl)

theorem rf_Truths {f : Frg} {vw vr : AV} (hf : FrAt H f vw vr) (ho : f.Ok) :
    callFL cfg0 prog0 false 51 [.agg [vw, I f.lo, I f.hi, vr]] H none = some ⟨.ret (.sl false ((f.lens f.all).map I)), H, none⟩ := by
  have s1 := hf.ws.scal
  have s2 := hf.rs.scal
  have hE := fun G : Heap => rf_every (hf.app G) ho
  have hT := fun G : Heap => rf_truths (hf.app G) ho (s := f.all) ho.all_lt
  refine (callFL_eq fn51 rfl (by simp [Tryz.f51])).trans ?_
  simp (maxSteps := 1000000) (implicitDefEqProofs := false) (disch := first | rfl | omega | assumption) only [go_sem, ltT, ltF, leT, leF, s1, s2]
  rw [chkK_of]; rotate_left; kernel_rfl
  simp (maxSteps := 1000000) (implicitDefEqProofs := false) (disch := first | rfl | omega | assumption) only [go_sem, ltT, ltF, leT, leF, s1, s2, hE, hT]
  done

def Frg.chk (f : Frg) (b : Bool) : Int := if f.valid then (if b then 0 else 2) else 1

theorem rf_check {f : Frg} {vw vr : AV} (hf : FrAt H f vw vr) (hl : f.ws.length ≤ 1000 ∧ f.rs.length ≤ 1000) (b : Bool) :
    callFL cfg0 prog0 false 40 [.agg [vw, I f.lo, I f.hi, vr], .bool b] H none = some ⟨.ret (I (f.chk b)), H, none⟩ := by
  have s1 := hf.ws.scal
  have s2 := hf.rs.scal
  have hF := fun G : Heap => rf_Fringe (hf.app G) hl
  simp only [Frg.chk]
  cases hv : f.valid
  · rw [hv] at hF
    refine (callFL_eq fn40 rfl (by simp [Tryz.f40])).trans ?_
    simp (maxSteps := 1000000) (implicitDefEqProofs := false) (disch := first | rfl | omega | assumption) only [go_sem, ltT, ltF, leT, leF, s1, s2, hF]
    done
  · rw [hv] at hF
    cases b
    · skip
      refine (callFL_eq fn40 rfl (by simp [Tryz.f40])).trans ?_
      simp (maxSteps := 1000000) (implicitDefEqProofs := false) (disch := first | rfl | omega | assumption) only [go_sem, ltT, ltF, leT, leF, s1, s2, hF]
      done
    · skip
      refine (callFL_eq fn40 rfl (by simp [Tryz.f40])).trans ?_
      simp (maxSteps := 1000000) (implicitDefEqProofs := false) (disch := first | rfl | omega | assumption) only [go_sem, ltT, ltF, leT, leF, s1, s2, hF]
      done

/-- What is told of all lengths: these, or the error. -/
def Frg.told (f : Frg) (b : Bool) : List Int × Int := if f.valid then (if b then (if (f.lens f.all).isEmpty then ([], 10) else (f.lens f.all, 0)) else ([], 2)) else ([], 1)

theorem rf_told {f : Frg} {vw vr : AV} (hf : FrAt H f vw vr) (hl : f.ws.length ≤ 1000 ∧ f.rs.length ≤ 1000) (b : Bool) :
    callFL cfg0 prog0 false 47 [.agg [vw, I f.lo, I f.hi, vr], .bool b] H none = some ⟨.ret (.tup [.sl (!decide ((f.told b).2 = 0)) ((f.told b).1.map I), I (f.told b).2]), H, none⟩ := by
  have s1 := hf.ws.scal
  have s2 := hf.rs.scal
  have hC := fun G : Heap => rf_check (hf.app G) hl b
  simp only [Frg.chk] at hC
  cases hv : f.valid
  · have ht : f.told b = ([], 1) := by simp only [Frg.told, hv, Bool.false_eq_true, if_false]
    rw [ht]
    simp only [hv, Bool.false_eq_true, if_false] at hC
    refine (callFL_eq fn47 rfl (by simp [Tryz.f47])).trans ?_
    simp (maxSteps := 1000000) (implicitDefEqProofs := false) (disch := first | rfl | omega | assumption) only [go_sem, ltT, ltF, leT, leF, s1, s2, hC]
    done
  · have ho := f.valid_iff.1 hv
    have hT := fun G : Heap => rf_Truths (hf.app G) ho
    cases b
    · have ht : f.told false = ([], 2) := by simp only [Frg.told, hv, if_true, Bool.false_eq_true, if_false]
      rw [ht]
      simp only [hv, if_true, Bool.false_eq_true, if_false] at hC
      refine (callFL_eq fn47 rfl (by simp [Tryz.f47])).trans ?_
      simp (maxSteps := 1000000) (implicitDefEqProofs := false) (disch := first | rfl | omega | assumption) only [go_sem, ltT, ltF, leT, leF, s1, s2, hC]
      done
    · simp only [hv, if_true] at hC
      have lm : ((f.lens f.all).map I).length = (f.lens f.all).length := List.length_map _
      cases he : (f.lens f.all).isEmpty
      · have ht : f.told true = (f.lens f.all, 0) := by simp only [Frg.told, hv, if_true, he, Bool.false_eq_true, if_false]
        rw [ht]
        have hz : (((f.lens f.all).length : Int) == 0) = false := by
          cases hx : f.lens f.all with
          | nil => rw [hx] at he; cases he
          | cons x r => simp; omega
        refine (callFL_eq fn47 rfl (by simp [Tryz.f47])).trans ?_
        simp (maxSteps := 1000000) (implicitDefEqProofs := false) (disch := first | rfl | omega | assumption) only [go_sem, ltT, ltF, leT, leF, s1, s2, hC, hT, lm, hz]
        done
      · have hnil : f.lens f.all = [] := List.isEmpty_iff.1 he
        rw [hnil] at hT
        have ht : f.told true = ([], 10) := by simp only [Frg.told, hv, if_true, he]
        rw [ht]
        refine (callFL_eq fn47 rfl (by simp [Tryz.f47])).trans ?_
        simp (maxSteps := 1000000) (implicitDefEqProofs := false) (disch := first | rfl | omega | assumption) only [go_sem, ltT, ltF, leT, leF, s1, s2, hC, hT]
        done

end Go.Ab
/-
  The law's sample and what it tells.
-/
namespace Go.Ab
open Go.Proofs
set_option linter.unusedSimpArgs false
set_option linter.unusedVariables false
set_option maxRecDepth 100000
set_option maxHeartbeats 2000000

variable {H : Heap}


theorem law_span (a b : Int) (H : Heap) : callFL cfg0 prog0 false 31 [I a, I b] H none = some ⟨.ret (.agg [I a, I b]), H, none⟩ := by
  refine (callFL_eq fn31 rfl (by simp [Tryz.f31])).trans ?_
  simp (maxSteps := 1000000) (implicitDefEqProofs := false) (disch := first | rfl | omega | assumption) only [go_sem, ltT, ltF, leT, leF]
  done

theorem law_read (c a b : Int) (H : Heap) : callFL cfg0 prog0 false 30 [I c, I a, I b] H none = some ⟨.ret (.agg [I c, I a, I b]), H, none⟩ := by
  refine (callFL_eq fn30 rfl (by simp [Tryz.f30])).trans ?_
  simp (maxSteps := 1000000) (implicitDefEqProofs := false) (disch := first | rfl | omega | assumption) only [go_sem, ltT, ltF, leT, leF, law_span]
  done

theorem add_none {G : Heap} {sz : Nat} {xs : List AV} (h1 : elemsOk sz true xs = true) (h2 : ltL 0 xs = true) (h3 : xs.length ≤ 1048576) (h4 : xs.isEmpty = false) : addElem G sz true (.sl true xs) [] = some (.sl true xs, G) := by
  have e : decide (xs.length + ([] : List AV).length ≤ maxLenA) = true := decide_eq_true (by simpa [maxLenA] using h3)
  have e2 : elemsOk sz true ([] : List AV) = true := rfl
  simp only [addElem, h1, h2, h4, e, e2, ltL, Bool.and_self, if_true, List.isEmpty_nil, Bool.not_true, Bool.or_self, Bool.false_eq_true, if_false]

theorem law_sample0 (H : Heap) : callFL cfg0 prog0 false 29 [.sl true []] H none = some ⟨.ret (.agg [.sl true [I 12, I 20, I 17], I 100, I 200, .sl true [.agg [I 0, I 10, I 13], .agg [I 1, I 5, I 8]]]), H, none⟩ := by
  have ha := fun G : Heap => add_none (G := G) (sz := 3) (xs := [.agg [I 0, I 10, I 13], .agg [I 1, I 5, I 8]]) rfl rfl (by simp) rfl
  refine (callFL_eq fn29 rfl (by simp [Tryz.f29])).trans ?_
  simp (maxSteps := 1000000) (implicitDefEqProofs := false) (disch := first | rfl | omega | assumption) only [go_sem, ltT, ltF, leT, leF, law_span, law_read, ha]
  done

theorem law_sample1 (c a b : Int) (H : Heap) : callFL cfg0 prog0 false 29 [.sl true [.agg [I c, I a, I b]]] H none = some ⟨.ret (.agg [.sl true [I 12, I 20, I 17], I 100, I 200, .sl false [.agg [I 0, I 10, I 13], .agg [I 1, I 5, I 8], .agg [I c, I a, I b]]]), H, none⟩ := by
  have ha := fun G : Heap => add_full (H := G) (sz := 3) (a := true) (xs := [.agg [I 0, I 10, I 13], .agg [I 1, I 5, I 8]]) (ys := [.agg [I c, I a, I b]]) rfl rfl rfl rfl (by simp) rfl
  refine (callFL_eq fn29 rfl (by simp [Tryz.f29])).trans ?_
  simp (maxSteps := 1000000) (implicitDefEqProofs := false) (disch := first | rfl | omega | assumption) only [go_sem, ltT, ltF, leT, leF, law_span, law_read, ha]
  done

def sF0 : Frg := ⟨[12, 20, 17], 100, 200, [⟨0, 10, 13⟩, ⟨1, 5, 8⟩]⟩
def sF1 : Frg := ⟨[12, 20, 17], 100, 200, [⟨0, 10, 13⟩, ⟨1, 5, 8⟩, ⟨0, 0, 2⟩]⟩

theorem sAt0 (H : Heap) : FrAt H sF0 (.sl true [I 12, I 20, I 17]) (.sl true [.agg [I 0, I 10, I 13], .agg [I 1, I 5, I 8]]) :=
  ⟨⟨rfl, by intro x hx; simp [sF0] at hx; rcases hx with rfl | rfl | rfl <;> rfl⟩, ⟨rfl, by intro x hx; simp [sF0] at hx; rcases hx with rfl | rfl <;> rfl⟩⟩
theorem sAt1 (H : Heap) : FrAt H sF1 (.sl true [I 12, I 20, I 17]) (.sl false [.agg [I 0, I 10, I 13], .agg [I 1, I 5, I 8], .agg [I 0, I 0, I 2]]) :=
  ⟨⟨rfl, by intro x hx; simp [sF1] at hx; rcases hx with rfl | rfl | rfl <;> rfl⟩, ⟨rfl, by intro x hx; simp [sF1] at hx; rcases hx with rfl | rfl | rfl <;> rfl⟩⟩

theorem v_valid : sF0.valid = true := by decide +kernel
theorem v_lens : sF0.lens sF0.all = [126, 127, 128, 186, 187, 188] := by decide +kernel
theorem v_count : sF0.count = (6, 0) := by decide +kernel
theorem v_near1 : sF0.near 157 = (128, 0) := by decide +kernel
theorem v_parts0 : sF0.parts 0 = (11264, 0) := by decide +kernel
theorem v_period : sF0.period = (1020, 0) := by decide +kernel
theorem v_ask : sF0.ask = (2, 1, 0) := by decide +kernel
theorem v_wrong1 : sF1.wrong = (1, 1, 0) := by decide +kernel
theorem v_clash1 : sF1.clash = (5, 0) := by decide +kernel
theorem whole_of {es : List ((Int × Int) × Int)} (h : (es.map (fun p => p.1.1)).Pairwise (· ≤ ·)) : wholeL es = dedupI (es.map (fun p => p.1.1)) := by
  rw [wholeL, List.mergeSort_of_pairwise]
  exact h.imp fun h => by simpa using h

theorem v_cnt0 : (sF0.cnt 0).map (fun p => p.1.1) = [10, 10, 10, 15, 15, 15] := by decide +kernel
theorem v_whole0 : sF0.whole 0 = ([10, 15], 0) := by
  have h : wholeL (sF0.cnt 0) = [10, 15] := by
    rw [whole_of (by rw [v_cnt0]; decide), v_cnt0]; decide
  have hw : wi 0 0 ((sF0.ws.length : Int) - 1) = true := by decide
  simp only [Frg.whole, v_valid, if_true, hw, v_lens, List.isEmpty_cons, Bool.false_eq_true, if_false, show (0 : Int).toNat = 0 from rfl, h]
end Go.Ab
