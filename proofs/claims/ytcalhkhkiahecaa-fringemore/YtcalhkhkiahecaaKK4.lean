/-
  Parts: the set of the parts of the quotients.
-/
import Derived.Test.YtcalhkhkiahecaaKK3
import Derived.Test.YtcalhkhkiahecaaKK2
namespace Go.Ab
open Go.Proofs
set_option linter.unusedSimpArgs false
set_option linter.unusedVariables false
set_option maxRecDepth 100000
set_option maxHeartbeats 2000000

variable {H : Heap}


def orP (a : Nat) (p : Int) : Nat := a ||| 2 ^ p.toNat
def partS (es : List ((Int × Int) × Int)) : Nat := es.foldl (fun a p => orP a p.1.2) 0

def PtB (es : List ((Int × Int) × Int)) : Prop := ∀ p ∈ es, 0 ≤ p.1.2 ∧ p.1.2 < 20

theorem or_lt {a : Nat} {p : Int} (ha : a < 2 ^ 20) (hp : 0 ≤ p ∧ p < 20) : orP a p < 2 ^ 20 := by
  refine Nat.or_lt_two_pow ha (Nat.pow_lt_pow_right (by omega) (by omega))

theorem or_perm {es : List ((Int × Int) × Int)} {seen : List Nat} (h : seen.Perm (List.range es.length)) : seen.foldl (fun a i => orP a (atC es i).1.2) 0 = partS es := by
  have h2 := met_perm (fun p => p) h
  have h3 : seen.foldl (fun a i => orP a (atC es i).1.2) 0 = (seen.map fun i => atC es i).foldl (fun a p => orP a p.1.2) 0 := by rw [List.foldl_map]
  rw [h3]
  simp only [List.map_id'] at h2
  exact h2.foldl_eq' (fun x _ y _ z => by simp only [orP]; rw [Nat.or_assoc, Nat.or_comm (2 ^ _), ← Nat.or_assoc]) 0

theorem pt_loop {f : Frg} {vw vr : AV} (hf : FrAt H f vw vr) (w : Int) (es : List ((Int × Int) × Int)) (hn : 0 < es.length) (hm : es.length ≤ 401) (hp : PtB es) (D : Done)
    (hD : D = ⟨.ret (.tup [I (partS es : Nat), I 0]), H ++ [.box (.agg [vw, I f.lo, I f.hi, vr]), .box (I w), .box (I 0)], none⟩) :
    ∀ (q : Nat) (seen rest : List Nat), rest.length = q → Met es.length seen rest → ∀ a : Nat, a < 2 ^ 20 → a = seen.foldl (fun a i => orP a (atC es i).1.2) 0 → ∀ E : Env, E.get 5 = .ptr (H.length + 2) 0 → E.get 6 = I (a : Nat) → E.get 14 = .ptr (H.length + 5) 0 → ∀ G : Heap,
    execL cfg0 prog0 ⟨17, none, false, H.length⟩ (todoAt Try.f17 4) ⟨E, [.fn (.func 58) [] [.ptr (H.length + 2) 0]], H ++ (.box (.agg [vw, I f.lo, I f.hi, vr]) :: .box (I w) :: .box (I 0) :: .box (.agg [vw, I f.lo, I f.hi, vr]) :: .map 78 (esA es) :: .iter (H.length + 4) es.length seen :: G), none⟩ = some D := by
  have s1 := hf.ws.scal
  have s2 := hf.rs.scal
  have t1 := hf.ws.ltn 6
  have t2 := hf.rs.ltn 6
  have hle := esA_len es
  have hml := esA_lt (H.length + 6) es
  have hk' : True := trivial
  have t3 := hf.ws.ltn 3
  have t4 := hf.rs.ltn 3
  have hN := fun G : Heap => wd_Partsn (H.length + 2) G
  intro q
  induction q with
  | zero =>
    intro seen rest hq hmet a ha hae E g5 g6 g14 G
    simp only [loopIt, todoPast, todoAt, todoOf, firstReg, ↓reduceIte, Option.some.injEq, Nat.reduceEqDiff, reduceCtorEq, Try.f17]
    rw [execL_inLoop]
    simp (maxSteps := 1000000) (implicitDefEqProofs := false) (disch := first | rfl | omega | assumption) only [go_sem, g5, g6, g14, ltT, ltF, leT, leF, hk']
    refine exec_nx (e := [(5, .ptr (H.length + 2) 0), (6, I (a : Nat)), (14, .ptr (H.length + 5) 0)]) (df := [.fn (.func 58) [] [.ptr (H.length + 2) 0]]) (H := H ++ [.box (.agg [vw, I f.lo, I f.hi, vr]), .box (I w), .box (I 0), .box (.agg [vw, I f.lo, I f.hi, vr]), .map 78 (esA es), .iter (H.length + 4) es.length seen]) (pn := none) (n := es.length) (m := H.length + 4) (seen := seen) (li := H.length + 5) (kt := 78) (es := esA es) (by simp (maxSteps := 1000000) (implicitDefEqProofs := false) (disch := first | rfl | omega | assumption) only [go_sem, g5, g6, g14, ltT, ltF, leT, leF, hk', t1, t2, hml]) ?_ ?_ ?_ ?_ ?_ ?_
    · simp (maxSteps := 1000000) (implicitDefEqProofs := false) (disch := first | rfl | omega | assumption) only [go_sem, g5, g6, g14, ltT, ltF, leT, leF, hk']
    · simp (maxSteps := 1000000) (implicitDefEqProofs := false) (disch := first | rfl | omega | assumption) only [go_sem, g5, g6, g14, ltT, ltF, leT, leF, hk']
    · simp (maxSteps := 1000000) (implicitDefEqProofs := false) (disch := first | rfl | omega | assumption) only [go_sem, g5, g6, g14, ltT, ltF, leT, leF, hk']
    · exact hle
    · intro hall
      have hre := hmet.fin hall
      rw [hre] at hmet
      have hpa : a = partS es := by
        rw [hae, or_perm hmet.done]
      simp (maxSteps := 1000000) (implicitDefEqProofs := false) (disch := first | rfl | omega | assumption) only [go_sem, g5, g6, g14, ltT, ltF, leT, leF, hk', t3, t4, hN]
      rw [hD, hpa]
    · intro i hi hs
      obtain ⟨rest', h1, h2⟩ := hmet.go hi hs
      omega
  | succ q ih =>
    intro seen rest hq hmet a ha hae E g5 g6 g14 G
    simp only [loopIt, todoPast, todoAt, todoOf, firstReg, ↓reduceIte, Option.some.injEq, Nat.reduceEqDiff, reduceCtorEq, Try.f17] at ih ⊢
    rw [execL_inLoop]
    simp (maxSteps := 1000000) (implicitDefEqProofs := false) (disch := first | rfl | omega | assumption) only [go_sem, g5, g6, g14, ltT, ltF, leT, leF, hk']
    refine exec_nx (e := [(5, .ptr (H.length + 2) 0), (6, I (a : Nat)), (14, .ptr (H.length + 5) 0)]) (df := [.fn (.func 58) [] [.ptr (H.length + 2) 0]]) (H := H ++ [.box (.agg [vw, I f.lo, I f.hi, vr]), .box (I w), .box (I 0), .box (.agg [vw, I f.lo, I f.hi, vr]), .map 78 (esA es), .iter (H.length + 4) es.length seen]) (pn := none) (n := es.length) (m := H.length + 4) (seen := seen) (li := H.length + 5) (kt := 78) (es := esA es) (by simp (maxSteps := 1000000) (implicitDefEqProofs := false) (disch := first | rfl | omega | assumption) only [go_sem, g5, g6, g14, ltT, ltF, leT, leF, hk', t1, t2, hml]) ?_ ?_ ?_ ?_ ?_ ?_
    · simp (maxSteps := 1000000) (implicitDefEqProofs := false) (disch := first | rfl | omega | assumption) only [go_sem, g5, g6, g14, ltT, ltF, leT, leF, hk']
    · simp (maxSteps := 1000000) (implicitDefEqProofs := false) (disch := first | rfl | omega | assumption) only [go_sem, g5, g6, g14, ltT, ltF, leT, leF, hk']
    · simp (maxSteps := 1000000) (implicitDefEqProofs := false) (disch := first | rfl | omega | assumption) only [go_sem, g5, g6, g14, ltT, ltF, leT, leF, hk']
    · exact hle
    · intro hall
      have hre := hmet.fin hall
      rw [hre] at hq
      simp at hq
    · intro i hi hs
      have hat : (esA es).getD i (.undef, .undef) = (.agg [I (atC es i).1.1, I (atC es i).1.2], I (atC es i).2) := es_at hi
      have hat2 : (esA es)[i]? = some (.agg [I (atC es i).1.1, I (atC es i).1.2], I (atC es i).2) := es_at2 hi
      have hb : 0 ≤ (atC es i).1.2 ∧ (atC es i).1.2 < 20 := hp _ (by simp only [atC, List.getD_eq_getElem?_getD, List.getElem?_eq_getElem hi, Option.getD_some]; exact List.getElem_mem hi)
      obtain ⟨rest', h1, h2⟩ := hmet.go hi hs
      have key := ih (seen ++ [i]) rest' (by omega) h1 (orP a (atC es i).1.2) (or_lt ha hb) (by rw [List.foldl_append, ← hae]; rfl)
      have hsh := shlI (k := (atC es i).1.2.toNat) (by omega)
      have hor : bitsOp .or .i64 (a : Int) ((2 ^ (atC es i).1.2.toNat : Nat) : Int) = some ((orP a (atC es i).1.2 : Nat) : Int) := by
        have h20 : (2 : Nat) ^ (atC es i).1.2.toNat < 2 ^ 20 := Nat.pow_lt_pow_right (by omega) (by omega)
        exact bitsOrI (by omega) (by omega)
      simp (maxSteps := 1000000) (implicitDefEqProofs := false) (disch := first | rfl | omega | assumption) only [go_sem, g5, g6, g14, ltT, ltF, leT, leF, hk', hle, hat, hat2, hsh, hor]
      exact key _ (by rfl) (by rfl) (by rfl) _

theorem setC_mem (k : Int × Int) (c : Int) : ∀ es, ∀ p ∈ setC es k c, p.1 = k ∨ p ∈ es
  | [], p, h => by simp only [setC, List.mem_singleton] at h; exact Or.inl (by rw [h])
  | (k', c') :: r, p, h => by
    simp only [setC] at h
    split at h
    · rcases List.mem_cons.1 h with h | h
      · exact Or.inl (by rw [h])
      · exact Or.inr (List.mem_cons_of_mem _ h)
    · rcases List.mem_cons.1 h with h | h
      · exact Or.inr (by rw [h]; exact List.mem_cons_self)
      · rcases setC_mem k c r p h with h | h
        · exact Or.inl h
        · exact Or.inr (List.mem_cons_of_mem _ h)

theorem cnt_mem (w : Int) : ∀ (xs : List Int) (es : List ((Int × Int) × Int)), ∀ p ∈ xs.foldl (incC w) es, p ∈ es.map id ∨ (∃ x ∈ xs, p.1 = (x / w, ptZ w x)) ∨ ∃ p' ∈ es, p.1 = p'.1
  | [], es, p, h => by simp only [List.foldl_nil] at h; exact Or.inr (Or.inr ⟨p, h, rfl⟩)
  | x :: r, es, p, h => by
    rcases cnt_mem w r (incC w es x) p h with h | ⟨y, hy, h⟩ | ⟨p', hp', h⟩
    · simp only [List.map_id] at h
      rcases setC_mem _ _ _ p h with h | h
      · exact Or.inr (Or.inl ⟨x, List.mem_cons_self, h⟩)
      · exact Or.inr (Or.inr ⟨p, h, rfl⟩)
    · exact Or.inr (Or.inl ⟨y, List.mem_cons_of_mem _ hy, h⟩)
    · rcases setC_mem _ _ _ p' hp' with h' | h'
      · exact Or.inr (Or.inl ⟨x, List.mem_cons_self, by rw [h, h']⟩)
      · exact Or.inr (Or.inr ⟨p', h', h⟩)

theorem cntC_of {w : Int} {xs : List Int} {p : (Int × Int) × Int} (h : p ∈ cntC w xs) : ∃ x ∈ xs, p.1 = (x / w, ptZ w x) := by
  rcases cnt_mem w xs [] p h with h | h | ⟨p', h, _⟩
  · simp at h
  · exact h
  · cases h

theorem cnt_pt {f : Frg} (ho : f.Ok) (n : Nat) (hn : n < f.ws.length) : PtB (f.cnt n) := by
  intro p hp
  obtain ⟨x, _, h⟩ := cntC_of hp
  have hw := ho.wave n hn
  have hb := ptZ_bd (w := f.w n) (n := x) (by omega)
  rw [h]
  exact ⟨by simp only; omega, by simp only; omega⟩

def Frg.parts (f : Frg) (n : Int) : Int × Int := if f.valid then (if wi n 0 ((f.ws.length : Int) - 1) then (if (f.lens f.all).isEmpty then (0, 10) else ((partS (f.cnt n.toNat) : Nat), 0)) else (0, 2)) else (0, 1)

theorem fr_Parts2 {f : Frg} {vw vr : AV} (hf : FrAt H f vw vr) (hl : f.ws.length ≤ 1000) {p : Nat} {w : Int} (hp : H[p]? = some (.box (I w))) :
    callFL cfg0 prog0 false 59 [.agg [vw, I f.lo, I f.hi, vr], .ptr p 0] H none = some ⟨.ret (.bool (wi w 0 ((f.ws.length : Int) - 1))), H, none⟩ := by
  have s1 := hf.ws.scal
  have s2 := hf.rs.scal
  have hl : p < H.length := (List.getElem?_eq_some_iff.1 hp).1
  have hp' : ∀ G : Heap, (H ++ G)[p]? = some (.box (I w)) := fun G => by rw [List.getElem?_append_left hl]; exact hp
  have hC := fun G : Heap => fr_isColour (hf.app G) (by omega) w
  simp only [Frg.av] at hC
  refine (callFL_eq fn59 rfl (by simp [Try.f59])).trans ?_
  simp (maxSteps := 1000000) (implicitDefEqProofs := false) (disch := first | rfl | omega | assumption) only [go_sem, ltT, ltF, leT, leF, s1, s2, hp', hC]
  done

theorem fr_Parts {f : Frg} {vw vr : AV} (hf : FrAt H f vw vr) (hl : f.ws.length ≤ 1000 ∧ f.rs.length ≤ 1000) (w : Int) :
    callFL cfg0 prog0 false 17 [.agg [vw, I f.lo, I f.hi, vr], I w] H none = some ⟨.ret (.tup [I (f.parts w).1, I (f.parts w).2]), H, none⟩ := by
  have s1 := hf.ws.scal
  have s2 := hf.rs.scal
  have hk' : True := trivial
  have hO := fr_open (H := H ++ [.box (.agg [vw, I f.lo, I f.hi, vr]), .box (I w), .box (I 0)]) (hf.app _) hl (.func 59) [.ptr (H.length + 1) 0] (by simp [AV.lt, ltL, fnLt]) (wi w 0 ((f.ws.length : Int) - 1)) (fun _ A => by
    have := fr_Parts2 (H := H ++ ([.box (.agg [vw, I f.lo, I f.hi, vr]), .box (I w), .box (I 0)] ++ A)) (hf.app _) hl.1 (p := H.length + 1) (w := w) (by rw [get_at' 1]; rfl)
    rw [← List.append_assoc] at this
    rw [callVL_func]
    exact this)
  have hS := fun (e : Int) (a b : AO) (G : Heap) => wd_Partss (H.length + 2) e 0 (H ++ (a :: b :: .box (I 0) :: G)) (by rw [get_at' 2]; rfl)
  cases hv : f.valid
  · simp only [hv, Bool.false_eq_true, if_false, Frg.parts] at hO ⊢
    refine (callFL_eq fn17 rfl (by simp [Try.f17])).trans ?_
    simp (maxSteps := 1000000) (implicitDefEqProofs := false) (disch := first | rfl | omega | assumption) only [go_sem, ltT, ltF, leT, leF, s1, s2, hO, hS]
    rw [chkK_of]; rotate_left; kernel_rfl
    simp (maxSteps := 1000000) (implicitDefEqProofs := false) (disch := first | rfl | omega | assumption) only [go_sem, ltT, ltF, leT, leF, s1, s2, hO, hS]
    done
  · have ho := f.valid_iff.1 hv
    simp only [hv, if_true, Frg.parts] at hO ⊢
    cases hw : wi w 0 ((f.ws.length : Int) - 1)
    · simp only [hw, Bool.false_eq_true, if_false] at hO ⊢
      refine (callFL_eq fn17 rfl (by simp [Try.f17])).trans ?_
      simp (maxSteps := 1000000) (implicitDefEqProofs := false) (disch := first | rfl | omega | assumption) only [go_sem, ltT, ltF, leT, leF, s1, s2, hO, hS]
      rw [chkK_of]; rotate_left; kernel_rfl
      simp (maxSteps := 1000000) (implicitDefEqProofs := false) (disch := first | rfl | omega | assumption) only [go_sem, ltT, ltF, leT, leF, s1, s2, hO, hS]
      done
    · have hwb : 0 ≤ w ∧ w ≤ (f.ws.length : Int) - 1 := by simpa [wi] using hw
      obtain ⟨n, rfl⟩ : ∃ n : Nat, w = n := ⟨w.toNat, by omega⟩
      have hC := fun G : Heap => fr_counts ho (hf.app G) n (by omega)
      simp only [hw, if_true, Int.toNat_natCast] at hO ⊢
      cases hc : (f.lens f.all).isEmpty
      · simp only [hc, Bool.false_eq_true, if_false] at hC ⊢
        have h1 := cnt_pos (f.w n) hc
        have h2 := cnt_bd ho n
        have h3 := pt_loop hf n (f.cnt n) h1 h2 (cnt_pt ho n (by omega)) _ rfl _ [] _ rfl (Met.zero _) 0 (by decide) rfl
        simp only [Frg.cnt] at hC h2 h3 ⊢
        simp only [loopIt, todoPast, todoAt, todoOf, firstReg, ↓reduceIte, Option.some.injEq, Nat.reduceEqDiff, reduceCtorEq, Try.f17] at h3
        refine (callFL_eq fn17 rfl (by simp [Try.f17])).trans ?_
        simp (maxSteps := 1000000) (implicitDefEqProofs := false) (disch := first | rfl | omega | assumption) only [go_sem, ltT, ltF, leT, leF, s1, s2, hO, hS]
        rw [chkK_of]; rotate_left; kernel_rfl
        simp (maxSteps := 1000000) (implicitDefEqProofs := false) (disch := first | rfl | omega | assumption) only [go_sem, ltT, ltF, leT, leF, s1, s2, hO, hS, hC, esA_len]
        refine (congrArg (Option.map (finishC H.length)) (h3 _ (by rfl) (by rfl) (by rfl) [])).trans ?_
        simp (maxSteps := 1000000) (implicitDefEqProofs := false) (disch := first | rfl | omega | assumption) only [go_sem, ltT, ltF, leT, leF, s1, s2]
        done
      · simp only [hc, if_true] at hC ⊢
        refine (callFL_eq fn17 rfl (by simp [Try.f17])).trans ?_
        simp (maxSteps := 1000000) (implicitDefEqProofs := false) (disch := first | rfl | omega | assumption) only [go_sem, ltT, ltF, leT, leF, s1, s2, hO, hS]
        rw [chkK_of]; rotate_left; kernel_rfl
        simp (maxSteps := 1000000) (implicitDefEqProofs := false) (disch := first | rfl | omega | assumption) only [go_sem, ltT, ltF, leT, leF, s1, s2, hO, hS, hC]
        done

end Go.Ab
/-
  Ask: how many lengths at each part.
-/
namespace Go.Ab
open Go.Proofs
set_option linter.unusedSimpArgs false
set_option linter.unusedVariables false
set_option maxRecDepth 100000
set_option maxHeartbeats 2000000

variable {H : Heap}


def sumK (k : Nat) (l : List ((Int × Int) × Int)) : Int := l.foldl (fun (a : Int) (p : (Int × Int) × Int) => if p.1.2 = (k : Int) then a + p.2 else a) 0
def arrK (l : List ((Int × Int) × Int)) : List AV := (List.range 20).map fun k => I (sumK k l)

theorem sumK_snoc (k : Nat) (l : List ((Int × Int) × Int)) (p : (Int × Int) × Int) : sumK k (l ++ [p]) = if p.1.2 = k then sumK k l + p.2 else sumK k l := by
  simp [sumK]

theorem sumK_perm (k : Nat) {l l' : List ((Int × Int) × Int)} (h : l.Perm l') : sumK k l = sumK k l' := by
  refine h.foldl_eq' (fun x _ y _ z => ?_) 0
  split <;> split <;> omega

theorem arrK_perm {l l' : List ((Int × Int) × Int)} (h : l.Perm l') : arrK l = arrK l' := by
  simp only [arrK]
  exact List.map_congr_left fun k _ => by rw [sumK_perm k h]

theorem arrK_len (l : List ((Int × Int) × Int)) : (arrK l).length = 20 := by simp [arrK]

theorem arrK_set (l : List ((Int × Int) × Int)) (p : (Int × Int) × Int) (h0 : 0 ≤ p.1.2) : (arrK l).set p.1.2.toNat (I (sumK p.1.2.toNat l + p.2)) = arrK (l ++ [p]) := by
  apply List.ext_getElem
  · simp [arrK]
  · intro i h1 h2
    rw [List.getElem_set]
    simp only [arrK, List.getElem_map, List.getElem_range, sumK_snoc]
    by_cases e : p.1.2.toNat = i
    · subst e
      rw [if_pos rfl, if_pos (by omega)]
    · rw [if_neg e, if_neg (by omega)]

def CtB (es : List ((Int × Int) × Int)) (j : Nat) : Prop := ∀ p ∈ es, 1 ≤ p.2 ∧ p.2 ≤ j

theorem sumK_bd (k : Nat) : ∀ (l : List ((Int × Int) × Int)) {j : Nat}, CtB l j → ∀ a : Int, 0 ≤ a → 0 ≤ l.foldl (fun (a : Int) (p : (Int × Int) × Int) => if p.1.2 = (k : Int) then a + p.2 else a) a ∧ l.foldl (fun (a : Int) (p : (Int × Int) × Int) => if p.1.2 = (k : Int) then a + p.2 else a) a ≤ a + l.length * j
  | [], j, _, a, ha => by exact ⟨by simpa using ha, by simp⟩
  | p :: r, j, h, a, ha => by
    have hp := h p List.mem_cons_self
    have e : ((p :: r).length : Int) * j = r.length * j + j := by simp only [List.length_cons]; rw [show ((r.length + 1 : Nat) : Int) = (r.length : Int) + 1 by omega, Int.add_mul]; omega
    have hr : CtB r j := fun q hq => h q (List.mem_cons_of_mem _ hq)
    simp only [List.foldl_cons]
    rw [e]
    split
    · have := sumK_bd k r hr (a + p.2) (by omega); omega
    · have := sumK_bd k r hr a ha; omega

theorem as_in {f : Frg} {vw vr : AV} (hf : FrAt H f vw vr) (es : List ((Int × Int) × Int)) (hn : 0 < es.length) (hm : es.length ≤ 401) (hp : PtB es) (hcb : CtB es 401) (b m j : Int) (K : List Item) (D : Done)
    (hK : ∀ E : Env, E.get 2 = I 0 → E.get 3 = I 0 → E.get 4 = .ptr (H.length + 1) 0 → E.get 5 = .ptr (H.length + 2) 0 → E.get 6 = I b → E.get 7 = I m → E.get 8 = I j → E.get 9 = .ptr (H.length + 3) 0 → E.get 19 = I f.ws.length → E.get 20 = I j → ∀ G : Heap,
      execL cfg0 prog0 ⟨26, none, false, H.length⟩ K ⟨E, [.fn (.func 71) [] [.ptr (H.length + 1) 0]], H ++ (.box (.agg [vw, I f.lo, I f.hi, vr]) :: .box (I 0) :: .box (.agg [vw, I f.lo, I f.hi, vr]) :: .box (.agg (arrK es)) :: G), none⟩ = some D) :
    ∀ (q : Nat) (seen rest : List Nat), rest.length = q → Met es.length seen rest → ∀ E : Env, E.get 2 = I 0 → E.get 3 = I 0 → E.get 4 = .ptr (H.length + 1) 0 → E.get 5 = .ptr (H.length + 2) 0 → E.get 6 = I b → E.get 7 = I m → E.get 8 = I j → E.get 9 = .ptr (H.length + 3) 0 → E.get 19 = I f.ws.length → E.get 20 = I j → E.get 26 = .ptr (H.length + 6) 0 → ∀ G : Heap,
    execL cfg0 prog0 ⟨26, none, false, H.length⟩ (loopIt Try.f26 9 :: .inBlock 2 :: K) ⟨E, [.fn (.func 71) [] [.ptr (H.length + 1) 0]], H ++ (.box (.agg [vw, I f.lo, I f.hi, vr]) :: .box (I 0) :: .box (.agg [vw, I f.lo, I f.hi, vr]) :: .box (.agg (arrK (seen.map (atC es)))) :: .box (.agg [vw, I f.lo, I f.hi, vr]) :: .map 78 (esA es) :: .iter (H.length + 5) es.length seen :: G), none⟩ = some D := by
  have s1 := hf.ws.scal
  have s2 := hf.rs.scal
  have t1 := hf.ws.ltn 7
  have t2 := hf.rs.ltn 7
  have hle := esA_len es
  have hml := esA_lt (H.length + 7) es
  have hk' : True := trivial
  intro q
  induction q with
  | zero =>
    intro seen rest hq hmet E g2 g3 g4 g5 g6 g7 g8 g9 g19 g20 g26 G
    have hlt := fun N => ltL_map (f := fun k => I (sumK k (seen.map (atC es)))) (N := N) (fun _ => rfl) (List.range 20)
    have hal : ∀ N, ltL N (arrK (seen.map (atC es))) = true := hlt
    simp only [loopIt, todoPast, todoAt, todoOf, firstReg, ↓reduceIte, Option.some.injEq, Nat.reduceEqDiff, reduceCtorEq, Try.f26]
    rw [execL_inLoop]
    simp (maxSteps := 1000000) (implicitDefEqProofs := false) (disch := first | rfl | omega | assumption) only [go_sem, g2, g3, g4, g5, g6, g7, g8, g9, g19, g20, g26, ltT, ltF, leT, leF, hk']
    refine exec_nx (e := [(2, I 0), (3, I 0), (4, .ptr (H.length + 1) 0), (5, .ptr (H.length + 2) 0), (6, I b), (7, I m), (8, I j), (9, .ptr (H.length + 3) 0), (19, I f.ws.length), (20, I j), (26, .ptr (H.length + 6) 0)]) (df := [.fn (.func 71) [] [.ptr (H.length + 1) 0]]) (H := H ++ [.box (.agg [vw, I f.lo, I f.hi, vr]), .box (I 0), .box (.agg [vw, I f.lo, I f.hi, vr]), .box (.agg (arrK (seen.map (atC es)))), .box (.agg [vw, I f.lo, I f.hi, vr]), .map 78 (esA es), .iter (H.length + 5) es.length seen]) (pn := none) (n := es.length) (m := H.length + 5) (seen := seen) (li := H.length + 6) (kt := 78) (es := esA es) (by simp (maxSteps := 1000000) (implicitDefEqProofs := false) (disch := first | rfl | omega | assumption) only [go_sem, g2, g3, g4, g5, g6, g7, g8, g9, g19, g20, g26, ltT, ltF, leT, leF, hk', t1, t2, hml, hal]) ?_ ?_ ?_ ?_ ?_ ?_
    · simp (maxSteps := 1000000) (implicitDefEqProofs := false) (disch := first | rfl | omega | assumption) only [go_sem, g2, g3, g4, g5, g6, g7, g8, g9, g19, g20, g26, ltT, ltF, leT, leF, hk']
    · simp (maxSteps := 1000000) (implicitDefEqProofs := false) (disch := first | rfl | omega | assumption) only [go_sem, g2, g3, g4, g5, g6, g7, g8, g9, g19, g20, g26, ltT, ltF, leT, leF, hk']
    · simp (maxSteps := 1000000) (implicitDefEqProofs := false) (disch := first | rfl | omega | assumption) only [go_sem, g2, g3, g4, g5, g6, g7, g8, g9, g19, g20, g26, ltT, ltF, leT, leF, hk']
    · exact hle
    · intro hall
      have hre := hmet.fin hall
      rw [hre] at hmet
      have hpa : arrK (seen.map (atC es)) = arrK es := arrK_perm (by
        have := met_perm (fun p => p) hmet.done
        simpa using this)
      rw [hpa]
      simp (maxSteps := 1000000) (implicitDefEqProofs := false) (disch := first | rfl | omega | assumption) only [go_sem, g2, g3, g4, g5, g6, g7, g8, g9, g19, g20, g26, ltT, ltF, leT, leF, hk']
      exact hK _ (by rfl) (by rfl) (by rfl) (by rfl) (by rfl) (by rfl) (by rfl) (by rfl) (by rfl) (by rfl) _
    · intro i hi hs
      obtain ⟨rest', h1, h2⟩ := hmet.go hi hs
      omega
  | succ q ih =>
    intro seen rest hq hmet E g2 g3 g4 g5 g6 g7 g8 g9 g19 g20 g26 G
    have hlt := fun N => ltL_map (f := fun k => I (sumK k (seen.map (atC es)))) (N := N) (fun _ => rfl) (List.range 20)
    have hal : ∀ N, ltL N (arrK (seen.map (atC es))) = true := hlt
    simp only [loopIt, todoPast, todoAt, todoOf, firstReg, ↓reduceIte, Option.some.injEq, Nat.reduceEqDiff, reduceCtorEq, Try.f26] at ih ⊢
    rw [execL_inLoop]
    simp (maxSteps := 1000000) (implicitDefEqProofs := false) (disch := first | rfl | omega | assumption) only [go_sem, g2, g3, g4, g5, g6, g7, g8, g9, g19, g20, g26, ltT, ltF, leT, leF, hk']
    refine exec_nx (e := [(2, I 0), (3, I 0), (4, .ptr (H.length + 1) 0), (5, .ptr (H.length + 2) 0), (6, I b), (7, I m), (8, I j), (9, .ptr (H.length + 3) 0), (19, I f.ws.length), (20, I j), (26, .ptr (H.length + 6) 0)]) (df := [.fn (.func 71) [] [.ptr (H.length + 1) 0]]) (H := H ++ [.box (.agg [vw, I f.lo, I f.hi, vr]), .box (I 0), .box (.agg [vw, I f.lo, I f.hi, vr]), .box (.agg (arrK (seen.map (atC es)))), .box (.agg [vw, I f.lo, I f.hi, vr]), .map 78 (esA es), .iter (H.length + 5) es.length seen]) (pn := none) (n := es.length) (m := H.length + 5) (seen := seen) (li := H.length + 6) (kt := 78) (es := esA es) (by simp (maxSteps := 1000000) (implicitDefEqProofs := false) (disch := first | rfl | omega | assumption) only [go_sem, g2, g3, g4, g5, g6, g7, g8, g9, g19, g20, g26, ltT, ltF, leT, leF, hk', t1, t2, hml, hal]) ?_ ?_ ?_ ?_ ?_ ?_
    · simp (maxSteps := 1000000) (implicitDefEqProofs := false) (disch := first | rfl | omega | assumption) only [go_sem, g2, g3, g4, g5, g6, g7, g8, g9, g19, g20, g26, ltT, ltF, leT, leF, hk']
    · simp (maxSteps := 1000000) (implicitDefEqProofs := false) (disch := first | rfl | omega | assumption) only [go_sem, g2, g3, g4, g5, g6, g7, g8, g9, g19, g20, g26, ltT, ltF, leT, leF, hk']
    · simp (maxSteps := 1000000) (implicitDefEqProofs := false) (disch := first | rfl | omega | assumption) only [go_sem, g2, g3, g4, g5, g6, g7, g8, g9, g19, g20, g26, ltT, ltF, leT, leF, hk']
    · exact hle
    · intro hall
      have hre := hmet.fin hall
      rw [hre] at hq
      simp at hq
    · intro i hi hs
      have hat : (esA es).getD i (.undef, .undef) = (.agg [I (atC es i).1.1, I (atC es i).1.2], I (atC es i).2) := es_at hi
      have hat2 : (esA es)[i]? = some (.agg [I (atC es i).1.1, I (atC es i).1.2], I (atC es i).2) := es_at2 hi
      have hmi : atC es i ∈ es := by simp only [atC, List.getD_eq_getElem?_getD, List.getElem?_eq_getElem hi, Option.getD_some]; exact List.getElem_mem hi
      have hb := hp _ hmi
      have hc := hcb _ hmi
      obtain ⟨rest', h1, h2⟩ := hmet.go hi hs
      have key := ih (seen ++ [i]) rest' (by omega) h1
      have hget : (arrK (seen.map (atC es)))[(atC es i).1.2.toNat]? = some (I (sumK (atC es i).1.2.toNat (seen.map (atC es)))) := by
        simp only [arrK, List.getElem?_map]
        rw [List.getElem?_range (by omega)]
        rfl
      have hset := arrK_set (seen.map (atC es)) (atC es i) hb.1
      rw [show seen.map (atC es) ++ [atC es i] = (seen ++ [i]).map (atC es) by simp] at hset
      have hp19 : ((atC es i).1.2.toNat ≤ 19) = True := eq_true (by omega)
      rw [List.set_eq_take_append_cons_drop, if_pos (by rw [arrK_len]; omega)] at hset
      have hsb := sumK_bd (atC es i).1.2.toNat (seen.map (atC es)) (j := 401) (fun p hp' => by
        obtain ⟨x, hx, rfl⟩ := List.mem_map.1 hp'
        have hxn : x < es.length := List.mem_range.1 (hmet.mem_iff.1 (List.mem_append_left _ hx))
        exact hcb _ (by simp only [atC, List.getD_eq_getElem?_getD, List.getElem?_eq_getElem hxn, Option.getD_some]; exact List.getElem_mem hxn)) 0 (by omega)
      have hsl : seen.length ≤ es.length := by
        have := hmet.length_eq
        simp only [List.length_append, List.length_range] at this; omega
      have hwr : IntKind.i64.wrap (sumK (atC es i).1.2.toNat (seen.map (atC es)) + (atC es i).2) = sumK (atC es i).1.2.toNat (seen.map (atC es)) + (atC es i).2 := by
        simp only [List.length_map] at hsb
        simp only [sumK] at hsb ⊢
        exact w64 (by omega) (by omega)
      have hals := arrK_len (seen.map (atC es))
      simp (maxSteps := 1000000) (implicitDefEqProofs := false) (disch := first | rfl | omega | assumption) only [go_sem, g2, g3, g4, g5, g6, g7, g8, g9, g19, g20, g26, ltT, ltF, leT, leF, hk', hle, hat, hat2, hget, hset, hwr, hals, hp19, if_true]
      exact key _ (by rfl) (by rfl) (by rfl) (by rfl) (by rfl) (by rfl) (by rfl) (by rfl) (by rfl) (by rfl) (by rfl) _

end Go.Ab
/-
  Ask: the largest of them, and the walk.
-/
namespace Go.Ab
open Go.Proofs
set_option linter.unusedSimpArgs false
set_option linter.unusedVariables false
set_option maxRecDepth 100000
set_option maxHeartbeats 2000000

variable {H : Heap}


def mx2 (m x : Int) : Int := if m < x then x else m
def mxL (xs : List Int) : Int := (xs.drop 1).foldl mx2 (xs.getD 0 0)

theorem mx_loop {xs : List Int} (hx : xs.length ≤ 1000) (r : Int) :
    ∀ (q j : Nat), j + q = xs.length → ∀ (m : Int), (xs.drop j).foldl mx2 m = r → ∀ E : Env, E.get 0 = .sl false (xs.map I) → E.get 3 = I m → E.get 4 = I j →
    Option.map (finishC H.length) (execL cfg0 prog0 ⟨72, none, false, H.length⟩ (todoAt Try.f72 5) ⟨E, [], H, none⟩) = some ⟨.ret (I r), H, none⟩ := by
  intro q
  induction q with
  | zero =>
    intro j hj m hr E g0 g3 g4
    have hk' : ¬ (j : Int) < ((xs.length : Nat) : Int) := by omega
    rw [List.drop_of_length_le (by omega)] at hr
    simp only [List.foldl_nil] at hr
    subst hr
    have hll : ((xs.map I).length : Int) = xs.length := by rw [List.length_map]
    simp only [loopIt, todoPast, todoAt, todoOf, firstReg, ↓reduceIte, Option.some.injEq, Nat.reduceEqDiff, reduceCtorEq, Try.f72]
    rw [execL_inLoop]
    simp (maxSteps := 1000000) (implicitDefEqProofs := false) (disch := first | rfl | omega | assumption) only [go_sem, g0, g3, g4, ltT, ltF, leT, leF, hk', List.length_map]
    done
  | succ q ih =>
    intro j hj m hr E g0 g3 g4
    have hk' : (j : Int) < ((xs.length : Nat) : Int) := by omega
    have hk2 : j < xs.length := by omega
    have hd : xs.drop j = xs.getD j 0 :: xs.drop (j + 1) := by rw [List.drop_eq_getElem_cons hk2]; simp [hk2]
    rw [hd, List.foldl_cons] at hr
    have hsl : SlOk H 1 (.sl false (xs.map I)) (xs.map I) := ⟨rfl, fun x hx => by
      obtain ⟨i, _, rfl⟩ := List.mem_map.1 hx; rfl⟩
    obtain ⟨a1, a2, a3, a4, a5⟩ := hsl.fF (d := 0)
    simp only [loopIt, todoPast, todoAt, todoOf, firstReg, ↓reduceIte, Option.some.injEq, Nat.reduceEqDiff, reduceCtorEq, Try.f72]
    rw [execL_inLoop]
    simp (maxSteps := 1000000) (implicitDefEqProofs := false) (disch := first | rfl | omega | assumption) only [go_sem, g0, g3, g4, ltT, ltF, leT, leF, hk', a1, a2, a3, a4, a5, List.length_map]
    exact ih (j + 1) (by omega) _ hr _ (by exact g0) (by rfl) (by rfl)

theorem fr_max {xs : List Int} (hp : 0 < xs.length) (hx : xs.length ≤ 1000) (H : Heap) : callFL cfg0 prog0 false 72 [.sl false (xs.map I)] H none = some ⟨.ret (I (mxL xs)), H, none⟩ := by
  have hsl : SlOk H 1 (.sl false (xs.map I)) (xs.map I) := ⟨rfl, fun x hx => by
      obtain ⟨i, _, rfl⟩ := List.mem_map.1 hx; rfl⟩
  obtain ⟨a1, a2, a3, a4, a5⟩ := hsl.fF (d := 0)
  have h1 : ¬ (xs.length : Int) < 1 := by omega
  have hL := mx_loop (H := H) hx (mxL xs) (xs.length - 1) 1 (by omega) (xs.getD 0 0) rfl
  refine (callFL_eq fn72 rfl (by simp [Try.f72])).trans ?_
  simp (maxSteps := 1000000) (implicitDefEqProofs := false) (disch := first | rfl | omega | assumption) only [go_sem, ltT, ltF, leT, leF, a1, a2, a3, a4, a5, List.length_map, h1]
  exact hL _ (by rfl) (by rfl) (by rfl)

def arrI (l : List ((Int × Int) × Int)) : List Int := (List.range 20).map fun k => sumK k l
theorem arrI_map (l : List ((Int × Int) × Int)) : arrK l = (arrI l).map I := by simp [arrK, arrI]

def Frg.most (f : Frg) (j : Nat) : Int := mxL (arrI (f.cnt j))
def Frg.askGo (f : Frg) : Nat → Nat → Int × Int → Int × Int
  | _, 0, s => s
  | j, q + 1, (b, m) => f.askGo (j + 1) q (if j = 0 ∨ f.most j < m then ((j : Nat), f.most j) else (b, m))
def Frg.ask (f : Frg) : Int × Int × Int := if f.valid then (if (f.lens f.all).isEmpty then (0, 0, 10) else ((f.askGo 0 f.ws.length (0, 0)).1, (f.askGo 0 f.ws.length (0, 0)).2, 0)) else (0, 0, 1)

theorem getC_mem : ∀ {es : List ((Int × Int) × Int)} {k : Int × Int} {c : Int}, getC es k = some c → (k, c) ∈ es
  | (k', c') :: r, k, c, h => by
    simp only [getC] at h
    split at h
    · rename_i e; cases h; rw [e]; exact List.mem_cons_self
    · exact List.mem_cons_of_mem _ (getC_mem h)

theorem setC_mem2 (k : Int × Int) (c : Int) : ∀ es, ∀ p ∈ setC es k c, p = (k, c) ∨ p ∈ es
  | [], p, h => by simp only [setC, List.mem_singleton] at h; exact Or.inl h
  | (k', c') :: r, p, h => by
    simp only [setC] at h
    split at h
    · rcases List.mem_cons.1 h with h | h
      · exact Or.inl h
      · exact Or.inr (List.mem_cons_of_mem _ h)
    · rcases List.mem_cons.1 h with h | h
      · exact Or.inr (by rw [h]; exact List.mem_cons_self)
      · rcases setC_mem2 k c r p h with h | h
        · exact Or.inl h
        · exact Or.inr (List.mem_cons_of_mem _ h)

theorem cnt_ct (w : Int) : ∀ (xs : List Int) (es : List ((Int × Int) × Int)) (j : Nat), CtB es j → CtB (xs.foldl (incC w) es) (j + xs.length)
  | [], es, j, h => h
  | x :: r, es, j, h => by
    have h1 : CtB (incC w es x) (j + 1) := by
      intro p hp
      rcases setC_mem2 _ _ _ p hp with rfl | hp
      · cases hg : getC es (x / w, ptZ w x) with
        | none => simp only [Option.getD_none]; omega
        | some c0 => have := h _ (getC_mem hg); simp only [Option.getD_some] at this ⊢; omega
      · have := h p hp; omega
    have := cnt_ct w r _ _ h1
    simp only [List.length_cons, List.foldl_cons]
    rw [show j + (r.length + 1) = j + 1 + r.length by omega]
    exact this

theorem cnt_ct4 {f : Frg} (ho : f.Ok) (n : Nat) : CtB (f.cnt n) 401 := by
  have h := cnt_ct (f.w n) (f.lens f.all) [] 0 (fun p hp => by cases hp)
  have h2 := (lens_bd ho f.all).1
  intro p hp
  have := h p hp
  omega

theorem ask_loop {f : Frg} {vw vr : AV} (ho : f.Ok) (hf : FrAt H f vw vr) (hc : (f.lens f.all).isEmpty = false) (r : Int × Int) (D : Done)
    (hD : D = ⟨.ret (.tup [I r.1, I r.2, I 0]), H ++ [.box (.agg [vw, I f.lo, I f.hi, vr]), .box (I 0), .box (.agg [vw, I f.lo, I f.hi, vr])], none⟩) :
    ∀ (q j : Nat), j + q = f.ws.length → ∀ b m : Int, f.askGo j q (b, m) = r → ∀ E : Env, E.get 2 = I 0 → E.get 3 = I 0 → E.get 4 = .ptr (H.length + 1) 0 → E.get 5 = .ptr (H.length + 2) 0 → E.get 6 = I b → E.get 7 = I m → E.get 19 = I f.ws.length → E.get 20 = I j → ∀ G : Heap,
    execL cfg0 prog0 ⟨26, none, false, H.length⟩ (todoAt Try.f26 5) ⟨E, [.fn (.func 71) [] [.ptr (H.length + 1) 0]], H ++ (.box (.agg [vw, I f.lo, I f.hi, vr]) :: .box (I 0) :: .box (.agg [vw, I f.lo, I f.hi, vr]) :: G), none⟩ = some D := by
  have s1 := hf.ws.scal
  have s2 := hf.rs.scal
  have t1 := hf.ws.ltn 3
  have t2 := hf.rs.ltn 3
  have hm4 := ho.many
  have hN := fun G : Heap => wd_Askn (H.length + 1) G
  intro q
  induction q with
  | zero =>
    intro j hj b m hr E g2 g3 g4 g5 g6 g7 g19 g20 G
    have hk' : ¬ (j : Int) < ((f.ws.length : Nat) : Int) := by omega
    simp only [loopIt, todoPast, todoAt, todoOf, firstReg, ↓reduceIte, Option.some.injEq, Nat.reduceEqDiff, reduceCtorEq, Try.f26]
    rw [execL_inLoop]
    simp (maxSteps := 1000000) (implicitDefEqProofs := false) (disch := first | rfl | omega | assumption) only [go_sem, g2, g3, g4, g5, g6, g7, g19, g20, ltT, ltF, leT, leF, hk', t1, t2, hN]
    rw [hD, ← hr]
    rfl
  | succ q ih =>
    intro j hj b m hr E g2 g3 g4 g5 g6 g7 g19 g20 G
    have hk' : (j : Int) < ((f.ws.length : Nat) : Int) := by omega
    have hC := fun G : Heap => fr_counts ho (hf.app G) j (by omega)
    have h1 := cnt_pos (f.w j) hc
    have h2 := cnt_bd ho j
    have h3 := as_in hf (f.cnt j) h1 h2 (cnt_pt ho j (by omega)) (cnt_ct4 ho j) b m j
    have h4 := fun G : Heap => fr_max (xs := arrI (f.cnt j)) (by simp [arrI]) (by simp [arrI]) G
    simp only [hc, Bool.false_eq_true, if_false, Frg.cnt] at hC h3 h4
    simp only [loopIt, todoPast, todoAt, todoOf, firstReg, ↓reduceIte, Option.some.injEq, Nat.reduceEqDiff, reduceCtorEq, Try.f26] at ih h3 ⊢
    rw [execL_inLoop]
    simp (maxSteps := 1000000) (implicitDefEqProofs := false) (disch := first | rfl | omega | assumption) only [go_sem, g2, g3, g4, g5, g6, g7, g19, g20, ltT, ltF, leT, leF, hk', t1, t2, hC, esA_len]
    refine h3 _ _ ?_ _ [] _ rfl (Met.zero _) _ (by rfl) (by rfl) (by rfl) (by rfl) (by rfl) (by rfl) (by rfl) (by rfl) (by rfl) (by rfl) (by rfl) _
    intro E g2 g3 g4 g5 g6 g7 g8 g9 g19 g20 G
    rw [arrI_map]
    have hwr : f.most j = mxL (arrI (cntC (f.w j) (f.lens f.all))) := rfl
    have hal : ∀ N, ltL N ((arrI (cntC (f.w j) (f.lens f.all))).map I) = true := fun N => ltL_map (fun _ => rfl) _
    have h20 : (arrI (cntC (f.w j) (f.lens f.all))).length = 20 := by simp [arrI]
    simp only [Frg.askGo] at hr
    by_cases h0 : (j : Int) = 0
    · have h0' : j = 0 := by omega
      subst h0'
      simp only [true_or, if_true] at hr
      simp (maxSteps := 1000000) (implicitDefEqProofs := false) (disch := first | rfl | omega | assumption) only [go_sem, g2, g3, g4, g5, g6, g7, g8, g9, g19, g20, ltT, ltF, leT, leF, hk', t1, t2, h0, h4, hal, h20, List.length_map]
      exact ih (0 + 1) (by omega) _ _ hr _ (by rfl) (by rfl) (by rfl) (by rfl) (by rfl) (by rfl) (by rfl) (by rfl) _
    · have h0' : ¬ j = 0 := by omega
      simp only [h0', false_or, hwr] at hr
      have hje : ((j : Int) == 0) = false := by simpa using h0
      by_cases hlt : mxL (arrI (cntC (f.w j) (f.lens f.all))) < m
      · rw [if_pos hlt] at hr
        simp (maxSteps := 1000000) (implicitDefEqProofs := false) (disch := first | rfl | omega | assumption) only [go_sem, g2, g3, g4, g5, g6, g7, g8, g9, g19, g20, ltT, ltF, leT, leF, hk', t1, t2, hje, h4, hal, h20, List.length_map, hlt]
        exact ih (j + 1) (by omega) _ _ hr _ (by rfl) (by rfl) (by rfl) (by rfl) (by rfl) (by rfl) (by rfl) (by rfl) _
      · rw [if_neg hlt] at hr
        simp (maxSteps := 1000000) (implicitDefEqProofs := false) (disch := first | rfl | omega | assumption) only [go_sem, g2, g3, g4, g5, g6, g7, g8, g9, g19, g20, ltT, ltF, leT, leF, hk', t1, t2, hje, h4, hal, h20, List.length_map, hlt]
        exact ih (j + 1) (by omega) _ _ hr _ (by rfl) (by rfl) (by rfl) (by rfl) (by rfl) (by rfl) (by rfl) (by rfl) _

theorem fr_Ask {f : Frg} {vw vr : AV} (hf : FrAt H f vw vr) (hl : f.ws.length ≤ 1000 ∧ f.rs.length ≤ 1000) :
    callFL cfg0 prog0 false 26 [.agg [vw, I f.lo, I f.hi, vr]] H none = some ⟨.ret (.tup [I f.ask.1, I f.ask.2.1, I f.ask.2.2]), H, none⟩ := by
  have s1 := hf.ws.scal
  have s2 := hf.rs.scal
  have n1 := hf.ws.len
  have t1 := hf.ws.ltn 3
  have t2 := hf.rs.ltn 3
  rw [List.length_map] at n1
  have hk' : True := trivial
  have hO := fun G : Heap => fr_openA (hf.app G) hl
  have hS := fun (e : Int) (a : AO) (G : Heap) => wd_Asks (H.length + 1) e 0 (H ++ (a :: .box (I 0) :: G)) (by rw [get_at' 1]; rfl)
  cases hv : f.valid
  · simp only [hv, Bool.false_eq_true, if_false, Frg.ask] at hO ⊢
    refine (callFL_eq fn26 rfl (by simp [Try.f26])).trans ?_
    simp (maxSteps := 1000000) (implicitDefEqProofs := false) (disch := first | rfl | omega | assumption) only [go_sem, ltT, ltF, leT, leF, s1, s2, hO, hS]
    done
  · have ho := f.valid_iff.1 hv
    simp only [hv, if_true, Frg.ask] at hO ⊢
    cases hc : (f.lens f.all).isEmpty
    · simp only [hc, Bool.false_eq_true, if_false] at ⊢
      have h1 := ask_loop ho hf hc _ _ rfl f.ws.length 0 (by omega) 0 0 rfl
      simp only [loopIt, todoPast, todoAt, todoOf, firstReg, ↓reduceIte, Option.some.injEq, Nat.reduceEqDiff, reduceCtorEq, Try.f26] at h1
      refine (callFL_eq fn26 rfl (by simp [Try.f26])).trans ?_
      simp (maxSteps := 1000000) (implicitDefEqProofs := false) (disch := first | rfl | omega | assumption) only [go_sem, ltT, ltF, leT, leF, s1, s2, hO, n1]
      refine (congrArg (Option.map (finishC H.length)) (h1 _ (by rfl) (by rfl) (by rfl) (by rfl) (by rfl) (by rfl) (by rfl) (by rfl) [])).trans ?_
      simp (maxSteps := 1000000) (implicitDefEqProofs := false) (disch := first | rfl | omega | assumption) only [go_sem, ltT, ltF, leT, leF, s1, s2]
      done
    · have hC := fun G : Heap => fr_counts ho (hf.app G) 0 (by have := ho.many; omega)
      have h0 : (0 : Int) < (f.ws.length : Int) := by have := ho.many; omega
      simp only [hc, if_true, Int.natCast_zero] at hC ⊢
      refine (callFL_eq fn26 rfl (by simp [Try.f26])).trans ?_
      simp (maxSteps := 1000000) (implicitDefEqProofs := false) (disch := first | rfl | omega | assumption) only [go_sem, ltT, ltF, leT, leF, s1, s2, hO, n1]
      rw [execL_inLoop]
      simp (maxSteps := 1000000) (implicitDefEqProofs := false) (disch := first | rfl | omega | assumption) only [go_sem, ltT, ltF, leT, leF, s1, s2, hO, n1, t1, t2, h0, hC, hS]
      done

end Go.Ab
/-
  The reference: valid fringes, lists that are the same, sizes of sets.
-/
namespace Go.Ab
open Go.Proofs
set_option linter.unusedSimpArgs false
set_option linter.unusedVariables false
set_option maxRecDepth 100000
set_option maxHeartbeats 2000000

variable {H : Heap}


theorem rf_in (n lo hi : Int) (H : Heap) : callFL cfg0 prog0 false 75 [I n, I lo, I hi] H none = some ⟨.ret (.bool (wi n lo hi)), H, none⟩ := by
  simp only [wi]
  by_cases h1 : lo ≤ n
  · by_cases h2 : n ≤ hi
    · skip
      refine (callFL_eq fn75 rfl (by simp [Try.f75])).trans ?_
      simp (maxSteps := 1000000) (implicitDefEqProofs := false) (disch := first | rfl | omega | assumption) only [go_sem, ltT, ltF, leT, leF, h1, h2]
      done
    · skip
      refine (callFL_eq fn75 rfl (by simp [Try.f75])).trans ?_
      simp (maxSteps := 1000000) (implicitDefEqProofs := false) (disch := first | rfl | omega | assumption) only [go_sem, ltT, ltF, leT, leF, h1, h2]
      done
  · skip
    refine (callFL_eq fn75 rfl (by simp [Try.f75])).trans ?_
    simp (maxSteps := 1000000) (implicitDefEqProofs := false) (disch := first | rfl | omega | assumption) only [go_sem, ltT, ltF, leT, leF, h1]
    done

theorem rf_Colour {f : Frg} {vw vr : AV} (h : FrAt H f vw vr) (hl : f.ws.length ≤ 1000) (n : Int) : callFL cfg0 prog0 false 76 [.agg [vw, I f.lo, I f.hi, vr], I n] H none = some ⟨.ret (.bool (wi n 0 ((f.ws.length : Int) - 1))), H, none⟩ := by
  have s1 := h.ws.scal
  have s2 := h.rs.scal
  have n1 := h.ws.len
  rw [List.length_map] at n1
  refine (callFL_eq fn76 rfl (by simp [Try.f76])).trans ?_
  simp (maxSteps := 1000000) (implicitDefEqProofs := false) (disch := first | rfl | omega | assumption) only [go_sem, ltT, ltF, leT, leF, s1, s2, n1, rf_in]
  done

theorem rfw_loop {f : Frg} {vw vr : AV} (h : FrAt H f vw vr) (hl : f.ws.length ≤ 1000) (r : Bool) (K : List Item) (R : Option Done) (hK : r = true → ∀ E : Env, E.get 1 = .ptr H.length 0 → Option.map (finishC H.length) (execL cfg0 prog0 ⟨30, none, false, H.length⟩ K ⟨E, [], H ++ [.box (.agg [vw, I f.lo, I f.hi, vr])], none⟩) = R) (e1 : r = false → R = some ⟨.ret (.bool false), H, none⟩) :
    ∀ (q j : Nat), j + q = f.ws.length → f.wsOk j q = r → ∀ E : Env, E.get 1 = .ptr H.length 0 → E.get 3 = I j →
    Option.map (finishC H.length) (execL cfg0 prog0 ⟨30, none, false, H.length⟩ (loopIt Try.f30 4 :: .inBlock 0 :: K) ⟨E, [], H ++ [.box (.agg [vw, I f.lo, I f.hi, vr])], none⟩) = R := by
  intro q
  obtain ⟨a1, a2, a3, a4, a5⟩ := h.ws.fF (d := 0)
  have n1 := h.ws.len
  rw [List.length_map] at n1
  induction q with
  | zero =>
    intro j hj hr E g1 g3
    have hk' : ¬ (j : Int) < ((f.ws.length : Nat) : Int) := by omega
    have hr1 : r = true := by rw [← hr]; rfl
    simp only [loopIt, todoPast, todoAt, todoOf, firstReg, ↓reduceIte, Option.some.injEq, Nat.reduceEqDiff, reduceCtorEq, Try.f30]
    rw [execL_inLoop]
    simp (maxSteps := 1000000) (implicitDefEqProofs := false) (disch := first | rfl | omega | assumption) only [go_sem, g1, g3, ltT, ltF, leT, leF, hk', n1]
    exact hK hr1 _ (by exact g1)
  | succ q ih =>
    intro j hj hr E g1 g3
    have hk' : (j : Int) < ((f.ws.length : Nat) : Int) := by omega
    have hk2 : j < f.ws.length := by omega
    have hu : f.wsOk j (q + 1) = (wi (f.w j) 2 60 && f.wsOk (j + 1) q) := by
      simp only [Frg.wsOk, anyF]
      cases wi (f.w j) 2 60 <;> simp
    rw [hu] at hr
    have hw : f.ws.getD j 0 = f.w j := rfl
    cases hc : wi (f.w j) 2 60
    · rw [hc, Bool.false_and] at hr
      rw [e1 hr.symm]
      simp only [loopIt, todoPast, todoAt, todoOf, firstReg, ↓reduceIte, Option.some.injEq, Nat.reduceEqDiff, reduceCtorEq, Try.f30]
      rw [execL_inLoop]
      simp (maxSteps := 1000000) (implicitDefEqProofs := false) (disch := first | rfl | omega | assumption) only [go_sem, g1, g3, ltT, ltF, leT, leF, hk', a1, a2, a3, a4, n1, hw, rf_in, hc]
      done
    · rw [hc, Bool.true_and] at hr
      simp only [loopIt, todoPast, todoAt, todoOf, firstReg, ↓reduceIte, Option.some.injEq, Nat.reduceEqDiff, reduceCtorEq, Try.f30]
      rw [execL_inLoop]
      simp (maxSteps := 1000000) (implicitDefEqProofs := false) (disch := first | rfl | omega | assumption) only [go_sem, g1, g3, ltT, ltF, leT, leF, hk', a1, a2, a3, a4, n1, hw, rf_in, hc]
      exact ih (j + 1) (by omega) hr _ (by exact g1) (by rfl)

theorem rfr_loop {f : Frg} {vw vr : AV} (h : FrAt H f vw vr) (hl : f.ws.length ≤ 1000 ∧ f.rs.length ≤ 1000) (r : Bool) :
    ∀ (q j : Nat), j + q = f.rs.length → ∀ (G : Heap), f.rsOk j q = r → ∀ E : Env, E.get 1 = .ptr H.length 0 → E.get 4 = I j →
    Option.map (finishC H.length) (execL cfg0 prog0 ⟨30, none, false, H.length⟩ (todoAt Try.f30 11) ⟨E, [], H ++ (.box (.agg [vw, I f.lo, I f.hi, vr]) :: G), none⟩) = some ⟨.ret (.bool r), H, none⟩ := by
  intro q
  obtain ⟨a1, a2, a3, a4, a5⟩ := h.rs.fF (d := rd0)
  have s1 := h.ws.scal
  have s2 := h.rs.scal
  have n2 := h.rs.len
  rw [List.length_map] at n2
  induction q with
  | zero =>
    intro j hj G hr E g1 g4
    have hk' : ¬ (j : Int) < ((f.rs.length : Nat) : Int) := by omega
    have hr1 : r = true := by rw [← hr]; rfl
    simp only [loopIt, todoPast, todoAt, todoOf, firstReg, ↓reduceIte, Option.some.injEq, Nat.reduceEqDiff, reduceCtorEq, Try.f30]
    rw [execL_inLoop]
    simp (maxSteps := 1000000) (implicitDefEqProofs := false) (disch := first | rfl | omega | assumption) only [go_sem, g1, g4, ltT, ltF, leT, leF, hk', s1, s2, n2]
    rw [hr1]
    done
  | succ q ih =>
    intro j hj G hr E g1 g4
    have hk' : (j : Int) < ((f.rs.length : Nat) : Int) := by omega
    have hk2 : j < f.rs.length := by omega
    have hu : f.rsOk j (q + 1) = (f.rdOk (f.r j) && f.rsOk (j + 1) q) := by
      simp only [Frg.rsOk, anyF]
      cases f.rdOk (f.r j) <;> simp
    rw [hu] at hr
    obtain ⟨x, hx⟩ : ∃ x, f.rs.getD j rd0 = x := ⟨_, rfl⟩
    rw [show f.r j = x from hx] at hr
    have hrd := fun x : Rd => (show readPart x.av.cells 0 ⟨.struct [(0, 3), (1, 29)], 3, 24, some (.agg #[.int .i64 0, .int .i64 0, .int .i64 0])⟩ = some (.agg [I x.c, I x.lo, I x.hi]) from rfl)
    have hC := fun G : Heap => rf_Colour (h.app G) hl.1 x.c
    have hok : f.rdOk x = (wi x.c 0 ((f.ws.length : Int) - 1) && (wi x.lo 0 19 && (decide (x.lo ≤ x.hi) && decide (x.hi ≤ x.lo + 19)))) := rfl
    have hwi : wi x.hi x.lo (x.lo + 19) = (decide (x.lo ≤ x.hi) && decide (x.hi ≤ x.lo + 19)) := rfl
    have e20 : x.lo + 20 - 1 = x.lo + 19 := by omega
    cases hc1 : wi x.c 0 ((f.ws.length : Int) - 1)
    · rw [hok, hc1, Bool.false_and, Bool.false_and] at hr
      subst hr
      simp only [loopIt, todoPast, todoAt, todoOf, firstReg, ↓reduceIte, Option.some.injEq, Nat.reduceEqDiff, reduceCtorEq, Try.f30]
      rw [execL_inLoop]
      simp (maxSteps := 1000000) (implicitDefEqProofs := false) (disch := first | rfl | omega | assumption) only [go_sem, g1, g4, ltT, ltF, leT, leF, hk', s1, s2, n2, a1, a2, a3, a4, hx, hrd, hC, rf_in, hc1]
      done
    · cases hc2 : wi x.lo 0 19
      · rw [hok, hc1, hc2, Bool.false_and, Bool.and_false, Bool.false_and] at hr
        subst hr
        simp only [loopIt, todoPast, todoAt, todoOf, firstReg, ↓reduceIte, Option.some.injEq, Nat.reduceEqDiff, reduceCtorEq, Try.f30]
        rw [execL_inLoop]
        simp (maxSteps := 1000000) (implicitDefEqProofs := false) (disch := first | rfl | omega | assumption) only [go_sem, g1, g4, ltT, ltF, leT, leF, hk', s1, s2, n2, a1, a2, a3, a4, hx, hrd, hC, rf_in, hc1, hc2]
        done
      · have hlb : 0 ≤ x.lo ∧ x.lo ≤ 19 := by simpa [wi] using hc2
        rw [hok, hc1, hc2, Bool.true_and, Bool.true_and, ← hwi] at hr
        cases hc3 : wi x.hi x.lo (x.lo + 19)
        · rw [hc3, Bool.false_and] at hr
          subst hr
          simp only [loopIt, todoPast, todoAt, todoOf, firstReg, ↓reduceIte, Option.some.injEq, Nat.reduceEqDiff, reduceCtorEq, Try.f30]
          rw [execL_inLoop]
          simp (maxSteps := 1000000) (implicitDefEqProofs := false) (disch := first | rfl | omega | assumption) only [go_sem, g1, g4, ltT, ltF, leT, leF, hk', s1, s2, n2, a1, a2, a3, a4, hx, hrd, hC, rf_in, hc1, hc2, e20, hc3]
          done
        · rw [hc3, Bool.true_and] at hr
          simp only [loopIt, todoPast, todoAt, todoOf, firstReg, ↓reduceIte, Option.some.injEq, Nat.reduceEqDiff, reduceCtorEq, Try.f30]
          rw [execL_inLoop]
          simp (maxSteps := 1000000) (implicitDefEqProofs := false) (disch := first | rfl | omega | assumption) only [go_sem, g1, g4, ltT, ltF, leT, leF, hk', s1, s2, n2, a1, a2, a3, a4, hx, hrd, hC, rf_in, hc1, hc2, e20, hc3]
          exact ih (j + 1) (by omega) _ hr _ (by exact g1) (by rfl)

theorem rf_Fringe {f : Frg} {vw vr : AV} (h : FrAt H f vw vr) (hl : f.ws.length ≤ 1000 ∧ f.rs.length ≤ 1000) :
    callFL cfg0 prog0 false 30 [.agg [vw, I f.lo, I f.hi, vr]] H none = some ⟨.ret (.bool f.valid), H, none⟩ := by
  have s1 := h.ws.scal
  have s2 := h.rs.scal
  have n1 := h.ws.len
  have n2 := h.rs.len
  rw [List.length_map] at n1 n2
  have hv : f.valid = ((wi f.ws.length 1 4 && decide ((f.rs.length : Int) ≤ 6)) && (f.wsOk 0 f.ws.length && (f.lenOk && f.rsOk 0 f.rs.length))) := rfl
  cases c1 : wi f.ws.length 1 4
  · have : f.valid = false := by rw [hv, c1]; rfl
    rw [this]
    refine (callFL_eq fn30 rfl (by simp [Try.f30])).trans ?_
    simp (maxSteps := 1000000) (implicitDefEqProofs := false) (disch := first | rfl | omega | assumption) only [go_sem, ltT, ltF, leT, leF, s1, s2, n1, n2, rf_in, c1]
    done
  by_cases c2 : (6 : Int) < f.rs.length
  · have : f.valid = false := by rw [hv, c1]; simp; omega
    rw [this]
    refine (callFL_eq fn30 rfl (by simp [Try.f30])).trans ?_
    simp (maxSteps := 1000000) (implicitDefEqProofs := false) (disch := first | rfl | omega | assumption) only [go_sem, ltT, ltF, leT, leF, s1, s2, n1, n2, rf_in, c1, c2]
    done
  cases c3 : f.wsOk 0 f.ws.length
  · have : f.valid = false := by rw [hv, c1, c3]; simp
    rw [this]
    refine (callFL_eq fn30 rfl (by simp [Try.f30])).trans ?_
    simp (maxSteps := 1000000) (implicitDefEqProofs := false) (disch := first | rfl | omega | assumption) only [go_sem, ltT, ltF, leT, leF, s1, s2, n1, n2, rf_in, c1, c2]
    exact rfw_loop h hl.1 false _ _ (fun hh => by cases hh) (fun _ => rfl) f.ws.length 0 (by omega) c3 _ (by rfl) (by rfl)
  have hv2 : f.valid = (f.lenOk && f.rsOk 0 f.rs.length) := by rw [hv, c1, c3]; simp; intro _ _; omega
  have hlk : f.lenOk = (decide (0 ≤ f.lo) && (decide (f.lo ≤ f.hi) && (decide (f.hi ≤ 2000) && decide (f.hi - f.lo ≤ 400)))) := rfl
  refine (callFL_eq fn30 rfl (by simp [Try.f30])).trans ?_
  simp (maxSteps := 1000000) (implicitDefEqProofs := false) (disch := first | rfl | omega | assumption) only [go_sem, ltT, ltF, leT, leF, s1, s2, n1, n2, rf_in, c1, c2]
  refine rfw_loop h hl.1 true _ _ (fun _ E g1 => ?_) (fun hh => by cases hh) f.ws.length 0 (by omega) c3 _ (by rfl) (by rfl)
  by_cases d1 : f.lo < 0
  · have : f.valid = false := by rw [hv2, hlk]; simp; omega
    rw [this]
    simp (maxSteps := 1000000) (implicitDefEqProofs := false) (disch := first | rfl | omega | assumption) only [go_sem, ltT, ltF, leT, leF, s1, s2, n1, n2, rf_in, g1, d1]
    done
  by_cases d2 : f.hi < f.lo
  · have : f.valid = false := by rw [hv2, hlk]; simp; omega
    rw [this]
    simp (maxSteps := 1000000) (implicitDefEqProofs := false) (disch := first | rfl | omega | assumption) only [go_sem, ltT, ltF, leT, leF, s1, s2, n1, n2, rf_in, g1, d1, d2]
    done
  by_cases d3 : 2000 < f.hi
  · have : f.valid = false := by rw [hv2, hlk]; simp; omega
    rw [this]
    simp (maxSteps := 1000000) (implicitDefEqProofs := false) (disch := first | rfl | omega | assumption) only [go_sem, ltT, ltF, leT, leF, s1, s2, n1, n2, rf_in, g1, d1, d2, d3]
    done
  by_cases d4 : 400 < f.hi - f.lo
  · have : f.valid = false := by rw [hv2, hlk]; simp; omega
    rw [this]
    simp (maxSteps := 1000000) (implicitDefEqProofs := false) (disch := first | rfl | omega | assumption) only [go_sem, ltT, ltF, leT, leF, s1, s2, n1, n2, rf_in, g1, d1, d2, d3, d4]
    done
  have hv3 : f.valid = f.rsOk 0 f.rs.length := by rw [hv2, hlk]; simp; intro _; omega
  rw [hv3]
  simp (maxSteps := 1000000) (implicitDefEqProofs := false) (disch := first | rfl | omega | assumption) only [go_sem, ltT, ltF, leT, leF, s1, s2, n1, n2, rf_in, g1, d1, d2, d3, d4]
  exact rfr_loop h hl _ f.rs.length 0 (by omega) [] rfl _ (by exact g1) (by rfl)

/-- Two lists that are the same, from an index on. -/
def eqG {α : Type} [DecidableEq α] (d : α) (xs ys : List α) (j q : Nat) : Bool := !anyF (fun i => decide (xs.getD i d ≠ ys.getD i d)) j q

theorem eqG_succ {α : Type} [DecidableEq α] (d : α) (xs ys : List α) (j q : Nat) : eqG d xs ys j (q + 1) = (decide (xs.getD j d = ys.getD j d) && eqG d xs ys (j + 1) q) := by
  simp only [eqG, anyF]
  by_cases h : xs.getD j d = ys.getD j d <;> simp [h]

theorem eqG_iff {α : Type} [DecidableEq α] {d : α} {xs ys : List α} (h : xs.length = ys.length) : eqG d xs ys 0 xs.length = decide (xs = ys) := by
  rw [Bool.eq_iff_iff]
  simp only [eqG, Bool.not_eq_true', anyF_false, decide_eq_true_eq]
  constructor
  · intro h1
    apply List.ext_getElem h
    intro i h2 h3
    have := h1 i (by omega) (by omega)
    simpa [h2, h3] using this
  · intro e i _ _
    subst e
    simp

theorem ints_loop {v w : AV} {xs ys : List Int} (hv : SlOk H 1 v (xs.map I)) (hw : SlOk H 1 w (ys.map I)) (hl : xs.length = ys.length) (hm : xs.length ≤ 1000000) (r : Bool) :
    ∀ (q j : Nat), j + q = xs.length → eqG 0 xs ys j q = r → ∀ E : Env, E.get 0 = v → E.get 1 = w → E.get 5 = I j →
    Option.map (finishC H.length) (execL cfg0 prog0 ⟨22, none, false, H.length⟩ (todoAt Try.f22 4) ⟨E, [], H, none⟩) = some ⟨.ret (.bool r), H, none⟩ := by
  intro q
  obtain ⟨a1, a2, a3, a4, a5⟩ := hv.fF (d := 0)
  obtain ⟨b1, b2, b3, b4, b5⟩ := hw.fF (d := 0)
  have n1 := hv.len
  rw [List.length_map] at n1
  induction q with
  | zero =>
    intro j hj hr E g0 g1 g5
    have hk' : ¬ (j : Int) < ((xs.length : Nat) : Int) := by omega
    have hr1 : r = true := by rw [← hr]; rfl
    simp only [loopIt, todoPast, todoAt, todoOf, firstReg, ↓reduceIte, Option.some.injEq, Nat.reduceEqDiff, reduceCtorEq, Try.f22]
    rw [execL_inLoop]
    simp (maxSteps := 1000000) (implicitDefEqProofs := false) (disch := first | rfl | omega | assumption) only [go_sem, g0, g1, g5, ltT, ltF, leT, leF, hk', n1]
    rw [hr1]
    done
  | succ q ih =>
    intro j hj hr E g0 g1 g5
    have hk' : (j : Int) < ((xs.length : Nat) : Int) := by omega
    have hk2 : j < xs.length := by omega
    rw [eqG_succ] at hr
    have hk3 : (j : Int) < (ys.length : Int) := by omega
    obtain ⟨x, hx⟩ : ∃ x, xs.getD j 0 = x := ⟨_, rfl⟩
    obtain ⟨y, hy⟩ : ∃ y, ys.getD j 0 = y := ⟨_, rfl⟩
    rw [hx, hy] at hr
    by_cases hc : x = y
    · subst hc
      simp only [decide_true, Bool.true_and] at hr
      have hbe : (x == x) = true := by simp
      simp only [loopIt, todoPast, todoAt, todoOf, firstReg, ↓reduceIte, Option.some.injEq, Nat.reduceEqDiff, reduceCtorEq, Try.f22]
      rw [execL_inLoop]
      simp (maxSteps := 1000000) (implicitDefEqProofs := false) (disch := first | rfl | omega | assumption) only [go_sem, g0, g1, g5, ltT, ltF, leT, leF, hk', n1]
      rw [chkK_of]; rotate_left; kernel_rfl
      simp (maxSteps := 1000000) (implicitDefEqProofs := false) (disch := first | rfl | omega | assumption) only [go_sem, g0, g1, g5, ltT, ltF, leT, leF, hk', n1, a1, a2, a3, a4, b1, b2, b3, b4, hx, hy, hbe]
      exact ih (j + 1) (by omega) hr _ (by exact g0) (by exact g1) (by rfl)
    · simp only [hc, decide_false, Bool.false_and] at hr
      subst hr
      have hbe : (x != y) = true := by simpa using hc
      simp only [loopIt, todoPast, todoAt, todoOf, firstReg, ↓reduceIte, Option.some.injEq, Nat.reduceEqDiff, reduceCtorEq, Try.f22]
      rw [execL_inLoop]
      simp (maxSteps := 1000000) (implicitDefEqProofs := false) (disch := first | rfl | omega | assumption) only [go_sem, g0, g1, g5, ltT, ltF, leT, leF, hk', n1]
      rw [chkK_of]; rotate_left; kernel_rfl
      simp (maxSteps := 1000000) (implicitDefEqProofs := false) (disch := first | rfl | omega | assumption) only [go_sem, g0, g1, g5, ltT, ltF, leT, leF, hk', n1, a1, a2, a3, a4, b1, b2, b3, b4, hx, hy, hbe, hc]
      done

theorem rf_Ints {v w : AV} {xs ys : List Int} (hv : SlOk H 1 v (xs.map I)) (hw : SlOk H 1 w (ys.map I)) (hm : xs.length ≤ 1000000 ∧ ys.length ≤ 1000000) :
    callFL cfg0 prog0 false 22 [v, w] H none = some ⟨.ret (.bool (decide (xs = ys))), H, none⟩ := by
  have n1 := hv.len
  have n2 := hw.len
  rw [List.length_map] at n1 n2
  by_cases hl : xs.length = ys.length
  · have hl' : ((xs.length : Int) != (ys.length : Int)) = false := by rw [hl]; simp
    rw [← eqG_iff (d := 0) hl]
    refine (callFL_eq fn22 rfl (by simp [Try.f22])).trans ?_
    simp (maxSteps := 1000000) (implicitDefEqProofs := false) (disch := first | rfl | omega | assumption) only [go_sem, ltT, ltF, leT, leF, n1, n2, hl']
    exact ints_loop hv hw hl hm.1 _ xs.length 0 (by omega) rfl _ (by rfl) (by rfl) (by rfl)
  · have hl' : ((xs.length : Int) != (ys.length : Int)) = true := by rw [bne_iff_ne]; omega
    have : decide (xs = ys) = false := by rw [decide_eq_false_iff_not]; intro e; exact hl (by rw [e])
    rw [this]
    refine (callFL_eq fn22 rfl (by simp [Try.f22])).trans ?_
    simp (maxSteps := 1000000) (implicitDefEqProofs := false) (disch := first | rfl | omega | assumption) only [go_sem, ltT, ltF, leT, leF, n1, n2, hl']
    done

theorem spans_loop {v w : AV} {xs ys : List (Int × Int)} (hv : SlOk H 2 v (xs.map spA)) (hw : SlOk H 2 w (ys.map spA)) (hl : xs.length = ys.length) (hm : xs.length ≤ 1000000) (r : Bool) :
    ∀ (q j : Nat), j + q = xs.length → eqG (0, 0) xs ys j q = r → ∀ E : Env, E.get 0 = v → E.get 1 = w → E.get 5 = I j →
    Option.map (finishC H.length) (execL cfg0 prog0 ⟨34, none, false, H.length⟩ (todoAt Try.f34 4) ⟨E, [], H, none⟩) = some ⟨.ret (.bool r), H, none⟩ := by
  intro q
  obtain ⟨a1, a2, a3, a4, a5⟩ := hv.fF (d := (0, 0))
  obtain ⟨b1, b2, b3, b4, b5⟩ := hw.fF (d := (0, 0))
  have n1 := hv.len
  rw [List.length_map] at n1
  induction q with
  | zero =>
    intro j hj hr E g0 g1 g5
    have hk' : ¬ (j : Int) < ((xs.length : Nat) : Int) := by omega
    have hr1 : r = true := by rw [← hr]; rfl
    simp only [loopIt, todoPast, todoAt, todoOf, firstReg, ↓reduceIte, Option.some.injEq, Nat.reduceEqDiff, reduceCtorEq, Try.f34]
    rw [execL_inLoop]
    simp (maxSteps := 1000000) (implicitDefEqProofs := false) (disch := first | rfl | omega | assumption) only [go_sem, g0, g1, g5, ltT, ltF, leT, leF, hk', n1]
    rw [hr1]
    done
  | succ q ih =>
    intro j hj hr E g0 g1 g5
    have hk' : (j : Int) < ((xs.length : Nat) : Int) := by omega
    have hk2 : j < xs.length := by omega
    rw [eqG_succ] at hr
    have hk3 : (j : Int) < (ys.length : Int) := by omega
    obtain ⟨⟨x1, x2⟩, hx⟩ : ∃ x, xs.getD j (0, 0) = x := ⟨_, rfl⟩
    obtain ⟨⟨y1, y2⟩, hy⟩ : ∃ y, ys.getD j (0, 0) = y := ⟨_, rfl⟩
    rw [hx, hy] at hr
    have hrd := fun x : Int × Int => (show readPart (spA x).cells 0 ⟨.struct [(0, 3), (1, 3)], 2, 16, some (.agg #[.int .i64 0, .int .i64 0])⟩ = some (.agg [I x.1, I x.2]) from rfl)
    by_cases hc : (x1, x2) = (y1, y2)
    · simp only [hc, decide_true, Bool.true_and] at hr
      cases hc
      have hbe : (x1 == x1) = true := by simp
      have hbe2 : (x2 == x2) = true := by simp
      simp only [loopIt, todoPast, todoAt, todoOf, firstReg, ↓reduceIte, Option.some.injEq, Nat.reduceEqDiff, reduceCtorEq, Try.f34]
      rw [execL_inLoop]
      simp (maxSteps := 1000000) (implicitDefEqProofs := false) (disch := first | rfl | omega | assumption) only [go_sem, g0, g1, g5, ltT, ltF, leT, leF, hk', n1]
      rw [chkK_of]; rotate_left; kernel_rfl
      simp (maxSteps := 1000000) (implicitDefEqProofs := false) (disch := first | rfl | omega | assumption) only [go_sem, g0, g1, g5, ltT, ltF, leT, leF, hk', n1, a1, a2, a3, a4, b1, b2, b3, b4, hx, hy, hbe, hbe2, hrd, spA]
      exact ih (j + 1) (by omega) hr _ (by exact g0) (by exact g1) (by rfl)
    · simp only [hc, decide_false, Bool.false_and] at hr
      subst hr
      have hbe : sameL [I x1, I x2] [I y1, I y2] = false := by
        rw [Bool.eq_false_iff]; intro h; apply hc; simp [sameL, AV.same] at h; rw [h.1, h.2]
      have hbt : (!false) = true := rfl
      simp only [loopIt, todoPast, todoAt, todoOf, firstReg, ↓reduceIte, Option.some.injEq, Nat.reduceEqDiff, reduceCtorEq, Try.f34]
      rw [execL_inLoop]
      simp (maxSteps := 1000000) (implicitDefEqProofs := false) (disch := first | rfl | omega | assumption) only [go_sem, g0, g1, g5, ltT, ltF, leT, leF, hk', n1]
      rw [chkK_of]; rotate_left; kernel_rfl
      simp (maxSteps := 1000000) (implicitDefEqProofs := false) (disch := first | rfl | omega | assumption) only [go_sem, g0, g1, g5, ltT, ltF, leT, leF, hk', n1, a1, a2, a3, a4, b1, b2, b3, b4, hx, hy, hbe, hbt, hc, hrd, spA]
      done

theorem rf_Spans {v w : AV} {xs ys : List (Int × Int)} (hv : SlOk H 2 v (xs.map spA)) (hw : SlOk H 2 w (ys.map spA)) (hm : xs.length ≤ 1000000 ∧ ys.length ≤ 1000000) :
    callFL cfg0 prog0 false 34 [v, w] H none = some ⟨.ret (.bool (decide (xs = ys))), H, none⟩ := by
  have n1 := hv.len
  have n2 := hw.len
  rw [List.length_map] at n1 n2
  by_cases hl : xs.length = ys.length
  · have hl' : ((xs.length : Int) != (ys.length : Int)) = false := by rw [hl]; simp
    rw [← eqG_iff (d := (0, 0)) hl]
    refine (callFL_eq fn34 rfl (by simp [Try.f34])).trans ?_
    simp (maxSteps := 1000000) (implicitDefEqProofs := false) (disch := first | rfl | omega | assumption) only [go_sem, ltT, ltF, leT, leF, n1, n2, hl']
    exact spans_loop hv hw hl hm.1 _ xs.length 0 (by omega) rfl _ (by rfl) (by rfl) (by rfl)
  · have hl' : ((xs.length : Int) != (ys.length : Int)) = true := by rw [bne_iff_ne]; omega
    have : decide (xs = ys) = false := by rw [decide_eq_false_iff_not]; intro e; exact hl (by rw [e])
    rw [this]
    refine (callFL_eq fn34 rfl (by simp [Try.f34])).trans ?_
    simp (maxSteps := 1000000) (implicitDefEqProofs := false) (disch := first | rfl | omega | assumption) only [go_sem, ltT, ltF, leT, leF, n1, n2, hl']
    done

end Go.Ab
/-
  The law's sample and what it tells.
-/
namespace Go.Ab
open Go.Proofs
set_option linter.unusedSimpArgs false
set_option linter.unusedVariables false
set_option maxRecDepth 100000
set_option maxHeartbeats 2000000

variable {H : Heap}


theorem law_span (a b : Int) (H : Heap) : callFL cfg0 prog0 false 43 [I a, I b] H none = some ⟨.ret (.agg [I a, I b]), H, none⟩ := by
  refine (callFL_eq fn43 rfl (by simp [Try.f43])).trans ?_
  simp (maxSteps := 1000000) (implicitDefEqProofs := false) (disch := first | rfl | omega | assumption) only [go_sem, ltT, ltF, leT, leF]
  done

theorem law_read (c a b : Int) (H : Heap) : callFL cfg0 prog0 false 15 [I c, I a, I b] H none = some ⟨.ret (.agg [I c, I a, I b]), H, none⟩ := by
  refine (callFL_eq fn15 rfl (by simp [Try.f15])).trans ?_
  simp (maxSteps := 1000000) (implicitDefEqProofs := false) (disch := first | rfl | omega | assumption) only [go_sem, ltT, ltF, leT, leF, law_span]
  done

theorem add_none {G : Heap} {sz : Nat} {xs : List AV} (h1 : elemsOk sz true xs = true) (h2 : ltL 0 xs = true) (h3 : xs.length ≤ 1048576) (h4 : xs.isEmpty = false) : addElem G sz true (.sl true xs) [] = some (.sl true xs, G) := by
  have e : decide (xs.length + ([] : List AV).length ≤ maxLenA) = true := decide_eq_true (by simpa [maxLenA] using h3)
  have e2 : elemsOk sz true ([] : List AV) = true := rfl
  simp only [addElem, h1, h2, h4, e, e2, ltL, Bool.and_self, if_true, List.isEmpty_nil, Bool.not_true, Bool.or_self, Bool.false_eq_true, if_false]

theorem law_sample0 (H : Heap) : callFL cfg0 prog0 false 12 [.sl true []] H none = some ⟨.ret (.agg [.sl true [I 12, I 20, I 17], I 100, I 200, .sl true [.agg [I 0, I 10, I 13], .agg [I 1, I 5, I 8]]]), H, none⟩ := by
  have ha := fun G : Heap => add_none (G := G) (sz := 3) (xs := [.agg [I 0, I 10, I 13], .agg [I 1, I 5, I 8]]) rfl rfl (by simp) rfl
  refine (callFL_eq fn12 rfl (by simp [Try.f12])).trans ?_
  simp (maxSteps := 1000000) (implicitDefEqProofs := false) (disch := first | rfl | omega | assumption) only [go_sem, ltT, ltF, leT, leF, law_span, law_read, ha]
  done

theorem law_sample1 (c a b : Int) (H : Heap) : callFL cfg0 prog0 false 12 [.sl true [.agg [I c, I a, I b]]] H none = some ⟨.ret (.agg [.sl true [I 12, I 20, I 17], I 100, I 200, .sl false [.agg [I 0, I 10, I 13], .agg [I 1, I 5, I 8], .agg [I c, I a, I b]]]), H, none⟩ := by
  have ha := fun G : Heap => add_full (H := G) (sz := 3) (a := true) (xs := [.agg [I 0, I 10, I 13], .agg [I 1, I 5, I 8]]) (ys := [.agg [I c, I a, I b]]) rfl rfl rfl rfl (by simp) rfl
  refine (callFL_eq fn12 rfl (by simp [Try.f12])).trans ?_
  simp (maxSteps := 1000000) (implicitDefEqProofs := false) (disch := first | rfl | omega | assumption) only [go_sem, ltT, ltF, leT, leF, law_span, law_read, ha]
  done

def sF0 : Frg := ⟨[12, 20, 17], 100, 200, [⟨0, 10, 13⟩, ⟨1, 5, 8⟩]⟩
def sF1 : Frg := ⟨[12, 20, 17], 100, 200, [⟨0, 10, 13⟩, ⟨1, 5, 8⟩, ⟨0, 0, 2⟩]⟩

theorem sAt0 (H : Heap) : FrAt H sF0 (.sl true [I 12, I 20, I 17]) (.sl true [.agg [I 0, I 10, I 13], .agg [I 1, I 5, I 8]]) :=
  ⟨⟨rfl, by intro x hx; simp [sF0] at hx; rcases hx with rfl | rfl | rfl <;> rfl⟩, ⟨rfl, by intro x hx; simp [sF0] at hx; rcases hx with rfl | rfl <;> rfl⟩⟩
theorem sAt1 (H : Heap) : FrAt H sF1 (.sl true [I 12, I 20, I 17]) (.sl false [.agg [I 0, I 10, I 13], .agg [I 1, I 5, I 8], .agg [I 0, I 0, I 2]]) :=
  ⟨⟨rfl, by intro x hx; simp [sF1] at hx; rcases hx with rfl | rfl | rfl <;> rfl⟩, ⟨rfl, by intro x hx; simp [sF1] at hx; rcases hx with rfl | rfl | rfl <;> rfl⟩⟩

theorem v_valid : sF0.valid = true := by decide +kernel
theorem v_lens : sF0.lens sF0.all = [126, 127, 128, 186, 187, 188] := by decide +kernel
theorem v_count : sF0.count = (6, 0) := by decide +kernel
theorem v_near1 : sF0.near 157 = (128, 0) := by decide +kernel
theorem v_parts0 : sF0.parts 0 = (11264, 0) := by decide +kernel
theorem v_period : sF0.period = (1020, 0) := by decide +kernel
theorem v_ask : sF0.ask = (2, 1, 0) := by decide +kernel
theorem v_wrong1 : sF1.wrong = (1, 1, 0) := by decide +kernel
theorem v_clash1 : sF1.clash = (5, 0) := by decide +kernel
theorem whole_of {es : List ((Int × Int) × Int)} (h : (es.map (fun p => p.1.1)).Pairwise (· ≤ ·)) : wholeL es = dedupI (es.map (fun p => p.1.1)) := by
  rw [wholeL, List.mergeSort_of_pairwise]
  exact h.imp fun h => by simpa using h

theorem v_cnt0 : (sF0.cnt 0).map (fun p => p.1.1) = [10, 10, 10, 15, 15, 15] := by decide +kernel
theorem v_whole0 : sF0.whole 0 = ([10, 15], 0) := by
  have h : wholeL (sF0.cnt 0) = [10, 15] := by
    rw [whole_of (by rw [v_cnt0]; decide), v_cnt0]; decide
  have hw : wi 0 0 ((sF0.ws.length : Int) - 1) = true := by decide
  simp only [Frg.whole, v_valid, if_true, hw, v_lens, List.isEmpty_cons, Bool.false_eq_true, if_false, show (0 : Int).toNat = 0 from rfl, h]
end Go.Ab
/-
  The law's results that the document fixes.
-/
namespace Go.Ab
open Go.Proofs
set_option linter.unusedSimpArgs false
set_option linter.unusedVariables false
set_option maxRecDepth 100000
set_option maxHeartbeats 2000000

variable {H : Heap}


abbrev vw0 : AV := .sl true [I 12, I 20, I 17]
abbrev vr0 : AV := .sl true [.agg [I 0, I 10, I 13], .agg [I 1, I 5, I 8]]
abbrev vr1 : AV := .sl false [.agg [I 0, I 10, I 13], .agg [I 1, I 5, I 8], .agg [I 0, I 0, I 2]]

theorem s_Part (n k : Int) (a b : Int) (hn : (wi n 0 2000 && wi k 0 2) = true) (ha : n / sF0.w k.toNat = a) (hb : ptZ (sF0.w k.toNat) n = b) (H : Heap) : callFL cfg0 prog0 false 13 [.agg [vw0, I 100, I 200, vr0], I n, I k] H none = some ⟨.ret (.tup [I a, I b, I 0]), H, none⟩ := by
  have h := fr_Part (sAt0 H) (by decide) n k
  rw [v_valid, if_pos rfl, show ((sF0.ws.length : Int) - 1) = 2 from rfl, hn, if_pos rfl, ha, hb] at h
  exact h
theorem s_Lengths (H : Heap) : callFL cfg0 prog0 false 20 [.agg [vw0, I 100, I 200, vr0]] H none = some ⟨.ret (.tup [.sl false ([(126, 128), (186, 188)].map spA), I 0]), H, none⟩ := by
  have h := fr_Lengths (sAt0 H) (by decide)
  rw [v_valid, v_lens] at h
  exact h
theorem s_Count (H : Heap) : callFL cfg0 prog0 false 14 [.agg [vw0, I 100, I 200, vr0]] H none = some ⟨.ret (.tup [I 6, I 0]), H, none⟩ := by
  have h := fr_Count (sAt0 H) (by decide)
  rw [v_count] at h
  exact h
theorem s_Near (n b : Int) (hb : sF0.near n = (b, 0)) (H : Heap) : callFL cfg0 prog0 false 11 [.agg [vw0, I 100, I 200, vr0], I n] H none = some ⟨.ret (.tup [I b, I 0]), H, none⟩ := by
  have h := fr_Near (sAt0 H) (by decide) n
  rw [hb] at h
  exact h
theorem s_Whole (n : Int) (b : List Int) (hb : sF0.whole n = (b, 0)) (H : Heap) : callFL cfg0 prog0 false 16 [.agg [vw0, I 100, I 200, vr0], I n] H none = some ⟨.ret (.tup [.sl false (b.map I), I 0]), H, none⟩ := by
  have h := fr_Whole (sAt0 H) (by decide) n
  rw [hb] at h
  exact h
theorem s_Parts (n b : Int) (hb : sF0.parts n = (b, 0)) (H : Heap) : callFL cfg0 prog0 false 17 [.agg [vw0, I 100, I 200, vr0], I n] H none = some ⟨.ret (.tup [I b, I 0]), H, none⟩ := by
  have h := fr_Parts (sAt0 H) (by decide) n
  rw [hb] at h
  exact h
theorem s_Period (H : Heap) : callFL cfg0 prog0 false 29 [.agg [vw0, I 100, I 200, vr0]] H none = some ⟨.ret (.tup [I 1020, I 0]), H, none⟩ := by
  have h := fr_Period (sAt0 H) (by decide)
  rw [v_period] at h
  exact h
theorem s_Ask (H : Heap) : callFL cfg0 prog0 false 26 [.agg [vw0, I 100, I 200, vr0]] H none = some ⟨.ret (.tup [I 2, I 1, I 0]), H, none⟩ := by
  have h := fr_Ask (sAt0 H) (by decide)
  rw [v_ask] at h
  exact h
theorem s_Wrong1 (H : Heap) : callFL cfg0 prog0 false 18 [.agg [vw0, I 100, I 200, vr1]] H none = some ⟨.ret (.tup [I 1, I 1, I 0]), H, none⟩ := by
  have h := fr_Wrong (sAt1 H) (by decide)
  rw [v_wrong1] at h
  exact h
theorem s_Clash1 (H : Heap) : callFL cfg0 prog0 false 19 [.agg [vw0, I 100, I 200, vr1]] H none = some ⟨.ret (.tup [I 5, I 0]), H, none⟩ := by
  have h := fr_Clash (sAt1 H) (by decide)
  rw [v_clash1] at h
  exact h
theorem slI (b : Bool) (xs : List Int) : SlOk H 1 (.sl b (xs.map I)) (xs.map I) := ⟨rfl, fun x hx => by
  obtain ⟨i, _, rfl⟩ := List.mem_map.1 hx; rfl⟩
theorem slS (b : Bool) (xs : List (Int × Int)) : SlOk H 2 (.sl b (xs.map spA)) (xs.map spA) := ⟨rfl, fun x hx => by
  obtain ⟨i, _, rfl⟩ := List.mem_map.1 hx; rfl⟩

theorem law_alive (H : Heap) : callFL cfg0 prog0 false 21 [] H none = some ⟨.ret (.bool true), H, none⟩ := by
  have h1 := s_Part 128 2 7 10 (by decide) (by decide) (by decide) H
  have h2 := s_Near 157 128 v_near1 H
  have h3 := s_Whole 0 _ v_whole0 H
  have h4 := s_Parts 0 _ v_parts0 H
  have h5 : callFL cfg0 prog0 false 34 [.sl false [.agg [I 126, I 128], .agg [I 186, I 188]], .sl true [.agg [I 126, I 128], .agg [I 186, I 188]]] H none = some ⟨.ret (.bool true), H, none⟩ := rf_Spans (H := H) (slS false [(126, 128), (186, 188)]) (slS true [(126, 128), (186, 188)]) (by decide)
  have h6 : callFL cfg0 prog0 false 22 [.sl false [I 10, I 15], .sl true [I 10, I 15]] H none = some ⟨.ret (.bool true), H, none⟩ := rf_Ints (H := H) (slI false [10, 15]) (slI true [10, 15]) (by decide)
  have h7 := law_sample1 0 0 2 H
  have h8 := s_Lengths H
  have h9 := law_sample0 H
  simp only [List.map_cons, List.map_nil, spA] at h3 h8
  refine (callFL_eq fn21 rfl (by simp [Try.f21])).trans ?_
  simp (maxSteps := 1000000) (implicitDefEqProofs := false) (disch := first | rfl | omega | assumption) only [go_sem, ltT, ltF, leT, leF, h9, h1, h8, s_Count, h2, h3, h4, s_Period, s_Ask, h7, law_read, law_span, s_Wrong1, s_Clash1, h5, h6]
  done

end Go.Ab
/-
  FringeParts.
-/
namespace Go.Ab
open Go.Proofs
set_option linter.unusedSimpArgs false
set_option linter.unusedVariables false
set_option maxRecDepth 100000
set_option maxHeartbeats 2000000

variable {H : Heap}


theorem law_long {f : Frg} {vw vr : AV} (h : FrAt H f vw vr) :
    callFL cfg0 prog0 false 28 [.agg [vw, I f.lo, I f.hi, vr]] H none = some ⟨.ret (.bool (decide (40 < f.ws.length ∨ 40 < f.rs.length))), H, none⟩ := by
  have s1 := h.ws.scal
  have s2 := h.rs.scal
  have n1 := h.ws.len
  have n2 := h.rs.len
  rw [List.length_map] at n1 n2
  by_cases c1 : (f.ws.length : Int) < f.rs.length
  · by_cases c2 : (40 : Int) < f.rs.length
    · have : decide (40 < f.ws.length ∨ 40 < f.rs.length) = true := decide_eq_true (by omega)
      rw [this]
      refine (callFL_eq fn28 rfl (by simp [Try.f28])).trans ?_
      simp (maxSteps := 1000000) (implicitDefEqProofs := false) (disch := first | rfl | omega | assumption) only [go_sem, ltT, ltF, leT, leF, s1, s2, n1, n2, c1, c2]
      done
    · have : decide (40 < f.ws.length ∨ 40 < f.rs.length) = false := decide_eq_false (by omega)
      rw [this]
      refine (callFL_eq fn28 rfl (by simp [Try.f28])).trans ?_
      simp (maxSteps := 1000000) (implicitDefEqProofs := false) (disch := first | rfl | omega | assumption) only [go_sem, ltT, ltF, leT, leF, s1, s2, n1, n2, c1, c2]
      done
  · by_cases c2 : (40 : Int) < f.ws.length
    · have : decide (40 < f.ws.length ∨ 40 < f.rs.length) = true := decide_eq_true (by omega)
      rw [this]
      refine (callFL_eq fn28 rfl (by simp [Try.f28])).trans ?_
      simp (maxSteps := 1000000) (implicitDefEqProofs := false) (disch := first | rfl | omega | assumption) only [go_sem, ltT, ltF, leT, leF, s1, s2, n1, n2, c1, c2]
      done
    · have : decide (40 < f.ws.length ∨ 40 < f.rs.length) = false := decide_eq_false (by omega)
      rw [this]
      refine (callFL_eq fn28 rfl (by simp [Try.f28])).trans ?_
      simp (maxSteps := 1000000) (implicitDefEqProofs := false) (disch := first | rfl | omega | assumption) only [go_sem, ltT, ltF, leT, leF, s1, s2, n1, n2, c1, c2]
      done

theorem Frg.Ok.mem {f : Frg} (ho : f.Ok) : ∀ w ∈ f.ws, 2 ≤ w ∧ w ≤ 60 := fun w hw => by
  obtain ⟨i, hi, rfl⟩ := List.getElem_of_mem hw
  have := ho.wave i hi
  simpa [Frg.w, hi] using this

end Go.Ab
