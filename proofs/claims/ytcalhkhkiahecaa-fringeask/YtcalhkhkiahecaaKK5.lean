/-
  FringeWhole.
-/
import Derived.Test.YtcalhkhkiahecaaKK4
namespace Go.Ab
open Go.Proofs
set_option linter.unusedSimpArgs false
set_option linter.unusedVariables false
set_option maxRecDepth 100000
set_option maxHeartbeats 2000000

variable {H : Heap}


end Go.Ab
/-
  A reading more; how many are left in a colour.
-/
namespace Go.Ab
open Go.Proofs
set_option linter.unusedSimpArgs false
set_option linter.unusedVariables false
set_option maxRecDepth 100000
set_option maxHeartbeats 2000000

variable {H : Heap}


theorem okRd : ∀ l : List Rd, elemsOk 3 true (l.map Rd.av) = true
  | [] => rfl
  | x :: r => by
    have h := okRd r
    simp only [elemsOk, List.map_cons, List.all_cons, Bool.and_eq_true] at h ⊢
    exact ⟨rfl, h⟩

theorem law_with {f : Frg} {vw vr : AV} (hf : FrAt H f vw vr) (hl : f.rs.length ≤ 1000) (r : Rd) :
    callFL cfg0 prog0 false 27 [.agg [vw, I f.lo, I f.hi, vr], .agg [I r.c, I r.lo, I r.hi]] H none = some ⟨.ret (.agg [vw, I f.lo, I f.hi, .sl false ((f.rs ++ [r]).map Rd.av)]), H, none⟩ := by
  have s1 := hf.ws.scal
  have s2 := hf.rs.scal
  have hE := fun G : Heap => (hf.rs.app G).elems
  have hlt := fun l : List Rd => ltL_map (f := Rd.av) (N := 0) (fun _ => rfl) l
  have lm : (f.rs.map Rd.av).length = f.rs.length := List.length_map _
  have hadd0 : ∀ o1 o2 o3 : AO, addElem (H ++ [o1, o2, o3]) 3 true (.sl true []) (f.rs.map Rd.av) = some (.gsl (H.length + 3) f.rs.length, H ++ [o1, o2, o3, .grow 3 (f.rs.map Rd.av)]) := by
    intro o1 o2 o3
    rw [add_full rfl rfl (okRd _) (hlt _) (by rw [lm]; simp; omega) rfl]
    simp
  have hadd1 : ∀ o1 o2 o3 : AO, addElem (H ++ [o1, o2, o3, .grow 3 (f.rs.map Rd.av)]) 3 true (.gsl (H.length + 3) f.rs.length) [.agg [I r.c, I r.lo, I r.hi]] = some (.gsl (H.length + 3) (f.rs.length + 1), H ++ [o1, o2, o3, .grow 3 ((f.rs ++ [r]).map Rd.av)]) := by
    intro o1 o2 o3
    rw [add_gsl (xs := f.rs.map Rd.av) (by simp) lm rfl rfl (by simp; omega), List.map_append]
    simp [Rd.av]
  have lm2 : ((f.rs ++ [r]).map Rd.av).length = f.rs.length + 1 := by simp
  have t3 := hlt (f.rs ++ [r])
  refine (callFL_eq fn27 rfl (by simp [Try.f27])).trans ?_
  simp (maxSteps := 1000000) (implicitDefEqProofs := false) (disch := first | rfl | omega | assumption) only [go_sem, ltT, ltF, leT, leF, s1, s2]
  rw [chkK_of]; rotate_left; kernel_rfl
  simp (maxSteps := 1000000) (implicitDefEqProofs := false) (disch := first | rfl | omega | assumption) only [go_sem, ltT, ltF, leT, leF, s1, s2, hE, hadd0, hadd1, lm2, t3, hf.ws.seal, hf.ws.lt0]
  done

theorem all_bit2 {n i : Nat} (h : i < n) : (2 ^ n - 1).testBit i = true := by
  rw [Nat.testBit_two_pow_sub_one]; simpa using h

theorem lens_one {f : Frg} (x : Rd) (n : Int) : Frg.right { f with rs := f.rs ++ [x] } (Frg.all { f with rs := f.rs ++ [x] }) n = (f.right f.all n && rgt (f.w x.c.toNat) x.lo x.hi n) := by
  have key : ∀ (g : Frg) (n : Int), g.right g.all n = true ↔ ∀ i, i < g.rs.length → rgt (g.w (g.r i).c.toNat) (g.r i).lo (g.r i).hi n = true := by
    intro g n
    simp only [Frg.right, Frg.rt, Bool.not_eq_true', anyF_false]
    constructor
    · intro h i hi
      have := h i (by omega) (by omega)
      rw [show g.all.testBit i = true from all_bit2 hi] at this
      simpa using this
    · intro h i _ hi
      rw [h i (by omega)]; simp
  rw [Bool.eq_iff_iff, Bool.and_eq_true, key, key]
  have hg : ∀ i, i < f.rs.length → Frg.r { f with rs := f.rs ++ [x] } i = f.r i := fun i hi => by simp only [Frg.r, List.getD_eq_getElem?_getD, List.getElem?_append_left hi]
  have hgx : Frg.r { f with rs := f.rs ++ [x] } f.rs.length = x := by simp [Frg.r]
  have hw : ∀ i, Frg.w { f with rs := f.rs ++ [x] } i = f.w i := fun _ => rfl
  have hll : ({ f with rs := f.rs ++ [x] } : Frg).rs.length = f.rs.length + 1 := by simp
  rw [hll]
  constructor
  · intro h
    refine ⟨fun i hi => ?_, ?_⟩
    · have := h i (by omega); rw [hg i hi, hw] at this; exact this
    · have := h f.rs.length (by omega); rw [hgx, hw] at this; exact this
  · rintro ⟨h1, h2⟩ i hi
    by_cases e : i = f.rs.length
    · subst e; rw [hgx, hw]; exact h2
    · rw [hg i (by omega), hw]; exact h1 i (by omega)

/-- A reading of just one part: which lengths are left. -/
theorem rgt_one {w p n : Int} (hw : 1 ≤ w) (hp : 0 ≤ p ∧ p < 20) : rgt w p p n = decide (ptZ w n = p) := by
  have h := ptZ_bd (w := w) (n := n) hw
  rw [Bool.eq_iff_iff]
  simp only [rgt, wi, Bool.or_eq_true, Bool.and_eq_true, decide_eq_true_eq]
  omega

end Go.Ab
/-
  FringeAsk: how many are left of each part.
-/
namespace Go.Ab
open Go.Proofs
set_option linter.unusedSimpArgs false
set_option linter.unusedVariables false
set_option maxRecDepth 100000
set_option maxHeartbeats 2000000

variable {H : Heap}


/-- How many lengths leave a part in a colour. -/
def Frg.lenP (f : Frg) (c k : Nat) : Nat := ((f.lens f.all).filter fun n => decide (ptZ (f.w c) n = (k : Int))).length

def plusR (f : Frg) (c k : Nat) : Frg := { f with rs := f.rs ++ [⟨(c : Int), (k : Int), (k : Int)⟩] }

theorem lensF_plus {f : Frg} (ho : f.Ok) {c k : Nat} (hc : c < f.ws.length) (hk : k < 20) : ∀ (q : Nat) (n : Int), (plusR f c k).lensF (plusR f c k).all n q = (f.lensF f.all n q).filter fun n => decide (ptZ (f.w c) n = (k : Int))
  | 0, n => rfl
  | q + 1, n => by
    have ih := lensF_plus ho hc hk q (n + 1)
    have hwc := ho.wave c hc
    have h1 := lens_one (f := f) ⟨(c : Int), (k : Int), (k : Int)⟩ n
    simp only [Int.toNat_natCast] at h1
    rw [rgt_one (by omega) (by omega)] at h1
    simp only [Frg.lensF, ih]
    have h1' : (plusR f c k).right (plusR f c k).all n = (f.right f.all n && decide (ptZ (f.w c) n = (k : Int))) := h1
    rw [h1']
    cases f.right f.all n
    · simp
    · simp only [Bool.true_and, if_true, List.filter_cons]

theorem plus_ok {f : Frg} (ho : f.Ok) (h5 : f.rs.length ≤ 5) {c k : Nat} (hc : c < f.ws.length) (hk : k < 20) : (plusR f c k).Ok := by
  have hll : (plusR f c k).rs.length = f.rs.length + 1 := by simp [plusR]
  refine ⟨ho.many, by rw [hll]; omega, ho.wave, ho.len, fun i hi => ?_⟩
  rw [hll] at hi
  by_cases e : i = f.rs.length
  · have hx : (plusR f c k).r i = ⟨(c : Int), (k : Int), (k : Int)⟩ := by subst e; simp [Frg.r, plusR]
    rw [hx]
    have : (plusR f c k).ws.length = f.ws.length := rfl
    simp only
    omega
  · have hx : (plusR f c k).r i = f.r i := by simp only [Frg.r, plusR, List.getD_eq_getElem?_getD, List.getElem?_append_left (show i < f.rs.length by omega)]
    rw [hx]
    exact ho.rd i (by omega)

theorem plus_count {f : Frg} (ho : f.Ok) (h5 : f.rs.length ≤ 5) {c k : Nat} (hc : c < f.ws.length) (hk : k < 20) : (plusR f c k).count = (((f.lenP c k : Nat) : Int), 0) := by
  have hv : (plusR f c k).valid = true := (plusR f c k).valid_iff.2 (plus_ok ho h5 hc hk)
  simp only [Frg.count, hv, if_true, Frg.lenP, Frg.lens]
  rw [show (plusR f c k).lo = f.lo from rfl, show (plusR f c k).hi = f.hi from rfl, lensF_plus ho hc hk]

def mGo (f : Frg) (c : Nat) : Nat → Nat → Int → Int
  | _, 0, a => a
  | j, q + 1, a => mGo f c (j + 1) q (mx2 a (f.lenP c j : Nat))
def sGo (f : Frg) (c : Nat) : Nat → Nat → Int → Int
  | _, 0, a => a
  | j, q + 1, a => sGo f c (j + 1) q (a + (f.lenP c j : Nat))

theorem lenP_bd {f : Frg} (ho : f.Ok) (c k : Nat) : f.lenP c k ≤ 401 := by
  have h := (lens_bd ho f.all).1
  have : f.lenP c k ≤ (f.lens f.all).length := List.length_filter_le _ _
  omega

theorem ml_loop {f : Frg} {vw vr : AV} (ho : f.Ok) (hf : FrAt H f vw vr) (h5 : f.rs.length ≤ 5) (c : Nat) (hc : c < f.ws.length) {p : Nat} (hp : H[p]? = some (.box (.agg [vw, I f.lo, I f.hi, vr]))) (R S : Int) :
    ∀ (q j : Nat), j + q = 20 → ∀ (a : Int), ∀ (s : Int), 0 ≤ a ∧ a ≤ 401 → 0 ≤ s ∧ s ≤ 401 * j → mGo f c j q a = R → sGo f c j q s = S → ∀ E : Env, E.get 0 = I c → E.get 1 = .ptr p 0 → E.get 3 = I a → E.get 4 = I s → E.get 8 = I j →
    Option.map (finishC H.length) (execL cfg0 prog0 ⟨31, none, false, H.length⟩ (todoAt Try.f31 2) ⟨E, [], H, none⟩) = some ⟨.ret (.tup [I R, I S]), H, none⟩ := by
  intro q
  have s1 := hf.ws.scal
  have s2 := hf.rs.scal
  have hlp : p < H.length := (List.getElem?_eq_some_iff.1 hp).1
  have hmx : ∀ a b : Int, (if a < b then b else a) = mx2 a b := fun _ _ => rfl
  induction q with
  | zero =>
    intro j hj a s h1 h2 hR hS E g0 g1 g3 g4 g8
    have hk' : ¬ (j : Int) < ((20 : Nat) : Int) := by omega
    simp only [mGo, sGo] at hR hS
    subst hR
    subst hS
    simp only [loopIt, todoPast, todoAt, todoOf, firstReg, ↓reduceIte, Option.some.injEq, Nat.reduceEqDiff, reduceCtorEq, Try.f31]
    rw [execL_inLoop]
    simp (maxSteps := 1000000) (implicitDefEqProofs := false) (disch := first | rfl | omega | assumption) only [go_sem, g0, g1, g3, g4, g8, ltT, ltF, leT, leF, hk']
    done
  | succ q ih =>
    intro j hj a s h1 h2 hR hS E g0 g1 g3 g4 g8
    have hk' : (j : Int) < ((20 : Nat) : Int) := by omega
    have hk2 : j < 20 := by omega
    have hlb := lenP_bd ho c j
    have hW := law_with hf (by omega) (⟨(c : Int), (j : Int), (j : Int)⟩ : Rd)
    have hat : FrAt H (plusR f c j) vw (.sl false ((f.rs ++ [(⟨(c : Int), (j : Int), (j : Int)⟩ : Rd)]).map Rd.av)) := ⟨hf.ws, ⟨rfl, fun x hx => by obtain ⟨i, _, rfl⟩ := List.mem_map.1 hx; rfl⟩⟩
    have hC := fr_Count hat (by have := ho.many; have e : (plusR f c j).rs.length = f.rs.length + 1 := (by simp [plusR]); have e2 : (plusR f c j).ws.length = f.ws.length := rfl; omega)
    rw [plus_count ho h5 hc hk2] at hC
    have hC2 : callFL cfg0 prog0 false 14 [.agg [vw, I f.lo, I f.hi, .sl false ((f.rs ++ [(⟨(c : Int), (j : Int), (j : Int)⟩ : Rd)]).map Rd.av)]] H none = some ⟨.ret (.tup [I (f.lenP c j : Nat), I 0]), H, none⟩ := hC
    simp only at hW
    simp only [mGo, sGo] at hR hS
    have hmb : 0 ≤ mx2 a (f.lenP c j : Nat) ∧ mx2 a (f.lenP c j : Nat) ≤ 401 := by simp only [mx2]; split <;> omega
    generalize f.lenP c j = n at *
    simp only [loopIt, todoPast, todoAt, todoOf, firstReg, ↓reduceIte, Option.some.injEq, Nat.reduceEqDiff, reduceCtorEq, Try.f31]
    rw [execL_inLoop]
    simp (maxSteps := 1000000) (implicitDefEqProofs := false) (disch := first | rfl | omega | assumption) only [go_sem, g0, g1, g3, g4, g8, ltT, ltF, leT, leF, hk', s1, s2]
    rw [chkK_of]; rotate_left; kernel_rfl
    simp (maxSteps := 1000000) (implicitDefEqProofs := false) (disch := first | rfl | omega | assumption) only [go_sem, g0, g1, g3, g4, g8, ltT, ltF, leT, leF, hk', s1, s2, hp, law_read, hW, hC2, hmx]
    exact ih (j + 1) (by omega) _ _ hmb (by omega) hR hS _ (by exact g0) (by exact g1) (by rfl) (by rfl) (by rfl)

theorem law_most {f : Frg} {vw vr : AV} (ho : f.Ok) (hf : FrAt H f vw vr) (h5 : f.rs.length ≤ 5) (c : Nat) (hc : c < f.ws.length) {p : Nat} (hp : H[p]? = some (.box (.agg [vw, I f.lo, I f.hi, vr]))) :
    callFL cfg0 prog0 false 31 [I c, .ptr p 0] H none = some ⟨.ret (.tup [I (mGo f c 0 20 0), I (sGo f c 0 20 0)]), H, none⟩ := by
  have h := ml_loop ho hf h5 c hc hp _ _ 20 0 (by omega) 0 0 (by omega) (by omega) rfl rfl
  refine (callFL_eq fn31 rfl (by simp [Try.f31])).trans ?_
  simp (maxSteps := 1000000) (implicitDefEqProofs := false) (disch := first | rfl | omega | assumption) only [go_sem, ltT, ltF, leT, leF]
  exact h _ (by rfl) (by rfl) (by rfl) (by rfl) (by rfl)

end Go.Ab
/-
  FringeAsk: the plain part.
-/
namespace Go.Ab
open Go.Proofs
set_option linter.unusedSimpArgs false
set_option linter.unusedVariables false
set_option maxRecDepth 100000
set_option maxHeartbeats 2000000

variable {H : Heap}


theorem sumK_sh (k : Nat) : ∀ (l : List ((Int × Int) × Int)) (a : Int), l.foldl (fun (a : Int) (p : (Int × Int) × Int) => if p.1.2 = (k : Int) then a + p.2 else a) a = a + sumK k l
  | [], a => by simp [sumK]
  | p :: r, a => by
    have h1 := sumK_sh k r (if p.1.2 = (k : Int) then a + p.2 else a)
    have h2 := sumK_sh k r (if p.1.2 = (k : Int) then 0 + p.2 else 0)
    simp only [sumK, List.foldl_cons] at h1 h2 ⊢
    rw [h1, h2]
    split <;> omega

theorem sumK_cons (k : Nat) (p : (Int × Int) × Int) (r : List ((Int × Int) × Int)) : sumK k (p :: r) = (if p.1.2 = (k : Int) then p.2 else 0) + sumK k r := by
  have h := sumK_sh k r (if p.1.2 = (k : Int) then 0 + p.2 else 0)
  simp only [sumK, List.foldl_cons] at h ⊢
  rw [h]
  split <;> omega

theorem sumK_set (k : Nat) (key : Int × Int) : ∀ es, sumK k (setC es key ((getC es key).getD 0 + 1)) = sumK k es + (if key.2 = (k : Int) then 1 else 0)
  | [] => by simp only [setC, getC, Option.getD_none, sumK_cons]; simp [sumK]
  | (k', c') :: r => by
    have ih := sumK_set k key r
    simp only [setC, getC]
    by_cases h : key = k'
    · subst h
      simp only [if_pos, Option.getD_some, sumK_cons]
      split <;> omega
    · simp only [if_neg h, sumK_cons, ih]
      omega

theorem sumK_cnt (k : Nat) (w : Int) : ∀ (xs : List Int) (es : List ((Int × Int) × Int)), sumK k (xs.foldl (incC w) es) = sumK k es + (((xs.filter fun n => decide (ptZ w n = (k : Int))).length : Nat) : Int)
  | [], es => by simp
  | x :: r, es => by
    have ih := sumK_cnt k w r (incC w es x)
    have h := sumK_set k (x / w, ptZ w x) es
    simp only [List.foldl_cons]
    rw [ih, incC, h, List.filter_cons]
    by_cases e : ptZ w x = (k : Int)
    · simp only [e, if_true, decide_true, List.length_cons]; omega
    · simp only [e, if_false, decide_false, Bool.false_eq_true]; omega

theorem arrI_cnt (f : Frg) (c : Nat) : arrI (f.cnt c) = (List.range 20).map fun k => ((f.lenP c k : Nat) : Int) := by
  simp only [arrI]
  apply List.map_congr_left
  intro k _
  have h := sumK_cnt k (f.w c) (f.lens f.all) []
  simp only [Frg.cnt, cntC, Frg.lenP]
  rw [h]
  simp [sumK]

theorem mGo_fold (f : Frg) (c : Nat) : ∀ (q j : Nat) (a : Int), mGo f c j q a = ((List.range' j q).map fun k => ((f.lenP c k : Nat) : Int)).foldl mx2 a
  | 0, j, a => rfl
  | q + 1, j, a => by
    simp only [mGo, List.range'_succ, List.map_cons, List.foldl_cons]
    exact mGo_fold f c q (j + 1) _

theorem mGo_most (f : Frg) (c : Nat) : mGo f c 0 20 0 = f.most c := by
  rw [mGo_fold, Frg.most, arrI_cnt, mxL, List.range_eq_range']
  rw [show (20 : Nat) = 19 + 1 from rfl, List.range'_succ]
  simp only [List.map_cons, List.foldl_cons, List.drop_succ_cons, List.drop_zero, List.getD_cons_zero]
  congr 1
  simp only [mx2]
  split <;> omega

theorem sGo_add (f : Frg) (c : Nat) : ∀ (q j : Nat) (a : Int), sGo f c j q a = a + ((((List.range' j q).map fun k => f.lenP c k).sum : Nat) : Int)
  | 0, j, a => by simp [sGo]
  | q + 1, j, a => by
    simp only [sGo, List.range'_succ, List.map_cons, List.sum_cons]
    rw [sGo_add f c q (j + 1)]
    omega

theorem sum_add (g h : Nat → Nat) : ∀ l : List Nat, (l.map fun k => g k + h k).sum = (l.map g).sum + (l.map h).sum
  | [] => rfl
  | x :: r => by simp only [List.map_cons, List.sum_cons, sum_add g h r]; omega

theorem one_of : ∀ p, p < 20 → ((List.range' 0 20).map fun k => if p = k then 1 else 0).sum = 1 := by decide

theorem parts_sum {w : Int} (hw : 1 ≤ w) : ∀ xs : List Int, ((List.range' 0 20).map fun k => (xs.filter fun n => decide (ptZ w n = ((k : Nat) : Int))).length).sum = xs.length
  | [] => by simp only [List.filter_nil, List.length_nil]; decide
  | x :: r => by
    have ih := parts_sum hw r
    have hb := ptZ_bd (w := w) (n := x) hw
    have h1 := one_of (ptZ w x).toNat (by omega)
    have e : ∀ k : Nat, ((x :: r).filter fun n => decide (ptZ w n = (k : Int))).length = (if (ptZ w x).toNat = k then 1 else 0) + (r.filter fun n => decide (ptZ w n = (k : Int))).length := by
      intro k
      rw [List.filter_cons]
      by_cases h : ptZ w x = (k : Int)
      · have h' : (ptZ w x).toNat = k := by omega
        simp only [h, decide_true, if_true, List.length_cons]
        rw [← h, if_pos h']; omega
      · have h' : ¬ (ptZ w x).toNat = k := by omega
        simp only [h, decide_false, Bool.false_eq_true, if_false, if_neg h']; omega
    simp only [e]
    rw [sum_add, h1, ih]
    simp only [List.length_cons]; omega

theorem sGo_all {f : Frg} (ho : f.Ok) {c : Nat} (hc : c < f.ws.length) : sGo f c 0 20 0 = ((f.lens f.all).length : Nat) := by
  have h := parts_sum (w := f.w c) (by have := ho.wave c hc; omega) (f.lens f.all)
  rw [sGo_add]
  simp only [Frg.lenP]
  rw [h]
  omega

/-- The colour with the least most. -/
theorem askGo_best (f : Frg) : ∀ (q j : Nat) (b : Int) (m : Int), 0 < j → (∃ b0 : Nat, b = b0 ∧ b0 < j ∧ m = f.most b0 ∧ ∀ i, i < j → m < f.most i ∨ (m = f.most i ∧ b0 ≤ i)) →
    ∃ b1 : Nat, (f.askGo j q (b, m)).1 = b1 ∧ b1 < j + q ∧ (f.askGo j q (b, m)).2 = f.most b1 ∧ ∀ i, i < j + q → f.most b1 < f.most i ∨ (f.most b1 = f.most i ∧ b1 ≤ i)
  | 0, j, b, m, hj, ⟨b0, h1, h2, h3, h4⟩ => ⟨b0, h1, by omega, h3, fun i hi => by rw [← h3]; exact h4 i (by omega)⟩
  | q + 1, j, b, m, hj, ⟨b0, h1, h2, h3, h4⟩ => by
    simp only [Frg.askGo]
    have hj0 : ¬ j = 0 := by omega
    by_cases hc : f.most j < m
    · rw [if_pos (Or.inr hc)]
      obtain ⟨b1, k1, k2, k3, k4⟩ := askGo_best f q (j + 1) j (f.most j) (by omega) ⟨j, rfl, by omega, rfl, fun i hi => by
        by_cases e : i = j
        · subst e; exact Or.inr ⟨rfl, Nat.le_refl _⟩
        · have := h4 i (by omega); omega⟩
      exact ⟨b1, k1, by omega, k3, fun i hi => k4 i (by omega)⟩
    · rw [if_neg (by rintro (h | h); exact hj0 h; exact hc h)]
      obtain ⟨b1, k1, k2, k3, k4⟩ := askGo_best f q (j + 1) b m (by omega) ⟨b0, h1, by omega, h3, fun i hi => by
        by_cases e : i = j
        · subst e; omega
        · exact h4 i (by omega)⟩
      exact ⟨b1, k1, by omega, k3, fun i hi => k4 i (by omega)⟩

theorem ask_best {f : Frg} (hl : 0 < f.ws.length) : ∃ b1 : Nat, (f.askGo 0 f.ws.length (0, 0)).1 = b1 ∧ b1 < f.ws.length ∧ (f.askGo 0 f.ws.length (0, 0)).2 = f.most b1 ∧ ∀ i, i < f.ws.length → f.most b1 < f.most i ∨ (f.most b1 = f.most i ∧ b1 ≤ i) := by
  obtain ⟨q, hq⟩ : ∃ q, f.ws.length = q + 1 := ⟨f.ws.length - 1, by omega⟩
  rw [hq]
  simp only [Frg.askGo, true_or, if_true]
  have h0 : ∀ i, i < 0 + 1 → f.most 0 < f.most i ∨ (f.most 0 = f.most i ∧ 0 ≤ i) := fun i hi => by
    have : i = 0 := by omega
    subst this
    exact Or.inr ⟨rfl, Nat.le_refl _⟩
  obtain ⟨b1, k1, k2, k3, k4⟩ := askGo_best f q (0 + 1) ((0 : Nat) : Int) (f.most 0) (by omega) ⟨0, rfl, by omega, rfl, h0⟩
  exact ⟨b1, k1, by omega, k3, fun i hi => k4 i (by omega)⟩

end Go.Ab
/-
  FringeAsk.
-/
namespace Go.Ab
open Go.Proofs
set_option linter.unusedSimpArgs false
set_option linter.unusedVariables false
set_option maxRecDepth 100000
set_option maxHeartbeats 2000000

variable {H : Heap}


theorem law_FringeAsk {f : Frg} {vw vr : AV} (hf : FrAt H f vw vr) (n1 : Int) (w1 : 0 ≤ n1 ∧ n1 ≤ 255) :
    callFL cfg0 prog0 false 8 [.agg [vw, I f.lo, I f.hi, vr], .int .u8 n1] H none = some ⟨.ret (.bool true), H, none⟩ := by
  have s1 := hf.ws.scal
  have s2 := hf.rs.scal
  have l1 := hf.ws.len
  have l2 := hf.rs.len
  rw [List.length_map] at l1 l2
  have hk' : True := trivial
  have hL := law_long (hf.app [.box (.agg [vw, I f.lo, I f.hi, vr])])
  have hA := fun G : Heap => law_alive G
  by_cases hlg : 40 < f.ws.length ∨ 40 < f.rs.length
  · rw [decide_eq_true hlg] at hL
    refine (callFL_eq fn8 rfl (by simp [Try.f8])).trans ?_
    simp (maxSteps := 1000000) (implicitDefEqProofs := false) (disch := first | rfl | omega | assumption) only [go_sem, ltT, ltF, leT, leF, s1, s2, hL, hA]
    done
  rw [decide_eq_false hlg] at hL
  have hl : f.ws.length ≤ 1000 ∧ f.rs.length ≤ 1000 := by omega
  have hF := rf_Fringe (hf.app [.box (.agg [vw, I f.lo, I f.hi, vr])]) hl
  cases hv : f.valid
  · simp only [hv] at hF
    refine (callFL_eq fn8 rfl (by simp [Try.f8])).trans ?_
    simp (maxSteps := 1000000) (implicitDefEqProofs := false) (disch := first | rfl | omega | assumption) only [go_sem, ltT, ltF, leT, leF, s1, s2, hL, hA, hF]
    done
  have ho := f.valid_iff.1 hv
  by_cases h6 : (6 : Int) ≤ f.rs.length
  · simp only [hv] at hF
    refine (callFL_eq fn8 rfl (by simp [Try.f8])).trans ?_
    simp (maxSteps := 1000000) (implicitDefEqProofs := false) (disch := first | rfl | omega | assumption) only [go_sem, ltT, ltF, leT, leF, s1, s2, l2, hL, hA, hF, h6]
    done
  have hm4 := ho.many
  obtain ⟨c, hc⟩ : ∃ c : Nat, n1 % (f.ws.length : Int) = c := ⟨(n1 % (f.ws.length : Int)).toNat, by have := Int.emod_nonneg n1 (show (f.ws.length : Int) ≠ 0 by omega); omega⟩
  have hc2 : c < f.ws.length := by have := Int.emod_lt_of_pos n1 (show (0 : Int) < f.ws.length by omega); omega
  have e2 : n1.tmod (f.ws.length : Int) = c := by rw [Int.tmod_eq_emod_of_nonneg w1.1]; exact hc
  have z1 : ¬ (f.ws.length : Int) = 0 := by omega
  have hK := fr_Ask (hf.app [.box (.agg [vw, I f.lo, I f.hi, vr])]) hl
  have hC := fr_Count (hf.app [.box (.agg [vw, I f.lo, I f.hi, vr])]) hl
  simp only [hv, if_true, Frg.ask, Frg.count] at hF hK hC
  cases hq : (f.lens f.all).isEmpty
  · simp only [hq, Bool.false_eq_true, if_false] at hK
    obtain ⟨b, k1, k2, k3, k4⟩ := ask_best (f := f) (by omega)
    rw [k1, k3] at hK
    have hpos : 0 < (f.lens f.all).length := by cases hx : f.lens f.all with | nil => rw [hx] at hq; cases hq | cons => simp
    have hnp : (0 : Int) < ((f.lens f.all).length : Nat) := by omega
    have g1 := law_most ho (hf.app [.box (.agg [vw, I f.lo, I f.hi, vr])]) (by omega) b k2 (p := H.length) (by simp)
    have g2 := law_most ho (hf.app [.box (.agg [vw, I f.lo, I f.hi, vr])]) (by omega) c hc2 (p := H.length) (by simp)
    rw [mGo_most, sGo_all ho k2] at g1
    rw [mGo_most, sGo_all ho hc2] at g2
    have hii : ∀ x : Int, (x == x) = true := fun x => by simp
    have h4 := k4 c hc2
    generalize (f.lens f.all).length = n at *
    generalize f.most b = mb at *
    generalize f.most c = mc at *
    rcases h4 with h4 | ⟨h4, h5⟩
    · skip
      refine (callFL_eq fn8 rfl (by simp [Try.f8])).trans ?_
      simp (maxSteps := 1000000) (implicitDefEqProofs := false) (disch := first | rfl | omega | assumption) only [go_sem, ltT, ltF, leT, leF, s1, s2, l1, l2, hL, hA, hF, h6, hK, hC, hnp, e2, z1, g1, g2, hii, h4]
      done
    · subst h4
      have hno : ¬ mb < mb := by omega
      have hge : (b : Int) ≤ (c : Int) := by omega
      refine (callFL_eq fn8 rfl (by simp [Try.f8])).trans ?_
      simp (maxSteps := 1000000) (implicitDefEqProofs := false) (disch := first | rfl | omega | assumption) only [go_sem, ltT, ltF, leT, leF, s1, s2, l1, l2, hL, hA, hF, h6, hK, hC, hnp, e2, z1, g1, g2, hii, hno, hge]
      done
  · simp only [hq, if_true] at hK
    have hnil : f.lens f.all = [] := List.isEmpty_iff.1 hq
    simp only [hnil, List.length_nil, Int.natCast_zero] at hC
    refine (callFL_eq fn8 rfl (by simp [Try.f8])).trans ?_
    simp (maxSteps := 1000000) (implicitDefEqProofs := false) (disch := first | rfl | omega | assumption) only [go_sem, ltT, ltF, leT, leF, s1, s2, l2, hL, hA, hF, h6, hK, hC]
    done

end Go.Ab
