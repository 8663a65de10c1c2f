/-
  FringeWhole.
-/
import Derived.Test.YtcalhkhkiahecaaKK4
namespace Go.Ab
open Go.Proofs
set_option linter.unusedSimpArgs false
set_option linter.unusedVariables false
set_option maxRecDepth 100000
set_option maxHeartbeats 2000000

variable {H : Heap}


theorem ofold_lt {w : Int} (hw : 1 ≤ w) : ∀ (xs : List Int) (a : Nat), a < 2 ^ 20 → xs.foldl (fun a x => orP a (ptZ w x)) a < 2 ^ 20
  | [], a, h => h
  | x :: r, a, h => ofold_lt hw r _ (or_lt h (by have := ptZ_bd (w := w) (n := x) hw; omega))

theorem flat_len : ∀ (ps : List (Int × Int)), (∀ p ∈ ps, p.1 ≤ p.2) → ps.length ≤ (flatS ps).length
  | [], _ => by simp
  | p :: r, h => by
    have h1 := flat_len r fun q hq => h q (List.mem_cons_of_mem _ hq)
    have h2 := h p List.mem_cons_self
    have h3 : (flat1 p).length = (p.2 + 1 - p.1).toNat := by simp [flat1, upF]
    simp only [flatS, List.flatMap_cons, List.length_append, List.length_cons] at h1 ⊢
    omega

theorem spans_bd {f : Frg} (ho : f.Ok) (s : Nat) : (∀ p ∈ spans (f.lens s), 0 ≤ p.1 ∧ p.1 ≤ p.2 ∧ p.2 ≤ 2000 ∧ p.2 - p.1 ≤ 400 ∧ f.lo ≤ p.1 ∧ p.2 ≤ f.hi) ∧ (spans (f.lens s)).length ≤ 401 := by
  obtain ⟨h1, h2⟩ := flat_spans (f.lens s)
  have hb := lens_bd ho s
  have hl := ho.len
  refine ⟨fun p hp => ?_, ?_⟩
  · have h3 := h2 p hp
    have m1 : p.1 ∈ f.lens s := by rw [← h1]; exact mem_flatS.2 ⟨p, hp, by omega⟩
    have m2 : p.2 ∈ f.lens s := by rw [← h1]; exact mem_flatS.2 ⟨p, hp, by omega⟩
    have k1 := (mem_lens ho s p.1).1 m1
    have k2 := (mem_lens ho s p.2).1 m2
    omega
  · have := flat_len _ h2
    rw [h1] at this
    omega

end Go.Ab
/-
  A reading more; how many are left in a colour.
-/
namespace Go.Ab
open Go.Proofs
set_option linter.unusedSimpArgs false
set_option linter.unusedVariables false
set_option maxRecDepth 100000
set_option maxHeartbeats 2000000

variable {H : Heap}


theorem okRd : ∀ l : List Rd, elemsOk 3 true (l.map Rd.av) = true
  | [] => rfl
  | x :: r => by
    have h := okRd r
    simp only [elemsOk, List.map_cons, List.all_cons, Bool.and_eq_true] at h ⊢
    exact ⟨rfl, h⟩

theorem law_with {f : Frg} {vw vr : AV} (hf : FrAt H f vw vr) (hl : f.rs.length ≤ 1000) (r : Rd) :
    callFL cfg0 prog0 false 27 [.agg [vw, I f.lo, I f.hi, vr], .agg [I r.c, I r.lo, I r.hi]] H none = some ⟨.ret (.agg [vw, I f.lo, I f.hi, .sl false ((f.rs ++ [r]).map Rd.av)]), H, none⟩ := by
  have s1 := hf.ws.scal
  have s2 := hf.rs.scal
  have hE := fun G : Heap => (hf.rs.app G).elems
  have hlt := fun l : List Rd => ltL_map (f := Rd.av) (N := 0) (fun _ => rfl) l
  have lm : (f.rs.map Rd.av).length = f.rs.length := List.length_map _
  have hadd0 : ∀ o1 o2 o3 : AO, addElem (H ++ [o1, o2, o3]) 3 true (.sl true []) (f.rs.map Rd.av) = some (.gsl (H.length + 3) f.rs.length, H ++ [o1, o2, o3, .grow 3 (f.rs.map Rd.av)]) := by
    intro o1 o2 o3
    rw [add_full rfl rfl (okRd _) (hlt _) (by rw [lm]; simp; omega) rfl]
    simp
  have hadd1 : ∀ o1 o2 o3 : AO, addElem (H ++ [o1, o2, o3, .grow 3 (f.rs.map Rd.av)]) 3 true (.gsl (H.length + 3) f.rs.length) [.agg [I r.c, I r.lo, I r.hi]] = some (.gsl (H.length + 3) (f.rs.length + 1), H ++ [o1, o2, o3, .grow 3 ((f.rs ++ [r]).map Rd.av)]) := by
    intro o1 o2 o3
    rw [add_gsl (xs := f.rs.map Rd.av) (by simp) lm rfl rfl (by simp; omega), List.map_append]
    simp [Rd.av]
  have lm2 : ((f.rs ++ [r]).map Rd.av).length = f.rs.length + 1 := by simp
  have t3 := hlt (f.rs ++ [r])
  refine (callFL_eq fn27 rfl (by simp [Try.f27])).trans ?_
  simp (maxSteps := 1000000) (implicitDefEqProofs := false) (disch := first | rfl | omega | assumption) only [go_sem, ltT, ltF, leT, leF, s1, s2]
  rw [chkK_of]; rotate_left; kernel_rfl
  simp (maxSteps := 1000000) (implicitDefEqProofs := false) (disch := first | rfl | omega | assumption) only [go_sem, ltT, ltF, leT, leF, s1, s2, hE, hadd0, hadd1, lm2, t3, hf.ws.seal, hf.ws.lt0]
  done

theorem all_bit2 {n i : Nat} (h : i < n) : (2 ^ n - 1).testBit i = true := by
  rw [Nat.testBit_two_pow_sub_one]; simpa using h

theorem lens_one {f : Frg} (x : Rd) (n : Int) : Frg.right { f with rs := f.rs ++ [x] } (Frg.all { f with rs := f.rs ++ [x] }) n = (f.right f.all n && rgt (f.w x.c.toNat) x.lo x.hi n) := by
  have key : ∀ (g : Frg) (n : Int), g.right g.all n = true ↔ ∀ i, i < g.rs.length → rgt (g.w (g.r i).c.toNat) (g.r i).lo (g.r i).hi n = true := by
    intro g n
    simp only [Frg.right, Frg.rt, Bool.not_eq_true', anyF_false]
    constructor
    · intro h i hi
      have := h i (by omega) (by omega)
      rw [show g.all.testBit i = true from all_bit2 hi] at this
      simpa using this
    · intro h i _ hi
      rw [h i (by omega)]; simp
  rw [Bool.eq_iff_iff, Bool.and_eq_true, key, key]
  have hg : ∀ i, i < f.rs.length → Frg.r { f with rs := f.rs ++ [x] } i = f.r i := fun i hi => by simp only [Frg.r, List.getD_eq_getElem?_getD, List.getElem?_append_left hi]
  have hgx : Frg.r { f with rs := f.rs ++ [x] } f.rs.length = x := by simp [Frg.r]
  have hw : ∀ i, Frg.w { f with rs := f.rs ++ [x] } i = f.w i := fun _ => rfl
  have hll : ({ f with rs := f.rs ++ [x] } : Frg).rs.length = f.rs.length + 1 := by simp
  rw [hll]
  constructor
  · intro h
    refine ⟨fun i hi => ?_, ?_⟩
    · have := h i (by omega); rw [hg i hi, hw] at this; exact this
    · have := h f.rs.length (by omega); rw [hgx, hw] at this; exact this
  · rintro ⟨h1, h2⟩ i hi
    by_cases e : i = f.rs.length
    · subst e; rw [hgx, hw]; exact h2
    · rw [hg i (by omega), hw]; exact h1 i (by omega)

/-- A reading of just one part: which lengths are left. -/
theorem rgt_one {w p n : Int} (hw : 1 ≤ w) (hp : 0 ≤ p ∧ p < 20) : rgt w p p n = decide (ptZ w n = p) := by
  have h := ptZ_bd (w := w) (n := n) hw
  rw [Bool.eq_iff_iff]
  simp only [rgt, wi, Bool.or_eq_true, Bool.and_eq_true, decide_eq_true_eq]
  omega

end Go.Ab
/-
  FringeAsk: how many are left of each part.
-/
namespace Go.Ab
open Go.Proofs
set_option linter.unusedSimpArgs false
set_option linter.unusedVariables false
set_option maxRecDepth 100000
set_option maxHeartbeats 2000000

variable {H : Heap}


/-- How many lengths leave a part in a colour. -/
def Frg.lenP (f : Frg) (c k : Nat) : Nat := ((f.lens f.all).filter fun n => decide (ptZ (f.w c) n = (k : Int))).length

def plusR (f : Frg) (c k : Nat) : Frg := { f with rs := f.rs ++ [⟨(c : Int), (k : Int), (k : Int)⟩] }

theorem lensF_plus {f : Frg} (ho : f.Ok) {c k : Nat} (hc : c < f.ws.length) (hk : k < 20) : ∀ (q : Nat) (n : Int), (plusR f c k).lensF (plusR f c k).all n q = (f.lensF f.all n q).filter fun n => decide (ptZ (f.w c) n = (k : Int))
  | 0, n => rfl
  | q + 1, n => by
    have ih := lensF_plus ho hc hk q (n + 1)
    have hwc := ho.wave c hc
    have h1 := lens_one (f := f) ⟨(c : Int), (k : Int), (k : Int)⟩ n
    simp only [Int.toNat_natCast] at h1
    rw [rgt_one (by omega) (by omega)] at h1
    simp only [Frg.lensF, ih]
    have h1' : (plusR f c k).right (plusR f c k).all n = (f.right f.all n && decide (ptZ (f.w c) n = (k : Int))) := h1
    rw [h1']
    cases f.right f.all n
    · simp
    · simp only [Bool.true_and, if_true, List.filter_cons]

theorem plus_ok {f : Frg} (ho : f.Ok) (h5 : f.rs.length ≤ 5) {c k : Nat} (hc : c < f.ws.length) (hk : k < 20) : (plusR f c k).Ok := by
  have hll : (plusR f c k).rs.length = f.rs.length + 1 := by simp [plusR]
  refine ⟨ho.many, by rw [hll]; omega, ho.wave, ho.len, fun i hi => ?_⟩
  rw [hll] at hi
  by_cases e : i = f.rs.length
  · have hx : (plusR f c k).r i = ⟨(c : Int), (k : Int), (k : Int)⟩ := by subst e; simp [Frg.r, plusR]
    rw [hx]
    have : (plusR f c k).ws.length = f.ws.length := rfl
    simp only
    omega
  · have hx : (plusR f c k).r i = f.r i := by simp only [Frg.r, plusR, List.getD_eq_getElem?_getD, List.getElem?_append_left (show i < f.rs.length by omega)]
    rw [hx]
    exact ho.rd i (by omega)

theorem plus_count {f : Frg} (ho : f.Ok) (h5 : f.rs.length ≤ 5) {c k : Nat} (hc : c < f.ws.length) (hk : k < 20) : (plusR f c k).count = (((f.lenP c k : Nat) : Int), 0) := by
  have hv : (plusR f c k).valid = true := (plusR f c k).valid_iff.2 (plus_ok ho h5 hc hk)
  simp only [Frg.count, hv, if_true, Frg.lenP, Frg.lens]
  rw [show (plusR f c k).lo = f.lo from rfl, show (plusR f c k).hi = f.hi from rfl, lensF_plus ho hc hk]

def mGo (f : Frg) (c : Nat) : Nat → Nat → Int → Int
  | _, 0, a => a
  | j, q + 1, a => mGo f c (j + 1) q (mx2 a (f.lenP c j : Nat))
def sGo (f : Frg) (c : Nat) : Nat → Nat → Int → Int
  | _, 0, a => a
  | j, q + 1, a => sGo f c (j + 1) q (a + (f.lenP c j : Nat))

end Go.Ab
/-
  FringeAsk: the plain part.
-/
namespace Go.Ab
open Go.Proofs
set_option linter.unusedSimpArgs false
set_option linter.unusedVariables false
set_option maxRecDepth 100000
set_option maxHeartbeats 2000000

variable {H : Heap}


theorem sumK_sh (k : Nat) : ∀ (l : List ((Int × Int) × Int)) (a : Int), l.foldl (fun (a : Int) (p : (Int × Int) × Int) => if p.1.2 = (k : Int) then a + p.2 else a) a = a + sumK k l
  | [], a => by simp [sumK]
  | p :: r, a => by
    have h1 := sumK_sh k r (if p.1.2 = (k : Int) then a + p.2 else a)
    have h2 := sumK_sh k r (if p.1.2 = (k : Int) then 0 + p.2 else 0)
    simp only [sumK, List.foldl_cons] at h1 h2 ⊢
    rw [h1, h2]
    split <;> omega

theorem sumK_cons (k : Nat) (p : (Int × Int) × Int) (r : List ((Int × Int) × Int)) : sumK k (p :: r) = (if p.1.2 = (k : Int) then p.2 else 0) + sumK k r := by
  have h := sumK_sh k r (if p.1.2 = (k : Int) then 0 + p.2 else 0)
  simp only [sumK, List.foldl_cons] at h ⊢
  rw [h]
  split <;> omega

theorem sumK_set (k : Nat) (key : Int × Int) : ∀ es, sumK k (setC es key ((getC es key).getD 0 + 1)) = sumK k es + (if key.2 = (k : Int) then 1 else 0)
  | [] => by simp only [setC, getC, Option.getD_none, sumK_cons]; simp [sumK]
  | (k', c') :: r => by
    have ih := sumK_set k key r
    simp only [setC, getC]
    by_cases h : key = k'
    · subst h
      simp only [if_pos, Option.getD_some, sumK_cons]
      split <;> omega
    · simp only [if_neg h, sumK_cons, ih]
      omega

theorem sumK_cnt (k : Nat) (w : Int) : ∀ (xs : List Int) (es : List ((Int × Int) × Int)), sumK k (xs.foldl (incC w) es) = sumK k es + (((xs.filter fun n => decide (ptZ w n = (k : Int))).length : Nat) : Int)
  | [], es => by simp
  | x :: r, es => by
    have ih := sumK_cnt k w r (incC w es x)
    have h := sumK_set k (x / w, ptZ w x) es
    simp only [List.foldl_cons]
    rw [ih, incC, h, List.filter_cons]
    by_cases e : ptZ w x = (k : Int)
    · simp only [e, if_true, decide_true, List.length_cons]; omega
    · simp only [e, if_false, decide_false, Bool.false_eq_true]; omega

theorem arrI_cnt (f : Frg) (c : Nat) : arrI (f.cnt c) = (List.range 20).map fun k => ((f.lenP c k : Nat) : Int) := by
  simp only [arrI]
  apply List.map_congr_left
  intro k _
  have h := sumK_cnt k (f.w c) (f.lens f.all) []
  simp only [Frg.cnt, cntC, Frg.lenP]
  rw [h]
  simp [sumK]

theorem mGo_fold (f : Frg) (c : Nat) : ∀ (q j : Nat) (a : Int), mGo f c j q a = ((List.range' j q).map fun k => ((f.lenP c k : Nat) : Int)).foldl mx2 a
  | 0, j, a => rfl
  | q + 1, j, a => by
    simp only [mGo, List.range'_succ, List.map_cons, List.foldl_cons]
    exact mGo_fold f c q (j + 1) _

theorem mGo_most (f : Frg) (c : Nat) : mGo f c 0 20 0 = f.most c := by
  rw [mGo_fold, Frg.most, arrI_cnt, mxL, List.range_eq_range']
  rw [show (20 : Nat) = 19 + 1 from rfl, List.range'_succ]
  simp only [List.map_cons, List.foldl_cons, List.drop_succ_cons, List.drop_zero, List.getD_cons_zero]
  congr 1
  simp only [mx2]
  split <;> omega

/-- The colour with the least most. -/
theorem askGo_best (f : Frg) : ∀ (q j : Nat) (b : Int) (m : Int), 0 < j → (∃ b0 : Nat, b = b0 ∧ b0 < j ∧ m = f.most b0 ∧ ∀ i, i < j → m < f.most i ∨ (m = f.most i ∧ b0 ≤ i)) →
    ∃ b1 : Nat, (f.askGo j q (b, m)).1 = b1 ∧ b1 < j + q ∧ (f.askGo j q (b, m)).2 = f.most b1 ∧ ∀ i, i < j + q → f.most b1 < f.most i ∨ (f.most b1 = f.most i ∧ b1 ≤ i)
  | 0, j, b, m, hj, ⟨b0, h1, h2, h3, h4⟩ => ⟨b0, h1, by omega, h3, fun i hi => by rw [← h3]; exact h4 i (by omega)⟩
  | q + 1, j, b, m, hj, ⟨b0, h1, h2, h3, h4⟩ => by
    simp only [Frg.askGo]
    have hj0 : ¬ j = 0 := by omega
    by_cases hc : f.most j < m
    · rw [if_pos (Or.inr hc)]
      obtain ⟨b1, k1, k2, k3, k4⟩ := askGo_best f q (j + 1) j (f.most j) (by omega) ⟨j, rfl, by omega, rfl, fun i hi => by
        by_cases e : i = j
        · subst e; exact Or.inr ⟨rfl, Nat.le_refl _⟩
        · have := h4 i (by omega); omega⟩
      exact ⟨b1, k1, by omega, k3, fun i hi => k4 i (by omega)⟩
    · rw [if_neg (by rintro (h | h); exact hj0 h; exact hc h)]
      obtain ⟨b1, k1, k2, k3, k4⟩ := askGo_best f q (j + 1) b m (by omega) ⟨b0, h1, by omega, h3, fun i hi => by
        by_cases e : i = j
        · subst e; omega
        · exact h4 i (by omega)⟩
      exact ⟨b1, k1, by omega, k3, fun i hi => k4 i (by omega)⟩

theorem ask_best {f : Frg} (hl : 0 < f.ws.length) : ∃ b1 : Nat, (f.askGo 0 f.ws.length (0, 0)).1 = b1 ∧ b1 < f.ws.length ∧ (f.askGo 0 f.ws.length (0, 0)).2 = f.most b1 ∧ ∀ i, i < f.ws.length → f.most b1 < f.most i ∨ (f.most b1 = f.most i ∧ b1 ≤ i) := by
  obtain ⟨q, hq⟩ : ∃ q, f.ws.length = q + 1 := ⟨f.ws.length - 1, by omega⟩
  rw [hq]
  simp only [Frg.askGo, true_or, if_true]
  have h0 : ∀ i, i < 0 + 1 → f.most 0 < f.most i ∨ (f.most 0 = f.most i ∧ 0 ≤ i) := fun i hi => by
    have : i = 0 := by omega
    subst this
    exact Or.inr ⟨rfl, Nat.le_refl _⟩
  obtain ⟨b1, k1, k2, k3, k4⟩ := askGo_best f q (0 + 1) ((0 : Nat) : Int) (f.most 0) (by omega) ⟨0, rfl, by omega, rfl, h0⟩
  exact ⟨b1, k1, by omega, k3, fun i hi => k4 i (by omega)⟩

end Go.Ab
/-
  FringeAsk.
-/
namespace Go.Ab
open Go.Proofs
set_option linter.unusedSimpArgs false
set_option linter.unusedVariables false
set_option maxRecDepth 100000
set_option maxHeartbeats 2000000

variable {H : Heap}


end Go.Ab
/-
  FringeTrue: the part of a length, by counting.
-/
namespace Go.Ab
open Go.Proofs
set_option linter.unusedSimpArgs false
set_option linter.unusedVariables false
set_option maxRecDepth 100000
set_option maxHeartbeats 2000000

variable {H : Heap}


theorem pa_loop (w rs : Int) (hw : 2 ≤ w ∧ w ≤ 60) (hr : 0 ≤ rs ∧ rs < w) (P : Nat) (hP : (P : Int) * w ≤ 20 * rs) (hP2 : 20 * rs < ((P : Int) + 1) * w) (hP3 : P < 20) :
    ∀ (q j : Nat), j + q = P → True → ∀ E : Env, E.get 0 = I w → E.get 5 = I rs → E.get 6 = I j →
    Option.map (finishC H.length) (execL cfg0 prog0 ⟨25, none, false, H.length⟩ (todoAt Try.f25 3) ⟨E, [], H, none⟩) = some ⟨.ret (I (P : Nat)), H, none⟩ := by
  intro q
  induction q with
  | zero =>
    intro j hj hu E g0 g5 g6
    have hk' : ¬ (j : Int) < ((P : Nat) : Int) := by omega
    have hjP : j = P := by omega
    subst hjP
    simp only [loopIt, todoPast, todoAt, todoOf, firstReg, ↓reduceIte, Option.some.injEq, Nat.reduceEqDiff, reduceCtorEq, Try.f25]
    rw [execL_inLoop]
    have m1 : ((j : Int) + 1) * w ≤ 1200 := by
      have : ((j : Int) + 1) * w ≤ ((j : Int) + 1) * 60 := Int.mul_le_mul_of_nonneg_left (by omega) (by omega)
      omega
    have m0 : 0 ≤ ((j : Int) + 1) * w := Int.mul_nonneg (by omega) (by omega)
    have hwr : IntKind.i64.wrap (((j : Int) + 1) * w) = ((j : Int) + 1) * w := w64 (by omega) (by omega)
    have hno : ¬ ((j : Int) + 1) * w ≤ 20 * rs := by omega
    simp (maxSteps := 1000000) (implicitDefEqProofs := false) (disch := first | rfl | omega | assumption) only [go_sem, g0, g5, g6, ltT, ltF, leT, leF, hk', hwr, hno]
    done
  | succ q ih =>
    intro j hj hu E g0 g5 g6
    have hk' : (j : Int) < ((P : Nat) : Int) := by omega
    have hk2 : j < P := by omega
    have hle : ((j : Int) + 1) * w ≤ (P : Int) * w := Int.mul_le_mul_of_nonneg_right (by omega) (by omega)
    have m0 : 0 ≤ ((j : Int) + 1) * w := Int.mul_nonneg (by omega) (by omega)
    have hwr : IntKind.i64.wrap (((j : Int) + 1) * w) = ((j : Int) + 1) * w := w64 (by omega) (by omega)
    have hyes : ((j : Int) + 1) * w ≤ 20 * rs := by omega
    simp only [loopIt, todoPast, todoAt, todoOf, firstReg, ↓reduceIte, Option.some.injEq, Nat.reduceEqDiff, reduceCtorEq, Try.f25]
    rw [execL_inLoop]
    simp (maxSteps := 1000000) (implicitDefEqProofs := false) (disch := first | rfl | omega | assumption) only [go_sem, g0, g5, g6, ltT, ltF, leT, leF, hk', hwr, hyes]
    exact ih (j + 1) (by omega) trivial _ (by exact g0) (by exact g5) (by rfl)

theorem law_part {w n : Int} (hw : 2 ≤ w ∧ w ≤ 60) (hn : 0 ≤ n ∧ n ≤ 2000) (H : Heap) : callFL cfg0 prog0 false 25 [I w, I n] H none = some ⟨.ret (I (ptZ w n)), H, none⟩ := by
  have h1 := Int.emod_nonneg n (show w ≠ 0 by omega)
  have h2 := Int.emod_lt_of_pos n (show 0 < w by omega)
  have hb := ptZ_bd (w := w) (n := n) (by omega)
  have z : ¬ w = 0 := by omega
  have t2 : n.tmod w = n % w := Int.tmod_eq_emod_of_nonneg hn.1
  have hp1 : ptZ w n * w ≤ 20 * (n % w) := by
    simp only [ptZ]
    exact Int.ediv_mul_le _ (by omega)
  have hp2 : 20 * (n % w) < (ptZ w n + 1) * w := by
    simp only [ptZ]
    exact Int.lt_ediv_add_one_mul_self _ (by omega)
  generalize n % w = rs at *
  obtain ⟨P, hP⟩ : ∃ P : Nat, ptZ w n = P := ⟨(ptZ w n).toNat, by omega⟩
  rw [hP] at hp1 hp2 hb ⊢
  have h := pa_loop (H := H) w rs hw ⟨h1, h2⟩ P hp1 hp2 (by omega) P 0 (by omega) trivial
  refine (callFL_eq fn25 rfl (by simp [Try.f25])).trans ?_
  simp (maxSteps := 1000000) (implicitDefEqProofs := false) (disch := first | rfl | omega | assumption) only [go_sem, ltT, ltF, leT, leF, z, t2]
  exact h _ (by rfl) (by rfl) (by rfl)

end Go.Ab
/-
  FringeTrue: numbers drawn.
-/
namespace Go.Ab
open Go.Proofs
set_option linter.unusedSimpArgs false
set_option linter.unusedVariables false
set_option maxRecDepth 100000
set_option maxHeartbeats 2000000

variable {H : Heap}


/-- What is drawn, the at-th time. -/
def drawN (us : List Int) (at1 n : Int) : Int := if us.length = 0 then at1 % n else (us.getD (at1 % (us.length : Int)).toNat 0 + 61 * at1) % n

theorem draw_bd {us : List Int} {at1 n : Int} (hn : 0 < n) : 0 ≤ drawN us at1 n ∧ drawN us at1 n < n := by
  simp only [drawN]
  split
  · exact ⟨Int.emod_nonneg _ (by omega), Int.emod_lt_of_pos _ hn⟩
  · exact ⟨Int.emod_nonneg _ (by omega), Int.emod_lt_of_pos _ hn⟩

abbrev B16 (n : Int) : AV := .int .u16 n

theorem sl16 (fl : Bool) (us : List Int) : SlOk H 1 (.sl fl (us.map B16)) (us.map B16) := ⟨rfl, fun x hx => by
  obtain ⟨i, _, rfl⟩ := List.mem_map.1 hx; rfl⟩

theorem law_draw {us : List Int} {fl : Bool} (hb : ∀ i, i < us.length → 0 ≤ us.getD i 0 ∧ us.getD i 0 ≤ 65535) (hl : us.length ≤ 9223372036854775807) {p1 p2 : Nat} {a : Int} (ha : 0 ≤ a ∧ a ≤ 1000) (h1 : H[p1]? = some (.box (I a))) (h2 : H[p2]? = some (.box (.sl fl (us.map B16)))) (hpp : p1 ≠ p2) {n : Int} (hn : 0 < n ∧ n ≤ 3000) :
    callFL cfg0 prog0 false 70 [I n, .ptr p1 0, .ptr p2 0] H none = some ⟨.ret (I (drawN us (a + 1) n)), H.set p1 (.box (I (a + 1))), none⟩ := by
  have hl1 : p1 < H.length := (List.getElem?_eq_some_iff.1 h1).1
  have hl2 : p2 < H.length := (List.getElem?_eq_some_iff.1 h2).1
  have h3 : (H.set p1 (.box (I (a + 1))))[p2]? = some (.box (.sl fl (us.map B16))) := by rw [List.getElem?_set_ne hpp]; exact h2
  have h4 : (H.set p1 (.box (I (a + 1))))[p1]? = some (.box (I (a + 1))) := by rw [List.getElem?_set_self hl1]
  have zn : ¬ n = 0 := by omega
  have hlm : (us.map B16).length = us.length := List.length_map _
  by_cases h0 : us.length = 0
  · have hz : ((us.length : Int) == 0) = true := by simp [h0]
    have e1 : (a + 1).tmod n = drawN us (a + 1) n := by rw [drawN, if_pos h0, Int.tmod_eq_emod_of_nonneg (by omega)]
    refine (callFL_eq fn70 rfl (by simp [Try.f70])).trans ?_
    simp (maxSteps := 1000000) (implicitDefEqProofs := false) (disch := first | rfl | omega | assumption) only [go_sem, ltT, ltF, leT, leF, h1, h2, h3, h4, hlm, hz, zn, e1]
    done
  · have hz : ((us.length : Int) == 0) = false := by simp [h0]
    have zl : ¬ (us.length : Int) = 0 := by omega
    have q0 := Int.emod_nonneg (a + 1) zl
    have q1 := Int.emod_lt_of_pos (a + 1) (show (0 : Int) < us.length by omega)
    have e1 : (a + 1).tmod (us.length : Int) = (a + 1) % (us.length : Int) := Int.tmod_eq_emod_of_nonneg (by omega)
    have hbx := hb ((a + 1) % (us.length : Int)).toNat (by omega)
    have e2 : (us.getD ((a + 1) % (us.length : Int)).toNat 0 + 61 * (a + 1)).tmod n = drawN us (a + 1) n := by rw [drawN, if_neg h0, Int.tmod_eq_emod_of_nonneg (by omega)]
    obtain ⟨a1, a2, a3, a4, a5⟩ := (sl16 (H := H.set p1 (.box (I (a + 1)))) fl us).fF (d := 0)
    generalize (a + 1) % (us.length : Int) = k at *
    obtain ⟨u, hu⟩ : ∃ u, us.getD k.toNat 0 = u := ⟨_, rfl⟩
    rw [hu] at e2 hbx
    refine (callFL_eq fn70 rfl (by simp [Try.f70])).trans ?_
    simp (maxSteps := 1000000) (implicitDefEqProofs := false) (disch := first | rfl | omega | assumption) only [go_sem, ltT, ltF, leT, leF, h1, h2, h3, h4, hlm, hz, zn, zl, e1]
    rw [chkK_of]; rotate_left; kernel_rfl
    simp (maxSteps := 1000000) (implicitDefEqProofs := false) (disch := first | rfl | omega | assumption) only [go_sem, ltT, ltF, leT, leF, h1, h2, h3, h4, hlm, hz, zn, zl, e1, a1, a2, a3, a4, hu, e2]
    done

end Go.Ab
