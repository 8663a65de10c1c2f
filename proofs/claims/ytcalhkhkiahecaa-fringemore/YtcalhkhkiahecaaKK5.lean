/-
  Spans laid flat; the set of the whole numbers and of the parts (plain).
-/
import Derived.Test.YtcalhkhkiahecaaKK4
namespace Go.Ab
open Go.Proofs
set_option linter.unusedSimpArgs false
set_option linter.unusedVariables false
set_option maxRecDepth 100000
set_option maxHeartbeats 2000000

variable {H : Heap}


/-- The numbers of a span, of spans. -/
def upF (a : Int) (q : Nat) : List Int := (List.range q).map fun i => a + ((i : Nat) : Int)
def flat1 (p : Int × Int) : List Int := upF p.1 (p.2 + 1 - p.1).toNat
def flatS (ps : List (Int × Int)) : List Int := ps.flatMap flat1

theorem upF_succ (a : Int) (q : Nat) : upF a (q + 1) = upF a q ++ [a + (q : Nat)] := by simp [upF, List.range_succ]
theorem mem_upF {a x : Int} {q : Nat} : x ∈ upF a q ↔ a ≤ x ∧ x < a + q := by
  simp only [upF, List.mem_map, List.mem_range]
  constructor
  · rintro ⟨i, h, rfl⟩; omega
  · intro h; exact ⟨(x - a).toNat, by omega, by omega⟩

theorem mem_flat1 {p : Int × Int} {x : Int} : x ∈ flat1 p ↔ p.1 ≤ x ∧ x ≤ p.2 := by
  rw [flat1, mem_upF]; omega

theorem mem_flatS {ps : List (Int × Int)} {x : Int} : x ∈ flatS ps ↔ ∃ p ∈ ps, p.1 ≤ x ∧ x ≤ p.2 := by
  simp only [flatS, List.mem_flatMap, mem_flat1]

theorem drop_last {α : Type} {l : List α} {p : α} (h : l.getLast? = some p) : l.dropLast ++ [p] = l := by
  have hne : l ≠ [] := by intro e; subst e; cases h
  rw [List.getLast?_eq_some_getLast hne] at h
  cases h
  exact List.dropLast_concat_getLast hne

theorem flat_step {acc : List (Int × Int)} (h : ∀ p ∈ acc, p.1 ≤ p.2) (n : Int) : flatS (spStep acc n) = flatS acc ++ [n] ∧ ∀ p ∈ spStep acc n, p.1 ≤ p.2 := by
  have e1 : flat1 (n, n) = [n] := by
    rw [flat1, show (n + 1 - n).toNat = 0 + 1 by omega, upF_succ]; simp [upF]
  have e2 : flatS (acc ++ [(n, n)]) = flatS acc ++ [n] ∧ ∀ p ∈ acc ++ [(n, n)], p.1 ≤ p.2 := by
    refine ⟨by simp only [flatS, List.flatMap_append, List.flatMap_cons, List.flatMap_nil, e1, List.append_nil], fun p hp => ?_⟩
    rcases List.mem_append.1 hp with hp | hp
    · exact h p hp
    · rw [List.mem_singleton] at hp; subst hp; exact Int.le_refl _
  simp only [spStep]
  cases hl : acc.getLast? with
  | none => exact e2
  | some p =>
    simp only
    by_cases hc : p.2 + 1 = n
    · rw [if_pos hc]
      have ha : acc.dropLast ++ [p] = acc := drop_last hl
      have hp := h p (by rw [← ha]; simp)
      have e3 : flat1 (p.1, n) = flat1 p ++ [n] := by
        rw [flat1, flat1, show (n + 1 - p.1).toNat = (p.2 + 1 - p.1).toNat + 1 by omega, upF_succ]
        congr 2
        omega
      have e4 : flatS acc = flatS acc.dropLast ++ flat1 p := by
        conv => lhs; rw [← ha]
        simp only [flatS, List.flatMap_append, List.flatMap_cons, List.flatMap_nil, List.append_nil]
      refine ⟨?_, fun q hq => ?_⟩
      · rw [e4]
        simp only [flatS, List.flatMap_append, List.flatMap_cons, List.flatMap_nil, e3, List.append_nil, List.append_assoc]
      · rcases List.mem_append.1 hq with hq | hq
        · exact h q (List.dropLast_subset acc hq)
        · rw [List.mem_singleton] at hq; subst hq; simp only; omega
    · rw [if_neg hc]; exact e2

theorem flat_fold : ∀ (xs : List Int) (acc : List (Int × Int)), (∀ p ∈ acc, p.1 ≤ p.2) → flatS (xs.foldl spStep acc) = flatS acc ++ xs ∧ ∀ p ∈ xs.foldl spStep acc, p.1 ≤ p.2
  | [], acc, h => ⟨by simp, h⟩
  | x :: r, acc, h => by
    obtain ⟨h1, h2⟩ := flat_step h x
    obtain ⟨h3, h4⟩ := flat_fold r _ h2
    refine ⟨?_, h4⟩
    simp only [List.foldl_cons]
    rw [h3, h1]; simp

theorem flat_spans (xs : List Int) : flatS (spans xs) = xs ∧ ∀ p ∈ spans xs, p.1 ≤ p.2 := by
  obtain ⟨h1, h2⟩ := flat_fold xs [] (by simp)
  exact ⟨h1.trans (by simp [flatS]), h2⟩

/-- Each lengths that is told rises. -/
theorem lensF_up (f : Frg) (s : Nat) : ∀ (q : Nat) (n : Int), (f.lensF s n q).Pairwise (· < ·)
  | 0, n => List.Pairwise.nil
  | q + 1, n => by
    have ih := lensF_up f s q (n + 1)
    simp only [Frg.lensF]
    split
    · refine List.Pairwise.cons (fun x hx => ?_) ih
      have := (mem_lensF f s x q (n + 1)).1 hx
      omega
    · exact ih
theorem lens_up (f : Frg) (s : Nat) : (f.lens s).Pairwise (· < ·) := lensF_up f s _ _

theorem up_ext {l l' : List Int} (h : l.Pairwise (· < ·)) (h' : l'.Pairwise (· < ·)) (hm : ∀ x, x ∈ l ↔ x ∈ l') : l = l' := by
  have n1 : l.Nodup := h.imp fun h => by omega
  have n2 : l'.Nodup := h'.imp fun h => by omega
  exact List.Perm.eq_of_pairwise (le := (· < ·)) (fun a b _ _ h1 h2 => by omega) h h' ((List.perm_ext_iff_of_nodup n1 n2).2 hm)

/-- The whole numbers, one after the other. -/
def wstep (w : Int) (acc : List Int) (n : Int) : List Int := if acc.getLast? = some (n / w) then acc else acc ++ [n / w]
def allW (w : Int) (xs : List Int) : List Int := xs.foldl (wstep w) []

theorem wstep_up {w : Int} {acc : List Int} {n : Int} (h : acc.Pairwise (· < ·)) (hn : ∀ a ∈ acc, a ≤ n / w) : (wstep w acc n).Pairwise (· < ·) ∧ (∀ x, x ∈ wstep w acc n ↔ x ∈ acc ∨ x = n / w) := by
  simp only [wstep]
  split
  · rename_i hl
    refine ⟨h, fun x => ⟨Or.inl, fun hx => ?_⟩⟩
    rcases hx with hx | rfl
    · exact hx
    · exact List.mem_of_getLast? hl
  · rename_i hl
    refine ⟨?_, fun x => by simp⟩
    rw [List.pairwise_append]
    refine ⟨h, List.pairwise_singleton _ _, fun a ha b hb => ?_⟩
    rw [List.mem_singleton] at hb; subst hb
    have h1 := hn a ha
    refine Classical.byContradiction fun hc => hl ?_
    have ea : a = n / w := by omega
    cases hg : acc.getLast? with
    | none => rw [List.getLast?_eq_none_iff] at hg; subst hg; cases ha
    | some m =>
      have hd := drop_last hg
      have hmn := hn m (List.mem_of_getLast? hg)
      rw [← hd] at ha h
      rcases List.mem_append.1 ha with ha | ha
      · have := (List.pairwise_append.1 h).2.2 a ha m (by simp)
        omega
      · rw [List.mem_singleton] at ha
        rw [← ha, ea]

theorem allW_fold {w : Int} (hw : 0 < w) : ∀ (xs acc : List Int), xs.Pairwise (· < ·) → acc.Pairwise (· < ·) → (∀ a ∈ acc, ∀ x ∈ xs, a ≤ x / w) →
    (xs.foldl (wstep w) acc).Pairwise (· < ·) ∧ ∀ k, k ∈ xs.foldl (wstep w) acc ↔ k ∈ acc ∨ ∃ x ∈ xs, x / w = k
  | [], acc, _, h, _ => ⟨h, fun k => by simp⟩
  | x :: r, acc, hx, h, hb => by
    have hx' := List.pairwise_cons.1 hx
    obtain ⟨h1, h2⟩ := wstep_up (w := w) (n := x) h fun a ha => hb a ha x List.mem_cons_self
    obtain ⟨h3, h4⟩ := allW_fold hw r (wstep w acc x) hx'.2 h1 fun a ha y hy => by
      rcases (h2 a).1 ha with ha | rfl
      · exact hb a ha y (List.mem_cons_of_mem _ hy)
      · exact Int.ediv_le_ediv hw (by have := hx'.1 y hy; omega)
    refine ⟨h3, fun k => ?_⟩
    simp only [List.foldl_cons]
    rw [h4, h2]
    constructor
    · rintro ((h | rfl) | ⟨y, hy, rfl⟩)
      · exact Or.inl h
      · exact Or.inr ⟨x, List.mem_cons_self, rfl⟩
      · exact Or.inr ⟨y, List.mem_cons_of_mem _ hy, rfl⟩
    · rintro (h | ⟨y, hy, rfl⟩)
      · exact Or.inl (Or.inl h)
      · rcases List.mem_cons.1 hy with rfl | hy
        · exact Or.inl (Or.inr rfl)
        · exact Or.inr ⟨y, hy, rfl⟩

theorem dedup_up : ∀ l : List Int, l.Pairwise (· ≤ ·) → (dedupI l).Pairwise (· < ·) ∧ ∀ x, x ∈ dedupI l ↔ x ∈ l
  | [], _ => ⟨List.Pairwise.nil, fun _ => Iff.rfl⟩
  | [x], _ => ⟨List.pairwise_singleton _ _, fun _ => Iff.rfl⟩
  | x :: y :: r, h => by
    obtain ⟨hx, h'⟩ := List.pairwise_cons.1 h
    obtain ⟨h1, h2⟩ := dedup_up (y :: r) h'
    simp only [dedupI]
    split
    · rename_i e
      subst e
      refine ⟨h1, fun z => ?_⟩
      rw [h2]; simp
    · rename_i e
      refine ⟨List.pairwise_cons.2 ⟨fun z hz => ?_, h1⟩, fun z => by rw [List.mem_cons, h2, List.mem_cons]; simp⟩
      have hz := (h2 z).1 hz
      have hxy := hx y List.mem_cons_self
      have hyz : y ≤ z := by
        rcases List.mem_cons.1 hz with rfl | hz
        · exact Int.le_refl _
        · exact (List.pairwise_cons.1 h').1 z hz
      omega

theorem setC_key (k : Int × Int) (c : Int) : ∀ es, ∃ p ∈ setC es k c, p.1 = k
  | [] => ⟨_, List.mem_cons_self, rfl⟩
  | (k', c') :: r => by
    simp only [setC]
    split
    · exact ⟨_, List.mem_cons_self, rfl⟩
    · obtain ⟨p, hp, e⟩ := setC_key k c r
      exact ⟨p, List.mem_cons_of_mem _ hp, e⟩

theorem setC_keep (k : Int × Int) (c : Int) : ∀ es, ∀ p ∈ es, ∃ p' ∈ setC es k c, p'.1 = p.1
  | (k', c') :: r, p, h => by
    simp only [setC]
    split
    · rename_i e
      rcases List.mem_cons.1 h with rfl | h
      · exact ⟨_, List.mem_cons_self, e⟩
      · exact ⟨p, List.mem_cons_of_mem _ h, rfl⟩
    · rcases List.mem_cons.1 h with rfl | h
      · exact ⟨_, List.mem_cons_self, rfl⟩
      · obtain ⟨p', h1, h2⟩ := setC_keep k c r p h
        exact ⟨p', List.mem_cons_of_mem _ h1, h2⟩

theorem cnt_has (w : Int) : ∀ (xs : List Int) (es : List ((Int × Int) × Int)), (∀ x ∈ xs, ∃ p ∈ xs.foldl (incC w) es, p.1 = (x / w, ptZ w x)) ∧ ∀ p ∈ es, ∃ p' ∈ xs.foldl (incC w) es, p'.1 = p.1
  | [], es => ⟨fun x h => (by cases h), fun p h => ⟨p, h, rfl⟩⟩
  | x :: r, es => by
    obtain ⟨h1, h2⟩ := cnt_has w r (incC w es x)
    refine ⟨fun y hy => ?_, fun p hp => ?_⟩
    · rcases List.mem_cons.1 hy with rfl | hy
      · obtain ⟨p, hp, e⟩ := setC_key (y / w, ptZ w y) ((getC es (y / w, ptZ w y)).getD 0 + 1) es
        obtain ⟨p', hp', e'⟩ := h2 p hp
        exact ⟨p', hp', e'.trans e⟩
      · exact h1 y hy
    · obtain ⟨p1, hp1, e1⟩ := setC_keep (x / w, ptZ w x) ((getC es (x / w, ptZ w x)).getD 0 + 1) es p hp
      obtain ⟨p', hp', e'⟩ := h2 p1 hp1
      exact ⟨p', hp', e'.trans e1⟩

theorem whole_all {w : Int} (hw : 0 < w) {xs : List Int} (hx : xs.Pairwise (· < ·)) : wholeL (cntC w xs) = allW w xs := by
  obtain ⟨h1, h2⟩ := allW_fold hw xs [] hx List.Pairwise.nil (by simp)
  have hso : (((cntC w xs).map (fun p => p.1.1)).mergeSort fun x y => decide (x ≤ y)).Pairwise (· ≤ ·) := by
    have := List.pairwise_mergeSort (le := fun x y : Int => decide (x ≤ y)) (fun a b c h1 h2 => by simp only [decide_eq_true_eq] at h1 h2 ⊢; omega) (fun a b => by simp only [Bool.or_eq_true, decide_eq_true_eq]; omega) ((cntC w xs).map (fun p => p.1.1))
    exact this.imp fun h => by simpa using h
  obtain ⟨h3, h4⟩ := dedup_up _ hso
  refine up_ext h3 h1 fun k => ?_
  show k ∈ dedupI _ ↔ k ∈ xs.foldl (wstep w) []
  rw [h2 k, h4 k, (List.mergeSort_perm _ _).mem_iff]
  simp only [List.mem_map, List.not_mem_nil, false_or]
  constructor
  · rintro ⟨p, hp, rfl⟩
    obtain ⟨x, hx, e⟩ := cntC_of hp
    exact ⟨x, hx, by rw [e]⟩
  · rintro ⟨x, hx, rfl⟩
    obtain ⟨p, hp, e⟩ := (cnt_has w xs []).1 x hx
    exact ⟨p, hp, by rw [e]⟩

theorem orG_bit {α : Type} (g : α → Int) (k : Nat) : ∀ (l : List α) (a : Nat), (l.foldl (fun a x => orP a (g x)) a).testBit k = (a.testBit k || l.any fun x => decide ((g x).toNat = k))
  | [], a => by simp
  | x :: r, a => by
    simp only [List.foldl_cons, List.any_cons]
    rw [orG_bit g k r]
    simp only [orP, Nat.testBit_or, Nat.testBit_two_pow, Bool.or_assoc]

def allP (w : Int) (xs : List Int) : Nat := xs.foldl (fun a x => orP a (ptZ w x)) 0

theorem parts_all (w : Int) (xs : List Int) : partS (cntC w xs) = allP w xs := by
  apply Nat.eq_of_testBit_eq
  intro k
  rw [partS, allP, orG_bit (fun p : (Int × Int) × Int => p.1.2), orG_bit (fun x => ptZ w x)]
  congr 1
  rw [Bool.eq_iff_iff]
  simp only [List.any_eq_true, decide_eq_true_eq]
  constructor
  · rintro ⟨p, hp, rfl⟩
    obtain ⟨x, hx, e⟩ := cntC_of hp
    exact ⟨x, hx, by rw [e]⟩
  · rintro ⟨x, hx, rfl⟩
    obtain ⟨p, hp, e⟩ := (cnt_has w xs []).1 x hx
    exact ⟨p, hp, by rw [e]⟩

end Go.Ab
/-
  FringeWhole.
-/
namespace Go.Ab
open Go.Proofs
set_option linter.unusedSimpArgs false
set_option linter.unusedVariables false
set_option maxRecDepth 100000
set_option maxHeartbeats 2000000

variable {H : Heap}


theorem ofold_lt {w : Int} (hw : 1 ≤ w) : ∀ (xs : List Int) (a : Nat), a < 2 ^ 20 → xs.foldl (fun a x => orP a (ptZ w x)) a < 2 ^ 20
  | [], a, h => h
  | x :: r, a, h => ofold_lt hw r _ (or_lt h (by have := ptZ_bd (w := w) (n := x) hw; omega))

theorem flat_len : ∀ (ps : List (Int × Int)), (∀ p ∈ ps, p.1 ≤ p.2) → ps.length ≤ (flatS ps).length
  | [], _ => by simp
  | p :: r, h => by
    have h1 := flat_len r fun q hq => h q (List.mem_cons_of_mem _ hq)
    have h2 := h p List.mem_cons_self
    have h3 : (flat1 p).length = (p.2 + 1 - p.1).toNat := by simp [flat1, upF]
    simp only [flatS, List.flatMap_cons, List.length_append, List.length_cons] at h1 ⊢
    omega

theorem spans_bd {f : Frg} (ho : f.Ok) (s : Nat) : (∀ p ∈ spans (f.lens s), 0 ≤ p.1 ∧ p.1 ≤ p.2 ∧ p.2 ≤ 2000 ∧ p.2 - p.1 ≤ 400 ∧ f.lo ≤ p.1 ∧ p.2 ≤ f.hi) ∧ (spans (f.lens s)).length ≤ 401 := by
  obtain ⟨h1, h2⟩ := flat_spans (f.lens s)
  have hb := lens_bd ho s
  have hl := ho.len
  refine ⟨fun p hp => ?_, ?_⟩
  · have h3 := h2 p hp
    have m1 : p.1 ∈ f.lens s := by rw [← h1]; exact mem_flatS.2 ⟨p, hp, by omega⟩
    have m2 : p.2 ∈ f.lens s := by rw [← h1]; exact mem_flatS.2 ⟨p, hp, by omega⟩
    have k1 := (mem_lens ho s p.1).1 m1
    have k2 := (mem_lens ho s p.2).1 m2
    omega
  · have := flat_len _ h2
    rw [h1] at this
    omega

end Go.Ab
/-
  A reading more; how many are left in a colour.
-/
namespace Go.Ab
open Go.Proofs
set_option linter.unusedSimpArgs false
set_option linter.unusedVariables false
set_option maxRecDepth 100000
set_option maxHeartbeats 2000000

variable {H : Heap}


theorem okRd : ∀ l : List Rd, elemsOk 3 true (l.map Rd.av) = true
  | [] => rfl
  | x :: r => by
    have h := okRd r
    simp only [elemsOk, List.map_cons, List.all_cons, Bool.and_eq_true] at h ⊢
    exact ⟨rfl, h⟩

theorem law_with {f : Frg} {vw vr : AV} (hf : FrAt H f vw vr) (hl : f.rs.length ≤ 1000) (r : Rd) :
    callFL cfg0 prog0 false 27 [.agg [vw, I f.lo, I f.hi, vr], .agg [I r.c, I r.lo, I r.hi]] H none = some ⟨.ret (.agg [vw, I f.lo, I f.hi, .sl false ((f.rs ++ [r]).map Rd.av)]), H, none⟩ := by
  have s1 := hf.ws.scal
  have s2 := hf.rs.scal
  have hE := fun G : Heap => (hf.rs.app G).elems
  have hlt := fun l : List Rd => ltL_map (f := Rd.av) (N := 0) (fun _ => rfl) l
  have lm : (f.rs.map Rd.av).length = f.rs.length := List.length_map _
  have hadd0 : ∀ o1 o2 o3 : AO, addElem (H ++ [o1, o2, o3]) 3 true (.sl true []) (f.rs.map Rd.av) = some (.gsl (H.length + 3) f.rs.length, H ++ [o1, o2, o3, .grow 3 (f.rs.map Rd.av)]) := by
    intro o1 o2 o3
    rw [add_full rfl rfl (okRd _) (hlt _) (by rw [lm]; simp; omega) rfl]
    simp
  have hadd1 : ∀ o1 o2 o3 : AO, addElem (H ++ [o1, o2, o3, .grow 3 (f.rs.map Rd.av)]) 3 true (.gsl (H.length + 3) f.rs.length) [.agg [I r.c, I r.lo, I r.hi]] = some (.gsl (H.length + 3) (f.rs.length + 1), H ++ [o1, o2, o3, .grow 3 ((f.rs ++ [r]).map Rd.av)]) := by
    intro o1 o2 o3
    rw [add_gsl (xs := f.rs.map Rd.av) (by simp) lm rfl rfl (by simp; omega), List.map_append]
    simp [Rd.av]
  have lm2 : ((f.rs ++ [r]).map Rd.av).length = f.rs.length + 1 := by simp
  have t3 := hlt (f.rs ++ [r])
  refine (callFL_eq fn27 rfl (by simp [Try.f27])).trans ?_
  simp (maxSteps := 1000000) (implicitDefEqProofs := false) (disch := first | rfl | omega | assumption) only [go_sem, ltT, ltF, leT, leF, s1, s2]
  rw [chkK_of]; rotate_left; kernel_rfl
  simp (maxSteps := 1000000) (implicitDefEqProofs := false) (disch := first | rfl | omega | assumption) only [go_sem, ltT, ltF, leT, leF, s1, s2, hE, hadd0, hadd1, lm2, t3, hf.ws.seal, hf.ws.lt0]
  done

theorem all_bit2 {n i : Nat} (h : i < n) : (2 ^ n - 1).testBit i = true := by
  rw [Nat.testBit_two_pow_sub_one]; simpa using h

end Go.Ab
/-
  FringeAsk: how many are left of each part.
-/
namespace Go.Ab
open Go.Proofs
set_option linter.unusedSimpArgs false
set_option linter.unusedVariables false
set_option maxRecDepth 100000
set_option maxHeartbeats 2000000

variable {H : Heap}


/-- How many lengths leave a part in a colour. -/
def Frg.lenP (f : Frg) (c k : Nat) : Nat := ((f.lens f.all).filter fun n => decide (ptZ (f.w c) n = (k : Int))).length

def plusR (f : Frg) (c k : Nat) : Frg := { f with rs := f.rs ++ [⟨(c : Int), (k : Int), (k : Int)⟩] }

def mGo (f : Frg) (c : Nat) : Nat → Nat → Int → Int
  | _, 0, a => a
  | j, q + 1, a => mGo f c (j + 1) q (mx2 a (f.lenP c j : Nat))
def sGo (f : Frg) (c : Nat) : Nat → Nat → Int → Int
  | _, 0, a => a
  | j, q + 1, a => sGo f c (j + 1) q (a + (f.lenP c j : Nat))

end Go.Ab
/-
  FringeAsk: the plain part.
-/
namespace Go.Ab
open Go.Proofs
set_option linter.unusedSimpArgs false
set_option linter.unusedVariables false
set_option maxRecDepth 100000
set_option maxHeartbeats 2000000

variable {H : Heap}


theorem sumK_sh (k : Nat) : ∀ (l : List ((Int × Int) × Int)) (a : Int), l.foldl (fun (a : Int) (p : (Int × Int) × Int) => if p.1.2 = (k : Int) then a + p.2 else a) a = a + sumK k l
  | [], a => by simp [sumK]
  | p :: r, a => by
    have h1 := sumK_sh k r (if p.1.2 = (k : Int) then a + p.2 else a)
    have h2 := sumK_sh k r (if p.1.2 = (k : Int) then 0 + p.2 else 0)
    simp only [sumK, List.foldl_cons] at h1 h2 ⊢
    rw [h1, h2]
    split <;> omega

theorem sumK_cons (k : Nat) (p : (Int × Int) × Int) (r : List ((Int × Int) × Int)) : sumK k (p :: r) = (if p.1.2 = (k : Int) then p.2 else 0) + sumK k r := by
  have h := sumK_sh k r (if p.1.2 = (k : Int) then 0 + p.2 else 0)
  simp only [sumK, List.foldl_cons] at h ⊢
  rw [h]
  split <;> omega

theorem sumK_set (k : Nat) (key : Int × Int) : ∀ es, sumK k (setC es key ((getC es key).getD 0 + 1)) = sumK k es + (if key.2 = (k : Int) then 1 else 0)
  | [] => by simp only [setC, getC, Option.getD_none, sumK_cons]; simp [sumK]
  | (k', c') :: r => by
    have ih := sumK_set k key r
    simp only [setC, getC]
    by_cases h : key = k'
    · subst h
      simp only [if_pos, Option.getD_some, sumK_cons]
      split <;> omega
    · simp only [if_neg h, sumK_cons, ih]
      omega

theorem sumK_cnt (k : Nat) (w : Int) : ∀ (xs : List Int) (es : List ((Int × Int) × Int)), sumK k (xs.foldl (incC w) es) = sumK k es + (((xs.filter fun n => decide (ptZ w n = (k : Int))).length : Nat) : Int)
  | [], es => by simp
  | x :: r, es => by
    have ih := sumK_cnt k w r (incC w es x)
    have h := sumK_set k (x / w, ptZ w x) es
    simp only [List.foldl_cons]
    rw [ih, incC, h, List.filter_cons]
    by_cases e : ptZ w x = (k : Int)
    · simp only [e, if_true, decide_true, List.length_cons]; omega
    · simp only [e, if_false, decide_false, Bool.false_eq_true]; omega

theorem arrI_cnt (f : Frg) (c : Nat) : arrI (f.cnt c) = (List.range 20).map fun k => ((f.lenP c k : Nat) : Int) := by
  simp only [arrI]
  apply List.map_congr_left
  intro k _
  have h := sumK_cnt k (f.w c) (f.lens f.all) []
  simp only [Frg.cnt, cntC, Frg.lenP]
  rw [h]
  simp [sumK]

theorem mGo_fold (f : Frg) (c : Nat) : ∀ (q j : Nat) (a : Int), mGo f c j q a = ((List.range' j q).map fun k => ((f.lenP c k : Nat) : Int)).foldl mx2 a
  | 0, j, a => rfl
  | q + 1, j, a => by
    simp only [mGo, List.range'_succ, List.map_cons, List.foldl_cons]
    exact mGo_fold f c q (j + 1) _

theorem mGo_most (f : Frg) (c : Nat) : mGo f c 0 20 0 = f.most c := by
  rw [mGo_fold, Frg.most, arrI_cnt, mxL, List.range_eq_range']
  rw [show (20 : Nat) = 19 + 1 from rfl, List.range'_succ]
  simp only [List.map_cons, List.foldl_cons, List.drop_succ_cons, List.drop_zero, List.getD_cons_zero]
  congr 1
  simp only [mx2]
  split <;> omega

/-- The colour with the least most. -/
theorem askGo_best (f : Frg) : ∀ (q j : Nat) (b : Int) (m : Int), 0 < j → (∃ b0 : Nat, b = b0 ∧ b0 < j ∧ m = f.most b0 ∧ ∀ i, i < j → m < f.most i ∨ (m = f.most i ∧ b0 ≤ i)) →
    ∃ b1 : Nat, (f.askGo j q (b, m)).1 = b1 ∧ b1 < j + q ∧ (f.askGo j q (b, m)).2 = f.most b1 ∧ ∀ i, i < j + q → f.most b1 < f.most i ∨ (f.most b1 = f.most i ∧ b1 ≤ i)
  | 0, j, b, m, hj, ⟨b0, h1, h2, h3, h4⟩ => ⟨b0, h1, by omega, h3, fun i hi => by rw [← h3]; exact h4 i (by omega)⟩
  | q + 1, j, b, m, hj, ⟨b0, h1, h2, h3, h4⟩ => by
    simp only [Frg.askGo]
    have hj0 : ¬ j = 0 := by omega
    by_cases hc : f.most j < m
    · rw [if_pos (Or.inr hc)]
      obtain ⟨b1, k1, k2, k3, k4⟩ := askGo_best f q (j + 1) j (f.most j) (by omega) ⟨j, rfl, by omega, rfl, fun i hi => by
        by_cases e : i = j
        · subst e; exact Or.inr ⟨rfl, Nat.le_refl _⟩
        · have := h4 i (by omega); omega⟩
      exact ⟨b1, k1, by omega, k3, fun i hi => k4 i (by omega)⟩
    · rw [if_neg (by rintro (h | h); exact hj0 h; exact hc h)]
      obtain ⟨b1, k1, k2, k3, k4⟩ := askGo_best f q (j + 1) b m (by omega) ⟨b0, h1, by omega, h3, fun i hi => by
        by_cases e : i = j
        · subst e; omega
        · exact h4 i (by omega)⟩
      exact ⟨b1, k1, by omega, k3, fun i hi => k4 i (by omega)⟩

theorem ask_best {f : Frg} (hl : 0 < f.ws.length) : ∃ b1 : Nat, (f.askGo 0 f.ws.length (0, 0)).1 = b1 ∧ b1 < f.ws.length ∧ (f.askGo 0 f.ws.length (0, 0)).2 = f.most b1 ∧ ∀ i, i < f.ws.length → f.most b1 < f.most i ∨ (f.most b1 = f.most i ∧ b1 ≤ i) := by
  obtain ⟨q, hq⟩ : ∃ q, f.ws.length = q + 1 := ⟨f.ws.length - 1, by omega⟩
  rw [hq]
  simp only [Frg.askGo, true_or, if_true]
  have h0 : ∀ i, i < 0 + 1 → f.most 0 < f.most i ∨ (f.most 0 = f.most i ∧ 0 ≤ i) := fun i hi => by
    have : i = 0 := by omega
    subst this
    exact Or.inr ⟨rfl, Nat.le_refl _⟩
  obtain ⟨b1, k1, k2, k3, k4⟩ := askGo_best f q (0 + 1) ((0 : Nat) : Int) (f.most 0) (by omega) ⟨0, rfl, by omega, rfl, h0⟩
  exact ⟨b1, k1, by omega, k3, fun i hi => k4 i (by omega)⟩

end Go.Ab
/-
  FringeAsk.
-/
namespace Go.Ab
open Go.Proofs
set_option linter.unusedSimpArgs false
set_option linter.unusedVariables false
set_option maxRecDepth 100000
set_option maxHeartbeats 2000000

variable {H : Heap}


end Go.Ab
/-
  FringeTrue: the part of a length, by counting.
-/
namespace Go.Ab
open Go.Proofs
set_option linter.unusedSimpArgs false
set_option linter.unusedVariables false
set_option maxRecDepth 100000
set_option maxHeartbeats 2000000

variable {H : Heap}


end Go.Ab
