/-
  What is read of a true length, and the lengths that agree with it.
-/
import Derived.Test.YtlhnmpclnbpnhaaKK2
import Derived.Test.YtlhnmpclnbpnhaaKK5
namespace Go.Ab
open Go.Proofs
set_option linter.unusedSimpArgs false
set_option linter.unusedVariables false
set_option maxRecDepth 100000
set_option maxHeartbeats 1000000

/-- What is read of the length t in the colour j. -/
def Col.rdN (c : Col) (t : Int) (ws : List Int) (j : Nat) : Int := ptZ (c.ws.getD j 0) t + (if 0 < ws.length then ws.getD (j % ws.length) 0 % (2 * c.er + 1) - c.er else 0)
def Col.rdLo (c : Col) (t : Int) (ws : List Int) (j : Nat) : Int := (c.rdN t ws j - c.er + 40) % 20
def Col.rdA (c : Col) (t : Int) (ws : List Int) (j : Nat) : Rd := ⟨j, c.rdLo t ws j, c.rdLo t ws j + 2 * c.er⟩
def Col.rdF (c : Col) (t : Int) (ws : List Int) (s : Nat) : Nat → Nat → List Rd
  | _, 0 => []
  | j, q + 1 => if s.testBit j then c.rdA t ws j :: c.rdF t ws s (j + 1) q else c.rdF t ws s (j + 1) q
def Col.frg (c : Col) (xs : List Rd) : Frg := ⟨c.ws, c.lo, c.hi, xs⟩

theorem rdN_bd {c : Col} (ho : c.Ok) (t : Int) (ws : List Int) {j : Nat} (hj : j < c.ws.length) : 0 - c.er ≤ c.rdN t ws j ∧ c.rdN t ws j ≤ 19 + c.er ∧ ptZ (c.ws.getD j 0) t - c.er ≤ c.rdN t ws j ∧ c.rdN t ws j ≤ ptZ (c.ws.getD j 0) t + c.er := by
  have hw := ho.ws j hj
  have hb := ptZ_bd (w := c.ws.getD j 0) (n := t) (by omega)
  have he := ho.er
  simp only [Col.rdN]
  split
  · have h1 := Int.emod_nonneg (ws.getD (j % ws.length) 0) (show 2 * c.er + 1 ≠ 0 by omega)
    have h2 := Int.emod_lt_of_pos (ws.getD (j % ws.length) 0) (show 0 < 2 * c.er + 1 by omega)
    omega
  · omega

theorem rdLo_bd (c : Col) (t : Int) (ws : List Int) (j : Nat) : 0 ≤ c.rdLo t ws j ∧ c.rdLo t ws j ≤ 19 := by
  simp only [Col.rdLo]; omega

/-- A reading is one of those of a set. -/
def Col.RdIs (c : Col) (t : Int) (ws : List Int) (s : Nat) (r : Rd) : Prop := ∃ k, k < c.ws.length ∧ s.testBit k = true ∧ r = c.rdA t ws k

theorem rdF_is (c : Col) (t : Int) (ws : List Int) (s : Nat) : ∀ (q j : Nat), j + q = c.ws.length → ∀ r ∈ c.rdF t ws s j q, c.RdIs t ws s r
  | 0, _, _, r, h => by simp [Col.rdF] at h
  | q + 1, j, hj, r, h => by
    simp only [Col.rdF] at h
    split at h
    · rename_i hb
      rcases List.mem_cons.1 h with rfl | h
      · exact ⟨j, by omega, hb, rfl⟩
      · exact rdF_is c t ws s q (j + 1) (by omega) r h
    · exact rdF_is c t ws s q (j + 1) (by omega) r h

theorem rdF_has (c : Col) (t : Int) (ws : List Int) (s : Nat) : ∀ (q j : Nat) (k : Nat), j ≤ k → k < j + q → s.testBit k = true → c.rdA t ws k ∈ c.rdF t ws s j q
  | 0, j, k, h1, h2, _ => by omega
  | q + 1, j, k, h1, h2, hb => by
    simp only [Col.rdF]
    by_cases e : j = k
    · subst e; rw [if_pos hb]; exact List.mem_cons_self ..
    · have := rdF_has c t ws s q (j + 1) k (by omega) (by omega) hb
      split
      · exact List.mem_cons_of_mem _ this
      · exact this

theorem rdF_len (c : Col) (t : Int) (ws : List Int) (s : Nat) : ∀ (q j : Nat), (c.rdF t ws s j q).length ≤ q
  | 0, _ => by simp [Col.rdF]
  | q + 1, j => by
    have := rdF_len c t ws s q (j + 1)
    simp only [Col.rdF]
    split
    · simp only [List.length_cons]; omega
    · omega

theorem getD_mem' {α : Type} {d : α} : ∀ {l : List α} {i : Nat}, i < l.length → l.getD i d ∈ l := by
  intro l i h
  rw [List.getD_eq_getElem?_getD, List.getElem?_eq_getElem h, Option.getD_some]
  exact List.getElem_mem h

theorem frg_ok {c : Col} (ho : c.Ok) (h4 : c.ws.length ≤ 4) {t : Int} {ws : List Int} {s : Nat} {xs : List Rd} (hx : ∀ r ∈ xs, c.RdIs t ws s r) (hl : xs.length ≤ 4) : (c.frg xs).Ok where
  many := ⟨ho.len.1, h4⟩
  reads := by simp only [Col.frg]; omega
  wave i hi := ho.ws i hi
  len := by have := ho.lo; simp only [Col.frg]; omega
  rd i hi := by
    obtain ⟨k, h1, _, h2⟩ := hx _ (getD_mem' (d := rd0) hi)
    have e : (c.frg xs).r i = c.rdA t ws k := h2
    have hb := rdLo_bd c t ws k
    have he := ho.er
    rw [e]
    simp only [Col.frg, Col.rdA]
    omega

theorem all_bit {n i : Nat} (h : i < n) : (2 ^ n - 1).testBit i = true := by
  rw [Nat.testBit_two_pow_sub_one]; simp [h]

theorem right_iff (f : Frg) (x : Int) : f.right f.all x = true ↔ ∀ i, i < f.rs.length → rgt (f.w (f.r i).c.toNat) (f.r i).lo (f.r i).hi x = true := by
  simp only [Frg.right, Frg.rt, Bool.not_eq_true', anyF_false]
  constructor
  · intro h i hi
    have := h i (by omega) (by omega)
    rw [Frg.all, all_bit hi] at this
    simpa using this
  · intro h i _ hi
    have hi' : i < f.rs.length := by omega
    rw [h i hi', Frg.all, all_bit hi']; rfl

/-- A length agrees if each reading of the set is right of it. -/
def Col.agr (c : Col) (t : Int) (ws : List Int) (s : Nat) (x : Int) : Prop := ∀ k, k < c.ws.length → s.testBit k = true → rgt (c.ws.getD k 0) (c.rdLo t ws k) (c.rdLo t ws k + 2 * c.er) x = true

theorem right_agr (c : Col) (t : Int) (ws : List Int) (s : Nat) (x : Int) : (c.frg (c.rdF t ws s 0 c.ws.length)).right (c.frg (c.rdF t ws s 0 c.ws.length)).all x = true ↔ c.agr t ws s x := by
  rw [right_iff]
  constructor
  · intro h k hk hb
    obtain ⟨i, hi, he⟩ := List.getElem_of_mem (rdF_has c t ws s c.ws.length 0 k (by omega) (by omega) hb)
    have := h i hi
    have e : (c.frg (c.rdF t ws s 0 c.ws.length)).r i = c.rdA t ws k := by
      simp only [Frg.r, Col.frg, List.getD_eq_getElem?_getD, List.getElem?_eq_getElem hi, Option.getD_some, he]
    rw [e] at this
    simpa [Col.rdA, Col.frg] using this
  · intro h i hi
    obtain ⟨k, h1, h2, h3⟩ := rdF_is c t ws s c.ws.length 0 (by omega) _ (getD_mem' (d := rd0) hi)
    have e : (c.frg (c.rdF t ws s 0 c.ws.length)).r i = c.rdA t ws k := h3
    rw [e]
    have := h k h1 h2
    simpa [Col.rdA, Col.frg] using this

theorem rgt_iff {w lo hi x : Int} : rgt w lo hi x = true ↔ (lo ≤ ptZ w x ∧ ptZ w x ≤ hi) ∨ (lo ≤ ptZ w x + 20 ∧ ptZ w x + 20 ≤ hi) := by
  simp [rgt, wi]

/-- The true length agrees. -/
theorem agr_self {c : Col} (ho : c.Ok) (t : Int) (ws : List Int) (s : Nat) : c.agr t ws s t := by
  intro k hk _
  have hw := ho.ws k hk
  have hb := ptZ_bd (w := c.ws.getD k 0) (n := t) (by omega)
  obtain ⟨_, _, h1, h2⟩ := rdN_bd ho t ws hk
  have he := ho.er
  rw [rgt_iff]
  simp only [Col.rdLo]
  generalize c.rdN t ws k = n at *
  generalize ptZ (c.ws.getD k 0) t = p at *
  omega

/-- No two that agree are parted. -/
theorem agr_part {c : Col} (ho : c.Ok) {t : Int} {ws : List Int} {s : Nat} {x y : Int} (hx : c.agr t ws s x) (hy : c.agr t ws s y) : c.partB s x y = false := by
  simp only [Col.partB, anyF_false]
  intro k _ hk
  have hk' : k < c.ws.length := by omega
  cases hb : s.testBit k
  · rfl
  · have hw := ho.ws k hk'
    have b1 := ptZ_bd (w := c.ws.getD k 0) (n := x) (by omega)
    have b2 := ptZ_bd (w := c.ws.getD k 0) (n := y) (by omega)
    have h1 := rgt_iff.1 (hx k hk' hb)
    have h2 := rgt_iff.1 (hy k hk' hb)
    have he := ho.er
    have hl := rdLo_bd c t ws k
    have key : ∀ p o lo : Int, (0 ≤ p ∧ p < 20) → (0 ≤ o ∧ o < 20) → (lo ≤ p ∧ p ≤ lo + 2 * c.er ∨ lo ≤ p + 20 ∧ p + 20 ≤ lo + 2 * c.er) → (lo ≤ o ∧ o ≤ lo + 2 * c.er ∨ lo ≤ o + 20 ∧ o + 20 ≤ lo + 2 * c.er) → ¬ 2 * c.er < apartZ p o := by
      intro p o lo q1 q2 q3 q4
      have e1 : lessZ p o = (p - o + 20) % 20 := rfl
      have e2 : lessZ o p = (o - p + 20) % 20 := rfl
      simp only [apartZ]
      split <;> omega
    rw [Bool.true_and, Col.sep, decide_eq_false_iff_not]
    exact key _ _ _ b1 b2 h1 h2

/-! ### Spans -/

def inS (m : Int) (p : Int × Int) : Bool := decide (p.1 ≤ m) && decide (m ≤ p.2)
def cntS (m : Int) (l : List (Int × Int)) : Nat := l.countP (inS m)

theorem spStep_cnt {acc : List (Int × Int)} {n : Int} (h : ∀ p ∈ acc, p.1 ≤ p.2 ∧ p.2 < n) (m : Int) : cntS m (spStep acc n) = cntS m acc + (if m = n then 1 else 0) := by
  have one : cntS m [(n, n)] = if m = n then 1 else 0 := by
    by_cases e : m = n
    · subst e; simp [cntS, inS]
    · have : ¬ (n ≤ m ∧ m ≤ n) := by omega
      simp [cntS, inS, e]; omega
  rcases List.eq_nil_or_concat acc with rfl | ⟨ini, p, rfl⟩
  · simp only [spStep, List.getLast?_nil, List.nil_append]
    rw [one]; simp [cntS]
  · have hp := h p (by simp)
    by_cases hc : p.2 + 1 = n
    · have : spStep (ini.concat p) n = ini ++ [(p.1, n)] := by simp [spStep, hc]
      rw [this, List.concat_eq_append]
      simp only [cntS, List.countP_append, List.countP_cons, List.countP_nil, inS]
      by_cases e : m = n
      · subst e
        have h1 : ¬ m ≤ p.2 := by omega
        have h2 : p.1 ≤ m := by omega
        simp [h1, h2]
      · by_cases h1 : p.1 ≤ m
        · by_cases h2 : m ≤ p.2
          · have h3 : m ≤ n := by omega
            simp [h1, h2, h3, e]
          · have h3 : ¬ m ≤ n := by omega
            simp [h1, h2, h3, e]
        · simp [h1, e]
    · have : spStep (ini.concat p) n = ini.concat p ++ [(n, n)] := by simp [spStep, hc]
      rw [this]
      have e1 : cntS m (ini.concat p ++ [(n, n)]) = cntS m (ini.concat p) + cntS m [(n, n)] := List.countP_append ..
      rw [e1, one]

theorem spStep_bd {acc : List (Int × Int)} {n : Int} (h : ∀ p ∈ acc, p.1 ≤ p.2 ∧ p.2 < n) : ∀ p ∈ spStep acc n, p.1 ≤ p.2 ∧ p.2 < n + 1 := by
  rcases List.eq_nil_or_concat acc with rfl | ⟨ini, p, rfl⟩
  · intro q hq
    simp only [spStep, List.getLast?_nil, List.nil_append, List.mem_singleton] at hq
    subst hq; simp only; omega
  · have hp := h p (by simp)
    intro q hq
    by_cases hc : p.2 + 1 = n
    · have : spStep (ini.concat p) n = ini ++ [(p.1, n)] := by simp [spStep, hc]
      rw [this] at hq
      rcases List.mem_append.1 hq with hq | hq
      · have := h q (by simp [hq]); omega
      · rw [List.mem_singleton] at hq; subst hq; simp only; omega
    · have : spStep (ini.concat p) n = ini.concat p ++ [(n, n)] := by simp [spStep, hc]
      rw [this] at hq
      rcases List.mem_append.1 hq with hq | hq
      · have := h q hq; omega
      · rw [List.mem_singleton] at hq; subst hq; simp only; omega

theorem spF_cnt (f : Frg) (s : Nat) (m : Int) : ∀ (q : Nat) (n : Int) (acc : List (Int × Int)), (∀ p ∈ acc, p.1 ≤ p.2 ∧ p.2 < n) → cntS m ((f.lensF s n q).foldl spStep acc) = cntS m acc + (if m ∈ f.lensF s n q then 1 else 0)
  | 0, n, acc, _ => by simp [Frg.lensF]
  | q + 1, n, acc, h => by
    simp only [Frg.lensF]
    split
    · rw [List.foldl_cons, spF_cnt f s m q (n + 1) _ (spStep_bd h), spStep_cnt h]
      by_cases e : m = n
      · subst e
        have : ¬ m ∈ f.lensF s (m + 1) q := by rw [mem_lensF]; omega
        simp [this]
      · simp [e]
    · exact spF_cnt f s m q (n + 1) acc (fun p hp => by have := h p hp; omega)

theorem spans_cnt (f : Frg) (s : Nat) (m : Int) : cntS m (spans (f.lens s)) = if m ∈ f.lens s then 1 else 0 := by
  rw [spans, Frg.lens, spF_cnt f s m _ _ [] (by simp)]
  simp [cntS]

/-! ### What agrees, gathered -/

def agS (t n : Int) (st : List Int × Bool) (p : Int × Int) : List Int × Bool := if inS n p then (st.1 ++ [n], st.2 || n == t) else st
def agO (t : Int) (sp : List (Int × Int)) (st : List Int × Bool) (n : Int) : List Int × Bool := sp.foldl (agS t n) st

theorem agS_all (t n : Int) : ∀ (sp : List (Int × Int)) (st : List Int × Bool), sp.foldl (agS t n) st = (st.1 ++ List.replicate (cntS n sp) n, st.2 || (decide (0 < cntS n sp) && n == t))
  | [], st => by simp [cntS]
  | p :: r, st => by
    rw [List.foldl_cons, agS_all t n r]
    by_cases h : inS n p = true
    · have e : cntS n (p :: r) = cntS n r + 1 := by simp [cntS, h]
      rw [e]
      simp only [agS, h, if_true]
      refine Prod.ext ?_ ?_
      · simp only [List.append_assoc, List.singleton_append, ← List.replicate_succ]
      · simp only [Nat.zero_lt_succ, decide_true, Bool.true_and]
        cases st.2 <;> cases (n == t) <;> simp
    · have e : cntS n (p :: r) = cntS n r := by simp [cntS, h]
      rw [e]
      simp only [agS, if_neg h]

theorem agO_all (t : Int) (sp : List (Int × Int)) (g : Int → Bool) (hg : ∀ n, cntS n sp = if g n = true then 1 else 0) : ∀ (l : List Int) (st : List Int × Bool), l.foldl (agO t sp) st = (st.1 ++ l.filter g, st.2 || l.any fun n => g n && n == t)
  | [], st => by simp
  | n :: r, st => by
    rw [List.foldl_cons, agO_all t sp g hg r, agO, agS_all, hg n]
    cases h : g n
    · simp [h]
    · simp only [List.filter_cons, h, if_true, List.any_cons, Bool.true_and]
      refine Prod.ext ?_ ?_
      · simp
      · simp [Bool.or_assoc]

theorem filter_num (c : Col) (g : Int → Bool) : (c.lens.filter g).length = num (fun k => g (c.lenAt k)) 0 c.manyN := by
  have key : ∀ (q j : Nat), (((List.range' j q).map c.lenAt).filter g).length = num (fun k => g (c.lenAt k)) j q := by
    intro q
    induction q with
    | zero => intro j; rfl
    | succ q ih =>
      intro j
      rw [List.range'_succ, List.map_cons, List.filter_cons, num]
      cases h : g (c.lenAt j)
      · simp only [Bool.false_eq_true, if_false, ih, Nat.zero_add]
      · simp only [if_true, List.length_cons, ih]; omega
  rw [Col.lens, List.range_eq_range', key]

theorem num_one {f : Nat → Bool} {t : Nat} : ∀ (q j : Nat), (∀ k, j ≤ k → k < j + q → f k = true → k = t) → num f j q ≤ 1
  | 0, _, _ => by simp [num]
  | q + 1, j, h => by
    rw [num]
    cases hf : f j
    · have := num_one (f := f) (t := t) q (j + 1) (fun k h1 h2 => h k (by omega) (by omega))
      simpa using this
    · have e := h j (by omega) (by omega) hf
      have : num f (j + 1) q = 0 := (num_zero q (j + 1)).2 (fun k h1 h2 => by
        cases hk : f k
        · rfl
        · have := h k (by omega) (by omega) hk; omega)
      simp [this]

theorem worst_ge {c : Col} (s : Nat) {i : Nat} (hi : i < c.manyN) : ((num (fun k => !c.meet s i k) 0 c.manyN : Nat) : Int) ≤ c.worstR s := by
  have := (fmax_spec (fun i => ((foldF (c.cnt s i) 0 0 c.manyN : Nat) : Int)) c.manyN 0 0).2.1 i (by omega) (by omega)
  rw [cnt_num, Nat.zero_add] at this
  exact this

/-- What the law asks of those that agree. -/
structure Agree (c : Col) (s : Nat) (t : Int) (ag : List Int) : Prop where
  bd : ∀ x ∈ ag, 0 ≤ x ∧ x ≤ 2000
  same : ∀ x ∈ ag, ∀ y ∈ ag, c.partB s x y = false
  few : (ag.length : Int) ≤ c.worstR s
  one : c.alkR s = none → ag.length = 1
  some : ag.length ≤ 300

theorem agree_ok {c : Col} (ho : c.Ok) {s : Nat} {ti : Nat} (hti : ti < c.manyN) {ws : List Int} {g : Int → Bool} (hg : ∀ x, g x = true ↔ (c.lo ≤ x ∧ x ≤ c.hi) ∧ c.agr (c.lenAt ti) ws s x) :
    Agree c s (c.lenAt ti) (c.lens.filter g) ∧ (c.lens.any fun n => g n && n == c.lenAt ti) = true := by
  have hlo := ho.lo
  have hgb : c.lo ≤ c.lenAt ti ∧ c.lenAt ti ≤ c.hi := by
    have hev := ho.ev
    have h1 : (ti : Int) ≤ (c.hi - c.lo) / c.ev := by
      have : 0 ≤ (c.hi - c.lo) / c.ev := Int.ediv_nonneg (by omega) (by omega)
      simp only [Col.manyN] at hti; omega
    have h2 := Int.mul_le_mul_of_nonneg_right h1 (show 0 ≤ c.ev by omega)
    have h3 := Int.ediv_mul_le (c.hi - c.lo) (show c.ev ≠ 0 by omega)
    have h4 : 0 ≤ (ti : Int) * c.ev := Int.mul_nonneg (by omega) (by omega)
    simp only [Col.lenAt]; omega
  have hself := agr_self ho (c.lenAt ti) ws s
  have hgt : g (c.lenAt ti) = true := (hg _).2 ⟨⟨hgb.1, hgb.2⟩, hself⟩
  have hmem : c.lenAt ti ∈ c.lens := List.mem_map.2 ⟨ti, List.mem_range.2 hti, rfl⟩
  have hsub : num (fun k => g (c.lenAt k)) 0 c.manyN ≤ num (fun k => !c.meet s ti k) 0 c.manyN := by
    refine num_mono _ _ (fun k _ hk h => ?_)
    have := agr_part ho hself ((hg _).1 h).2
    rw [c.meet_eq, this]; rfl
  have mb := ho.many_bd
  have hpos : 0 < (c.lens.filter g).length := List.length_pos_of_mem (List.mem_filter.2 ⟨hmem, hgt⟩)
  refine ⟨⟨?_, ?_, ?_, ?_, ?_⟩, ?_⟩
  · intro x hx
    have := ((hg x).1 (List.mem_filter.1 hx).2).1
    omega
  · intro x hx y hy
    exact agr_part ho ((hg x).1 (List.mem_filter.1 hx).2).2 ((hg y).1 (List.mem_filter.1 hy).2).2
  · rw [filter_num]
    have := worst_ge (c := c) s hti
    omega
  · intro hn
    rw [c.alkR_eq] at hn
    have hnil : c.prL s = [] := by
      cases e : c.prL s with
      | nil => rfl
      | cons a b => rw [e] at hn; simp at hn
    have hmeet : ∀ a b, a < b → b < c.manyN → c.meet s a b = true := by
      intro a b hab hb
      cases hm : c.meet s a b
      · have := (c.prL_mem s (a, b)).2 ⟨hab, hb, hm⟩
        rw [hnil] at this; cases this
      · rfl
    have := num_one (f := fun k => !c.meet s ti k) (t := ti) c.manyN 0 (fun k _ hk h => by
      rcases Nat.lt_trichotomy k ti with h1 | h1 | h1
      · rw [c.meet_comm, hmeet k ti h1 hti] at h; cases h
      · exact h1
      · rw [hmeet ti k h1 (by omega)] at h; cases h)
    rw [filter_num] at hpos ⊢
    omega
  · have h1 : (c.lens.filter g).length ≤ c.lens.length := List.length_filter_le ..
    rw [c.lens_len] at h1
    omega
  · rw [List.any_eq_true]
    exact ⟨_, hmem, by rw [hgt]; simp⟩

end Go.Ab
/-
  ColourTrue, walked: the loops.
-/
namespace Go.Ab
open Go.Proofs
set_option linter.unusedSimpArgs false
set_option linter.unusedVariables false
set_option maxRecDepth 100000
set_option maxHeartbeats 2000000

variable {H : Heap}

def Col.RdAll (c : Col) (t : Int) (ws : List Int) (s : Nat) (xs : List Rd) : Prop := ∀ r ∈ xs, c.RdIs t ws s r

def B8 (n : Int) : AV := .int .u8 n

theorem rdLt (l : List Rd) (N : Nat) : ltL N (l.map Rd.av) = true := ltL_map (fun _ => rfl) l

theorem sl8 {b : Bool} (xs : List Int) : SlOk H 1 (.sl b (xs.map B8)) (xs.map B8) := ⟨rfl, fun x hx => by
  obtain ⟨i, _, rfl⟩ := List.mem_map.1 hx; rfl⟩

theorem slS {b : Bool} (xs : List (Int × Int)) : SlOk H 2 (.sl b (xs.map spA)) (xs.map spA) := ⟨rfl, fun x hx => by
  obtain ⟨i, _, rfl⟩ := List.mem_map.1 hx; rfl⟩

theorem ct_read {c : Col} {vw vp : AV} (h : ColAt H c vw vp) (ho : c.Ok) (h4 : c.ws.length ≤ 4) {t : Int} (ht : 0 ≤ t ∧ t ≤ 2000) {s : Nat} (hs : s < 64) (f0 : Bool) (ws : List Int) (hws : ∀ x ∈ ws, 0 ≤ x ∧ x ≤ 255) (rr : List Rd) (vl : AV) (K : List Item) (R : Option Done) (hK : ∀ E : Env, E.get 3 = .sl f0 (ws.map B8) → E.get 4 = .ptr H.length 0 → E.get 9 = vl → E.get 10 = I t → E.get 11 = I s → E.get 12 = .ptr (H.length + 1) 0 → Option.map (finishC H.length) (execL cfg0 prog0 ⟨11, none, false, H.length⟩ K ⟨E, [], H ++ [.box (c.av vw vp), .box (.agg [vw, I c.lo, I c.hi, .gsl (H.length + 2) rr.length]), .grow 3 (rr.map Rd.av)], none⟩) = R)  :
    ∀ (q j : Nat), j + q = c.ws.length → ∀ (xs : List Rd), c.RdAll t ws s xs → xs.length ≤ j → xs ++ c.rdF t ws s j q = rr → ∀ E : Env, E.get 3 = .sl f0 (ws.map B8) → E.get 4 = .ptr H.length 0 → E.get 9 = vl → E.get 10 = I t → E.get 11 = I s → E.get 12 = .ptr (H.length + 1) 0 → E.get 78 = I c.ws.length → E.get 79 = I j →
    Option.map (finishC H.length) (execL cfg0 prog0 ⟨11, none, false, H.length⟩ (loopIt Try.f11 7 :: .inBlock 0 :: K) ⟨E, [], H ++ [.box (c.av vw vp), .box (.agg [vw, I c.lo, I c.hi, .gsl (H.length + 2) xs.length]), .grow 3 (xs.map Rd.av)], none⟩) = R := by
  intro q
  have s1 := h.ws.scal
  have s2 := h.ps.scal
  have her := ho.er
  simp only [Col.av] at hK ⊢
  induction q with
  | zero =>
    intro j hj xs hx hl hr E g3 g4 g9 g10 g11 g12 g78 g79
    have hk' : ¬ (j : Int) < ((c.ws.length : Nat) : Int) := by omega
    simp only [Col.rdF, List.append_nil] at hr
    subst hr
    simp only [loopIt, todoPast, todoAt, todoOf, firstReg, ↓reduceIte, Option.some.injEq, Nat.reduceEqDiff, reduceCtorEq, Try.f11]
    rw [execL_inLoop]
    simp (maxSteps := 1000000) (implicitDefEqProofs := false) (disch := first | rfl | omega | assumption) only [go_sem, ↓reduceIte, Nat.reduceEqDiff, Nat.reduceAdd, Nat.reduceLeDiff, Nat.reduceBEq, Nat.reduceMul, Nat.reduceLT, Int.reduceLT, Int.reduceLE, Int.reduceToNat, Int.reduceNeg, Int.reduceEq, Int.reduceMul, reduceCtorEq, Int.reduceBEq, Int.reduceBNe, Int.reduceAdd, Int.reduceSub, g3, g4, g9, g10, g11, g12, g78, g79, ltT, ltF, leT, leF, hk']
    exact hK _ (by exact g3) (by exact g4) (by exact g9) (by exact g10) (by exact g11) (by exact g12)
  | succ q ih =>
    intro j hj xs hx hl hr E g3 g4 g9 g10 g11 g12 g78 g79
    have hk' : (j : Int) < ((c.ws.length : Nat) : Int) := by omega
    have hk2 : j < c.ws.length := by omega
    have e1 := shrI (s := s) (j := j) (by omega)
    have e2 : s / 2 ^ j ≤ s := Nat.div_le_self _ _
    have e3 : bitsOp .and .i64 ((s / 2 ^ j : Nat) : Int) 1 = some ((s / 2 ^ j &&& 1 : Nat) : Int) := bitsAndI (b := 1) (by omega) (by decide)
    have hone : (((s / 2 ^ j &&& 1 : Nat) : Int) == 0) = !s.testBit j := by
      rw [Nat.and_one_is_mod, Nat.testBit_eq_decide_div_mod_eq]
      have : s / 2 ^ j % 2 = 0 ∨ s / 2 ^ j % 2 = 1 := by omega
      rcases this with h | h <;> rw [h] <;> rfl
    have z : ¬ (j : Int) < 0 := by omega
    have hw := ho.ws j hk2
    cases hb : s.testBit j
    · rw [hb, Bool.not_false] at hone
      simp only [Col.rdF, hb, Bool.false_eq_true, if_false] at hr
      simp only [loopIt, todoPast, todoAt, todoOf, firstReg, ↓reduceIte, Option.some.injEq, Nat.reduceEqDiff, reduceCtorEq, Try.f11]
      rw [execL_inLoop]
      simp (maxSteps := 1000000) (implicitDefEqProofs := false) (disch := first | rfl | omega | assumption) only [go_sem, ↓reduceIte, Nat.reduceEqDiff, Nat.reduceAdd, Nat.reduceLeDiff, Nat.reduceBEq, Nat.reduceMul, Nat.reduceLT, Int.reduceLT, Int.reduceLE, Int.reduceToNat, Int.reduceNeg, Int.reduceEq, Int.reduceMul, reduceCtorEq, Int.reduceBEq, Int.reduceBNe, Int.reduceAdd, Int.reduceSub, g3, g4, g9, g10, g11, g12, g78, g79, ltT, ltF, leT, leF, hk', e1, e3, hone, z]
      exact ih (j + 1) (by omega) xs hx (by omega) hr _ (by exact g3) (by exact g4) (by exact g9) (by exact g10) (by exact g11) (by exact g12) (by exact g78) (by rfl)
    · rw [hb, Bool.not_true] at hone
      simp only [Col.rdF, hb, if_true] at hr
      have hok : (c.frg xs).Ok := frg_ok ho h4 hx (by omega)
      have hvl := (c.frg xs).valid_iff.2 hok
      have hfr : FrAt (H ++ [.box (.agg [vw, vp, I c.lo, I c.hi, I c.ev, I c.er]), .box (.agg [vw, I c.lo, I c.hi, .gsl (H.length + 2) xs.length]), .grow 3 (xs.map Rd.av)]) (c.frg xs) vw (.gsl (H.length + 2) xs.length) :=
        ⟨h.ws.app _, ⟨⟨by rw [get_at']; rfl, by simp [Col.frg]⟩, fun x hx => by obtain ⟨i, _, rfl⟩ := List.mem_map.1 hx; rfl⟩⟩
      have hP := fr_Part hfr (by simp only [Col.frg]; omega) t j
      have w1' : wi t 0 2000 = true := wi_iff.2 ht
      have w2' : wi (j : Int) 0 ((c.ws.length : Int) - 1) = true := wi_iff.2 (by omega)
      have hwj : (c.frg xs).w j = c.ws.getD j 0 := rfl
      simp only [hvl, if_true, show ((c.frg xs).ws.length : Int) = c.ws.length from rfl, w1', w2', Bool.and_self, Int.toNat_natCast, hwj] at hP
      simp only [show (c.frg xs).lo = c.lo from rfl, show (c.frg xs).hi = c.hi from rfl] at hP
      have pb := ptZ_bd (w := c.ws.getD j 0) (n := t) (by omega)
      have hrn := rdN_bd ho t ws hk2
      have hrl := rdLo_bd c t ws j
      have hSp := fun (a b : Int) (G : Heap) => law_span a b G
      have la : (xs.map Rd.av).length = xs.length := List.length_map _
      have hadd : ∀ (o1 o2 : AO) (a b : Int), addElem (H ++ [o1, o2, .grow 3 (xs.map Rd.av)]) 3 true (.gsl (H.length + 2) xs.length) [.agg [I j, I a, I b]] = some (.gsl (H.length + 2) (xs.length + 1), H ++ [o1, o2, .grow 3 ((xs ++ [(⟨j, a, b⟩ : Rd)]).map Rd.av)]) := by
        intro o1 o2 a b
        rw [add_gsl (xs := xs.map Rd.av) (by rw [get_at']; rfl) la rfl rfl (by simp; omega), set_at', List.map_append]
        rfl
      have hrd : c.rdA t ws j = ⟨j, c.rdLo t ws j, c.rdLo t ws j + 2 * c.er⟩ := rfl
      have hlo : c.rdLo t ws j = (c.rdN t ws j - c.er + 40) % 20 := rfl
      have hmod : (c.rdN t ws j - c.er + 40).tmod 20 = c.rdLo t ws j := by rw [hlo, Int.tmod_eq_emod_of_nonneg (by omega)]
      have hnew : c.RdAll t ws s (xs ++ [c.rdA t ws j]) := by
        intro r hr
        rcases List.mem_append.1 hr with hr | hr
        · exact hx r hr
        · rw [List.mem_singleton] at hr; exact ⟨j, hk2, hb, hr⟩
      have hrr : (xs ++ [c.rdA t ws j]) ++ c.rdF t ws s (j + 1) q = rr := by rw [List.append_assoc]; exact hr
      by_cases hn : 0 < ws.length
      · have hNn : c.rdN t ws j = ptZ (c.ws.getD j 0) t + (ws.getD (j % ws.length) 0 % (2 * c.er + 1) - c.er) := by simp only [Col.rdN, if_pos hn]
        have hjm : (j : Int).tmod (ws.length : Int) = ((j % ws.length : Nat) : Int) := by rw [Int.tmod_eq_emod_of_nonneg (Int.natCast_nonneg _)]; rfl
        have hjl : j % ws.length < ws.length := Nat.mod_lt _ hn
        have hbw := hws _ (getD_mem' (d := 0) hjl)
        have hz : ¬ (ws.length : Int) = 0 := by omega
        obtain ⟨a1, a2, a3, a4, a5⟩ := (sl8 (H := H) (b := f0) ws).fF (d := 0)
        have hlw : (ws.map B8).length = ws.length := List.length_map _
        generalize hxw : ws.getD (j % ws.length) 0 = xw at *
        have hxm : xw.tmod (2 * c.er + 1) = xw % (2 * c.er + 1) := Int.tmod_eq_emod_of_nonneg hbw.1
        have hx1 := Int.emod_nonneg xw (show 2 * c.er + 1 ≠ 0 by omega)
        have hx2 := Int.emod_lt_of_pos xw (show 0 < 2 * c.er + 1 by omega)
        have hnz : ¬ (2 * c.er + 1 = 0) := by omega
        generalize xw % (2 * c.er + 1) = xm at *
        generalize ptZ (c.ws.getD j 0) t = p at *
        rw [hNn] at hmod
        generalize c.rdLo t ws j = lo at *
        simp only [hrd] at hnew hrr
        simp only [loopIt, todoPast, todoAt, todoOf, firstReg, ↓reduceIte, Option.some.injEq, Nat.reduceEqDiff, reduceCtorEq, Try.f11]
        rw [execL_inLoop]
        simp (maxSteps := 1000000) (implicitDefEqProofs := false) (disch := first | rfl | omega | assumption) only [go_sem, ↓reduceIte, Nat.reduceEqDiff, Nat.reduceAdd, Nat.reduceLeDiff, Nat.reduceBEq, Nat.reduceMul, Nat.reduceLT, Int.reduceLT, Int.reduceLE, Int.reduceToNat, Int.reduceNeg, Int.reduceEq, Int.reduceMul, reduceCtorEq, Int.reduceBEq, Int.reduceBNe, Int.reduceAdd, Int.reduceSub, g3, g4, g9, g10, g11, g12, g78, g79, ltT, ltF, leT, leF, hk', e1, e3, hone, z, s1, s2, hP, hlw]
        rw [chkK_of]; rotate_left; kernel_rfl
        simp (maxSteps := 1000000) (implicitDefEqProofs := false) (disch := first | rfl | omega | assumption) only [go_sem, ↓reduceIte, Nat.reduceEqDiff, Nat.reduceAdd, Nat.reduceLeDiff, Nat.reduceBEq, Nat.reduceMul, Nat.reduceLT, Int.reduceLT, Int.reduceLE, Int.reduceToNat, Int.reduceNeg, Int.reduceEq, Int.reduceMul, reduceCtorEq, Int.reduceBEq, Int.reduceBNe, Int.reduceAdd, Int.reduceSub, g3, g4, g9, g10, g11, g12, g78, g79, ltT, ltF, leT, leF, hk', e1, e3, hone, z, s1, s2, hP, hlw, hjm, a1, a2, a3, a4, hxw, hxm, hz, hnz, B8]
        rw [chkK_of]; rotate_left; kernel_rfl
        simp (maxSteps := 1000000) (implicitDefEqProofs := false) (disch := first | rfl | omega | assumption) only [go_sem, ↓reduceIte, Nat.reduceEqDiff, Nat.reduceAdd, Nat.reduceLeDiff, Nat.reduceBEq, Nat.reduceMul, Nat.reduceLT, Int.reduceLT, Int.reduceLE, Int.reduceToNat, Int.reduceNeg, Int.reduceEq, Int.reduceMul, reduceCtorEq, Int.reduceBEq, Int.reduceBNe, Int.reduceAdd, Int.reduceSub, g3, g4, g9, g10, g11, g12, g78, g79, ltT, ltF, leT, leF, hk', e1, e3, hone, z, s1, s2, hP, hmod, hSp, hadd]
        have key := ih (j + 1) (by omega) _ hnew (by simp; omega) hrr
        simp only [List.length_append, List.length_cons, List.length_nil, Nat.zero_add] at key
        exact key _ (by exact g3) (by exact g4) (by exact g9) (by exact g10) (by exact g11) (by exact g12) (by exact g78) (by rfl)
      · have hw0 : ws = [] := by cases ws with
          | nil => rfl
          | cons a b => exact absurd (by simp) hn
        subst hw0
        have hNn : c.rdN t [] j = ptZ (c.ws.getD j 0) t := by simp [Col.rdN]
        generalize ptZ (c.ws.getD j 0) t = p at *
        rw [hNn] at hmod
        generalize c.rdLo t [] j = lo at *
        simp only [hrd] at hnew hrr
        simp only [loopIt, todoPast, todoAt, todoOf, firstReg, ↓reduceIte, Option.some.injEq, Nat.reduceEqDiff, reduceCtorEq, Try.f11]
        rw [execL_inLoop]
        simp (maxSteps := 1000000) (implicitDefEqProofs := false) (disch := first | rfl | omega | assumption) only [go_sem, ↓reduceIte, Nat.reduceEqDiff, Nat.reduceAdd, Nat.reduceLeDiff, Nat.reduceBEq, Nat.reduceMul, Nat.reduceLT, Int.reduceLT, Int.reduceLE, Int.reduceToNat, Int.reduceNeg, Int.reduceEq, Int.reduceMul, reduceCtorEq, Int.reduceBEq, Int.reduceBNe, Int.reduceAdd, Int.reduceSub, g3, g4, g9, g10, g11, g12, g78, g79, ltT, ltF, leT, leF, hk', e1, e3, hone, z, s1, s2, hP, List.map_nil, List.length_nil]
        rw [chkK_of]; rotate_left; kernel_rfl
        simp (maxSteps := 1000000) (implicitDefEqProofs := false) (disch := first | rfl | omega | assumption) only [go_sem, ↓reduceIte, Nat.reduceEqDiff, Nat.reduceAdd, Nat.reduceLeDiff, Nat.reduceBEq, Nat.reduceMul, Nat.reduceLT, Int.reduceLT, Int.reduceLE, Int.reduceToNat, Int.reduceNeg, Int.reduceEq, Int.reduceMul, reduceCtorEq, Int.reduceBEq, Int.reduceBNe, Int.reduceAdd, Int.reduceSub, g3, g4, g9, g10, g11, g12, g78, g79, ltT, ltF, leT, leF, hk', e1, e3, hone, z, s1, s2, hP, hmod, hSp, hadd]
        have key := ih (j + 1) (by omega) _ hnew (by simp; omega) hrr
        simp only [List.length_append, List.length_cons, List.length_nil, Nat.zero_add] at key
        exact key _ (by exact g3) (by exact g4) (by exact g9) (by exact g10) (by exact g11) (by exact g12) (by exact g78) (by rfl)

end Go.Ab
/-
  A slice of small numbers, as the evaluator takes it.
-/
namespace Go.Ab
set_option linter.unusedSimpArgs false
set_option linter.unusedVariables false
set_option maxRecDepth 100000
open Go.Proofs Go.ChangeShapes Go.RowKit Go.WideShapes

theorem sh56 : shOf prog0 8 56 = some (.sl false (.int .u8)) := by kernel_rfl

theorem list_ofP {α : Type} {p : α → Prop} {f : α → AV} : ∀ {es : List AV}, (∀ x ∈ es, ∃ a, p a ∧ x = f a) → ∃ l : List α, es = l.map f ∧ ∀ a ∈ l, p a
  | [], _ => ⟨[], rfl, by simp⟩
  | x :: r, h => by
    obtain ⟨a, ha, rfl⟩ := h x (List.mem_cons_self ..)
    obtain ⟨l, rfl, hl⟩ := list_ofP fun y hy => h y (List.mem_cons_of_mem _ hy)
    refine ⟨a :: l, rfl, fun b hb => ?_⟩
    rcases List.mem_cons.1 hb with rfl | hb
    · exact ha
    · exact hl b hb

theorem arg_u8s {T : Type} {enc : TypeId × Value → T} {W : World} {r : Reach} {b0 : Nat} {v : Value} {d : DataW T} {ps : List MemPlace} (hval : Value.okWide prog0 W r b0 56 v) (hd : DataW.Trod enc prog0 W 0 (fun _ => true) true 56 v d ps) :
    ∃ (f : Bool) (ws : List Int), Rel (Cx.start W) (.sl f (ws.map B8)) v ∧ ∀ x ∈ ws, 0 ≤ x ∧ x ≤ 255 := by
  obtain ⟨f, es, h1, h2⟩ := arg_sl Try.underlying56 sh56 hval hd
  obtain ⟨ws, rfl, hw⟩ := list_ofP (p := fun n : Int => 0 ≤ n ∧ n ≤ 255) (f := B8) (es := es) fun x hx => by
    obtain ⟨_, ⟨n, rfl, hn⟩, rfl⟩ := h2 x hx
    exact ⟨n, bounds_u8 hn, rfl⟩
  exact ⟨f, ws, h1, hw⟩

end Go.Ab
/-
  ColourTrue, walked: what agrees; the law.
-/
namespace Go.Ab
open Go.Proofs
set_option linter.unusedSimpArgs false
set_option linter.unusedVariables false
set_option maxRecDepth 100000
set_option maxHeartbeats 2000000

variable {H : Heap}

theorem ct_in {c : Col} {vw vp : AV} (h : ColAt H c vw vp) {t n : Int} (s wz ez : Int) (sp : List (Int × Int)) (hsp : sp.length ≤ 401) (rs : List Rd) (xl : List Int) (jo : Int) (r : List Int × Bool) (K : List Item) (R : Option Done) (hK : ∀ E : Env, E.get 4 = .ptr H.length 0 → E.get 10 = I t → E.get 11 = I s → E.get 19 = .sl false (sp.map spA) → E.get 22 = I wz → E.get 26 = I ez → E.get 27 = .gsl (H.length + 3) r.1.length → E.get 28 = .bool r.2 → E.get 173 = .sl false (xl.map I) → E.get 174 = I xl.length → E.get 175 = I jo → Option.map (finishC H.length) (execL cfg0 prog0 ⟨11, none, false, H.length⟩ K ⟨E, [], H ++ [.box (c.av vw vp), .box (.agg [vw, I c.lo, I c.hi, .gsl (H.length + 2) rs.length]), .grow 3 (rs.map Rd.av), .grow 1 (r.1.map I)], none⟩) = R)  :
    ∀ (q j : Nat), j + q = sp.length → ∀ (G : Heap), ∀ (st : List Int × Bool), st.1.length ≤ 200000 + j → (sp.drop j).foldl (agS t n) st = r → ∀ E : Env, E.get 4 = .ptr H.length 0 → E.get 10 = I t → E.get 11 = I s → E.get 19 = .sl false (sp.map spA) → E.get 22 = I wz → E.get 26 = I ez → E.get 27 = .gsl (H.length + 3) st.1.length → E.get 28 = .bool st.2 → E.get 30 = I n → E.get 173 = .sl false (xl.map I) → E.get 174 = I xl.length → E.get 175 = I jo → E.get 179 = .sl false (sp.map spA) → E.get 180 = I sp.length → E.get 181 = I j →
    Option.map (finishC H.length) (execL cfg0 prog0 ⟨11, none, false, H.length⟩ (loopIt Try.f11 30 :: .inBlock 4 :: K) ⟨E, [], H ++ (.box (c.av vw vp) :: .box (.agg [vw, I c.lo, I c.hi, .gsl (H.length + 2) rs.length]) :: .grow 3 (rs.map Rd.av) :: .grow 1 (st.1.map I) :: G), none⟩) = R := by
  intro q
  have s1 := h.ws.scal
  have s2 := h.ps.scal
  have t1 := h.ws.ltn 4
  have t2 := h.ps.ltn 4
  have t3 := fun l : List Rd => rdLt l 0
  have t4 := fun l : List Int => ltI (N := 0) l
  obtain ⟨a1, a2, a3, a4, a5⟩ := (slS (H := H) (b := false) sp).fF (d := (0, 0))
  simp only [Col.av] at hK ⊢
  induction q with
  | zero =>
    intro j hj G st hl hr E g4 g10 g11 g19 g22 g26 g27 g28 g30 g173 g174 g175 g179 g180 g181
    have hk' : ¬ (j : Int) < ((sp.length : Nat) : Int) := by omega
    rw [List.drop_of_length_le (by omega)] at hr
    simp only [List.foldl_nil] at hr
    subst hr
    simp only [loopIt, todoPast, todoAt, todoOf, firstReg, ↓reduceIte, Option.some.injEq, Nat.reduceEqDiff, reduceCtorEq, Try.f11]
    rw [execL_inLoop]
    simp (maxSteps := 1000000) (implicitDefEqProofs := false) (disch := first | rfl | omega | assumption) only [go_sem, ↓reduceIte, Nat.reduceEqDiff, Nat.reduceAdd, Nat.reduceLeDiff, Nat.reduceBEq, Nat.reduceMul, Nat.reduceLT, Int.reduceLT, Int.reduceLE, Int.reduceToNat, Int.reduceNeg, Int.reduceEq, Int.reduceMul, reduceCtorEq, Int.reduceBEq, Int.reduceBNe, Int.reduceAdd, Int.reduceSub, g4, g10, g11, g19, g22, g26, g27, g28, g30, g173, g174, g175, g179, g180, g181, ltT, ltF, leT, leF, hk', t1, t2, t3, t4]
    exact hK _ (by rfl) (by rfl) (by rfl) (by rfl) (by rfl) (by rfl) (by rfl) (by rfl) (by rfl) (by rfl) (by rfl)
  | succ q ih =>
    intro j hj G st hl hr E g4 g10 g11 g19 g22 g26 g27 g28 g30 g173 g174 g175 g179 g180 g181
    have hk' : (j : Int) < ((sp.length : Nat) : Int) := by omega
    have hk2 : j < sp.length := by omega
    have hd : sp.drop j = sp.getD j (0, 0) :: sp.drop (j + 1) := by rw [List.drop_eq_getElem_cons hk2]; simp [hk2]
    obtain ⟨p, hp⟩ : ∃ p, sp.getD j (0, 0) = p := ⟨_, rfl⟩
    rw [hd, hp, List.foldl_cons] at hr
    have la : (st.1.map I).length = st.1.length := List.length_map _
    have hadd : ∀ (o1 o2 o3 o4 : AO), addElem (H ++ [o1, o2, o3, .grow 1 (st.1.map I), o4]) 1 false (.gsl (H.length + 3) st.1.length) [I n] = some (.gsl (H.length + 3) (st.1.length + 1), H ++ [o1, o2, o3, .grow 1 ((st.1 ++ [n]).map I), o4]) := by
      intro o1 o2 o3 o4
      rw [add_gsl (xs := st.1.map I) (by rw [get_at']; rfl) la rfl rfl (by simp; omega), set_at', List.map_append]
      rfl
    obtain ⟨p1, p2⟩ := p
    have hrd : ∀ ty : Ty, readPart (spA (p1, p2)).cells 0 ty = readPart [I p1, I p2] 0 ty := fun _ => rfl
    by_cases h1 : p1 ≤ n
    · by_cases h2 : n ≤ p2
      · have hin : inS n (p1, p2) = true := by simp [inS, h1, h2]
        simp only [agS, hin, if_true] at hr
        cases hf : st.2
        · rw [hf, Bool.false_or] at hr
          simp only [loopIt, todoPast, todoAt, todoOf, firstReg, ↓reduceIte, Option.some.injEq, Nat.reduceEqDiff, reduceCtorEq, Try.f11]
          rw [execL_inLoop]
          simp (maxSteps := 1000000) (implicitDefEqProofs := false) (disch := first | rfl | omega | assumption) only [go_sem, ↓reduceIte, Nat.reduceEqDiff, Nat.reduceAdd, Nat.reduceLeDiff, Nat.reduceBEq, Nat.reduceMul, Nat.reduceLT, Int.reduceLT, Int.reduceLE, Int.reduceToNat, Int.reduceNeg, Int.reduceEq, Int.reduceMul, reduceCtorEq, Int.reduceBEq, Int.reduceBNe, Int.reduceAdd, Int.reduceSub, g4, g10, g11, g19, g22, g26, g27, g28, g30, g173, g174, g175, g179, g180, g181, ltT, ltF, leT, leF, hk', t1, t2, t3, t4, a1, a2, a3, a4, a5, hp, hrd, h1, h2, hadd, hf]
          exact ih (j + 1) (by omega) [.box (.agg [I p1, I p2])] (st.1 ++ [n], n == t) (by simp; omega) hr _ (by rfl) (by rfl) (by rfl) (by rfl) (by rfl) (by rfl) (by simp; rfl) (by rfl) (by rfl) (by rfl) (by rfl) (by rfl) (by rfl) (by rfl) (by rfl)
        · rw [hf, Bool.true_or] at hr
          simp only [loopIt, todoPast, todoAt, todoOf, firstReg, ↓reduceIte, Option.some.injEq, Nat.reduceEqDiff, reduceCtorEq, Try.f11]
          rw [execL_inLoop]
          simp (maxSteps := 1000000) (implicitDefEqProofs := false) (disch := first | rfl | omega | assumption) only [go_sem, ↓reduceIte, Nat.reduceEqDiff, Nat.reduceAdd, Nat.reduceLeDiff, Nat.reduceBEq, Nat.reduceMul, Nat.reduceLT, Int.reduceLT, Int.reduceLE, Int.reduceToNat, Int.reduceNeg, Int.reduceEq, Int.reduceMul, reduceCtorEq, Int.reduceBEq, Int.reduceBNe, Int.reduceAdd, Int.reduceSub, g4, g10, g11, g19, g22, g26, g27, g28, g30, g173, g174, g175, g179, g180, g181, ltT, ltF, leT, leF, hk', t1, t2, t3, t4, a1, a2, a3, a4, a5, hp, hrd, h1, h2, hadd, hf]
          exact ih (j + 1) (by omega) [.box (.agg [I p1, I p2])] (st.1 ++ [n], true) (by simp; omega) hr _ (by rfl) (by rfl) (by rfl) (by rfl) (by rfl) (by rfl) (by simp; rfl) (by rfl) (by rfl) (by rfl) (by rfl) (by rfl) (by rfl) (by rfl) (by rfl)
      · have hin : inS n (p1, p2) = false := by simp [inS, h1, h2]
        simp only [agS, hin, Bool.false_eq_true, if_false] at hr
        simp only [loopIt, todoPast, todoAt, todoOf, firstReg, ↓reduceIte, Option.some.injEq, Nat.reduceEqDiff, reduceCtorEq, Try.f11]
        rw [execL_inLoop]
        simp (maxSteps := 1000000) (implicitDefEqProofs := false) (disch := first | rfl | omega | assumption) only [go_sem, ↓reduceIte, Nat.reduceEqDiff, Nat.reduceAdd, Nat.reduceLeDiff, Nat.reduceBEq, Nat.reduceMul, Nat.reduceLT, Int.reduceLT, Int.reduceLE, Int.reduceToNat, Int.reduceNeg, Int.reduceEq, Int.reduceMul, reduceCtorEq, Int.reduceBEq, Int.reduceBNe, Int.reduceAdd, Int.reduceSub, g4, g10, g11, g19, g22, g26, g27, g28, g30, g173, g174, g175, g179, g180, g181, ltT, ltF, leT, leF, hk', t1, t2, t3, t4, a1, a2, a3, a4, a5, hp, hrd, h1, h2]
        exact ih (j + 1) (by omega) [.box (.agg [I p1, I p2])] st (by omega) hr _ (by rfl) (by rfl) (by rfl) (by rfl) (by rfl) (by rfl) (by rfl) (by rfl) (by rfl) (by rfl) (by rfl) (by rfl) (by rfl) (by rfl) (by rfl)
    · have hin : inS n (p1, p2) = false := by simp [inS, h1]
      simp only [agS, hin, Bool.false_eq_true, if_false] at hr
      simp only [loopIt, todoPast, todoAt, todoOf, firstReg, ↓reduceIte, Option.some.injEq, Nat.reduceEqDiff, reduceCtorEq, Try.f11]
      rw [execL_inLoop]
      simp (maxSteps := 1000000) (implicitDefEqProofs := false) (disch := first | rfl | omega | assumption) only [go_sem, ↓reduceIte, Nat.reduceEqDiff, Nat.reduceAdd, Nat.reduceLeDiff, Nat.reduceBEq, Nat.reduceMul, Nat.reduceLT, Int.reduceLT, Int.reduceLE, Int.reduceToNat, Int.reduceNeg, Int.reduceEq, Int.reduceMul, reduceCtorEq, Int.reduceBEq, Int.reduceBNe, Int.reduceAdd, Int.reduceSub, g4, g10, g11, g19, g22, g26, g27, g28, g30, g173, g174, g175, g179, g180, g181, ltT, ltF, leT, leF, hk', t1, t2, t3, t4, a1, a2, a3, a4, a5, hp, hrd, h1]
      exact ih (j + 1) (by omega) [.box (.agg [I p1, I p2])] st (by omega) hr _ (by rfl) (by rfl) (by rfl) (by rfl) (by rfl) (by rfl) (by rfl) (by rfl) (by rfl) (by rfl) (by rfl) (by rfl) (by rfl) (by rfl) (by rfl)

theorem agO_len (t : Int) (sp : List (Int × Int)) (st : List Int × Bool) (n : Int) : (agO t sp st n).1.length ≤ st.1.length + sp.length := by
  rw [agO, agS_all]
  have : cntS n sp ≤ sp.length := List.countP_le_length
  simp only [List.length_append, List.length_replicate]; omega

theorem ct_out {c : Col} {vw vp : AV} (h : ColAt H c vw vp) {t : Int} (s wz ez : Int) (sp : List (Int × Int)) (hsp : sp.length ≤ 401) (rs : List Rd) (xl : List Int) (hxl : xl.length ≤ 201) (r : List Int × Bool) (K : List Item) (R : Option Done) (hK : ∀ E : Env, E.get 4 = .ptr H.length 0 → E.get 10 = I t → E.get 11 = I s → E.get 22 = I wz → E.get 26 = I ez → E.get 27 = .gsl (H.length + 3) r.1.length → E.get 28 = .bool r.2 → Option.map (finishC H.length) (execL cfg0 prog0 ⟨11, none, false, H.length⟩ K ⟨E, [], H ++ [.box (c.av vw vp), .box (.agg [vw, I c.lo, I c.hi, .gsl (H.length + 2) rs.length]), .grow 3 (rs.map Rd.av), .grow 1 (r.1.map I)], none⟩) = R)  :
    ∀ (q j : Nat), j + q = xl.length → ∀ (G : Heap), ∀ (st : List Int × Bool), st.1.length ≤ 500 * j → (xl.drop j).foldl (agO t sp) st = r → ∀ E : Env, E.get 4 = .ptr H.length 0 → E.get 10 = I t → E.get 11 = I s → E.get 19 = .sl false (sp.map spA) → E.get 22 = I wz → E.get 26 = I ez → E.get 27 = .gsl (H.length + 3) st.1.length → E.get 28 = .bool st.2 → E.get 173 = .sl false (xl.map I) → E.get 174 = I xl.length → E.get 175 = I j →
    Option.map (finishC H.length) (execL cfg0 prog0 ⟨11, none, false, H.length⟩ (loopIt Try.f11 27 :: .inBlock 2 :: K) ⟨E, [], H ++ (.box (c.av vw vp) :: .box (.agg [vw, I c.lo, I c.hi, .gsl (H.length + 2) rs.length]) :: .grow 3 (rs.map Rd.av) :: .grow 1 (st.1.map I) :: G), none⟩) = R := by
  intro q
  have s1 := h.ws.scal
  have s2 := h.ps.scal
  have t1 := h.ws.ltn 4
  have t2 := h.ps.ltn 4
  have t3 := fun l : List Rd => rdLt l 0
  have t4 := fun l : List Int => ltI (N := 0) l
  obtain ⟨a1, a2, a3, a4⟩ := (sl_ok (H := H) (b := false) xl).fI
  have lsp : (sp.map spA).length = sp.length := List.length_map _
  simp only [Col.av] at hK ⊢
  induction q with
  | zero =>
    intro j hj G st hl hr E g4 g10 g11 g19 g22 g26 g27 g28 g173 g174 g175
    have hk' : ¬ (j : Int) < ((xl.length : Nat) : Int) := by omega
    rw [List.drop_of_length_le (by omega)] at hr
    simp only [List.foldl_nil] at hr
    subst hr
    simp only [loopIt, todoPast, todoAt, todoOf, firstReg, ↓reduceIte, Option.some.injEq, Nat.reduceEqDiff, reduceCtorEq, Try.f11]
    rw [execL_inLoop]
    simp (maxSteps := 1000000) (implicitDefEqProofs := false) (disch := first | rfl | omega | assumption) only [go_sem, ↓reduceIte, Nat.reduceEqDiff, Nat.reduceAdd, Nat.reduceLeDiff, Nat.reduceBEq, Nat.reduceMul, Nat.reduceLT, Int.reduceLT, Int.reduceLE, Int.reduceToNat, Int.reduceNeg, Int.reduceEq, Int.reduceMul, reduceCtorEq, Int.reduceBEq, Int.reduceBNe, Int.reduceAdd, Int.reduceSub, g4, g10, g11, g19, g22, g26, g27, g28, g173, g174, g175, ltT, ltF, leT, leF, hk', t1, t2, t3, t4]
    exact hK _ (by rfl) (by rfl) (by rfl) (by rfl) (by rfl) (by rfl) (by rfl)
  | succ q ih =>
    intro j hj G st hl hr E g4 g10 g11 g19 g22 g26 g27 g28 g173 g174 g175
    have hk' : (j : Int) < ((xl.length : Nat) : Int) := by omega
    have hk2 : j < xl.length := by omega
    have hd : xl.drop j = xl.getD j 0 :: xl.drop (j + 1) := by rw [List.drop_eq_getElem_cons hk2]; simp [hk2]
    obtain ⟨n, hn⟩ : ∃ n, xl.getD j 0 = n := ⟨_, rfl⟩
    rw [hd, hn, List.foldl_cons] at hr
    have hlen := agO_len t sp st n
    simp only [loopIt, todoPast, todoAt, todoOf, firstReg, ↓reduceIte, Option.some.injEq, Nat.reduceEqDiff, reduceCtorEq, Try.f11]
    rw [execL_inLoop]
    simp (maxSteps := 1000000) (implicitDefEqProofs := false) (disch := first | rfl | omega | assumption) only [go_sem, ↓reduceIte, Nat.reduceEqDiff, Nat.reduceAdd, Nat.reduceLeDiff, Nat.reduceBEq, Nat.reduceMul, Nat.reduceLT, Int.reduceLT, Int.reduceLE, Int.reduceToNat, Int.reduceNeg, Int.reduceEq, Int.reduceMul, reduceCtorEq, Int.reduceBEq, Int.reduceBNe, Int.reduceAdd, Int.reduceSub, g4, g10, g11, g19, g22, g26, g27, g28, g173, g174, g175, ltT, ltF, leT, leF, hk', t1, t2, t3, t4, a1, a2, a3, a4, hn, lsp]
    refine ct_in h s wz ez sp hsp rs xl (j : Int) (agO t sp st n) _ _ (fun E k4 k10 k11 k19 k22 k26 k27 k28 k173 k174 k175 => ?_) sp.length 0 (by omega) [] st (by omega) (by rw [List.drop_zero]; rfl) _ (by rfl) (by rfl) (by rfl) (by rfl) (by rfl) (by rfl) (by rfl) (by rfl) (by rfl) (by rfl) (by rfl) (by rfl) (by rfl) (by rfl) (by rfl)
    simp only [Col.av]
    simp (maxSteps := 1000000) (implicitDefEqProofs := false) (disch := first | rfl | omega | assumption) only [go_sem, ↓reduceIte, Nat.reduceEqDiff, Nat.reduceAdd, Nat.reduceLeDiff, Nat.reduceBEq, Nat.reduceMul, Nat.reduceLT, Int.reduceLT, Int.reduceLE, Int.reduceToNat, Int.reduceNeg, Int.reduceEq, Int.reduceMul, reduceCtorEq, Int.reduceBEq, Int.reduceBNe, Int.reduceAdd, Int.reduceSub, g4, g10, g11, g19, g22, g26, g27, g28, g173, g174, g175, hk', k4, k10, k11, k19, k22, k26, k27, k28, k173, k174, k175]
    exact ih (j + 1) (by omega) [] (agO t sp st n) (by omega) hr _ (by exact k4) (by exact k10) (by exact k11) (by exact k19) (by exact k22) (by exact k26) (by exact k27) (by exact k28) (by exact k173) (by exact k174) (by rfl)

end Go.Ab
/-
  ColourTrue, walked: no two that agree are parted.
-/
namespace Go.Ab
open Go.Proofs
set_option linter.unusedSimpArgs false
set_option linter.unusedVariables false
set_option maxRecDepth 100000
set_option maxHeartbeats 2000000

variable {H : Heap}

theorem cu_in {c : Col} {vw vp : AV} (h : ColAt H c vw vp) (hl : c.ws.length ≤ 1000 ∧ c.ps.length ≤ 1000) (s : Int) (a : Int) (ag bs : List Int) (hbl : bs.length ≤ 300) (jo : Int) (hb : ∀ j, j < bs.length → c.parts s a (bs.getD j 0) = (false, 0)) (K : List Item) (R : Option Done) (hK : ∀ E : Env, E.get 4 = .ptr H.length 0 → E.get 11 = I s → E.get 27 = .sl false (ag.map I) → E.get 224 = .sl false (ag.map I) → E.get 225 = I ag.length → E.get 226 = I jo → Option.map (finishC H.length) (execL cfg0 prog0 ⟨11, none, false, H.length⟩ K ⟨E, [], H ++ [.box (c.av vw vp)], none⟩) = R)  :
    ∀ (q j : Nat), j + q = bs.length → ∀ E : Env, E.get 4 = .ptr H.length 0 → E.get 11 = I s → E.get 27 = .sl false (ag.map I) → E.get 34 = I a → E.get 224 = .sl false (ag.map I) → E.get 225 = I ag.length → E.get 226 = I jo → E.get 233 = .sl false (bs.map I) → E.get 234 = I bs.length → E.get 235 = I j →
    Option.map (finishC H.length) (execL cfg0 prog0 ⟨11, none, false, H.length⟩ (loopIt Try.f11 42 :: .inBlock 8 :: K) ⟨E, [], H ++ [.box (c.av vw vp)], none⟩) = R := by
  intro q
  have s1 := h.ws.scal
  have s2 := h.ps.scal
  obtain ⟨a1, a2, a3, a4⟩ := (sl_ok (H := H) (b := false) bs).fI
  simp only [Col.av] at hK ⊢
  induction q with
  | zero =>
    intro j hj  E g4 g11 g27 g34 g224 g225 g226 g233 g234 g235
    have hk' : ¬ (j : Int) < ((bs.length : Nat) : Int) := by omega
    simp only [loopIt, todoPast, todoAt, todoOf, firstReg, ↓reduceIte, Option.some.injEq, Nat.reduceEqDiff, reduceCtorEq, Try.f11]
    rw [execL_inLoop]
    simp (maxSteps := 1000000) (implicitDefEqProofs := false) (disch := first | rfl | omega | assumption) only [go_sem, ↓reduceIte, Nat.reduceEqDiff, Nat.reduceAdd, Nat.reduceLeDiff, Nat.reduceBEq, Nat.reduceMul, Nat.reduceLT, Int.reduceLT, Int.reduceLE, Int.reduceToNat, Int.reduceNeg, Int.reduceEq, Int.reduceMul, reduceCtorEq, Int.reduceBEq, Int.reduceBNe, Int.reduceAdd, Int.reduceSub, g4, g11, g27, g34, g224, g225, g226, g233, g234, g235, ltT, ltF, leT, leF, hk']
    exact hK _ (by exact g4) (by exact g11) (by exact g27) (by exact g224) (by exact g225) (by exact g226)
  | succ q ih =>
    intro j hj  E g4 g11 g27 g34 g224 g225 g226 g233 g234 g235
    have hk' : (j : Int) < ((bs.length : Nat) : Int) := by omega
    have hk2 : j < bs.length := by omega
    obtain ⟨b, hbe⟩ : ∃ n, bs.getD j 0 = n := ⟨_, rfl⟩
    have hbj := hb j hk2
    rw [hbe] at hbj
    have hP := fun G : Heap => co_Parts (h.app G) hl s a b
    simp only [hbj, Col.av] at hP
    simp only [loopIt, todoPast, todoAt, todoOf, firstReg, ↓reduceIte, Option.some.injEq, Nat.reduceEqDiff, reduceCtorEq, Try.f11]
    rw [execL_inLoop]
    simp (maxSteps := 1000000) (implicitDefEqProofs := false) (disch := first | rfl | omega | assumption) only [go_sem, ↓reduceIte, Nat.reduceEqDiff, Nat.reduceAdd, Nat.reduceLeDiff, Nat.reduceBEq, Nat.reduceMul, Nat.reduceLT, Int.reduceLT, Int.reduceLE, Int.reduceToNat, Int.reduceNeg, Int.reduceEq, Int.reduceMul, reduceCtorEq, Int.reduceBEq, Int.reduceBNe, Int.reduceAdd, Int.reduceSub, g4, g11, g27, g34, g224, g225, g226, g233, g234, g235, ltT, ltF, leT, leF, hk', s1, s2, a1, a2, a3, a4, hbe, hP]
    exact ih (j + 1) (by omega) _ (by exact g4) (by exact g11) (by exact g27) (by exact g34) (by exact g224) (by exact g225) (by exact g226) (by exact g233) (by exact g234) (by rfl)

theorem cu_out {c : Col} {vw vp : AV} (h : ColAt H c vw vp) (hl : c.ws.length ≤ 1000 ∧ c.ps.length ≤ 1000) (s : Int) (ag : List Int) (hbl : ag.length ≤ 300) (hb : ∀ x ∈ ag, ∀ y ∈ ag, c.parts s x y = (false, 0)) :
    ∀ (q j : Nat), j + q = ag.length → ∀ E : Env, E.get 4 = .ptr H.length 0 → E.get 11 = I s → E.get 27 = .sl false (ag.map I) → E.get 224 = .sl false (ag.map I) → E.get 225 = I ag.length → E.get 226 = I j →
    Option.map (finishC H.length) (execL cfg0 prog0 ⟨11, none, false, H.length⟩ (todoAt Try.f11 39) ⟨E, [], H ++ [.box (c.av vw vp)], none⟩) = some ⟨.ret (.bool true), H, none⟩ := by
  intro q
  have s1 := h.ws.scal
  have s2 := h.ps.scal
  obtain ⟨a1, a2, a3, a4⟩ := (sl_ok (H := H) (b := false) ag).fI
  have hal := fun G : Heap => law_alive G
  simp only [Col.av]
  induction q with
  | zero =>
    intro j hj  E g4 g11 g27 g224 g225 g226
    have hk' : ¬ (j : Int) < ((ag.length : Nat) : Int) := by omega
    simp only [loopIt, todoPast, todoAt, todoOf, firstReg, ↓reduceIte, Option.some.injEq, Nat.reduceEqDiff, reduceCtorEq, Try.f11]
    rw [execL_inLoop]
    simp (maxSteps := 1000000) (implicitDefEqProofs := false) (disch := first | rfl | omega | assumption) only [go_sem, ↓reduceIte, Nat.reduceEqDiff, Nat.reduceAdd, Nat.reduceLeDiff, Nat.reduceBEq, Nat.reduceMul, Nat.reduceLT, Int.reduceLT, Int.reduceLE, Int.reduceToNat, Int.reduceNeg, Int.reduceEq, Int.reduceMul, reduceCtorEq, Int.reduceBEq, Int.reduceBNe, Int.reduceAdd, Int.reduceSub, g4, g11, g27, g224, g225, g226, ltT, ltF, leT, leF, hk', hal]
    done
  | succ q ih =>
    intro j hj  E g4 g11 g27 g224 g225 g226
    have hk' : (j : Int) < ((ag.length : Nat) : Int) := by omega
    have hk2 : j < ag.length := by omega
    obtain ⟨a, ha⟩ : ∃ n, ag.getD j 0 = n := ⟨_, rfl⟩
    have ham : a ∈ ag := by rw [← ha]; exact getD_mem' hk2
    have hall : ((ag.map I).all fun v => v.cells.length == 1) = true := by simp [I, AV.cells]
    have htk : (ag.map I).take j = (ag.take j).map I := List.map_take.symm
    have hbd : (0 ≤ (0 : Int) ∧ (0 : Int) ≤ (j : Int) ∧ (j : Int) ≤ ((ag.map I).length : Int)) = True := by simp; omega
    have hlt : ((ag.take j).map I).length = (ag.take j).length := List.length_map _
    simp only [loopIt, todoPast, todoAt, todoOf, firstReg, ↓reduceIte, Option.some.injEq, Nat.reduceEqDiff, reduceCtorEq, Try.f11]
    rw [execL_inLoop]
    simp (maxSteps := 1000000) (implicitDefEqProofs := false) (disch := first | rfl | omega | assumption) only [go_sem, ↓reduceIte, Nat.reduceEqDiff, Nat.reduceAdd, Nat.reduceLeDiff, Nat.reduceBEq, Nat.reduceMul, Nat.reduceLT, Int.reduceLT, Int.reduceLE, Int.reduceToNat, Int.reduceNeg, Int.reduceEq, Int.reduceMul, reduceCtorEq, Int.reduceBEq, Int.reduceBNe, Int.reduceAdd, Int.reduceSub, g4, g11, g27, g224, g225, g226, ltT, ltF, leT, leF, hk', a1, a2, a3, a4, ha, hall, htk, hbd, hlt, Int.toNat_natCast, List.drop_zero, if_true]
    refine cu_in h hl s a ag (ag.take j) (by rw [List.length_take]; omega) (j : Int) (fun i hi => hb a ham _ ?_) _ _ (fun E k4 k11 k27 k224 k225 k226 => ?_) (ag.take j).length 0 (by omega) _ (by exact g4) (by exact g11) (by exact g27) (by rfl) (by exact g224) (by exact g225) (by exact g226) (by rfl) (by rfl) (by rfl)
    · exact List.mem_of_mem_take (getD_mem' hi)
    · simp only [Col.av]
      simp (maxSteps := 1000000) (implicitDefEqProofs := false) (disch := first | rfl | omega | assumption) only [go_sem, ↓reduceIte, Nat.reduceEqDiff, Nat.reduceAdd, Nat.reduceLeDiff, Nat.reduceBEq, Nat.reduceMul, Nat.reduceLT, Int.reduceLT, Int.reduceLE, Int.reduceToNat, Int.reduceNeg, Int.reduceEq, Int.reduceMul, reduceCtorEq, Int.reduceBEq, Int.reduceBNe, Int.reduceAdd, Int.reduceSub, g4, g11, g27, g224, g225, g226, hk', k4, k11, k27, k224, k225, k226]
      exact ih (j + 1) (by omega) _ (by exact k4) (by exact k11) (by exact k27) (by exact k224) (by exact k225) (by rfl)

/-- The lengths that are told agree, and they alone. -/
theorem told_agree {c : Col} (ho : c.Ok) (h4 : c.ws.length ≤ 4) (t : Int) (ws : List Int) (s : Nat) (x : Int) : x ∈ (c.frg (c.rdF t ws s 0 c.ws.length)).lens (c.frg (c.rdF t ws s 0 c.ws.length)).all ↔ (c.lo ≤ x ∧ x ≤ c.hi) ∧ c.agr t ws s x := by
  have hok : (c.frg (c.rdF t ws s 0 c.ws.length)).Ok := frg_ok ho h4 (rdF_is c t ws s c.ws.length 0 (by omega)) (Nat.le_trans (rdF_len ..) h4)
  rw [mem_lens hok, right_agr]
  rfl

theorem law_ColourTrue {c : Col} {vw vp : AV} (h : ColAt H c vw vp) (w8 b8 : Int) (b1 : 0 ≤ w8 ∧ w8 ≤ 255) (b2 : 0 ≤ b8 ∧ b8 ≤ 255) (f0 : Bool) (ws : List Int) (hws : ∀ x ∈ ws, 0 ≤ x ∧ x ≤ 255) :
    callFL cfg0 prog0 false 11 [c.av vw vp, .int .u8 w8, .int .u8 b8, .sl f0 (ws.map B8)] H none = some ⟨.ret (.bool true), H, none⟩ := by
  have s1 := h.ws.scal
  have s2 := h.ps.scal
  have l1 := h.ws.lt0
  have c1 := h.ws.cel
  have m1 := h.ws.ltn 2
  have m2 := h.ps.ltn 2
  have m3 := h.ws.ltn 1
  have m4 := h.ps.ltn 1
  have l2 := h.ps.lt0
  have hH := fun G : Heap => law_heavy (h.app G) 41
  have hV := fun G : Heap => ref_Colour (h.app G)
  have hlw := h.ws.len
  simp only [Col.av] at hH hV
  rcases Bool.eq_false_or_eq_true (c.heavy 41) with hh | hh
  · simp only [Col.av]
    refine (callFL_eq fn11 rfl (by simp [Try.f11])).trans ?_
    simp (maxSteps := 1000000) (implicitDefEqProofs := false) (disch := first | rfl | omega | assumption) only [go_sem, ↓reduceIte, Nat.reduceEqDiff, Nat.reduceAdd, Nat.reduceLeDiff, Nat.reduceBEq, Nat.reduceMul, Nat.reduceLT, Int.reduceLT, Int.reduceLE, Int.reduceToNat, Int.reduceNeg, Int.reduceEq, Int.reduceMul, reduceCtorEq, Int.reduceBEq, Int.reduceBNe, Int.reduceAdd, Int.reduceSub, s1, s2, hH, hh, law_alive]
    done
  have hlong : c.ws.length ≤ 40 ∧ c.ps.length ≤ 40 := by
    simp only [Col.heavy, Bool.or_eq_false_iff] at hh
    exact c.long_false hh.1
  rcases Bool.eq_false_or_eq_true c.valid with hv | hv
  rotate_left
  · simp only [Col.av]
    refine (callFL_eq fn11 rfl (by simp [Try.f11])).trans ?_
    simp (maxSteps := 1000000) (implicitDefEqProofs := false) (disch := first | rfl | omega | assumption) only [go_sem, ↓reduceIte, Nat.reduceEqDiff, Nat.reduceAdd, Nat.reduceLeDiff, Nat.reduceBEq, Nat.reduceMul, Nat.reduceLT, Int.reduceLT, Int.reduceLE, Int.reduceToNat, Int.reduceNeg, Int.reduceEq, Int.reduceMul, reduceCtorEq, Int.reduceBEq, Int.reduceBNe, Int.reduceAdd, Int.reduceSub, s1, s2, hH, hh, hV, hv, law_alive]
    done
  by_cases h4 : c.ws.length ≤ 4
  rotate_left
  · have hgt : (4 : Int) < c.ws.length := by omega
    simp only [Col.av]
    refine (callFL_eq fn11 rfl (by simp [Try.f11])).trans ?_
    simp (maxSteps := 1000000) (implicitDefEqProofs := false) (disch := first | rfl | omega | assumption) only [go_sem, ↓reduceIte, Nat.reduceEqDiff, Nat.reduceAdd, Nat.reduceLeDiff, Nat.reduceBEq, Nat.reduceMul, Nat.reduceLT, Int.reduceLT, Int.reduceLE, Int.reduceToNat, Int.reduceNeg, Int.reduceEq, Int.reduceMul, reduceCtorEq, Int.reduceBEq, Int.reduceBNe, Int.reduceAdd, Int.reduceSub, ltT, ltF, leT, leF, s1, s2, hH, hh, hV, hv, law_alive, hlw, List.length_map, hgt]
    done
  have hngt : ¬ (4 : Int) < c.ws.length := by omega
  have ho := c.valid_iff.1 hv
  have hlen := ho.len
  have hlo := ho.lo
  have mb := ho.many_bd
  obtain ⟨n1, rfl⟩ : ∃ n : Nat, w8 = n := ⟨w8.toNat, by omega⟩
  obtain ⟨n3, rfl⟩ : ∃ n : Nat, b8 = n := ⟨b8.toNat, by omega⟩
  have t3 := shlI ho
  have t4 := sOf_bits ho (b := n3) (by omega)
  have hs := c.sOf_lt ho n3
  have hss := c.sOf_isSet ho n3
  have hp2 : (2 : Nat) ^ c.ws.length ≤ 2 ^ 6 := Nat.pow_le_pow_right (by omega) hlen.2
  have hp3 := Nat.pow_pos (n := c.ws.length) (show 0 < 2 by omega)
  have z : ¬ (c.ws.length : Int) < 0 := by omega
  generalize c.sOf n3 = s at *
  have r1 : ((n1 : Nat) : Int).tmod (c.manyN : Int) = ((n1 % c.manyN : Nat) : Int) := by rw [Int.tmod_eq_emod_of_nonneg (Int.natCast_nonneg _)]; rfl
  have r2 : n1 % c.manyN < c.manyN := Nat.mod_lt _ (by omega)
  have hLs := fun G : Heap => law_lengths (h.app G) ho
  have ll := c.lens_len
  have hll : (c.lens.map I).length = c.manyN := by rw [List.length_map, ll]
  have hlg := c.lens_getD (j := n1 % c.manyN)
  obtain ⟨a1, a2, a3, a4⟩ := (sl_ok (H := H) (b := false) c.lens).fI
  have htb := ho.lenAt_bd r2
  generalize hti : n1 % c.manyN = ti at *
  have hmz : ¬ (c.manyN : Int) = 0 := by omega
  -- what is told
  obtain ⟨rs, hrs⟩ : ∃ x, c.rdF (c.lenAt ti) ws s 0 c.ws.length = x := ⟨_, rfl⟩
  have hrl : rs.length ≤ c.ws.length := by rw [← hrs]; exact rdF_len ..
  have hok : (c.frg rs).Ok := frg_ok ho h4 (by rw [← hrs]; exact rdF_is c _ ws s c.ws.length 0 (by omega)) (by omega)
  have hvl := (c.frg rs).valid_iff.2 hok
  have htold := fun x => told_agree ho h4 (c.lenAt ti) ws s x
  rw [hrs] at htold
  obtain ⟨L, hL⟩ : ∃ x, (c.frg rs).lens (c.frg rs).all = x := ⟨_, rfl⟩
  have hLl : L.length ≤ 401 := by
    have := lensF_len (c.frg rs) (c.frg rs).all ((c.frg rs).hi + 1 - (c.frg rs).lo).toNat (c.frg rs).lo
    have e : (c.frg rs).lensF (c.frg rs).all (c.frg rs).lo ((c.frg rs).hi + 1 - (c.frg rs).lo).toNat = L := hL
    rw [e] at this
    simp only [Col.frg] at this
    omega
  have hcnt := fun m => spans_cnt (c.frg rs) (c.frg rs).all m
  rw [hL] at htold
  simp only [hL] at hcnt
  have hspl : (spans L).length ≤ 401 := by
    have key : ∀ (xs : List Int) (acc : List (Int × Int)), (xs.foldl spStep acc).length ≤ acc.length + xs.length := by
      intro xs
      induction xs with
      | nil => intro acc; simp
      | cons x r ih =>
        intro acc
        rw [List.foldl_cons]
        have h1 := ih (spStep acc x)
        have h2 : (spStep acc x).length ≤ acc.length + 1 := by
          rcases List.eq_nil_or_concat acc with rfl | ⟨ini, p, rfl⟩
          · simp [spStep]
          · by_cases hc : p.2 + 1 = x <;> simp [spStep, hc]
        simp only [List.length_cons]; omega
    have := key L []
    simp only [spans]; simp at this; omega
  obtain ⟨hag, hfd⟩ := agree_ok ho r2 (ws := ws) (s := s) (g := fun x => decide (x ∈ L)) (fun x => by rw [decide_eq_true_eq]; exact htold x)
  have hmem : c.lenAt ti ∈ L := (htold _).2 ⟨by
    have hev := ho.ev
    have h1 : (ti : Int) ≤ (c.hi - c.lo) / c.ev := by
      have : 0 ≤ (c.hi - c.lo) / c.ev := Int.ediv_nonneg (by omega) (by omega)
      have hti2 := r2
      simp only [Col.manyN] at hti2; omega
    have h2 := Int.mul_le_mul_of_nonneg_right h1 (show 0 ≤ c.ev by omega)
    have h3 := Int.ediv_mul_le (c.hi - c.lo) (show c.ev ≠ 0 by omega)
    have h4 : 0 ≤ (ti : Int) * c.ev := Int.mul_nonneg (by omega) (by omega)
    simp only [Col.lenAt]; omega, agr_self ho _ ws s⟩
  have hne : L.isEmpty = false := by cases L with
    | nil => cases hmem
    | cons a b => rfl
  have hall := agO_all (c.lenAt ti) (spans L) (fun x => decide (x ∈ L)) (fun m => by rw [hcnt m]; by_cases hm : m ∈ L <;> simp [hm]) c.lens ([], false)
  simp only [List.nil_append, Bool.false_or] at hall
  rw [hfd] at hall
  have hagg : ∀ x ∈ c.lens.filter (fun x => decide (x ∈ L)), ∀ y ∈ c.lens.filter (fun x => decide (x ∈ L)), c.parts s x y = (false, 0) := by
    intro x hx y hy
    have bx := hag.bd x hx
    have by' := hag.bd y hy
    have hp := hag.same x hx y hy
    simp only [Col.parts, hv, hss, wi_iff.2 bx, wi_iff.2 by', Bool.and_self, if_true, Int.toNat_natCast, hp]
  generalize hagn : c.lens.filter (fun x => decide (x ∈ L)) = ag at *
  have h1 := fun G : Heap => co_Pairs (h.app G) (by omega) s
  have h2 := fun G : Heap => co_Alike (h.app G) (by omega) s
  simp only [Col.pairsR, hv, hss, if_true, Int.toNat_natCast] at h1
  have hFr : ∀ (o1 o2 : AO) (G : Heap), FrAt (H ++ (o1 :: o2 :: .grow 3 (rs.map Rd.av) :: G)) (c.frg rs) vw (.gsl (H.length + 2) rs.length) := fun o1 o2 G =>
    ⟨h.ws.app _, ⟨⟨by rw [get_at']; rfl, by simp [Col.frg]⟩, fun x hx => by obtain ⟨i, _, rfl⟩ := List.mem_map.1 hx; rfl⟩⟩
  have hFl := fun (o1 o2 : AO) (G : Heap) => fr_Lengths (hFr o1 o2 G) (by simp only [Col.frg]; omega)
  simp only [hvl, if_true, hL, hne, Bool.false_eq_true, if_false] at hFl
  simp only [show (c.frg rs).lo = c.lo from rfl, show (c.frg rs).hi = c.hi from rfl] at hFl
  have hl3 := rdLt rs 0
  have hli : ltL 0 (ag.map I) = true := ltI _
  have hla : (ag.map I).length = ag.length := List.length_map _
  have hfew := hag.few
  have hnf : ¬ c.worstR s < (ag.length : Int) := by omega
  have hone := hag.one
  have hsome := hag.some
  simp only [Col.av] at h1 h2 hLs ⊢
  rcases ha : c.alkR s with _ | ⟨x, y⟩
  · simp only [Col.alikeR, hv, hss, if_true, Int.toNat_natCast, ha] at h2
    have hag1 := hone ha
    have hb1 : (((ag.length : Nat) : Int) != 1) = false := by rw [hag1]; rfl
    refine (callFL_eq fn11 rfl (by simp [Try.f11])).trans ?_
    simp (maxSteps := 1000000) (implicitDefEqProofs := false) (disch := first | rfl | omega | assumption) only [go_sem, ↓reduceIte, Nat.reduceEqDiff, Nat.reduceAdd, Nat.reduceLeDiff, Nat.reduceBEq, Nat.reduceMul, Nat.reduceLT, Int.reduceLT, Int.reduceLE, Int.reduceToNat, Int.reduceNeg, Int.reduceEq, Int.reduceMul, reduceCtorEq, Int.reduceBEq, Int.reduceBNe, Int.reduceAdd, Int.reduceSub, ltT, ltF, leT, leF, s1, s2, hH, hh, hV, hv, hlw, List.length_map, hngt, hLs]
    rw [chkK_of]; rotate_left; kernel_rfl
    simp (maxSteps := 1000000) (implicitDefEqProofs := false) (disch := first | rfl | omega | assumption) only [go_sem, ↓reduceIte, Nat.reduceEqDiff, Nat.reduceAdd, Nat.reduceLeDiff, Nat.reduceBEq, Nat.reduceMul, Nat.reduceLT, Int.reduceLT, Int.reduceLE, Int.reduceToNat, Int.reduceNeg, Int.reduceEq, Int.reduceMul, reduceCtorEq, Int.reduceBEq, Int.reduceBNe, Int.reduceAdd, Int.reduceSub, ltT, ltF, leT, leF, s1, s2, hlw, List.length_map, hLs, ll, r1, hti, hlg, a1, a2, a3, a4, hmz, z, t3, t4, m1, m2, c1, List.getD_cons_zero, List.getD_cons_succ]
    refine ct_read h ho h4 htb hs.1 f0 ws hws rs (.sl false (c.lens.map I)) _ _ (fun E k3 k4 k9 k10 k11 k12 => ?_) c.ws.length 0 (by omega) [] (by intro r hr; cases hr) (by simp) (by rw [List.nil_append]; exact hrs) _ (by rfl) (by rfl) (by rfl) (by rfl) (by rfl) (by rfl) (by rfl) (by rfl)
    simp only [Col.av]
    simp (maxSteps := 1000000) (implicitDefEqProofs := false) (disch := first | rfl | omega | assumption) only [go_sem, ↓reduceIte, Nat.reduceEqDiff, Nat.reduceAdd, Nat.reduceLeDiff, Nat.reduceBEq, Nat.reduceMul, Nat.reduceLT, Int.reduceLT, Int.reduceLE, Int.reduceToNat, Int.reduceNeg, Int.reduceEq, Int.reduceMul, reduceCtorEq, Int.reduceBEq, Int.reduceBNe, Int.reduceAdd, Int.reduceSub, k3, k4, k9, k10, k11, k12, hFl, h1, h2, s1, s2]
    refine ct_out h s (c.worstR s) 4 (spans L) hspl rs c.lens (by omega) (ag, true) _ _ (fun E k4 k10 k11 k22 k26 k27 k28 => ?_) c.lens.length 0 (by omega) [] ([], false) (by simp) (by rw [List.drop_zero]; exact hall) _ (by exact k4) (by exact k10) (by exact k11) (by rfl) (by rfl) (by rfl) (by rfl) (by rfl) (by rfl) (by rfl) (by rfl)
    simp only [Col.av]
    simp (maxSteps := 1000000) (implicitDefEqProofs := false) (disch := first | rfl | omega | assumption) only [go_sem, ↓reduceIte, Nat.reduceEqDiff, Nat.reduceAdd, Nat.reduceLeDiff, Nat.reduceBEq, Nat.reduceMul, Nat.reduceLT, Int.reduceLT, Int.reduceLE, Int.reduceToNat, Int.reduceNeg, Int.reduceEq, Int.reduceMul, reduceCtorEq, Int.reduceBEq, Int.reduceBNe, Int.reduceAdd, Int.reduceSub, ltT, ltF, leT, leF, k4, k10, k11, k22, k26, k27, k28, s1, s2, hb1, hla, hli, m3, m4, hl3, hnf]
    exact cu_out h (by omega) s ag hsome hagg ag.length 0 (by omega) _ (by rfl) (by rfl) (by rfl) (by rfl) (by rfl) (by rfl)
  · simp only [Col.alikeR, hv, hss, if_true, Int.toNat_natCast, ha] at h2
    refine (callFL_eq fn11 rfl (by simp [Try.f11])).trans ?_
    simp (maxSteps := 1000000) (implicitDefEqProofs := false) (disch := first | rfl | omega | assumption) only [go_sem, ↓reduceIte, Nat.reduceEqDiff, Nat.reduceAdd, Nat.reduceLeDiff, Nat.reduceBEq, Nat.reduceMul, Nat.reduceLT, Int.reduceLT, Int.reduceLE, Int.reduceToNat, Int.reduceNeg, Int.reduceEq, Int.reduceMul, reduceCtorEq, Int.reduceBEq, Int.reduceBNe, Int.reduceAdd, Int.reduceSub, ltT, ltF, leT, leF, s1, s2, hH, hh, hV, hv, hlw, List.length_map, hngt, hLs]
    rw [chkK_of]; rotate_left; kernel_rfl
    simp (maxSteps := 1000000) (implicitDefEqProofs := false) (disch := first | rfl | omega | assumption) only [go_sem, ↓reduceIte, Nat.reduceEqDiff, Nat.reduceAdd, Nat.reduceLeDiff, Nat.reduceBEq, Nat.reduceMul, Nat.reduceLT, Int.reduceLT, Int.reduceLE, Int.reduceToNat, Int.reduceNeg, Int.reduceEq, Int.reduceMul, reduceCtorEq, Int.reduceBEq, Int.reduceBNe, Int.reduceAdd, Int.reduceSub, ltT, ltF, leT, leF, s1, s2, hlw, List.length_map, hLs, ll, r1, hti, hlg, a1, a2, a3, a4, hmz, z, t3, t4, m1, m2, c1, List.getD_cons_zero, List.getD_cons_succ]
    refine ct_read h ho h4 htb hs.1 f0 ws hws rs (.sl false (c.lens.map I)) _ _ (fun E k3 k4 k9 k10 k11 k12 => ?_) c.ws.length 0 (by omega) [] (by intro r hr; cases hr) (by simp) (by rw [List.nil_append]; exact hrs) _ (by rfl) (by rfl) (by rfl) (by rfl) (by rfl) (by rfl) (by rfl) (by rfl)
    simp only [Col.av]
    simp (maxSteps := 1000000) (implicitDefEqProofs := false) (disch := first | rfl | omega | assumption) only [go_sem, ↓reduceIte, Nat.reduceEqDiff, Nat.reduceAdd, Nat.reduceLeDiff, Nat.reduceBEq, Nat.reduceMul, Nat.reduceLT, Int.reduceLT, Int.reduceLE, Int.reduceToNat, Int.reduceNeg, Int.reduceEq, Int.reduceMul, reduceCtorEq, Int.reduceBEq, Int.reduceBNe, Int.reduceAdd, Int.reduceSub, k3, k4, k9, k10, k11, k12, hFl, h1, h2, s1, s2]
    refine ct_out h s (c.worstR s) 0 (spans L) hspl rs c.lens (by omega) (ag, true) _ _ (fun E k4 k10 k11 k22 k26 k27 k28 => ?_) c.lens.length 0 (by omega) [] ([], false) (by simp) (by rw [List.drop_zero]; exact hall) _ (by exact k4) (by exact k10) (by exact k11) (by rfl) (by rfl) (by rfl) (by rfl) (by rfl) (by rfl) (by rfl) (by rfl)
    simp only [Col.av]
    simp (maxSteps := 1000000) (implicitDefEqProofs := false) (disch := first | rfl | omega | assumption) only [go_sem, ↓reduceIte, Nat.reduceEqDiff, Nat.reduceAdd, Nat.reduceLeDiff, Nat.reduceBEq, Nat.reduceMul, Nat.reduceLT, Int.reduceLT, Int.reduceLE, Int.reduceToNat, Int.reduceNeg, Int.reduceEq, Int.reduceMul, reduceCtorEq, Int.reduceBEq, Int.reduceBNe, Int.reduceAdd, Int.reduceSub, ltT, ltF, leT, leF, k4, k10, k11, k22, k26, k27, k28, s1, s2, hla, hli, m3, m4, hl3, hnf]
    exact cu_out h (by omega) s ag hsome hagg ag.length 0 (by omega) _ (by rfl) (by rfl) (by rfl) (by rfl) (by rfl) (by rfl)

end Go.Ab
