/-
  Package pair: the tables of all comparators: what is done for each.
-/
import Derived.Test.YtmbdllgegkpfkaaKK1
namespace Go.Ab
open Go.Proofs
set_option linter.unusedSimpArgs false
set_option linter.unusedVariables false
set_option maxRecDepth 100000
set_option maxHeartbeats 2000000

variable {H : Heap}


def filB (i : Nat) : Nat → Nat → List Int → List Int
  | _, 0, t => t
  | j, q + 1, t => filB i (j + 1) q (ts t i j (if i = j then 0 else 1048576))
def filA : Nat → Nat → List Int → List Int
  | _, 0, t => t
  | j, q + 1, t => filA (j + 1) q (filB j 0 6 t)
theorem fill_tab0 : filA 0 6 tz = tab0 := by decide
theorem fillB_len (i : Nat) : ∀ (q j : Nat) (t : List Int), t.length = 36 → (filB i j q t).length = 36
  | 0, j, t, h => h
  | q + 1, j, t, h => fillB_len i q (j + 1) _ (by rw [ts_len, h])

theorem ts_ts (t : List Int) (a b : Nat) (v w : Int) : ts (ts t a b v) a b w = ts t a b w := by simp [ts]

theorem tb_l8 (l pl : Nat) (v3 : AV) (o : AO) (i : Nat) (hi : i < 6) (r : List Int) (K : List Item) (R : Option Done) (hK : ∀ E : Env, E.get 2 = .ptr pl 0 → E.get 3 = v3 → E.get 4 = .ptr H.length 0 → E.get 5 = .ptr (H.length + 1) 0 → E.get 16 = I i → Option.map (finishC H.length) (execL cfg0 prog0 ⟨77, (some l), false, H.length⟩ K ⟨E, [], H ++ [o, .box (.agg (r.map I))], none⟩) = R)  :
    ∀ (q j : Nat), j + q = 6 → ∀ (t : List Int), t.length = 36 → filB i j q t = r → ∀ E : Env, E.get 2 = .ptr pl 0 → E.get 3 = v3 → E.get 4 = .ptr H.length 0 → E.get 5 = .ptr (H.length + 1) 0 → E.get 6 = I i → E.get 16 = I i → E.get 19 = I j →
    Option.map (finishC H.length) (execL cfg0 prog0 ⟨77, (some l), false, H.length⟩ (loopIt Try.f77 8 :: .inBlock 4 :: K) ⟨E, [], H ++ [o, .box (.agg (t.map I))], none⟩) = R := by
  intro q
  have hi6 : ((i : Nat) : Int) < 6 := by omega
  induction q with
  | zero =>
    intro j hj t hl hr E g2 g3 g4 g5 g6 g16 g19
    have hk' : ¬ (j : Int) < ((6 : Nat) : Int) := by omega
    simp only [filB] at hr
    subst hr
    simp only [loopIt, todoPast, todoAt, todoOf, firstReg, ↓reduceIte, Option.some.injEq, Nat.reduceEqDiff, reduceCtorEq, Try.f77]
    rw [execL_inLoop]
    simp (maxSteps := 1000000) (implicitDefEqProofs := false) (disch := first | rfl | omega | assumption) only [go_sem, g2, g3, g4, g5, g6, g16, g19, ltT, ltF, leT, leF, hk']
    exact hK _ (by exact g2) (by exact g3) (by exact g4) (by exact g5) (by exact g16)
  | succ q ih =>
    intro j hj t hl hr E g2 g3 g4 g5 g6 g16 g19
    have hk' : (j : Int) < ((6 : Nat) : Int) := by omega
    have hk2 : j < 6 := by omega
    simp only [filB] at hr
    have h4 := tlen hl
    have hj6 : ((j : Nat) : Int) < 6 := by omega
    have hsz := lt36 hi hk2
    have hs1 := ts_set hl hi hk2 1048576
    have hl1 : (ts t i j 1048576).length = 36 := by rw [ts_len, hl]
    have h41 := tlen hl1
    by_cases e : i = j
    · have eb : (((i : Nat) : Int) == ((j : Nat) : Int)) = true := by simp [e]
      have hs2 := ts_set hl1 hi hk2 0
      rw [ts_ts] at hs2
      rw [if_pos e] at hr
      simp only [loopIt, todoPast, todoAt, todoOf, firstReg, ↓reduceIte, Option.some.injEq, Nat.reduceEqDiff, reduceCtorEq, Try.f77]
      rw [execL_inLoop]
      simp (maxSteps := 1000000) (implicitDefEqProofs := false) (disch := first | rfl | omega | assumption) only [go_sem, g2, g3, g4, g5, g6, g16, g19, ltT, ltF, leT, leF, hk', h4, hi6, hj6, hsz, hs1, eb, h41, hs2]
      exact ih (j + 1) (by omega) _ (by rw [ts_len, hl]) hr _ (by exact g2) (by exact g3) (by exact g4) (by exact g5) (by exact g6) (by exact g16) (by rfl)
    · have eb : (((i : Nat) : Int) == ((j : Nat) : Int)) = false := by simp; omega
      rw [if_neg e] at hr
      simp only [loopIt, todoPast, todoAt, todoOf, firstReg, ↓reduceIte, Option.some.injEq, Nat.reduceEqDiff, reduceCtorEq, Try.f77]
      rw [execL_inLoop]
      simp (maxSteps := 1000000) (implicitDefEqProofs := false) (disch := first | rfl | omega | assumption) only [go_sem, g2, g3, g4, g5, g6, g16, g19, ltT, ltF, leT, leF, hk', h4, hi6, hj6, hsz, hs1, eb]
      exact ih (j + 1) (by omega) _ hl1 hr _ (by exact g2) (by exact g3) (by exact g4) (by exact g5) (by exact g6) (by exact g16) (by rfl)

theorem tb_l5 (l pl : Nat) (v3 : AV) (o : AO) (r : List Int) (K : List Item) (R : Option Done) (hK : ∀ E : Env, E.get 2 = .ptr pl 0 → E.get 3 = v3 → E.get 4 = .ptr H.length 0 → E.get 5 = .ptr (H.length + 1) 0 → Option.map (finishC H.length) (execL cfg0 prog0 ⟨77, (some l), false, H.length⟩ K ⟨E, [], H ++ [o, .box (.agg (r.map I))], none⟩) = R)  :
    ∀ (q j : Nat), j + q = 6 → ∀ (t : List Int), t.length = 36 → filA j q t = r → ∀ E : Env, E.get 2 = .ptr pl 0 → E.get 3 = v3 → E.get 4 = .ptr H.length 0 → E.get 5 = .ptr (H.length + 1) 0 → E.get 16 = I j →
    Option.map (finishC H.length) (execL cfg0 prog0 ⟨77, (some l), false, H.length⟩ (loopIt Try.f77 5 :: .inBlock 2 :: K) ⟨E, [], H ++ [o, .box (.agg (t.map I))], none⟩) = R := by
  intro q
  induction q with
  | zero =>
    intro j hj t hl hr E g2 g3 g4 g5 g16
    have hk' : ¬ (j : Int) < ((6 : Nat) : Int) := by omega
    simp only [filA] at hr
    subst hr
    simp only [loopIt, todoPast, todoAt, todoOf, firstReg, ↓reduceIte, Option.some.injEq, Nat.reduceEqDiff, reduceCtorEq, Try.f77]
    rw [execL_inLoop]
    simp (maxSteps := 1000000) (implicitDefEqProofs := false) (disch := first | rfl | omega | assumption) only [go_sem, g2, g3, g4, g5, g16, ltT, ltF, leT, leF, hk']
    exact hK _ (by exact g2) (by exact g3) (by exact g4) (by exact g5)
  | succ q ih =>
    intro j hj t hl hr E g2 g3 g4 g5 g16
    have hk' : (j : Int) < ((6 : Nat) : Int) := by omega
    have hk2 : j < 6 := by omega
    simp only [filA] at hr
    have hin := tb_l8 (H := H) l pl v3 o j hk2 (filB j 0 6 t)
    simp only [loopIt, todoPast, todoAt, todoOf, firstReg, ↓reduceIte, Option.some.injEq, Nat.reduceEqDiff, reduceCtorEq, Try.f77]
    rw [execL_inLoop]
    simp (maxSteps := 1000000) (implicitDefEqProofs := false) (disch := first | rfl | omega | assumption) only [go_sem, g2, g3, g4, g5, g16, ltT, ltF, leT, leF, hk']
    refine hin _ _ (fun E g2 g3 g4 g5 g16 => ?_) 6 0 (by omega) t hl rfl _ (by exact g2) (by exact g3) (by exact g4) (by exact g5) (by rfl) (by exact g16) (by rfl)
    simp (maxSteps := 1000000) (implicitDefEqProofs := false) (disch := first | rfl | omega | assumption) only [go_sem, g2, g3, g4, g5, g16, ltT, ltF, leT, leF, hk']
    exact ih (j + 1) (by omega) _ (fillB_len j 6 0 t hl) hr _ (by exact g2) (by exact g3) (by exact g4) (by exact g5) (by rfl)

/-- A bound. -/
inductive Bd where
  | kn (i : Nat) (lo hi : Int)
  | sh (x : Pt)

def Bd.av : Bd → AV
  | .kn i lo hi => .iface 150 (.agg [I i, I 5, I lo, I hi])
  | .sh x => .iface 152 (.agg [I x.a, I x.b, I x.lo, I x.hi, I x.m])
def Bd.ok : Bd → Prop
  | .kn i lo hi => i < 5 ∧ -1000 ≤ lo ∧ lo ≤ 1000
  | .sh x => (0 ≤ x.a ∧ x.a < 5) ∧ (0 ≤ x.b ∧ x.b < 5) ∧ (0 ≤ x.m ∧ x.m ≤ 60) ∧ (-80 ≤ x.lo ∧ x.lo ≤ x.hi ∧ x.hi ≤ 80)
def Bd.put (z r : Int) : Bd → List Int → List Int
  | .kn i lo hi, t => putK i 5 lo hi t
  | .sh x, t => putR z r x t
def putL (z r : Int) (l : List Bd) (t : List Int) : List Int := l.foldl (fun t b => b.put z r t) t

theorem put_len (z r : Int) (b : Bd) (t : List Int) : (b.put z r t).length = t.length := by
  cases b <;> simp only [Bd.put, putR, putK_len]
theorem putL_len (z r : Int) : ∀ (l : List Bd) (t : List Int), (putL z r l t).length = t.length
  | [], t => rfl
  | b :: l, t => by
    have := putL_len z r l (b.put z r t)
    rw [put_len] at this
    exact this

def bd0 : Bd := .kn 0 0 0

theorem tb_l16 (l pl : Nat) (v3 : AV) (L : List Bd) (hL : ∀ b ∈ L, b.ok) (hLl : L.length ≤ 100) {z r0 : Int} (hz : -10 ≤ z ∧ z ≤ 10) (hr0 : -5 ≤ r0 ∧ r0 ≤ 5) (r : List Int) (K : List Item) (R : Option Done) (hK : ∀ E : Env, E.get 2 = .ptr pl 0 → E.get 3 = v3 → E.get 4 = .ptr H.length 0 → E.get 5 = .ptr (H.length + 1) 0 → Option.map (finishC H.length) (execL cfg0 prog0 ⟨77, (some l), false, H.length⟩ K ⟨E, [], H ++ [.box (.agg [I z, I r0]), .box (.agg (r.map I))], none⟩) = R)  :
    ∀ (q j : Nat), j + q = L.length → ∀ (t : List Int), t.length = 36 → putL z r0 (L.drop j) t = r → ∀ E : Env, E.get 2 = .ptr pl 0 → E.get 3 = v3 → E.get 4 = .ptr H.length 0 → E.get 5 = .ptr (H.length + 1) 0 → E.get 35 = .sl false (L.map Bd.av) → E.get 36 = I L.length → E.get 37 = I j →
    Option.map (finishC H.length) (execL cfg0 prog0 ⟨77, (some l), false, H.length⟩ (loopIt Try.f77 16 :: .inBlock 6 :: K) ⟨E, [], H ++ [.box (.agg [I z, I r0]), .box (.agg (t.map I))], none⟩) = R := by
  intro q
  obtain ⟨a1, a2, a3, a4, a5⟩ := (show SlOk H 1 (.sl false (L.map Bd.av)) (L.map Bd.av) from ⟨rfl, fun x hx => by obtain ⟨b, _, rfl⟩ := List.mem_map.1 hx; cases b <;> rfl⟩).fF (d := bd0)
  induction q with
  | zero =>
    intro j hj t hl hr E g2 g3 g4 g5 g35 g36 g37
    have hk' : ¬ (j : Int) < ((L.length : Nat) : Int) := by omega
    rw [List.drop_of_length_le (by omega)] at hr
    simp only [putL, List.foldl_nil] at hr
    subst hr
    simp only [loopIt, todoPast, todoAt, todoOf, firstReg, ↓reduceIte, Option.some.injEq, Nat.reduceEqDiff, reduceCtorEq, Try.f77]
    rw [execL_inLoop]
    simp (maxSteps := 1000000) (implicitDefEqProofs := false) (disch := first | rfl | omega | assumption) only [go_sem, g2, g3, g4, g5, g35, g36, g37, ltT, ltF, leT, leF, hk']
    exact hK _ (by exact g2) (by exact g3) (by exact g4) (by exact g5)
  | succ q ih =>
    intro j hj t hl hr E g2 g3 g4 g5 g35 g36 g37
    have hk' : (j : Int) < ((L.length : Nat) : Int) := by omega
    have hk2 : j < L.length := by omega
    have hd : L.drop j = L.getD j bd0 :: L.drop (j + 1) := by rw [List.drop_eq_getElem_cons hk2]; simp [hk2]
    have hm : L.getD j bd0 ∈ L := by simp only [List.getD_eq_getElem?_getD, List.getElem?_eq_getElem hk2, Option.getD_some]; exact List.getElem_mem hk2
    have hok := hL _ hm
    rw [hd] at hr
    simp only [putL, List.foldl_cons] at hr
    obtain ⟨b, eb⟩ : ∃ b, L.getD j bd0 = b := ⟨_, rfl⟩
    rw [eb] at hok hr
    have h4 := tlen hl
    have h5 := ttake hl
    have hlp : (b.put z r0 t).length = 36 := by rw [put_len, hl]
    have h6 := tlen hlp
    have h7 := ttake hlp
    have h8 : List.drop 36 (t.map I) = [] := List.drop_of_length_le (by rw [h4]; omega)
    cases b with
    | kn i lo hi =>
      have hP := fun G : Heap => pr_put hl (show i < 6 by have := hok.1; omega) (show 5 < 6 by omega) (lo := lo) (hi := hi) hok.2 (.agg [I z, I r0]) ⟨z, r0, rfl⟩ G
      have e5 : ((5 : Nat) : Int) = 5 := rfl
      rw [e5] at hP
      simp only [Bd.put] at h6 h7
      have hav : readPart (Bd.av (.kn i lo hi)).cells 0 = readPart [.iface 150 (.agg [I i, I 5, I lo, I hi])] 0 := rfl
      simp only [loopIt, todoPast, todoAt, todoOf, firstReg, ↓reduceIte, Option.some.injEq, Nat.reduceEqDiff, reduceCtorEq, Try.f77]
      rw [execL_inLoop]
      simp (maxSteps := 1000000) (implicitDefEqProofs := false) (disch := first | rfl | omega | assumption) only [go_sem, g2, g3, g4, g5, g35, g36, g37, ltT, ltF, leT, leF, hk', a1, a2, a3, a4, eb, hav, alI, h4, h5, hP, h6, h7, h8, Nat.le_refl]
      exact ih (j + 1) (by omega) _ hlp hr _ (by exact g2) (by exact g3) (by exact g4) (by exact g5) (by exact g35) (by exact g36) (by rfl)
    | sh x =>
      obtain ⟨k1, k2, k3, k4⟩ := hok
      have hP := fun G : Heap => pr_putR hl (x := x) (a := x.a.toNat) (b := x.b.toNat) (by omega) (by omega) (by omega) (by omega) k3 k4 hz hr0 G
      simp only [Bd.put] at h6 h7
      have hav : readPart (Bd.av (.sh x)).cells 0 = readPart [.iface 152 (.agg [I x.a, I x.b, I x.lo, I x.hi, I x.m])] 0 := rfl
      simp only [loopIt, todoPast, todoAt, todoOf, firstReg, ↓reduceIte, Option.some.injEq, Nat.reduceEqDiff, reduceCtorEq, Try.f77]
      rw [execL_inLoop]
      simp (maxSteps := 1000000) (implicitDefEqProofs := false) (disch := first | rfl | omega | assumption) only [go_sem, g2, g3, g4, g5, g35, g36, g37, ltT, ltF, leT, leF, hk', a1, a2, a3, a4, eb, hav, alI, h4, h5, hP, h6, h7, h8, Nat.le_refl]
      exact ih (j + 1) (by omega) _ hlp hr _ (by exact g2) (by exact g3) (by exact g4) (by exact g5) (by exact g35) (by exact g36) (by rfl)

end Go.Ab
/-
  Package pair: the tables of all comparators.
-/
namespace Go.Ab
open Go.Proofs
set_option linter.unusedSimpArgs false
set_option linter.unusedVariables false
set_option maxRecDepth 100000
set_option maxHeartbeats 2000000

variable {H : Heap}


/-- What tables are told to. -/
structure HearsT {β : Type} (p : Pr) (L : List Bd) (pb pl B M0 y2 : Nat) (vb vr vm : AV) (Hs : β → Heap) (g : β → (Int × Int) × List Int → β) : Prop where
  lr : ∀ st, (Hs st).length = M0
  b0 : ∀ st, (Hs st)[pb]? = some (.box (.ptr B 0))
  b1 : ∀ st, (Hs st)[pl]? = some (.box (.sl false (L.map Bd.av)))
  b2 : ∀ st, (Hs st)[B]? = some (.box (bnA p vb vr vm))
  lt : pb < M0 ∧ pl < M0 ∧ B < M0 ∧ y2 < M0
  y : ∀ b st c t G, t.length = 36 → (p.zlo ≤ c.1 ∧ c.1 ≤ p.zhi) → (p.rlo ≤ c.2 ∧ c.2 ≤ p.rhi) → callVL cfg0 prog0 b false (.yield y2) [.agg [I c.1, I c.2], .agg (t.map I)] [] (Hs st ++ G) none = some ⟨.ret (.bool true), Hs (g st (c, t)) ++ G, none⟩

def tabM (L : List Bd) (c : Int × Int) : List Int := closeW (putL c.1 c.2 L tab0)
def stepT {β : Type} (L : List Bd) (g : β → (Int × Int) × List Int → β) (st : β) (c : Int × Int) : β := if fitT (tabM L c) then g st (c, tabM L c) else st

theorem tb_listen {β : Type} {p : Pr} (ho : p.Ok) {L : List Bd} (hL : ∀ b ∈ L, b.ok) (hLl : L.length ≤ 100) {pb pl B M0 y2 : Nat} {vb vr vm : AV} {Hs : β → Heap} {g : β → (Int × Int) × List Int → β} (hh : HearsT p L pb pl B M0 y2 vb vr vm Hs g) (st : β) (z r : Int) (hz : p.zlo ≤ z ∧ z ≤ p.zhi) (hr : p.rlo ≤ r ∧ r ≤ p.rhi) {bb : Nat} {Hr : β → Heap} (hHr : Hr = fun st => Hs st ++ [.box (.func (.yield y2) [] []), .box (.ptr B 0), .dfr, .loop (loopRec Try.f77 77 0 [(14, .func (.func 84) [] [.ptr (M0 + 1) 0]), (13, .ptr B 0), (3, .ptr M0 0), (0, .func (.yield y2) [] []), (1, .ptr pb 0), (2, .ptr pl 0)] (M0 + 2))]) :
    callVL cfg0 prog0 bb false (.yield (M0 + 3)) [.agg [I z, I r]] [] (Hr st) none = some ⟨.ret (.bool true), Hr (stepT L g st (z, r)), none⟩ := by
  have hl := hh.lr
  have hlt := hh.lt
  have l0 : ∀ st, pb < (Hs st).length := fun st => by rw [hl]; omega
  have l1 : ∀ st, pl < (Hs st).length := fun st => by rw [hl]; omega
  have g0 : ∀ st l, (Hs st ++ l)[M0]? = l[0]? := fun st l => by rw [← hl st, get_at]
  have gk : ∀ st l k, (Hs st ++ l)[M0 + k]? = l[k]? := fun st l k => by rw [← hl st, get_at']
  have gs : ∀ st l k o, (Hs st ++ l).set (M0 + k) o = Hs st ++ l.set k o := fun st l k o => by rw [← hl st, set_at']
  have gt : ∀ st l k, (Hs st ++ l).take (M0 + k) = Hs st ++ l.take k := fun st l k => by rw [← hl st, List.take_length_add_append]
  have gp : ∀ st l, (Hs st ++ l)[pl]? = some (.box (.sl false (L.map Bd.av))) := fun st l => by rw [List.getElem?_append_left (l1 st)]; exact hh.b1 st
  have hzb := ho.zero
  have hrb := ho.rate
  obtain ⟨K0, hK0⟩ : ∃ K0, K0 = Hs st ++ [.box (.func (.yield y2) [] []), .box (.ptr B 0), .dfr, .loop { loopRec Try.f77 77 0 [(14, .func (.func 84) [] [.ptr (M0 + 1) 0]), (13, .ptr B 0), (3, .ptr M0 0), (0, .func (.yield y2) [] []), (1, .ptr pb 0), (2, .ptr pl 0)] (M0 + 2) with state := .busy }] := ⟨_, rfl⟩
  have hKl : K0.length = M0 + 4 := by rw [hK0]; simp [hl]
  have h5 := tb_l5 (H := K0) (M0 + 3) pl (.ptr M0 0) (.box (.agg [I z, I r])) tab0
  have h16 := tb_l16 (H := K0) (M0 + 3) pl (.ptr M0 0) L hL hLl (z := z) (r0 := r) (by omega) (by omega) (putL z r L tab0)
  have hpl : (putL z r L tab0).length = 36 := by rw [putL_len, tab0_len]
  have hcl := fun G : Heap => pr_closed hpl G
  have htm : closeW (putL z r L tab0) = tabM L (z, r) := rfl
  have htl : (tabM L (z, r)).length = 36 := by rw [← htm, closeW]; exact clTW_len 6 0 _ hpl
  have hy := fun (b : Nat) (G : Heap) => hh.y b st (z, r) (tabM L (z, r)) G htl hz hr
  have hst : stepT L g st (z, r) = if fitT (tabM L (z, r)) then g st ((z, r), tabM L (z, r)) else st := rfl
  rw [htm] at hcl
  rw [hst]
  generalize tabM L (z, r) = tb at *
  generalize fitT tb = ft at *
  generalize htp : putL z r L tab0 = tp at *
  have q1 := tlen hpl
  have q2 := ttake hpl
  have q3 := tlen htl
  have q4 := ttake htl
  have hz1 := tlen tz_len
  have hdz : List.drop 36 (tz.map I) = [] := List.drop_of_length_le (by rw [hz1]; omega)
  have lm : (L.map Bd.av).length = L.length := List.length_map _
  rw [hKl, hK0] at h5 h16
  have h5' := fun K R hk => h5 K R hk 6 0 (by omega) tz tz_len fill_tab0
  have h16' := fun K R hk => h16 K R hk L.length 0 (by omega) tab0 tab0_len (by rw [List.drop_zero]; exact htp)
  clear h5 h16
  simp only [loopRec, rangesOf, List.nil_append, List.append_nil, List.cons_append, List.getElem?_cons_zero, List.getElem?_cons_succ, Try.f77, List.append_assoc, tz_av] at h5' h16'
  have hk' : True := trivial
  subst hHr
  simp (maxSteps := 1000000) (implicitDefEqProofs := false) (disch := first | rfl | omega | assumption) only [go_sem, ltT, ltF, leT, leF, loopRec, rangesOf, List.nil_append, List.append_nil, List.cons_append, List.getElem?_cons_zero, List.getElem?_cons_succ, Try.f77, hl, gk, g0, gs]
  refine h5' _ _ (fun E g2 g3 g4 g5 => ?_) _ (by rfl) (by rfl) (by rfl) (by rfl) (by rfl)
  simp (maxSteps := 1000000) (implicitDefEqProofs := false) (disch := first | rfl | omega | assumption) only [go_sem, g2, g3, g4, g5, ltT, ltF, leT, leF, hk', loopRec, rangesOf, List.nil_append, List.append_nil, List.cons_append, List.getElem?_cons_zero, List.getElem?_cons_succ, hl, gk, g0, gs, gp, lm]
  refine h16' _ _ (fun E g2 g3 g4 g5 => ?_) _ (by exact g2) (by exact g3) (by exact g4) (by exact g5) (by rfl) (by rfl) (by rfl)
  cases ft
  · simp only [Bool.false_eq_true, if_false]
    simp (maxSteps := 1000000) (implicitDefEqProofs := false) (disch := first | rfl | omega | assumption) only [go_sem, g2, g3, g4, g5, ltT, ltF, leT, leF, hk', loopRec, rangesOf, List.nil_append, List.append_nil, List.cons_append, List.getElem?_cons_zero, List.getElem?_cons_succ, hl, gk, g0, gs, gt, alI, sealI, ltI, q1, q2, q3, q4, hcl]
    done
  · simp only [if_true] at hy ⊢
    simp (maxSteps := 1000000) (implicitDefEqProofs := false) (disch := first | rfl | omega | assumption) only [go_sem, g2, g3, g4, g5, ltT, ltF, leT, leF, hk', loopRec, rangesOf, List.nil_append, List.append_nil, List.cons_append, List.getElem?_cons_zero, List.getElem?_cons_succ, hl, gk, g0, gs, gt, alI, sealI, ltI, q1, q2, q3, q4, hcl, hy]
    done

theorem pr_tables_it {β : Type} {p : Pr} (ho : p.Ok) {L : List Bd} (hL : ∀ b ∈ L, b.ok) (hLl : L.length ≤ 100) {pb pl B M0 y2 : Nat} {vb vr vm : AV} {Hs : β → Heap} {g : β → (Int × Int) × List Int → β} (hh : HearsT p L pb pl B M0 y2 vb vr vm Hs g) (st : β) :
    callFL cfg0 prog0 false 77 [.func (.yield y2) [] [], .ptr pb 0, .ptr pl 0] (Hs st) none = some ⟨.ret (.tup []), Hs ((combs p).foldl (stepT L g) st), none⟩ := by
  have hl := hh.lr st
  have hlt := hh.lt
  have hC := fun G : Heap => pr_comparators B (Hs st ++ G) (by simp [hl]; omega)
  have l0 : pb < (Hs st).length := by omega
  have l1 : pl < (Hs st).length := by omega
  have g0 : ∀ st l, (Hs st ++ l)[M0]? = l[0]? := fun st l => by rw [← hh.lr st, get_at]
  have gk : ∀ st l k, (Hs st ++ l)[M0 + k]? = l[k]? := fun st l k => by rw [← hh.lr st, get_at']
  have gs : ∀ st l k o, (Hs st ++ l).set (M0 + k) o = Hs st ++ l.set k o := fun st l k o => by rw [← hh.lr st, set_at']
  have gt : ∀ st l, (Hs st ++ l).take M0 = Hs st := fun st l => by rw [← hh.lr st, List.take_left]
  have hI := pr_comp_it ho (p1 := M0 + 1) (B := B) (N := M0 + 4) (y := M0 + 3) (vb := vb) (vr := vr) (vm := vm) (g := stepT L g) (Hr := (fun st => Hs st ++ [.box (.func (.yield y2) [] []), .box (.ptr B 0), .dfr, .loop (loopRec Try.f77 77 0 [(14, .func (.func 84) [] [.ptr (M0 + 1) 0]), (13, .ptr B 0), (3, .ptr M0 0), (0, .func (.yield y2) [] []), (1, .ptr pb 0), (2, .ptr pl 0)] (M0 + 2))]))
    ⟨fun st => by simp [hh.lr st], fun st => by rw [gk]; rfl, fun st => by rw [List.getElem?_append_left (by rw [hh.lr]; omega)]; exact hh.b2 st, fun _ st c h1 h2 => tb_listen ho hL hLl hh st c.1 c.2 h1 h2 rfl⟩ st
  simp only [loopRec, rangesOf, List.nil_append, List.append_nil, List.cons_append, List.getElem?_cons_zero, List.getElem?_cons_succ, Try.f77] at hI
  refine (callFL_eq fn77 rfl (by simp [Try.f77])).trans ?_
  simp (maxSteps := 1000000) (implicitDefEqProofs := false) (disch := first | rfl | omega | assumption) only [go_sem, ltT, ltF, leT, leF, hh.b0, hh.b1, get_lt l0, get_lt l1, hl, hC, hI, gk, g0, gs, gt]
  done

end Go.Ab
/-
  Package pair: the bounds of a set of readings.
-/
namespace Go.Ab
open Go.Proofs
set_option linter.unusedSimpArgs false
set_option linter.unusedVariables false
set_option maxRecDepth 100000
set_option maxHeartbeats 2000000

variable {H : Heap}


def Pt.av (x : Pt) : AV := .agg [I x.a, I x.b, I x.m, I x.lo, I x.hi]
def knL (bs : List (Int × Int)) (j : Nat) : List Bd := (List.range j).map fun i => .kn i (bs.getD i (0, 0)).1 (bs.getD i (0, 0)).2
def shL (rs : List Pt) (s j : Nat) : List Bd := ((List.range j).filter fun i => s.testBit i).map fun i => .sh (rs.getD i pt0)
def bdsL (p : Pr) (s : Nat) : List Bd := knL p.bs p.bs.length ++ shL p.rs s p.rs.length

theorem knL_succ (bs : List (Int × Int)) (j : Nat) : knL bs (j + 1) = knL bs j ++ [.kn j (bs.getD j (0, 0)).1 (bs.getD j (0, 0)).2] := by simp [knL, List.range_succ]
theorem shL_succ (rs : List Pt) (s j : Nat) : shL rs s (j + 1) = if s.testBit j then shL rs s j ++ [.sh (rs.getD j pt0)] else shL rs s j := by
  simp only [shL, List.range_succ, List.filter_append, List.map_append]
  cases h : s.testBit j <;> simp [h]
theorem knL_len (bs : List (Int × Int)) (j : Nat) : (knL bs j).length = j := by simp [knL]
theorem shL_len (rs : List Pt) (s j : Nat) : (shL rs s j).length ≤ j := by
  simp only [shL, List.length_map]
  have := List.length_filter_le (fun i => s.testBit i) (List.range j)
  rw [List.length_range] at this
  exact this
theorem ltBd (N : Nat) : ∀ l : List Bd, ltL N (l.map Bd.av) = true := fun l => ltL_map (fun b => by cases b <;> rfl) l

structure PrAt (H : Heap) (p : Pr) (vb vr : AV) : Prop where
  bs : SlOk H 2 vb (p.bs.map spA)
  rs : SlOk H 5 vr (p.rs.map Pt.av)

theorem PrAt.app {p : Pr} {vb vr : AV} (h : PrAt H p vb vr) (G : Heap) : PrAt (H ++ G) p vb vr := ⟨h.bs.app G, h.rs.app G⟩

theorem bo_l7 {p : Pr} {vb vr vm : AV} (h : PrAt H p vb vr) (ho : p.Ok) {B : Nat} (hB : H[B]? = some (.box (bnA p vb vr vm))) (s : Nat) (hs : s < 256) :
    ∀ (q j : Nat), j + q = p.rs.length → ∀ (xs : List Bd), xs = knL p.bs p.bs.length ++ shL p.rs s j → ∀ (G : Heap), ∀ E : Env, E.get 1 = U s → E.get 4 = .gsl H.length xs.length → E.get 32 = vr → E.get 33 = I p.rs.length → E.get 34 = I j →
    Option.map (finishC H.length) (execL cfg0 prog0 ⟨64, none, false, H.length⟩ (todoAt Try.f64 7) ⟨E, [], H ++ (.grow 1 (xs.map Bd.av) :: G), none⟩) = some ⟨.ret (.sl false ((bdsL p s).map Bd.av)), H, none⟩ := by
  intro q
  obtain ⟨a1, a2, a3, a4, a5⟩ := h.rs.fF (d := pt0)
  have t2 := h.rs.ltn 1
  have h8 := ho.reads
  have h5 := ho.many
  induction q with
  | zero =>
    intro j hj xs hx G E g1 g4 g32 g33 g34
    have hk' : ¬ (j : Int) < ((p.rs.length : Nat) : Int) := by omega
    have ej : j = p.rs.length := by omega
    subst ej
    have ex : xs = bdsL p s := hx
    subst ex
    simp only [loopIt, todoPast, todoAt, todoOf, firstReg, ↓reduceIte, Option.some.injEq, Nat.reduceEqDiff, reduceCtorEq, Try.f64]
    rw [execL_inLoop]
    have lm : ((bdsL p s).map Bd.av).length = (bdsL p s).length := List.length_map _
    simp (maxSteps := 1000000) (implicitDefEqProofs := false) (disch := first | rfl | omega | assumption) only [go_sem, g1, g4, g32, g33, g34, ltT, ltF, leT, leF, hk', t2, ltBd, lm]
    done
  | succ q ih =>
    intro j hj xs hx G E g1 g4 g32 g33 g34
    have hk' : (j : Int) < ((p.rs.length : Nat) : Int) := by omega
    have hk2 : j < p.rs.length := by omega
    obtain ⟨x, hxe⟩ : ∃ x, p.rs.getD j pt0 = x := ⟨_, rfl⟩
    have hrd := fun x : Pt => (show readPart x.av.cells 0 ⟨.struct [(0, 3), (1, 3), (2, 3), (3, 24)], 5, 40, some (.agg #[.int .i64 0, .int .i64 0, .int .i64 0, .int .i64 0, .int .i64 0])⟩ = some (.agg [I x.a, I x.b, I x.m, I x.lo, I x.hi]) from rfl)
    have hsucc := shL_succ p.rs s j
    rw [hxe] at hsucc
    have hsh := shrN (s := s) (j := j) (by omega)
    have hand := bitU (s := s) (j := j) (by omega)
    have hone := and_one (s := s) (j := j)
    have z : ¬ (j : Int) < 0 := by omega
    have hlx : xs.length ≤ p.bs.length + j := by
      rw [hx, List.length_append, knL_len]
      have := shL_len p.rs s j
      omega
    have lm : (xs.map Bd.av).length = xs.length := List.length_map _
    have hadd : addElem (H ++ [.grow 1 (xs.map Bd.av), .box (.agg [I x.a, I x.b, I x.m, I x.lo, I x.hi])]) 1 false (.gsl H.length xs.length) [.iface 152 (.agg [I x.a, I x.b, I x.lo, I x.hi, I x.m])] = some (.gsl H.length (xs.length + 1), H ++ [.grow 1 ((xs ++ [Bd.sh x]).map Bd.av), .box (.agg [I x.a, I x.b, I x.m, I x.lo, I x.hi])]) := by
      rw [add_gsl (xs := xs.map Bd.av) (by rw [get_at]; rfl) lm rfl rfl (by simp; omega), set_at, List.map_append]
      rfl
    cases hb : s.testBit j
    · rw [hb] at hone hsucc
      have key := ih (j + 1) (by omega) xs (by rw [hsucc]; exact hx) [.box (.agg [I x.a, I x.b, I x.m, I x.lo, I x.hi])]
      simp only [loopIt, todoPast, todoAt, todoOf, firstReg, ↓reduceIte, Option.some.injEq, Nat.reduceEqDiff, reduceCtorEq, Try.f64]
      rw [execL_inLoop]
      simp (maxSteps := 1000000) (implicitDefEqProofs := false) (disch := first | rfl | omega | assumption) only [go_sem, g1, g4, g32, g33, g34, ltT, ltF, leT, leF, hk', t2, ltBd, a1, a2, a3, a4, hxe, hrd, hsh, hand, hone, z]
      exact key _ (by rfl) (by rfl) (by rfl) (by rfl) (by rfl)
    · rw [hb] at hone hsucc
      have key := ih (j + 1) (by omega) (xs ++ [.sh x]) (by rw [hsucc, hx]; simp) [.box (.agg [I x.a, I x.b, I x.m, I x.lo, I x.hi])]
      rw [List.length_append] at key
      simp only [loopIt, todoPast, todoAt, todoOf, firstReg, ↓reduceIte, Option.some.injEq, Nat.reduceEqDiff, reduceCtorEq, Try.f64]
      rw [execL_inLoop]
      simp (maxSteps := 1000000) (implicitDefEqProofs := false) (disch := first | rfl | omega | assumption) only [go_sem, g1, g4, g32, g33, g34, ltT, ltF, leT, leF, hk', t2, ltBd, a1, a2, a3, a4, hxe, hrd, hsh, hand, hone, z, hadd]
      exact key _ (by rfl) (by rfl) (by rfl) (by rfl) (by rfl)

theorem bo_l2 {p : Pr} {vb vr vm : AV} (h : PrAt H p vb vr) (ho : p.Ok) {B : Nat} (hB : H[B]? = some (.box (bnA p vb vr vm))) (s : Nat) (hs : s < 256) :
    ∀ (q j : Nat), j + q = p.bs.length → ∀ (G : Heap), ∀ E : Env, E.get 0 = .ptr B 0 → E.get 1 = U s → E.get 4 = .gsl H.length j → E.get 13 = vb → E.get 14 = I p.bs.length → E.get 15 = I j →
    Option.map (finishC H.length) (execL cfg0 prog0 ⟨64, none, false, H.length⟩ (todoAt Try.f64 2) ⟨E, [], H ++ (.grow 1 ((knL p.bs j).map Bd.av) :: G), none⟩) = some ⟨.ret (.sl false ((bdsL p s).map Bd.av)), H, none⟩ := by
  intro q
  obtain ⟨a1, a2, a3, a4, a5⟩ := h.bs.fF (d := (0, 0))
  have t1 := h.bs.ltn 1
  have t2 := h.rs.ltn 1
  have h5 := ho.many
  have h8 := ho.reads
  have hBl : B < H.length := (List.getElem?_eq_some_iff.1 hB).1
  have hBl1 : B < H.length + 1 := by omega
  have l2 := h.rs.len
  rw [List.length_map] at l2
  have hs1 := h.bs.scal
  have hs2 := h.rs.scal
  induction q with
  | zero =>
    intro j hj G E g0 g1 g4 g13 g14 g15
    have hk' : ¬ (j : Int) < ((p.bs.length : Nat) : Int) := by omega
    have ej : j = p.bs.length := by omega
    subst ej
    simp only [loopIt, todoPast, todoAt, todoOf, firstReg, ↓reduceIte, Option.some.injEq, Nat.reduceEqDiff, reduceCtorEq, Try.f64]
    rw [execL_inLoop]
    have hl := bo_l7 h ho hB s hs p.rs.length 0 (by omega) (knL p.bs p.bs.length) (by simp [shL]) []
    rw [knL_len] at hl
    simp (maxSteps := 1000000) (implicitDefEqProofs := false) (disch := first | rfl | omega | assumption) only [go_sem, g0, g1, g4, g13, g14, g15, ltT, ltF, leT, leF, hk', t1, t2, ltBd, get_lt hBl, hBl1, hB, bnA, l2, hs1, hs2]
    exact hl _ (by rfl) (by rfl) (by rfl) (by rfl) (by rfl)
  | succ q ih =>
    intro j hj G E g0 g1 g4 g13 g14 g15
    have hk' : (j : Int) < ((p.bs.length : Nat) : Int) := by omega
    have hk2 : j < p.bs.length := by omega
    obtain ⟨⟨lo, hi⟩, hxe⟩ : ∃ x, p.bs.getD j (0, 0) = x := ⟨_, rfl⟩
    have hrd : readPart (spA (lo, hi)).cells 0 ⟨.struct [(0, 3), (1, 3)], 2, 16, some (.agg #[.int .i64 0, .int .i64 0])⟩ = some (.agg [I lo, I hi]) := rfl
    have hsucc := knL_succ p.bs j
    rw [hxe] at hsucc
    have lm : ((knL p.bs j).map Bd.av).length = j := by rw [List.length_map, knL_len]
    have hadd : addElem (H ++ [.grow 1 ((knL p.bs j).map Bd.av), .box (.agg [I lo, I hi])]) 1 false (.gsl H.length j) [.iface 150 (.agg [I j, I 5, I lo, I hi])] = some (.gsl H.length (j + 1), H ++ [.grow 1 ((knL p.bs j ++ [Bd.kn j lo hi]).map Bd.av), .box (.agg [I lo, I hi])]) := by
      rw [add_gsl (xs := (knL p.bs j).map Bd.av) (by rw [get_at]; rfl) lm rfl rfl (by simp; omega), set_at, List.map_append]
      rfl
    have key := ih (j + 1) (by omega) [.box (.agg [I lo, I hi])]
    rw [hsucc] at key
    simp only [loopIt, todoPast, todoAt, todoOf, firstReg, ↓reduceIte, Option.some.injEq, Nat.reduceEqDiff, reduceCtorEq, Try.f64]
    rw [execL_inLoop]
    simp (maxSteps := 1000000) (implicitDefEqProofs := false) (disch := first | rfl | omega | assumption) only [go_sem, g0, g1, g4, g13, g14, g15, ltT, ltF, leT, leF, hk', t1, t2, hBl1, ltBd, a1, a2, a3, a4, hxe, hrd, hadd]
    exact key _ (by rfl) (by rfl) (by rfl) (by rfl) (by rfl) (by rfl)

theorem pr_bounds {p : Pr} {vb vr vm : AV} (h : PrAt H p vb vr) (ho : p.Ok) {B : Nat} (hB : H[B]? = some (.box (bnA p vb vr vm))) (s : Nat) (hs : s < 256) :
    callFL cfg0 prog0 false 64 [.ptr B 0, U s] H none = some ⟨.ret (.sl false ((bdsL p s).map Bd.av)), H, none⟩ := by
  have hBl : B < H.length := (List.getElem?_eq_some_iff.1 hB).1
  have hBl1 : B < H.length + 1 := by omega
  have l1 := h.bs.len
  rw [List.length_map] at l1
  have hs1 := h.bs.scal
  have hs2 := h.rs.scal
  have t1 := h.bs.ltn 1
  have h1 := bo_l2 h ho hB s hs p.bs.length 0 (by omega) []
  simp only [knL, List.range_zero, List.map_nil] at h1
  refine (callFL_eq fn64 rfl (by simp [Try.f64])).trans ?_
  simp (maxSteps := 1000000) (implicitDefEqProofs := false) (disch := first | rfl | omega | assumption) only [go_sem, ltT, ltF, leT, leF, get_lt hBl, hBl1, hB, bnA, l1, hs1, hs2, t1]
  exact h1 _ (by rfl) (by rfl) (by rfl) (by rfl) (by rfl) (by rfl)

theorem pr_every {p : Pr} {vb vr vm : AV} (h : PrAt H p vb vr) (ho : p.Ok) {B : Nat} (hB : H[B]? = some (.box (bnA p vb vr vm))) :
    callFL cfg0 prog0 false 65 [.ptr B 0] H none = some ⟨.ret (U (2 ^ p.rs.length - 1)), H, none⟩ := by
  have hBl : B < H.length := (List.getElem?_eq_some_iff.1 hB).1
  have hBl1 : B < H.length + 1 := by omega
  have l2 := h.rs.len
  rw [List.length_map] at l2
  have hs1 := h.bs.scal
  have hs2 := h.rs.scal
  have h8 := ho.reads
  have e : ∀ n : Nat, n ≤ 8 → IntKind.u64.wrap (1 * 2 ^ (min n 64)) = ((2 ^ n : Nat) : Int) ∧ IntKind.u64.wrap (((2 ^ n : Nat) : Int) - 1) = ((2 ^ n - 1 : Nat) : Int) := by decide
  obtain ⟨e1, e2⟩ := e _ h8
  have z : ¬ (p.rs.length : Int) < 0 := by omega
  refine (callFL_eq fn65 rfl (by simp [Try.f65])).trans ?_
  simp (maxSteps := 1000000) (implicitDefEqProofs := false) (disch := first | rfl | omega | assumption) only [go_sem, ltT, ltF, leT, leF, hB, bnA, l2, hs1, hs2, z, e1, e2]
  done

end Go.Ab
/-
  Package pair: a pair is opened.
-/
namespace Go.Ab
open Go.Proofs
set_option linter.unusedSimpArgs false
set_option linter.unusedVariables false
set_option maxRecDepth 100000
set_option maxHeartbeats 2000000

variable {H : Heap}


theorem pr_isBlock {p : Pr} {vb vr vm : AV} (h : PrAt H p vb vr) (ho : p.Ok) {B : Nat} (hB : H[B]? = some (.box (bnA p vb vr vm))) (n : Int) :
    callFL cfg0 prog0 false 38 [.ptr B 0, I n] H none = some ⟨.ret (.bool (wi n 0 ((p.bs.length : Int) - 1))), H, none⟩ := by
  have l1 := h.bs.len
  rw [List.length_map] at l1
  have hs1 := h.bs.scal
  have hs2 := h.rs.scal
  have h5 := ho.many
  refine (callFL_eq fn38 rfl (by simp [Try.f38])).trans ?_
  simp (maxSteps := 1000000) (implicitDefEqProofs := false) (disch := first | rfl | omega | assumption) only [go_sem, ltT, ltF, leT, leF, hB, bnA, l1, hs1, hs2, pr_within]
  done

theorem pr_always (v : AV) (H : Heap) : callFL cfg0 prog0 false 71 [v] H none = some ⟨.ret (.bool true), H, none⟩ := by
  refine (callFL_eq fn71 rfl (by simp [Try.f71])).trans ?_
  simp (maxSteps := 1000000) (implicitDefEqProofs := false) (disch := first | rfl | omega | assumption) only [go_sem, ltT, ltF, leT, leF]
  done

theorem pr_known2 {p : Pr} {vb vr vm : AV} (h : PrAt H p vb vr) (ho : p.Ok) {B : Nat} (hB : H[B]? = some (.box (bnA p vb vr vm))) {l : Nat} {n : Int} (hl : H[l]? = some (.box (I n))) :
    callFL cfg0 prog0 false 37 [.ptr B 0, .ptr l 0] H none = some ⟨.ret (.bool (wi n 0 ((p.bs.length : Int) - 1))), H, none⟩ := by
  have h1 := fun n => pr_isBlock h ho hB n
  refine (callFL_eq fn37 rfl (by simp [Try.f37])).trans ?_
  simp (maxSteps := 1000000) (implicitDefEqProofs := false) (disch := first | rfl | omega | assumption) only [go_sem, ltT, ltF, leT, leF, hl, h1]
  done

def Pr.open (p : Pr) (vb vr : AV) : Heap := [.box (p.av vb vr), .box (bnA p vb vr .nilmap)]

theorem Pr.Ok.at {p : Pr} (h : p.Ok) {i : Nat} (hi : i < p.rs.length) {x : Pt} (e : p.rs.getD i pt0 = x) : wi x.a 0 ((p.bs.length : Int) - 1) = true ∧ wi x.b 0 ((p.bs.length : Int) - 1) = true ∧ x.a ≠ x.b ∧ wi x.m 0 60 = true ∧ spOk x.lo x.hi 80 = true := by
  have := h.rd i hi
  rw [e] at this
  simp only [wi, spOk, Bool.and_eq_true, decide_eq_true_eq]
  omega

theorem op_l10 {p : Pr} {vb vr : AV} (h : PrAt H p vb vr) (ho : p.Ok) {g : Nat} {cap : List AV} (hg : cfg0.grow g 999997 = false) (hIs : callFL cfg0 prog0 false g (.ptr (H.length + 1) 0 :: cap) (H ++ p.open vb vr) none = some ⟨.ret (.bool true), H ++ p.open vb vr, none⟩) (hcap : ltL (H.length + 2) cap = true) (hcap2 : ∀ G, ltL (H.length + (G + 2)) cap = true) :
    ∀ (q j : Nat), j + q = p.rs.length → ∀ (G : Heap), ∀ E : Env, E.get 1 = .func (.func g) [] cap → E.get 7 = .ptr (H.length + 1) 0 → E.get 65 = vr → E.get 66 = I p.rs.length → E.get 67 = I j →
    Option.map (finishC H.length) (execL cfg0 prog0 ⟨36, none, false, H.length⟩ (todoAt Try.f36 10) ⟨E, [], H ++ (.box (p.av vb vr) :: .box (bnA p vb vr .nilmap) :: G), none⟩) = some ⟨.ret (.ptr (H.length + 1) 0), H ++ p.open vb vr, none⟩ := by
  intro q
  obtain ⟨a1, a2, a3, a4, a5⟩ := h.rs.fF (d := pt0)
  have t1 := h.bs.ltn 1
  have t2 := h.rs.ltn 1
  have t1' := h.bs.ltn 2
  have t2' := h.rs.ltn 2
  have h8 := ho.reads
  have h5 := ho.many
  induction q with
  | zero =>
    intro j hj G E g1 g7 g65 g66 g67
    have hk' : ¬ (j : Int) < ((p.rs.length : Nat) : Int) := by omega
    simp only [loopIt, todoPast, todoAt, todoOf, firstReg, ↓reduceIte, Option.some.injEq, Nat.reduceEqDiff, reduceCtorEq, Try.f36]
    rw [execL_inLoop]
    simp only [Pr.open, Pr.av, bnA] at hIs
    simp (maxSteps := 1000000) (implicitDefEqProofs := false) (disch := first | rfl | omega | assumption) only [go_sem, g1, g7, g65, g66, g67, ltT, ltF, leT, leF, hk', t2, t1, t1', t2', hcap, Pr.av, bnA, pr_must, hg, hIs, Pr.open]
    done
  | succ q ih =>
    intro j hj G E g1 g7 g65 g66 g67
    have hk' : (j : Int) < ((p.rs.length : Nat) : Int) := by omega
    have hk2 : j < p.rs.length := by omega
    obtain ⟨x, hxe⟩ : ∃ x, p.rs.getD j pt0 = x := ⟨_, rfl⟩
    obtain ⟨c1, c2, c3, c4, c5⟩ := ho.at (i := j) (by omega) hxe
    have hrd : readPart x.av.cells 0 ⟨.struct [(0, 3), (1, 3), (2, 3), (3, 24)], 5, 40, some (.agg #[.int .i64 0, .int .i64 0, .int .i64 0, .int .i64 0, .int .i64 0])⟩ = some (.agg [I x.a, I x.b, I x.m, I x.lo, I x.hi]) := rfl
    have hB := fun n => pr_isBlock (H := H ++ [.box (p.av vb vr), .box (bnA p vb vr .nilmap), .box (.agg [I x.a, I x.b, I x.m, I x.lo, I x.hi])]) (h.app _) ho (B := H.length + 1) (by rw [get_at']; rfl) n
    simp only [Pr.av, bnA] at hB
    have hsp := fun G => pr_isSpan x.lo x.hi 80 (by omega) G
    have hmi := fun G => pr_isMinute x.m G
    have key := ih (j + 1) (by omega) [.box (.agg [I x.a, I x.b, I x.m, I x.lo, I x.hi])]
    have c3' : (x.a != x.b) = true := by simpa using c3
    simp only [Pr.av, bnA] at key
    simp only [loopIt, todoPast, todoAt, todoOf, firstReg, ↓reduceIte, Option.some.injEq, Nat.reduceEqDiff, reduceCtorEq, Try.f36]
    rw [execL_inLoop]
    simp (maxSteps := 1000000) (implicitDefEqProofs := false) (disch := first | rfl | omega | assumption) only [go_sem, g1, g7, g65, g66, g67, ltT, ltF, leT, leF, hk', t2, t1, t1', t2', hcap, Pr.av, bnA, a1, a2, a3, a4, hxe, hrd, hB, c1, c2, c3, c3', c4, c5, hsp, hmi, pr_must]
    exact key _ (by rfl) (by rfl) (by rfl) (by rfl) (by rfl)

theorem op_l3 {p : Pr} {vb vr : AV} (h : PrAt H p vb vr) (ho : p.Ok) {g : Nat} {cap : List AV} (hg : cfg0.grow g 999997 = false) (hIs : callFL cfg0 prog0 false g (.ptr (H.length + 1) 0 :: cap) (H ++ p.open vb vr) none = some ⟨.ret (.bool true), H ++ p.open vb vr, none⟩) (hcap1 : ltL (H.length + 1) cap = true) (hcap : ltL (H.length + 2) cap = true) (hcap2 : ∀ G, ltL (H.length + (G + 2)) cap = true) :
    ∀ (q j : Nat), j + q = p.bs.length → ∀ (G : Heap), ∀ E : Env, E.get 1 = .func (.func g) [] cap → E.get 2 = .ptr H.length 0 → E.get 22 = vb → E.get 23 = I p.bs.length → E.get 24 = I j →
    Option.map (finishC H.length) (execL cfg0 prog0 ⟨36, none, false, H.length⟩ (todoAt Try.f36 3) ⟨E, [], H ++ (.box (p.av vb vr) :: G), none⟩) = some ⟨.ret (.ptr (H.length + 1) 0), H ++ p.open vb vr, none⟩ := by
  intro q
  obtain ⟨a1, a2, a3, a4, a5⟩ := h.bs.fF (d := (0, 0))
  have t1 := h.bs.ltn 1
  have t2 := h.rs.ltn 1
  have h8 := ho.reads
  have h5 := ho.many
  have l2 := h.rs.len
  rw [List.length_map] at l2
  have hs1 := h.bs.scal
  have hs2 := h.rs.scal
  induction q with
  | zero =>
    intro j hj G E g1 g2 g22 g23 g24
    have hk' : ¬ (j : Int) < ((p.bs.length : Nat) : Int) := by omega
    simp only [loopIt, todoPast, todoAt, todoOf, firstReg, ↓reduceIte, Option.some.injEq, Nat.reduceEqDiff, reduceCtorEq, Try.f36]
    rw [execL_inLoop]
    have hz := ho.zero
    have hr := ho.rate
    have c1 : spOk p.zlo p.zhi 10 = true := by simp only [spOk, Bool.and_eq_true, decide_eq_true_eq]; omega
    have c2 : spOk p.rlo p.rhi 5 = true := by simp only [spOk, Bool.and_eq_true, decide_eq_true_eq]; omega
    have c3 : p.zhi - p.zlo ≤ 4 := by omega
    have c4 : p.rhi - p.rlo ≤ 4 := by omega
    have hsp := fun G => pr_isSpan p.zlo p.zhi 10 (by omega) G
    have hsp' := fun G => pr_isSpan p.rlo p.rhi 5 (by omega) G
    have key := op_l10 h ho hg hIs hcap hcap2 p.rs.length 0 (by omega) []
    simp only [Pr.av, bnA] at key
    simp (maxSteps := 1000000) (implicitDefEqProofs := false) (disch := first | rfl | omega | assumption) only [go_sem, g1, g2, g22, g23, g24, ltT, ltF, leT, leF, hk', t2, t1, hcap1, Pr.av, bnA, l2, hs1, hs2, hsp, hsp', c1, c2, c3, c4, pr_must]
    exact key _ (by rfl) (by rfl) (by rfl) (by rfl) (by rfl)
  | succ q ih =>
    intro j hj G E g1 g2 g22 g23 g24
    have hk' : (j : Int) < ((p.bs.length : Nat) : Int) := by omega
    have hk2 : j < p.bs.length := by omega
    obtain ⟨⟨lo, hi⟩, hxe⟩ : ∃ x, p.bs.getD j (0, 0) = x := ⟨_, rfl⟩
    have hrd : readPart (spA (lo, hi)).cells 0 ⟨.struct [(0, 3), (1, 3)], 2, 16, some (.agg #[.int .i64 0, .int .i64 0])⟩ = some (.agg [I lo, I hi]) := rfl
    have hb := ho.blk j (by omega)
    rw [hxe] at hb
    have c1 : spOk lo hi 20 = true := by simp only [spOk, Bool.and_eq_true, decide_eq_true_eq]; omega
    have hsp := fun G => pr_isSpan lo hi 20 (by omega) G
    have key := ih (j + 1) (by omega) [.box (.agg [I lo, I hi])]
    simp only [Pr.av] at key
    simp only [loopIt, todoPast, todoAt, todoOf, firstReg, ↓reduceIte, Option.some.injEq, Nat.reduceEqDiff, reduceCtorEq, Try.f36]
    rw [execL_inLoop]
    simp (maxSteps := 1000000) (implicitDefEqProofs := false) (disch := first | rfl | omega | assumption) only [go_sem, g1, g2, g22, g23, g24, ltT, ltF, leT, leF, hk', t2, t1, hcap1, Pr.av, a1, a2, a3, a4, hxe, hrd, hsp, c1, pr_must]
    exact key _ (by rfl) (by rfl) (by rfl) (by rfl) (by rfl)

theorem pr_open {p : Pr} {vb vr : AV} (h : PrAt H p vb vr) (ho : p.Ok) {g : Nat} {cap : List AV} (hg : cfg0.grow g 999997 = false) (hIs : callFL cfg0 prog0 false g (.ptr (H.length + 1) 0 :: cap) (H ++ p.open vb vr) none = some ⟨.ret (.bool true), H ++ p.open vb vr, none⟩) (hcap0 : ltL H.length cap = true) :
    callFL cfg0 prog0 false 36 [p.av vb vr, .func (.func g) [] cap] H none = some ⟨.ret (.ptr (H.length + 1) 0), H ++ p.open vb vr, none⟩ := by
  have t1 := h.bs.ltn 1
  have t2 := h.rs.ltn 1
  have h5 := ho.many
  have h8 := ho.reads
  have l1 := h.bs.len
  rw [List.length_map] at l1
  have l2 := h.rs.len
  rw [List.length_map] at l2
  have hs1 := h.bs.scal
  have hs2 := h.rs.scal
  have hcap : ∀ G, ltL (H.length + G) cap = true := fun G => ltL_mono (by omega) _ hcap0
  have key := op_l3 h ho hg hIs (hcap 1) (hcap 2) (fun G => hcap _) p.bs.length 0 (by omega) []
  have hcap1 := hcap 1
  have c1 : wi (p.bs.length : Int) 1 5 = true := by simp only [wi, Bool.and_eq_true, decide_eq_true_eq]; omega
  have c2 : (p.rs.length : Int) ≤ 8 := by omega
  simp only [Pr.av] at key ⊢
  refine (callFL_eq fn36 rfl (by simp [Try.f36])).trans ?_
  simp (maxSteps := 1000000) (implicitDefEqProofs := false) (disch := first | rfl | omega | assumption) only [go_sem, ltT, ltF, leT, leF, t2, t1, hcap1, l1, l2, hs1, hs2, pr_within, c1, c2, pr_must]
  exact key _ (by rfl) (by rfl) (by rfl) (by rfl) (by rfl)

end Go.Ab
/-
  Package pair: all that is told.
-/
namespace Go.Ab
open Go.Proofs
set_option linter.unusedSimpArgs false
set_option linter.unusedVariables false
set_option maxRecDepth 100000
set_option maxHeartbeats 2000000

variable {H : Heap}


/-- The entries of a map of tables. -/
def entT (x : (Int × Int) × List Int) : AV × AV := (.agg [I x.1.1, I x.1.2], .agg (x.2.map I))
def entP (es : List (AV × AV)) (x : (Int × Int) × List Int) : List (AV × AV) := putM (entT x).1 (entT x).2 es

theorem ent_same {x y : (Int × Int) × List Int} (h : x.1 ≠ y.1) : (entT x).1.same (entT y).1 = false := by
  obtain ⟨⟨a, b⟩, t⟩ := x
  obtain ⟨⟨c, d⟩, u⟩ := y
  simp only [ne_eq, Prod.mk.injEq] at h
  by_cases h1 : a = c
  · by_cases h2 : b = d
    · exact absurd ⟨h1, h2⟩ h
    · simp [entT, AV.same, sameL, I, h2]
  · simp [entT, AV.same, sameL, I, h1]

theorem entP_new : ∀ (l : List ((Int × Int) × List Int)) (x : (Int × Int) × List Int), (∀ y ∈ l, x.1 ≠ y.1) → entP (l.map entT) x = (l ++ [x]).map entT
  | [], x, _ => rfl
  | y :: l, x, h => by
    have ih := entP_new l x (fun z hz => h z (by simp [hz]))
    have hs := ent_same (h y (by simp))
    simp only [entP, List.map_cons, List.cons_append] at ih ⊢
    have e : entT y = ((entT y).1, (entT y).2) := rfl
    rw [e, putM, hs]
    simp only [Bool.false_eq_true, if_false]
    rw [ih]

theorem entP_fold : ∀ (l m : List ((Int × Int) × List Int)), ((m ++ l).map (·.1)).Nodup → l.foldl entP (m.map entT) = (m ++ l).map entT
  | [], m, _ => by simp
  | x :: l, m, h => by
    have h' : ((m ++ [x] ++ l).map (·.1)).Nodup := by simpa using h
    rw [List.foldl_cons, entP_new m x, entP_fold l (m ++ [x]) h']
    · simp
    · intro y hy e
      rw [List.map_append, List.nodup_append] at h
      exact h.2.2 y.1 (List.mem_map_of_mem hy) x.1 (by simp) e.symm

theorem upI_nodup (a b : Int) : (upI a b).Nodup := by
  simp only [upI]
  rw [List.nodup_iff_pairwise_ne, List.pairwise_map]
  exact List.Pairwise.imp (fun {x y} (h : x < y) => by omega) List.pairwise_lt_range

theorem combs_nodup (p : Pr) : (combs p).Nodup := by
  simp only [combs]
  rw [List.nodup_iff_pairwise_ne, List.pairwise_flatMap]
  constructor
  · intro z _
    rw [List.pairwise_map]
    exact List.Pairwise.imp (fun {x y} h e => h (by cases e; rfl)) (List.nodup_iff_pairwise_ne.1 (upI_nodup p.rlo p.rhi))
  · refine List.Pairwise.imp (fun {x y} h => ?_) (List.nodup_iff_pairwise_ne.1 (upI_nodup p.zlo p.zhi))
    intro u hu v hv e
    simp only [List.mem_map] at hu hv
    obtain ⟨_, _, rfl⟩ := hu
    obtain ⟨_, _, rfl⟩ := hv
    cases e
    exact h rfl

theorem told_nodup (p : Pr) (l : List Pt) : ((toldL p l).map (·.1)).Nodup := by
  have h : ((toldL p l).map (·.1)).Sublist (combs p) := by
    have h1 : ((toldL p l).map (·.1)).Sublist (((combs p).map fun c => (c, tabL p.bs l c.1 c.2)).map (·.1)) := (List.filter_sublist).map _
    rw [List.map_map] at h1
    simpa [Function.comp_def] using h1
  exact h.nodup (combs_nodup p)

theorem putL_bs (z r : Int) : ∀ (bs : List (Int × Int)) (k : Nat) (t : List Int), ((List.range bs.length).map fun i => Bd.kn (k + i) (bs.getD i (0, 0)).1 (bs.getD i (0, 0)).2).foldl (fun t b => b.put z r t) t = putBs k bs t
  | [], k, t => rfl
  | (lo, hi) :: bs, k, t => by
    have ih := putL_bs z r bs (k + 1) (Bd.put z r (.kn k lo hi) t)
    rw [List.length_cons, List.range_succ_eq_map, List.map_cons, List.foldl_cons, List.map_map]
    simp only [Function.comp_def, List.getD_cons_zero, List.getD_cons_succ, Nat.add_zero]
    rw [show (fun i => Bd.kn (k + (i + 1)) (bs.getD i (0, 0)).1 (bs.getD i (0, 0)).2) = fun i => Bd.kn (k + 1 + i) (bs.getD i (0, 0)).1 (bs.getD i (0, 0)).2 from funext fun i => by rw [show k + (i + 1) = k + 1 + i by omega], ih]
    rfl

theorem shL_all (rs : List Pt) (j : Nat) (hj : j ≤ rs.length) : shL rs (2 ^ rs.length - 1) j = (rs.take j).map Bd.sh := by
  induction j with
  | zero => simp [shL]
  | succ j ih =>
    rw [shL_succ, ih (by omega), Nat.testBit_two_pow_sub_one, if_pos (by simp only [decide_eq_true_eq]; omega), List.take_add_one]
    simp only [List.map_append]
    congr 1
    rw [List.getElem?_eq_getElem (by omega), List.getD_eq_getElem?_getD, List.getElem?_eq_getElem (by omega)]
    rfl

theorem bds_tab {p : Pr} (ho : p.Ok) {c : Int × Int} (hc : c ∈ combs p) : tabM (bdsL p (2 ^ p.rs.length - 1)) c = tabL p.bs p.rs c.1 c.2 := by
  obtain ⟨h1, h2⟩ := mem_combs.1 hc
  have e1 := (tabW_eq ho (l := p.rs) (fun x hx => hx) h1 h2).1
  have e2 := putL_bs c.1 c.2 p.bs 0 tab0
  simp only [Nat.zero_add] at e2
  have e3 : (knL p.bs p.bs.length).foldl (fun t b => Bd.put c.1 c.2 b t) tab0 = putBs 0 p.bs tab0 := e2
  have e4 : putL c.1 c.2 (bdsL p (2 ^ p.rs.length - 1)) tab0 = putRs c.1 c.2 p.rs (putBs 0 p.bs tab0) := by
    rw [bdsL, shL_all p.rs _ (Nat.le_refl _), List.take_length, putL, List.foldl_append, List.foldl_map, e3]
    generalize putBs 0 p.bs tab0 = t0
    rfl
  rw [tabM, e4, e1]

theorem told_fold {p : Pr} (ho : p.Ok) {β : Type} (g : β → (Int × Int) × List Int → β) (st : β) : (combs p).foldl (stepT (bdsL p (2 ^ p.rs.length - 1)) g) st = (toldL p p.rs).foldl g st := by
  have key : ∀ (l : List (Int × Int)), (∀ c ∈ l, c ∈ combs p) → ∀ st, l.foldl (stepT (bdsL p (2 ^ p.rs.length - 1)) g) st = ((l.map fun c => (c, tabL p.bs p.rs c.1 c.2)).filter fun x => fitT x.2).foldl g st := by
    intro l
    induction l with
    | nil => intro _ st; rfl
    | cons c l ih =>
      intro h st
      rw [List.foldl_cons, ih (fun c hc => h c (by simp [hc])), List.map_cons, List.filter_cons]
      have e : stepT (bdsL p (2 ^ p.rs.length - 1)) g st c = if fitT (tabL p.bs p.rs c.1 c.2) then g st (c, tabL p.bs p.rs c.1 c.2) else st := by
        simp only [stepT, bds_tab ho (h c (by simp))]
      rw [e]
      cases hf : fitT (tabL p.bs p.rs c.1 c.2) <;> simp
  exact key _ (fun c hc => hc) st

theorem told_map {p : Pr} (ho : p.Ok) : (combs p).foldl (stepT (bdsL p (2 ^ p.rs.length - 1)) entP) [] = (toldL p p.rs).map entT := by
  rw [told_fold ho entP []]
  have := entP_fold (toldL p p.rs) [] (by simpa using told_nodup p p.rs)
  simpa using this

theorem bds_ok {p : Pr} (ho : p.Ok) (s : Nat) : (∀ b ∈ bdsL p s, b.ok) ∧ (bdsL p s).length ≤ 100 := by
  have h5 := ho.many
  have h8 := ho.reads
  constructor
  · intro b hb
    rcases List.mem_append.1 hb with h | h
    · simp only [knL, List.mem_map, List.mem_range] at h
      obtain ⟨i, hi, rfl⟩ := h
      have := ho.blk i hi
      simp only [Bd.ok]
      omega
    · simp only [shL, List.mem_map, List.mem_filter, List.mem_range] at h
      obtain ⟨i, ⟨hi, _⟩, rfl⟩ := h
      have := ho.rd i hi
      simp only [Bd.ok]
      omega
  · rw [bdsL, List.length_append, knL_len]
    have := shL_len p.rs s p.rs.length
    omega

theorem pr_tables (B : Nat) (v : AV) (hv : v.lt 0 = true) (hv1 : v.scalar = true) (hs : ∃ b l, v = .sl b l) (H : Heap) (hB : B < H.length) : callFL cfg0 prog0 false 63 [.ptr B 0, v] H none = some ⟨.ret (.func (.func 77) [] [.ptr H.length 0, .ptr (H.length + 1) 0]), H ++ [.box (.ptr B 0), .box v], none⟩ := by
  obtain ⟨b, l, rfl⟩ := hs
  refine (callFL_eq fn63 rfl (by simp [Try.f63])).trans ?_
  simp (maxSteps := 1000000) (implicitDefEqProofs := false) (disch := first | rfl | omega | assumption) only [go_sem, ltT, ltF, leT, leF, hB]
  done

end Go.Ab
/-
  Package pair: all that is told.
-/
namespace Go.Ab
open Go.Proofs
set_option linter.unusedSimpArgs false
set_option linter.unusedVariables false
set_option maxRecDepth 100000
set_option maxHeartbeats 2000000

variable {H : Heap}


theorem to_listen {p : Pr} {vb vr : AV} (hs1 : vb.scalar = true) (hs2 : vr.scalar = true) {bb : Nat} {Hs : List (AV × AV) → Heap}
    (hHs : Hs = fun es : List (AV × AV) => H ++ [.box (bnA p vb vr (.map (H.length + 2))), .box (.ptr H.length 0), .map 126 es, .box (.ptr H.length 0), .box (.sl false ((bdsL p (2 ^ p.rs.length - 1)).map Bd.av)), .dfr, .loop (loopRec Try.f39 39 0 [(14, .func (.func 77) [] [.ptr (H.length + 3) 0, .ptr (H.length + 4) 0]), (13, .sl false ((bdsL p (2 ^ p.rs.length - 1)).map Bd.av)), (12, U (2 ^ p.rs.length - 1 : Nat)), (11, .ptr H.length 0), (10, .ptr H.length 0), (9, .ptr H.length 0), (8, .ptr H.length 6), (7, .ptr H.length 0), (6, .map (H.length + 2)), (5, .ptr H.length 0), (2, .nilp), (1, .ptr (H.length + 1) 0), (0, .ptr H.length 0)] (H.length + 5))]) (es : List (AV × AV)) (c : Int × Int) (t : List Int) (ht : t.length = 36) (G : Heap) :
    callVL cfg0 prog0 bb false (.yield (H.length + 6)) [.agg [I c.1, I c.2], .agg (t.map I)] [] (Hs es ++ G) none = some ⟨.ret (.bool true), Hs (entP es (c, t)) ++ G, none⟩ := by
  have q3 := tlen ht
  have q4 := ttake ht
  have hz1 := tlen tz_len
  have hdz : List.drop 36 (tz.map I) = [] := List.drop_of_length_le (by rw [hz1]; omega)
  have hp : entP es (c, t) = putM (.agg [I c.1, I c.2]) (.agg (t.map I)) es := rfl
  rw [hp]
  subst hHs
  simp only [loopRec, rangesOf, List.nil_append, List.append_nil, List.cons_append, List.getElem?_cons_zero, List.getElem?_cons_succ, Try.f39, List.append_assoc, List.cons_append, List.nil_append]
  simp (maxSteps := 1000000) (implicitDefEqProofs := false) (disch := first | rfl | omega | assumption) only [go_sem, ltT, ltF, leT, leF, loopRec, rangesOf, List.nil_append, List.append_nil, List.cons_append, List.getElem?_cons_zero, List.getElem?_cons_succ, Try.f39, tz_av, alI, sealI, ltI, q3, q4, hdz]
  rw [chkK_of]; rotate_left; kernel_rfl
  simp (maxSteps := 1000000) (implicitDefEqProofs := false) (disch := first | rfl | omega | assumption) only [go_sem, ltT, ltF, leT, leF, loopRec, rangesOf, List.nil_append, List.append_nil, List.cons_append, List.getElem?_cons_zero, List.getElem?_cons_succ, bnA, hs1, hs2, alI, sealI, ltI, q3, q4, hdz]
  done

theorem pr_told {p : Pr} {vb vr : AV} (h : PrAt H p vb vr) (ho : p.Ok) {b : Nat} (hb : b ≤ H.length) (hne : toldL p p.rs ≠ []) :
    ∃ G, callBL cfg0 prog0 b 39 [.ptr H.length 0] (H ++ [.box (bnA p vb vr .nilmap)]) = some ⟨.ret (.ptr H.length 0), H ++ (.box (bnA p vb vr (.map (H.length + 2))) :: .box (.ptr H.length 0) :: .map 126 ((toldL p p.rs).map entT) :: G), none⟩ := by
  have hs1 := h.bs.scal
  have hs2 := h.rs.scal
  have hev := fun G => pr_every (h.app (.box (bnA p vb vr (.map (H.length + 2))) :: G)) ho (B := H.length) (by rw [get_at]; rfl)
  have hp2 : 2 ^ p.rs.length - 1 < 256 := by
    have h8 := ho.reads
    have : 2 ^ p.rs.length ≤ 2 ^ 8 := Nat.pow_le_pow_right (by omega) h8
    omega
  have hbo := fun G => pr_bounds (h.app (.box (bnA p vb vr (.map (H.length + 2))) :: G)) ho (B := H.length) (by rw [get_at]; rfl) _ hp2
  have hta := fun G => pr_tables H.length (.sl false ((bdsL p (2 ^ p.rs.length - 1)).map Bd.av)) rfl rfl ⟨_, _, rfl⟩ (H ++ (.box (bnA p vb vr (.map (H.length + 2))) :: G)) (by simp)
  obtain ⟨k1, k2⟩ := bds_ok ho (2 ^ p.rs.length - 1)
  have hit := pr_tables_it ho (p := p) k1 k2 (pb := H.length + 3) (pl := H.length + 4) (B := H.length) (M0 := H.length + 7) (y2 := H.length + 6) (vb := vb) (vr := vr) (vm := .map (H.length + 2)) (g := entP) (Hs := fun es : List (AV × AV) => H ++ [.box (bnA p vb vr (.map (H.length + 2))), .box (.ptr H.length 0), .map 126 es, .box (.ptr H.length 0), .box (.sl false ((bdsL p (2 ^ p.rs.length - 1)).map Bd.av)), .dfr, .loop (loopRec Try.f39 39 0 [(14, .func (.func 77) [] [.ptr (H.length + 3) 0, .ptr (H.length + 4) 0]), (13, .sl false ((bdsL p (2 ^ p.rs.length - 1)).map Bd.av)), (12, U (2 ^ p.rs.length - 1 : Nat)), (11, .ptr H.length 0), (10, .ptr H.length 0), (9, .ptr H.length 0), (8, .ptr H.length 6), (7, .ptr H.length 0), (6, .map (H.length + 2)), (5, .ptr H.length 0), (2, .nilp), (1, .ptr (H.length + 1) 0), (0, .ptr H.length 0)] (H.length + 5))])
    ⟨fun st => by simp, fun st => by rw [get_at']; rfl, fun st => by rw [get_at']; rfl, fun st => by rw [get_at]; rfl, ⟨by omega, by omega, by omega, by omega⟩,
      fun bb st c t G ht _ _ => to_listen hs1 hs2 rfl st c t ht G⟩ []
  rw [told_map ho] at hit
  have hlen : 0 < ((toldL p p.rs).map entT).length := by
    rw [List.length_map]
    exact List.length_pos_iff.2 hne
  generalize (toldL p p.rs).map entT = es at *
  generalize (bdsL p (2 ^ p.rs.length - 1)).map Bd.av = bl at *
  simp only [loopRec, rangesOf, List.nil_append, List.append_nil, List.cons_append, List.getElem?_cons_zero, List.getElem?_cons_succ, Try.f39] at hit
  have hlen' : (0 : Int) < (es.length : Int) := by omega
  refine ⟨[.box (.ptr H.length 0), .box (.sl false bl), .dead, .loop { loopRec Try.f39 39 0 [(14, .func (.func 77) [] [.ptr (H.length + 3) 0, .ptr (H.length + 4) 0]), (13, .sl false bl), (12, U (2 ^ p.rs.length - 1 : Nat)), (11, .ptr H.length 0), (10, .ptr H.length 0), (9, .ptr H.length 0), (8, .ptr H.length 6), (7, .ptr H.length 0), (6, .map (H.length + 2)), (5, .ptr H.length 0), (2, .nilp), (1, .ptr (H.length + 1) 0), (0, .ptr H.length 0)] (H.length + 5) with state := .exhausted }], ?_⟩
  refine (callBL_eq fn39 rfl (by simp [Try.f39])).trans ?_
  simp (maxSteps := 1000000) (implicitDefEqProofs := false) (disch := first | rfl | omega | assumption) only [go_sem, ltT, ltF, leT, leF, loopRec, rangesOf, List.nil_append, List.append_nil, List.cons_append, List.getElem?_cons_zero, List.getElem?_cons_succ, Try.f39, bnA, hs1, hs2, hb, if_true]
  rw [chkK_of]; rotate_left; kernel_rfl
  simp only [bnA, List.cons_append, List.nil_append, List.length_append, List.length_cons, Nat.add_assoc, Nat.reduceAdd] at hev hbo hta hit
  simp (maxSteps := 1000000) (implicitDefEqProofs := false) (disch := first | rfl | omega | assumption) only [go_sem, ltT, ltF, leT, leF, loopRec, rangesOf, List.nil_append, List.append_nil, List.cons_append, List.getElem?_cons_zero, List.getElem?_cons_succ, Try.f39, bnA, hs1, hs2, hb, hev, hbo, hta, hit, pr_must]
  done

end Go.Ab
/-
  Package pair: the hull, Known.
-/
namespace Go.Ab
open Go.Proofs
set_option linter.unusedSimpArgs false
set_option linter.unusedVariables false
set_option maxRecDepth 100000
set_option maxHeartbeats 2000000

variable {H : Heap}


/-- What a walk through a map has met, and what is left. -/
def Met (n : Nat) (seen rest : List Nat) : Prop := (seen ++ rest).Perm (List.range n)

theorem Met.zero (n : Nat) : Met n [] (List.range n) := List.Perm.refl _

theorem Met.fin {n : Nat} {seen rest : List Nat} (h : Met n seen rest) (hs : ∀ i, i < n → i ∈ seen) : rest = [] := by
  cases hr : rest with
  | nil => rfl
  | cons x r =>
    exfalso
    have hx : x ∈ List.range n := h.mem_iff.1 (by rw [hr]; simp)
    have h1 := hs x (List.mem_range.1 hx)
    have hd : (seen ++ rest).Nodup := h.nodup_iff.2 List.nodup_range
    rw [List.nodup_append] at hd
    exact hd.2.2 x h1 x (by rw [hr]; simp) rfl

theorem Met.go {n : Nat} {seen rest : List Nat} (h : Met n seen rest) {i : Nat} (hi : i < n) (hs : i ∉ seen) : ∃ rest', Met n (seen ++ [i]) rest' ∧ rest'.length + 1 = rest.length := by
  have hm : i ∈ seen ++ rest := h.mem_iff.2 (List.mem_range.2 hi)
  have hr : i ∈ rest := by
    rcases List.mem_append.1 hm with h' | h'
    · exact absurd h' hs
    · exact h'
  refine ⟨rest.erase i, ?_, ?_⟩
  · have hp := List.perm_cons_erase hr
    refine List.Perm.trans ?_ h
    rw [List.append_assoc]
    exact (List.Perm.append_left seen hp.symm)
  · rw [List.length_erase_of_mem hr]
    have := List.length_pos_of_mem hr
    omega

theorem Met.done {n : Nat} {seen : List Nat} (h : Met n seen []) : seen.Perm (List.range n) := by simpa [Met] using h


/-- The entry that a walk meets. -/
def aT (L : List ((Int × Int) × List Int)) (i : Nat) : (Int × Int) × List Int := L.getD i ((0, 0), [])

theorem en_at {L : List ((Int × Int) × List Int)} {i : Nat} (hi : i < L.length) : (L.map entT)[i]? = some (.agg [I (aT L i).1.1, I (aT L i).1.2], .agg ((aT L i).2.map I)) := by
  simp [aT, entT, hi]
theorem en_at2 {L : List ((Int × Int) × List Int)} {i : Nat} (hi : i < L.length) : (L.map entT).getD i (.undef, .undef) = (.agg [I (aT L i).1.1, I (aT L i).1.2], .agg ((aT L i).2.map I)) := by
  rw [List.getD_eq_getElem?_getD, en_at hi]; rfl
theorem aT_mem {L : List ((Int × Int) × List Int)} {i : Nat} (hi : i < L.length) : aT L i ∈ L := by
  simp [aT, hi]

theorem met_map {L : List ((Int × Int) × List Int)} {seen : List Nat} {β : Type} (g : (Int × Int) × List Int → β) (h : seen.Perm (List.range L.length)) : (seen.map fun i => g (aT L i)).Perm (L.map g) := by
  have h2 : (List.range L.length).map (fun i => g (aT L i)) = L.map g := by
    apply List.ext_getElem
    · simp
    · intro i h1 h2
      simp only [List.length_map] at h2
      simp [aT, h2]
  rw [← h2]
  exact h.map _

theorem hu_loop {L : List ((Int × Int) × List Int)} (hL : ∀ x ∈ L, x.2.length = 36) {l : Nat} (hl : H[l]? = some (.map 126 (L.map entT))) {a b : Nat} (ha : a < H.length) (hb : b < H.length) (f : (Int × Int) × List Int → Int × Int)
    (hf : ∀ x ∈ L, ∀ G, callFL cfg0 prog0 false 67 [.agg [I x.1.1, I x.1.2], .agg (x.2.map I), .ptr a 0, .ptr b 0] (H ++ G) none = some ⟨.ret (.agg [I (f x).1, I (f x).2]), H ++ G, none⟩) (s0 : Int × Int) (hs0 : hullL (L.map f) = some s0) (D : Done)
    (hD : D = ⟨.ret (.agg [I s0.1, I s0.2]), H ++ [.box (.agg [.func (.func 67) [] [.ptr a 0, .ptr b 0]]), .box (.agg [I s0.1, I s0.2])], none⟩) :
    ∀ (q : Nat) (seen rest : List Nat), rest.length = q → Met L.length seen rest → ∀ st : Option (Int × Int), st = hullL (seen.map fun i => f (aT L i)) → ∀ E : Env, E.get 3 = .ptr H.length 0 → E.get 4 = .ptr (H.length + 1) 0 → E.get 5 = .bool st.isSome → E.get 10 = .ptr (H.length + 2) 0 → ∀ G : Heap,
    execL cfg0 prog0 ⟨80, none, false, H.length⟩ (todoAt Try.f80 3) ⟨E, [], H ++ (.box (.agg [.func (.func 67) [] [.ptr a 0, .ptr b 0]]) :: .box (.agg [I (st.getD (0, 0)).1, I (st.getD (0, 0)).2]) :: .iter l L.length seen :: G), none⟩ = some D := by
  have hll : l < H.length := (List.getElem?_eq_some_iff.1 hl).1
  have hle : (L.map entT).length = L.length := List.length_map _
  have ha3 : a < H.length + 3 := by omega
  have hb3 : b < H.length + 3 := by omega
  have hl3 : l < H.length + 3 := by omega
  have ha2 : a < H.length + 2 := by omega
  have hb2 : b < H.length + 2 := by omega
  have hk' : True := trivial
  intro q
  induction q with
  | zero =>
    intro seen rest hq hmet st hst E g3 g4 g5 g10 G
    simp only [loopIt, todoPast, todoAt, todoOf, firstReg, ↓reduceIte, Option.some.injEq, Nat.reduceEqDiff, reduceCtorEq, Try.f80]
    rw [execL_inLoop]
    simp (maxSteps := 1000000) (implicitDefEqProofs := false) (disch := first | rfl | omega | assumption) only [go_sem, g3, g4, g5, g10, ltT, ltF, leT, leF, hk']
    refine exec_nx (e := [(3, .ptr H.length 0), (4, .ptr (H.length + 1) 0), (5, .bool st.isSome), (10, .ptr (H.length + 2) 0)]) (df := []) (H := H ++ [.box (.agg [.func (.func 67) [] [.ptr a 0, .ptr b 0]]), .box (.agg [I (st.getD (0, 0)).1, I (st.getD (0, 0)).2]), .iter l L.length seen]) (pn := none) (n := L.length) (m := l) (seen := seen) (li := H.length + 2) (kt := 126) (es := L.map entT) (by simp (maxSteps := 1000000) (implicitDefEqProofs := false) (disch := first | rfl | omega | assumption) only [go_sem, g3, g4, g5, g10, ltT, ltF, leT, leF, hk', ha, hb, ha3, hb3, hl3]) ?_ ?_ ?_ ?_ ?_ ?_
    · skip
      simp (maxSteps := 1000000) (implicitDefEqProofs := false) (disch := first | rfl | omega | assumption) only [go_sem, g3, g4, g5, g10, ltT, ltF, leT, leF, hk']
    · skip
      simp (maxSteps := 1000000) (implicitDefEqProofs := false) (disch := first | rfl | omega | assumption) only [go_sem, g3, g4, g5, g10, ltT, ltF, leT, leF, hk']
    · skip
      simp (maxSteps := 1000000) (implicitDefEqProofs := false) (disch := first | rfl | omega | assumption) only [go_sem, g3, g4, g5, g10, ltT, ltF, leT, leF, hk', hl, get_lt hll]
    · exact hle
    · intro hall
      have hre := hmet.fin hall
      rw [hre] at hmet
      have hp : st = some s0 := by
        rw [hst, ← hs0]
        exact hull_perm (met_map f hmet.done)
      subst hp
      simp (maxSteps := 1000000) (implicitDefEqProofs := false) (disch := first | rfl | omega | assumption) only [go_sem, g3, g4, g5, g10, ltT, ltF, leT, leF, hk', ha2, hb2]
      rw [hD]
    · intro i hi hs
      obtain ⟨rest', h1, h2⟩ := hmet.go hi hs
      omega
  | succ q ih =>
    intro seen rest hq hmet st hst E g3 g4 g5 g10 G
    simp only [loopIt, todoPast, todoAt, todoOf, firstReg, ↓reduceIte, Option.some.injEq, Nat.reduceEqDiff, reduceCtorEq, Try.f80] at ih ⊢
    rw [execL_inLoop]
    simp (maxSteps := 1000000) (implicitDefEqProofs := false) (disch := first | rfl | omega | assumption) only [go_sem, g3, g4, g5, g10, ltT, ltF, leT, leF, hk']
    refine exec_nx (e := [(3, .ptr H.length 0), (4, .ptr (H.length + 1) 0), (5, .bool st.isSome), (10, .ptr (H.length + 2) 0)]) (df := []) (H := H ++ [.box (.agg [.func (.func 67) [] [.ptr a 0, .ptr b 0]]), .box (.agg [I (st.getD (0, 0)).1, I (st.getD (0, 0)).2]), .iter l L.length seen]) (pn := none) (n := L.length) (m := l) (seen := seen) (li := H.length + 2) (kt := 126) (es := L.map entT) (by simp (maxSteps := 1000000) (implicitDefEqProofs := false) (disch := first | rfl | omega | assumption) only [go_sem, g3, g4, g5, g10, ltT, ltF, leT, leF, hk', ha, hb, ha3, hb3, hl3]) ?_ ?_ ?_ ?_ ?_ ?_
    · skip
      simp (maxSteps := 1000000) (implicitDefEqProofs := false) (disch := first | rfl | omega | assumption) only [go_sem, g3, g4, g5, g10, ltT, ltF, leT, leF, hk']
    · skip
      simp (maxSteps := 1000000) (implicitDefEqProofs := false) (disch := first | rfl | omega | assumption) only [go_sem, g3, g4, g5, g10, ltT, ltF, leT, leF, hk']
    · skip
      simp (maxSteps := 1000000) (implicitDefEqProofs := false) (disch := first | rfl | omega | assumption) only [go_sem, g3, g4, g5, g10, ltT, ltF, leT, leF, hk', hl, get_lt hll]
    · exact hle
    · intro hall
      have hre := hmet.fin hall
      rw [hre] at hmet
      rw [hre] at hq
      simp at hq
    · intro i hi hs
      have hat := en_at hi
      have hat2 := en_at2 hi
      have hfi := hf _ (aT_mem hi)
      have htl := hL _ (aT_mem hi)
      have q3 := tlen htl
      have q4 := ttake htl
      have hz1 := tlen tz_len
      have hdz : List.drop 36 (tz.map I) = [] := List.drop_of_length_le (by rw [hz1]; omega)
      obtain ⟨rest', h1, h2⟩ := hmet.go hi hs
      have key := ih (seen ++ [i]) rest' (by omega) h1 (hullS st (f (aT L i))) (by rw [hst, List.map_append]; simp [hullL])
      generalize (aT L i).2 = tb at *
      generalize (aT L i).1 = cc at *
      generalize f (aT L i) = fi at *
      cases st with
      | none =>
        simp only [hullS, Option.isSome_none, Option.isSome_some, Option.getD_none, Option.getD_some] at key ⊢
        simp (maxSteps := 1000000) (implicitDefEqProofs := false) (disch := first | rfl | omega | assumption) only [go_sem, g3, g4, g5, g10, ltT, ltF, leT, leF, hk', hl, get_lt hll, hle, hat, hat2, tz_av, alI, sealI, ltI, q3, q4, hdz, hfi]
        exact key _ (by rfl) (by rfl) (by rfl) (by rfl) _
      | some s =>
        simp only [hullS, Option.isSome_some, Option.getD_some] at key ⊢
        simp (maxSteps := 1000000) (implicitDefEqProofs := false) (disch := first | rfl | omega | assumption) only [go_sem, g3, g4, g5, g10, ltT, ltF, leT, leF, hk', hl, get_lt hll, hle, hat, hat2, tz_av, alI, sealI, ltI, q3, q4, hdz, hfi]
        exact key _ (by rfl) (by rfl) (by rfl) (by rfl) _

theorem pr_hull {L : List ((Int × Int) × List Int)} (hL : ∀ x ∈ L, x.2.length = 36) {l : Nat} (hl : H[l]? = some (.map 126 (L.map entT))) {a b : Nat} (ha : a < H.length) (hb : b < H.length) (f : (Int × Int) × List Int → Int × Int)
    (hf : ∀ x ∈ L, ∀ G, callFL cfg0 prog0 false 67 [.agg [I x.1.1, I x.1.2], .agg (x.2.map I), .ptr a 0, .ptr b 0] (H ++ G) none = some ⟨.ret (.agg [I (f x).1, I (f x).2]), H ++ G, none⟩) (s0 : Int × Int) (hs0 : hullL (L.map f) = some s0) :
    callFL cfg0 prog0 false 80 [.map l, .agg [.func (.func 67) [] [.ptr a 0, .ptr b 0]]] H none = some ⟨.ret (.agg [I s0.1, I s0.2]), H, none⟩ := by
  have hll : l < H.length := (List.getElem?_eq_some_iff.1 hl).1
  have hle : (L.map entT).length = L.length := List.length_map _
  have key := hu_loop hL hl ha hb f hf s0 hs0 _ rfl _ [] _ rfl (Met.zero L.length) none rfl
  simp only [List.length_nil, Option.isSome_none, Option.getD_none] at key
  refine (callFL_eq fn80 rfl (by simp [Try.f80])).trans ?_
  simp (maxSteps := 1000000) (implicitDefEqProofs := false) (disch := first | rfl | omega | assumption) only [go_sem, ltT, ltF, leT, leF, hl, get_lt hll, hle]
  refine (congrArg (Option.map (finishC H.length)) (key _ (by rfl) (by rfl) (by rfl) (by rfl) [])).trans ?_
  simp (maxSteps := 1000000) (implicitDefEqProofs := false) (disch := first | rfl | omega | assumption) only [go_sem, ltT, ltF, leT, leF]
  done

theorem pr_differ1 {p : Pr} (ho : p.Ok) {x : (Int × Int) × List Int} (hx : x ∈ toldL p p.rs) {a b n : Nat} (ha : H[a]? = some (.box (I n))) (hb : H[b]? = some (.box (I 5))) (hn : n < 5) :
    callFL cfg0 prog0 false 67 [.agg [I x.1.1, I x.1.2], .agg (x.2.map I), .ptr a 0, .ptr b 0] H none = some ⟨.ret (.agg [I (spnT x.2 n).1, I (spnT x.2 n).2]), H, none⟩ := by
  simp only [toldL, List.mem_filter, List.mem_map] at hx
  obtain ⟨⟨c, hc, rfl⟩, hfit⟩ := hx
  obtain ⟨h1, h2⟩ := mem_combs.1 hc
  obtain ⟨e1, e2⟩ := tabW_eq ho (l := p.rs) (fun x hx => hx) h1 h2
  have hs := fun G => pr_span e2 (a := n) (b := 5) (by omega) (by omega) G
  have htl : (tabL p.bs p.rs c.1 c.2).length = 36 := e2.l
  have hal : a < H.length := (List.getElem?_eq_some_iff.1 ha).1
  have hbl : b < H.length := (List.getElem?_eq_some_iff.1 hb).1
  simp only [spnT] at hs ⊢
  simp only [Int.cast_ofNat_Int] at hs
  generalize tabL p.bs p.rs c.1 c.2 = tb at *
  have q3 := tlen htl
  have q4 := ttake htl
  refine (callFL_eq fn67 rfl (by simp [Try.f67])).trans ?_
  simp (maxSteps := 1000000) (implicitDefEqProofs := false) (disch := first | rfl | omega | assumption) only [go_sem, ltT, ltF, leT, leF, ha, hb, get_lt hal, get_lt hbl, alI, sealI, ltI, q3, q4, hs]
  done

end Go.Ab
