/-
  How many are in a set; the first of a list, walked.
-/
import Derived.Test.YteeefmibaggekaaKK3
import Derived.Test.YteeefmibaggekaaKK2
namespace Go.Ab
open Go.Proofs
set_option linter.unusedSimpArgs false
set_option linter.unusedVariables false
set_option maxRecDepth 100000

variable {H : Heap}

/-- How many are in a set. -/
def popF : Nat → Nat → Nat
  | 0, _ => 0
  | f + 1, n => n % 2 + popF f (n / 2)
def pop (n : Nat) : Nat := popF 20 n

theorem popF_le : ∀ f n, popF f n ≤ f
  | 0, _ => Nat.le_refl _
  | f + 1, n => by have := popF_le f (n / 2); simp only [popF]; omega

def M0 : Nat := 6148914691236517205
def M1 : Nat := 3689348814741910323
def M2 : Nat := 1085102592571150095
def y1 (x : Nat) : Nat := (x / 2 &&& M0) + (x &&& M0)
def y2 (x : Nat) : Nat := (y1 x / 4 &&& M1) + (y1 x &&& M1)
def y3 (x : Nat) : Nat := (y2 x / 16 + y2 x) &&& M2
def y4 (x : Nat) : Nat := y3 x + y3 x / 256
def y5 (x : Nat) : Nat := y4 x + y4 x / 65536
def y6 (x : Nat) : Nat := y5 x + y5 x / 4294967296

theorem y_bd : ∀ x < 1024, y1 x < 1024 ∧ y2 x < 1024 ∧ y3 x < 1024 ∧ y4 x < 1024 ∧ y5 x < 1024 ∧ y6 x < 1024 ∧ (y6 x &&& 127) = pop x := by decide +kernel

theorem ones64 {x : Nat} (hx : x < 1024) : callFL cfg0 prog0 false 107 [U x] H none = some ⟨.ret (I (pop x)), H, none⟩ := by
  obtain ⟨b1, b2, b3, b4, b5, b6, b7⟩ := y_bd x hx
  have f1 : (x : Int).fdiv (2 ^ min 1 64) = ((x / 2 : Nat) : Int) := fdivN x 2
  have f2 : (y1 x : Int).fdiv (2 ^ min 2 64) = ((y1 x / 4 : Nat) : Int) := fdivN (y1 x) 4
  have f3 : (y2 x : Int).fdiv (2 ^ min 4 64) = ((y2 x / 16 : Nat) : Int) := fdivN (y2 x) 16
  have f4 : (y3 x : Int).fdiv (2 ^ min 8 64) = ((y3 x / 256 : Nat) : Int) := fdivN (y3 x) 256
  have f5 : (y4 x : Int).fdiv (2 ^ min 16 64) = ((y4 x / 65536 : Nat) : Int) := fdivN (y4 x) 65536
  have f6 : (y5 x : Int).fdiv (2 ^ min 32 64) = ((y5 x / 4294967296 : Nat) : Int) := fdivN (y5 x) 4294967296
  have g1 : bitsOp .and .u64 ((x / 2 : Nat) : Int) 6148914691236517205 = some ((x / 2 &&& M0 : Nat) : Int) := bitsAnd (b := M0) (by omega) (by decide)
  have g2 : bitsOp .and .u64 (x : Int) 6148914691236517205 = some ((x &&& M0 : Nat) : Int) := bitsAnd (b := M0) (by omega) (by decide)
  have g3 : bitsOp .and .u64 ((y1 x / 4 : Nat) : Int) 3689348814741910323 = some ((y1 x / 4 &&& M1 : Nat) : Int) := bitsAnd (b := M1) (by omega) (by decide)
  have g4 : bitsOp .and .u64 (y1 x : Int) 3689348814741910323 = some ((y1 x &&& M1 : Nat) : Int) := bitsAnd (b := M1) (by omega) (by decide)
  have g5 : bitsOp .and .u64 ((y2 x / 16 + y2 x : Nat) : Int) 1085102592571150095 = some (y3 x : Int) := bitsAnd (b := M2) (by omega) (by decide)
  have g6 : bitsOp .and .i64 (y6 x : Int) 127 = some (pop x : Int) := by rw [← b7]; exact bitsAndI (b := 127) (by omega) (by decide)
  have k1 : IntKind.u64.wrap (((x / 2 &&& M0 : Nat) : Int) + ((x &&& M0 : Nat) : Int)) = (y1 x : Int) := wrapU (n := y1 x) (by omega)
  have k2 : IntKind.u64.wrap (((y1 x / 4 &&& M1 : Nat) : Int) + ((y1 x &&& M1 : Nat) : Int)) = (y2 x : Int) := wrapU (n := y2 x) (by omega)
  have k3 : IntKind.u64.wrap (((y2 x / 16 : Nat) : Int) + (y2 x : Int)) = ((y2 x / 16 + y2 x : Nat) : Int) := wrapU (n := y2 x / 16 + y2 x) (by omega)
  have k4 : IntKind.u64.wrap ((y3 x : Int) + ((y3 x / 256 : Nat) : Int)) = (y4 x : Int) := wrapU (n := y4 x) (by omega)
  have k5 : IntKind.u64.wrap ((y4 x : Int) + ((y4 x / 65536 : Nat) : Int)) = (y5 x : Int) := wrapU (n := y5 x) (by omega)
  have k6 : IntKind.u64.wrap ((y5 x : Int) + ((y5 x / 4294967296 : Nat) : Int)) = (y6 x : Int) := wrapU (n := y6 x) (by omega)
  have k7 : IntKind.i64.wrap (y6 x : Int) = (y6 x : Int) := w64 (by omega) (by omega)
  refine (callFL_eq fn107 rfl (by simp [Try.f107])).trans ?_
  simp (maxSteps := 1000000) (implicitDefEqProofs := false) (disch := first | rfl | omega | assumption) only [go_sem, f1, f2, f3, f4, f5, f6, g1, g2, g3, g4, g5, g6, k1, k2, k3, k4, k5, k6, k7]

theorem ones {x : Nat} (hx : x < 1024) : callFL cfg0 prog0 false 81 [U x] H none = some ⟨.ret (I (pop x)), H, none⟩ := by
  have h1 := fun G : Heap => ones64 (H := G) hx
  have h2 : IntKind.u64.wrap (x : Int) = x := wrapU (by omega)
  refine (callFL_eq fn81 rfl (by simp [Try.f81])).trans ?_
  simp (maxSteps := 1000000) (implicitDefEqProofs := false) (disch := first | rfl | omega | assumption) only [go_sem, h1, h2]

def popK (n : Nat) : Int := pop n


/-- The first of a list that b holds of. -/
def firstF (b : Nat → Bool) (L : List Nat) (j q : Nat) : Option Nat := findF (fun i => if b (L.getD i 0) then some (L.getD i 0) else none) j q
def firA : Option Nat → AV
  | some x => .tup [U x, .bool true]
  | none => .tup [U 0, .bool false]

theorem firstU_loop {v : AV} {L : List Nat} (hs : SlOk H 1 v (L.map U)) (hl : L.length ≤ 1000000) (fn : Fn) (fst cap : List AV) (b : Nat → Bool) (hc : ∀ (j : Nat) (G : Heap), j < L.length → callVL cfg0 prog0 false fn (fst ++ [U (L.getD j 0)]) cap (H ++ G) none = some ⟨.ret (.bool (b (L.getD j 0))), H ++ G, none⟩) (r : Option Nat) :
    ∀ (q j : Nat), j + q = L.length → firstF b L j q = r → ∀ E : Env, E.get 3 = .ptr H.length 0 → E.get 4 = U 0 → E.get 8 = v → E.get 9 = I L.length → E.get 10 = I j →
    Option.map (finishC H.length) (execL cfg0 prog0 ⟨82, none, false, H.length⟩ (todoAt Try.f82 2) ⟨E, [], H ++ [.box (.agg [.func fn fst cap])], none⟩) = some ⟨.ret (firA r), H, none⟩ := by
  intro q
  obtain ⟨a1, a2, a3, a4, a5⟩ := hs.fF (d := 0)
  induction q with
  | zero =>
    intro j hj hr E g3 g4 g8 g9 g10
    have hk' : ¬ (j : Int) < ((L.length : Nat) : Int) := by omega
    simp only [firstF, findF] at hr
    subst hr
    simp only [loopIt, todoPast, todoAt, todoOf, firstReg, ↓reduceIte, Option.some.injEq, Nat.reduceEqDiff, reduceCtorEq, Try.f82]
    rw [execL_inLoop]
    simp only [firA]
    simp (maxSteps := 1000000) (implicitDefEqProofs := false) (disch := first | rfl | omega | assumption) only [go_sem, g3, g4, g8, g9, g10, ltT, ltF, leT, leF, hk']
    rfl
  | succ q ih =>
    intro j hj hr E g3 g4 g8 g9 g10
    have hk' : (j : Int) < ((L.length : Nat) : Int) := by omega
    have hk2 : j < L.length := by omega
    have hu : firstF b L j (q + 1) = if b (L.getD j 0) then some (L.getD j 0) else firstF b L (j + 1) q := by
      simp only [firstF, findF]
      by_cases h : b (L.getD j 0) = true
      · simp only [if_pos h]
      · simp only [if_neg h]
    rw [hu] at hr
    have hx := hc j [.box (.agg [.func fn fst cap])] hk2
    obtain ⟨x, hxe⟩ : ∃ x, L.getD j 0 = x := ⟨_, rfl⟩
    rw [hxe] at hr hx
    rcases Bool.eq_false_or_eq_true (b x) with hb | hb
    · rw [hb] at hx
      rw [if_pos hb] at hr
      subst hr
      simp only [firA]
      simp only [loopIt, todoPast, todoAt, todoOf, firstReg, ↓reduceIte, Option.some.injEq, Nat.reduceEqDiff, reduceCtorEq, Try.f82]
      rw [execL_inLoop]
      simp (maxSteps := 1000000) (implicitDefEqProofs := false) (disch := first | rfl | omega | assumption) only [go_sem, g3, g4, g8, g9, g10, ltT, ltF, leT, leF, hk', a1, a3, hxe, hx]
      done
    · rw [hb] at hx
      rw [if_neg (by simp [hb])] at hr
      simp only [loopIt, todoPast, todoAt, todoOf, firstReg, ↓reduceIte, Option.some.injEq, Nat.reduceEqDiff, reduceCtorEq, Try.f82]
      rw [execL_inLoop]
      simp (maxSteps := 1000000) (implicitDefEqProofs := false) (disch := first | rfl | omega | assumption) only [go_sem, g3, g4, g8, g9, g10, ltT, ltF, leT, leF, hk', a1, a3, hxe, hx]
      exact ih (j + 1) (by omega) hr _ (by exact g3) (by exact g4) (by exact g8) (by exact g9) (by rfl)

theorem wr_firstU {v : AV} {L : List Nat} (hs : SlOk H 1 v (L.map U)) (hl : L.length ≤ 1000000) (fn : Fn) (fst cap : List AV) (b : Nat → Bool) (hf : (AV.func fn fst cap).stored = true)
    (hc : ∀ (j : Nat) (G : Heap), j < L.length → callVL cfg0 prog0 false fn (fst ++ [U (L.getD j 0)]) cap (H ++ G) none = some ⟨.ret (.bool (b (L.getD j 0))), H ++ G, none⟩) :
    callFL cfg0 prog0 false 82 [v, .agg [.func fn fst cap]] H none = some ⟨.ret (firA (firstF b L 0 L.length)), H, none⟩ := by
  have h1 := firstU_loop hs hl fn fst cap b hc _ L.length 0 (by omega) rfl
  have hln := hs.len
  have s0 := hs.scal
  refine (callFL_eq fn82 rfl (by simp [Try.f82])).trans ?_
  simp (maxSteps := 1000000) (implicitDefEqProofs := false) (disch := first | rfl | omega | assumption) only [go_sem, ltT, ltF, leT, leF, hln, s0, List.length_map]
  exact h1 _ (by rfl) (by rfl) (by rfl) (by rfl) (by rfl)

end Go.Ab
/-
  Sets in order; Most, Polish.
-/
namespace Go.Ab
open Go.Proofs
set_option linter.unusedSimpArgs false
set_option linter.unusedVariables false
set_option maxRecDepth 100000
set_option maxHeartbeats 2000000

variable {H : Heap}


/-- All sets, as they come. -/
def allS (n : Nat) : List Nat := List.range (2 ^ n)

theorem w_cmp : Cmp (.func 104) [] popK 1024 where
  call x y G hx hy := by
    have h1 := fun G : Heap => ones (H := G) hx
    have h2 := fun G : Heap => ones (H := G) hy
    have b1 := popF_le 20 x
    have b2 := popF_le 20 y
    have e : IntKind.i64.wrap ((pop x : Int) - (pop y : Int)) = (pop x : Int) - (pop y : Int) := w64 (by simp only [pop]; omega) (by simp only [pop]; omega)
    simp only [callVL_func, List.append_nil, popK]
    refine (callFL_eq fn104 rfl (by simp [Try.f104])).trans ?_
    simp (maxSteps := 1000000) (implicitDefEqProofs := false) (disch := first | rfl | omega | assumption) only [go_sem, h1, h2, e]
  bd x := by have := popF_le 20 x; simp only [popK, pop]; omega

def popD (n : Nat) : Int := -(pop n : Int)

theorem m_cmp : Cmp (.func 80) [] popD 1024 where
  call x y G hx hy := by
    have h1 := fun G : Heap => ones (H := G) hx
    have h2 := fun G : Heap => ones (H := G) hy
    have b1 := popF_le 20 x
    have b2 := popF_le 20 y
    have e : IntKind.i64.wrap ((pop y : Int) - (pop x : Int)) = (pop y : Int) - (pop x : Int) := w64 (by simp only [pop]; omega) (by simp only [pop]; omega)
    have e2 : popD x - popD y = (pop y : Int) - (pop x : Int) := by simp only [popD]; omega
    simp only [callVL_func, List.append_nil, e2]
    refine (callFL_eq fn80 rfl (by simp [Try.f80])).trans ?_
    simp (maxSteps := 1000000) (implicitDefEqProofs := false) (disch := first | rfl | omega | assumption) only [go_sem, h1, h2, e]
  bd x := by have := popF_le 20 x; simp only [popD, pop]; omega

theorem allS_len (n : Nat) : (allS n).length = 2 ^ n := by simp [allS]
theorem allS_small {n : Nat} (h : n ≤ 10) : Small 1024 (allS n) := by
  intro k hk
  rw [allS_len] at hk
  have : (2 : Nat) ^ n ≤ 2 ^ 10 := Nat.pow_le_pow_right (by omega) h
  have e : (allS n).getD k 0 = k := by simp [allS, hk]
  rw [e]; omega

theorem small_stab {key : Nat → Int} {B : Nat} {n : Nat} {L : List Nat} {rk : Nat → Nat} (hl : L.length = n) (hB : Small B L) (hu : ∀ k l, k < l → l < n → rk (gt L k) < rk (gt L l)) : Small B (stab key n L) := by
  obtain ⟨_, h2⟩ := stab_srt (key := key) (rk := rk) hl hu
  intro k hk
  rw [stab_len, hl] at hk
  obtain ⟨j, j1, j2, e⟩ := h2.fwd k (by omega) hk
  show gt (stab key n L) k < B
  rw [e]
  exact hB j (by omega)

theorem sets_loop (n : Nat) (hn : n ≤ 10) (m : Nat) (hm : m = 2 ^ n) (hm2 : m ≤ 1024) :
    ∀ (q j : Nat), j + q = m → ∀ (L : List Nat), L = List.range j → ∀ E : Env, E.get 2 = .gsl H.length j → E.get 5 = U m → E.get 6 = U j →
    Option.map (finK true H.length) (execL cfg0 prog0 ⟨78, none, false, H.length⟩ (todoAt Try.f78 2) ⟨E, [], H ++ [.grow 1 (L.map U)], none⟩) = some ⟨.ret (.gsl H.length m), H ++ [.grow 1 ((stab popK m (allS n)).map U)], none⟩ := by
  intro q
  have hp : H.length < (H ++ [AO.grow 1 ((allS n).map U)]).length := by simp
  have hSo := so_sort (H := H ++ [AO.grow 1 ((allS n).map U)]) w_cmp hp (n := m) (by omega) (L := allS n) (by rw [allS_len, hm]) (allS_small hn)
  have e1 : ∀ M : List Nat, GH (H ++ [AO.grow 1 ((allS n).map U)]) H.length M = H ++ [AO.grow 1 (M.map U)] := fun M => by simp [GH]
  rw [e1, e1] at hSo
  induction q with
  | zero =>
    intro j hj L hL E g2 g5 g6
    have hk' : ¬ (j : Int) < ((m : Nat) : Int) := by omega
    have ej : j = m := by omega
    subst ej
    subst hL
    have ea : List.range j = allS n := by rw [hm]; rfl
    rw [ea]
    simp only [loopIt, todoPast, todoAt, todoOf, firstReg, ↓reduceIte, Option.some.injEq, Nat.reduceEqDiff, reduceCtorEq, Try.f78]
    rw [execL_inLoop]
    simp (maxSteps := 1000000) (implicitDefEqProofs := false) (disch := first | rfl | omega | assumption) only [go_sem, g2, g5, g6, ltT, ltF, leT, leF, hk', hSo]
    done
  | succ q ih =>
    intro j hj L hL E g2 g5 g6
    have hk' : (j : Int) < ((m : Nat) : Int) := by omega
    have hk2 : j < m := by omega
    subst hL
    have hw : IntKind.u64.wrap ((j : Int) + 1) = ((j + 1 : Nat) : Int) := wrapU (n := j + 1) (by omega)
    have la : ((List.range j).map U).length = j := by simp
    have hadd : addElem (H ++ [.grow 1 ((List.range j).map U)]) 1 false (.gsl H.length j) [U j] = some (.gsl H.length (j + 1), H ++ [.grow 1 ((List.range (j + 1)).map U)]) := by
      rw [add_gsl (xs := (List.range j).map U) (by rw [get_at]; rfl) la rfl rfl (by simp; omega), set_at, List.range_succ, List.map_append]
      rfl
    simp only [loopIt, todoPast, todoAt, todoOf, firstReg, ↓reduceIte, Option.some.injEq, Nat.reduceEqDiff, reduceCtorEq, Try.f78]
    rw [execL_inLoop]
    simp (maxSteps := 1000000) (implicitDefEqProofs := false) (disch := first | rfl | omega | assumption) only [go_sem, g2, g5, g6, ltT, ltF, leT, leF, hk', hadd, hw]
    exact ih (j + 1) (by omega) (List.range j ++ [j]) List.range_succ.symm _ (by rfl) (by exact g5) (by rfl)

theorem gt_all {n k : Nat} (h : k < 2 ^ n) : gt (allS n) k = k := by simp [gt, allS, h]
theorem allS_up (n : Nat) : ∀ k l, k < l → l < 2 ^ n → id (gt (allS n) k) < id (gt (allS n) l) := fun k l h1 h2 => by
  rw [gt_all h2, gt_all (Nat.lt_trans h1 h2)]
  exact h1

def setL (n : Nat) : List Nat := stab popK (2 ^ n) (allS n)
theorem setL_len (n : Nat) : (setL n).length = 2 ^ n := by rw [setL, stab_len, allS_len]
theorem setL_srt (n : Nat) : Srt popK id (gt (setL n)) 0 (2 ^ n) ∧ Ib (gt (allS n)) (gt (setL n)) 0 (2 ^ n) := stab_srt (allS_len n) (allS_up n)
theorem setL_lt (n : Nat) : Small (2 ^ n) (setL n) := small_stab (rk := id) (allS_len n) (fun k hk => by
    rw [allS_len] at hk
    show gt (allS n) k < 2 ^ n
    rw [gt_all hk]; exact hk) (allS_up n)
theorem setL_has {n s : Nat} (h : s < 2 ^ n) : ∃ k, k < 2 ^ n ∧ gt (setL n) k = s := by
  obtain ⟨k, h1, h2, h3⟩ := (setL_srt n).2.bwd s (by omega) h
  exact ⟨k, h2, by rw [← h3, gt_all h]⟩

/-- The rank of a set among those in order. -/
def rkP (x : Nat) : Nat := pop x * 1024 + x

theorem setL_up {n : Nat} (hn : n ≤ 10) : ∀ k l, k < l → l < 2 ^ n → rkP (gt (setL n) k) < rkP (gt (setL n) l) := fun k l h1 h2 => by
  have h3 : (2 : Nat) ^ n ≤ 2 ^ 10 := Nat.pow_le_pow_right (by omega) hn
  have a := setL_lt n k (by rw [setL_len]; omega)
  have b := setL_lt n l (by rw [setL_len]; omega)
  have c := (setL_srt n).1 k l (by omega) h1 h2
  simp only [lx, popK, id] at c
  simp only [rkP, gt] at *
  omega

/-- All sets, the greatest ones first. -/
def mostL (n : Nat) : List Nat := stab popD (2 ^ n) (setL n)
theorem mostL_len (n : Nat) : (mostL n).length = 2 ^ n := by rw [mostL, stab_len, setL_len]
theorem mostL_srt {n : Nat} (hn : n ≤ 10) : Srt popD rkP (gt (mostL n)) 0 (2 ^ n) ∧ Ib (gt (setL n)) (gt (mostL n)) 0 (2 ^ n) := stab_srt (setL_len n) (setL_up hn)
theorem mostL_lt {n : Nat} (hn : n ≤ 10) : Small (2 ^ n) (mostL n) := small_stab (rk := rkP) (setL_len n) (setL_lt n) (setL_up hn)
theorem mostL_has {n s : Nat} (hn : n ≤ 10) (h : s < 2 ^ n) : ∃ k, k < 2 ^ n ∧ gt (mostL n) k = s := by
  obtain ⟨i, h1, h2⟩ := setL_has h
  obtain ⟨k, k1, k2, k3⟩ := (mostL_srt hn).2.bwd i (by omega) h1
  exact ⟨k, k2, by rw [← k3, h2]⟩

theorem wr_sets (n : Nat) (hn : n ≤ 10) (H : Heap) : callFL cfg0 prog0 false 78 [I n] H none = some ⟨.ret (.gsl H.length (2 ^ n)), H ++ [.grow 1 ((setL n).map U)], none⟩ := by
  have h2 : (2 : Nat) ^ n ≤ 2 ^ 10 := Nat.pow_le_pow_right (by omega) hn
  have h1 := sets_loop (H := H) n hn (2 ^ n) rfl (by omega) (2 ^ n) 0 (by omega) [] rfl
  have e1 := shlU (k := n) (by omega)
  have z : ¬ (n : Int) < 0 := by omega
  refine (callFL_keep fn78 rfl (by simp [Try.f78])).trans ?_
  simp (maxSteps := 1000000) (implicitDefEqProofs := false) (disch := first | rfl | omega | assumption) only [go_sem, e1, z]
  exact h1 _ (by rfl) (by rfl) (by rfl)


end Go.Ab
/-
  Most.
-/
namespace Go.Ab
open Go.Proofs
set_option linter.unusedSimpArgs false
set_option linter.unusedVariables false
set_option maxRecDepth 100000
set_option maxHeartbeats 2000000

variable {H : Heap}


def Wg.canS (w : Wg) (s : Nat) : Bool := decide (0 < (w.tal false ⟨s, pc0, false⟩).1)
def Wg.mostS (w : Wg) : Option Nat := firstF w.canS (mostL w.bs.length) 0 (mostL w.bs.length).length
def Wg.most (w : Wg) : Int × Int × Int := if w.valid then ((pop (w.mostS.getD 0) : Nat), (w.mostS.getD 0 : Nat), 0) else (0, 0, 1)

theorem firstF_lt {b : Nat → Bool} {L : List Nat} {B : Nat} (hB : Small B L) {x : Nat} (h : firstF b L 0 L.length = some x) : x < B := by
  obtain ⟨i, h1, h2, h3, _⟩ := (findF_some _ _ _ _).1 h
  split at h3
  · cases h3
    exact hB i (by omega)
  · cases h3

theorem wr_Most {w : Wg} {vb va : AV} (h : WgAt H w vb va) (hl : w.bs.length ≤ 1000 ∧ w.ps.length ≤ 1000) :
    callFL cfg0 prog0 false 29 [.agg [vb, va]] H none = some ⟨.ret (.tup [I w.most.1, I w.most.2.1, I w.most.2.2]), H, none⟩ := by
  have s1 := h.bs.scal
  have s2 := h.ps.scal
  have n1 := h.bs.len
  rw [List.length_map] at n1
  have c1 := h.bs.cel
  have hN := fun G => wd_Mostn (H.length + 1) G
  have hD := fun (e : Int) (a : AO) (G : Heap) => wd_Mosts (H.length + 1) e 0 (H ++ (a :: .box (I 0) :: G)) (by rw [get_at' 1]; rfl)
  simp only [Wg.most]
  cases hv : w.valid
  · have hO := wr_openX (h.app [.box (.agg [vb, va]), .box (I 0)]) hl hv
    simp only [Bool.false_eq_true, if_false]
    refine (callFL_eq fn29 rfl (by simp [Try.f29])).trans ?_
    simp (maxSteps := 1000000) (implicitDefEqProofs := false) (disch := first | rfl | omega | assumption) only [go_sem, ltT, ltF, leT, leF, s1, s2, hO, hD]
    done
  have ho := w.valid_iff.1 hv
  have h5 := ho.n.2
  simp only [Wg.n] at h5
  have hp2 : (2 : Nat) ^ w.bs.length ≤ 2 ^ 5 := Nat.pow_le_pow_right (by omega) h5
  have hO := wr_openA (h.app [.box (.agg [vb, va]), .box (I 0)]) hl hv
  have hS := opG_in (H := H) (G0 := [.box (.agg [vb, va]), .box (I 0)]) (n := H.length + 2) (by simp) h
  have hSe := fun G => wr_sets w.bs.length (by omega) G
  have hSo := so_sort (H := H ++ [.box (.agg [vb, va]), .box (I 0), .box (.agg [vb, va]), .map 71 (apM w.ps), .box (.agg (shC vb va (fcsN w.b) (vwA false) (H.length + 3))), .grow 1 ((setL w.bs.length).map U)]) m_cmp (p := H.length + 5) (by simp) (n := 2 ^ w.bs.length) (by omega) (L := setL w.bs.length) (setL_len _) (fun k hk => by
    have := setL_lt w.bs.length k hk
    omega)
  have e1 : ∀ (o0 o1 o2 o3 o4 o5 : AO) (M : List Nat), GH (H ++ [o0, o1, o2, o3, o4, o5]) (H.length + 5) M = H ++ [o0, o1, o2, o3, o4, .grow 1 (M.map U)] := fun o0 o1 o2 o3 o4 o5 M => by simp [GH]
  rw [e1, e1] at hSo
  have hsl : SlOk (H ++ [.box (.agg [vb, va]), .box (I 0), .box (.agg [vb, va]), .map 71 (apM w.ps), .box (.agg (shC vb va (fcsN w.b) (vwA false) (H.length + 3))), .grow 1 ((mostL w.bs.length).map U)]) 1 (.gsl (H.length + 5) (2 ^ w.bs.length)) ((mostL w.bs.length).map U) :=
    ⟨⟨by rw [get_at']; rfl, by rw [List.length_map, mostL_len]⟩, fun x hx => by obtain ⟨i, _, rfl⟩ := List.mem_map.1 hx; rfl⟩
  have hF := wr_firstU hsl (by rw [mostL_len]; omega) (.func 75) [.ptr (H.length + 4) 0] [] w.canS rfl (fun j G hj => by
    have hc := wr_can (hS (.grow 1 ((mostL w.bs.length).map U) :: G)) ho (mostL_lt (by omega) j hj)
    rw [callVL_func]
    simp only [opG, List.append_assoc, List.cons_append, List.nil_append, Nat.add_assoc, Nat.reduceAdd] at hc ⊢
    exact hc)
  have hmS : w.mostS = firstF w.canS (mostL w.bs.length) 0 (mostL w.bs.length).length := rfl
  rw [← hmS] at hF
  have hmL : stab popD (2 ^ w.bs.length) (setL w.bs.length) = mostL w.bs.length := rfl
  rw [hmL] at hSo
  simp only [if_true]
  simp only [opG, List.length_append, List.length_cons, List.length_nil, Nat.zero_add, Nat.reduceAdd, Nat.add_assoc, List.append_assoc, List.cons_append, List.nil_append, List.append_nil] at hO ⊢
  cases hm : w.mostS with
  | none =>
    rw [hm] at hF
    have hOn := fun G : Heap => ones (H := G) (x := 0) (by omega)
    simp only [firA, Option.getD_none] at hF ⊢
    refine (callFL_eq fn29 rfl (by simp [Try.f29])).trans ?_
    simp (maxSteps := 1000000) (implicitDefEqProofs := false) (disch := first | rfl | omega | assumption) only [go_sem, ltT, ltF, leT, leF, s1, s2, hO]
    simp (maxSteps := 1000000) (implicitDefEqProofs := false) (disch := first | rfl | omega | assumption) only [go_sem, ltT, ltF, leT, leF, s1, s2, n1, c1, hO, hSe, hSo, hF, hOn, hN]
    done
  | some x =>
    rw [hm] at hF
    have hxl := firstF_lt (mostL_lt (by omega)) (hmS.symm.trans hm)
    have hOn := fun G : Heap => ones (H := G) (x := x) (by omega)
    simp only [firA, Option.getD_some] at hF ⊢
    refine (callFL_eq fn29 rfl (by simp [Try.f29])).trans ?_
    simp (maxSteps := 1000000) (implicitDefEqProofs := false) (disch := first | rfl | omega | assumption) only [go_sem, ltT, ltF, leT, leF, s1, s2, hO]
    simp (maxSteps := 1000000) (implicitDefEqProofs := false) (disch := first | rfl | omega | assumption) only [go_sem, ltT, ltF, leT, leF, s1, s2, n1, c1, hO, hSe, hSo, hF, hOn, hN]
    done

end Go.Ab
/-
  Polish.
-/
namespace Go.Ab
open Go.Proofs
set_option linter.unusedSimpArgs false
set_option linter.unusedVariables false
set_option maxRecDepth 100000
set_option maxHeartbeats 2000000

variable {H : Heap}


def z0 (b : Bk) : Bk := ⟨b.lo, b.hi, ⟨b.f0.lo, b.f0.hi, 0⟩, b.f1⟩
def z1 (b : Bk) : Bk := ⟨b.lo, b.hi, b.f0, ⟨b.f1.lo, b.f1.hi, 0⟩⟩
/-- A block with the faces of a set polished. -/
def polB (s i : Nat) (b : Bk) : Bk := if s.testBit (2 * i + 1) then z1 (if s.testBit (2 * i) then z0 b else b) else if s.testBit (2 * i) then z0 b else b
def polS (s : Nat) (L : List Bk) (i : Nat) : List Bk := L.set i (polB s i (L.getD i bk0))
def polL (s : Nat) (L : List Bk) : List Bk := foldF (polS s) L 0 L.length

theorem st_4 {n b : Nat} {o0 o1 : AO} {z : Option Value} {M : List Bk} {j : Nat} (hM : M.length = n) (hj : j < n) : evStore b (H ++ [o0, o1, .grow 8 (M.map Bk.av)]) ⟨.int .i64, 1, 8, z⟩ (elA (.gsl (H.length + 2) n) (j : Int) 4) (.int .i64 0) = some (H ++ [o0, o1, .grow 8 ((M.set j (z0 (M.getD j bk0))).map Bk.av)]) := by
  subst hM
  have h1 : (M.map Bk.av)[j]? = some (M.getD j bk0).av := by simp [hj]
  have h2 : (H ++ [o0, o1, .grow 8 (M.map Bk.av)])[H.length + 2]? = some (.grow 8 (M.map Bk.av)) := by rw [get_at']; rfl
  simp only [elA, Int.toNat_natCast, evStore, h2, List.length_map, h1, Bk.av]
  simp [AV.lt, writePart, allScalar, AV.cells, AV.scalar, splice, AV.withCells, List.map_set, z0, set_at', Bk.av]

theorem st_7 {n b : Nat} {o0 o1 : AO} {z : Option Value} {M : List Bk} {j : Nat} (hM : M.length = n) (hj : j < n) : evStore b (H ++ [o0, o1, .grow 8 (M.map Bk.av)]) ⟨.int .i64, 1, 8, z⟩ (elA (.gsl (H.length + 2) n) (j : Int) 7) (.int .i64 0) = some (H ++ [o0, o1, .grow 8 ((M.set j (z1 (M.getD j bk0))).map Bk.av)]) := by
  subst hM
  have h1 : (M.map Bk.av)[j]? = some (M.getD j bk0).av := by simp [hj]
  have h2 : (H ++ [o0, o1, .grow 8 (M.map Bk.av)])[H.length + 2]? = some (.grow 8 (M.map Bk.av)) := by rw [get_at']; rfl
  simp only [elA, Int.toNat_natCast, evStore, h2, List.length_map, h1, Bk.av]
  simp [AV.lt, writePart, allScalar, AV.cells, AV.scalar, splice, AV.withCells, List.map_set, z1, set_at', Bk.av]

theorem polS_len (s : Nat) (L : List Bk) (i : Nat) : (polS s L i).length = L.length := by simp [polS]
theorem set_self' (L : List Bk) (j : Nat) : L.set j (L.getD j bk0) = L := by
  apply List.ext_getElem?
  intro i
  rw [List.getElem?_set]
  by_cases h : j = i
  · subst h
    by_cases h2 : j < L.length
    · simp [h2]
    · simp [h2]
  · simp [h]
theorem getD_set (L : List Bk) {j : Nat} (h : j < L.length) (x : Bk) : (L.set j x).getD j bk0 = x := by simp [h]

theorem pol_loop {va vb : AV} (s1 : vb.scalar = true) (s2 : va.scalar = true) (tv : va.lt H.length = true) (hsv : ∀ A : Heap, sealG A H.length va = va) (s : Nat) (hs : s < 1024) (n : Nat) (hn : n ≤ 5) (r : List Bk) :
    ∀ (q j : Nat), j + q = n → ∀ (L : List Bk), L.length = n → foldF (polS s) L j q = r → ∀ E : Env, E.get 1 = U s → E.get 2 = .ptr H.length 0 → E.get 4 = .ptr (H.length + 1) 0 → E.get 5 = .gsl (H.length + 2) n → E.get 17 = I n → E.get 18 = I j →
    Option.map (finishC H.length) (execL cfg0 prog0 ⟨85, none, false, H.length⟩ (todoAt Try.f85 4) ⟨E, [], H ++ [.box (.agg [vb, va]), .box (.agg [.sl true [], .sl true []]), .grow 8 (L.map Bk.av)], none⟩) = some ⟨.ret (.agg [.sl false (r.map Bk.av), va]), H, none⟩ := by
  intro q
  skip
  induction q with
  | zero =>
    intro j hj L hL hr E g1 g2 g4 g5 g17 g18
    have hk' : ¬ (j : Int) < ((n : Nat) : Int) := by omega
    simp only [foldF] at hr
    subst hr
    have la : (L.map Bk.av).length = n := by rw [List.length_map, hL]
    have t3 : ltL H.length (L.map Bk.av) = true := ltL_map (fun _ => rfl) L
    have t4 : ltL 0 (L.map Bk.av) = true := ltL_map (fun _ => rfl) L
    simp only [loopIt, todoPast, todoAt, todoOf, firstReg, ↓reduceIte, Option.some.injEq, Nat.reduceEqDiff, reduceCtorEq, Try.f85]
    rw [execL_inLoop]
    simp (maxSteps := 1000000) (implicitDefEqProofs := false) (disch := first | rfl | omega | assumption) only [go_sem, g1, g2, g4, g5, g17, g18, ltT, ltF, leT, leF, hk', s1, s2, la, t3, t4, tv, hsv]
    done
  | succ q ih =>
    intro j hj L hL hr E g1 g2 g4 g5 g17 g18
    have hk' : (j : Int) < ((n : Nat) : Int) := by omega
    have hk2 : j < n := by omega
    simp only [foldF] at hr
    have key := ih (j + 1) (by omega) (polS s L j) (by rw [polS_len]; exact hL) hr
    have f1 := @SlOk.fF (H ++ [.box (.agg [vb, va]), .box (.agg [.sl true [], .sl true []]), .grow 8 (L.map Bk.av)]) Bk Bk.av bk0 8 (.gsl (H.length + 2) n) L ⟨⟨by rw [get_at']; rfl, by rw [List.length_map, hL]⟩, fun x hx => by obtain ⟨i, _, rfl⟩ := List.mem_map.1 hx; rfl⟩
    obtain ⟨-, a2, -, -, a5⟩ := f1
    have f2 := @SlOk.fF (H ++ [.box (.agg [vb, va]), .box (.agg [.sl true [], .sl true []]), .grow 8 ((L.set j (z0 (L.getD j bk0))).map Bk.av)]) Bk Bk.av bk0 8 (.gsl (H.length + 2) n) (L.set j (z0 (L.getD j bk0))) ⟨⟨by rw [get_at']; rfl, by rw [List.length_map, List.length_set, hL]⟩, fun x hx => by obtain ⟨i, _, rfl⟩ := List.mem_map.1 hx; rfl⟩
    obtain ⟨-, b2, -, -, b5⟩ := f2
    rw [hL] at a2
    rw [List.length_set, hL] at b2
    have h0 := shrN (s := s) (j := 2 * j) (by omega)
    have h1 := shrN (s := s) (j := 2 * j + 1) (by omega)
    have k0 := bitU (s := s) (j := 2 * j) (by omega)
    have k1 := bitU (s := s) (j := 2 * j + 1) (by omega)
    have m0 := and_one (s := s) (j := 2 * j)
    have m1 := and_one (s := s) (j := 2 * j + 1)
    have x0 : IntKind.i64.wrap (2 * (j : Int)) = ((2 * j : Nat) : Int) := by rw [w64 (by omega) (by omega)]; omega
    have x1 : IntKind.i64.wrap (((2 * j : Nat) : Int) + 0) = ((2 * j : Nat) : Int) := by rw [w64 (by omega) (by omega)]; omega
    have x2 : IntKind.i64.wrap (((2 * j : Nat) : Int) + 1) = ((2 * j + 1 : Nat) : Int) := by rw [w64 (by omega) (by omega)]; omega
    have z2 : ¬ ((2 * j : Nat) : Int) < 0 := by omega
    have z3 : ¬ ((2 * j + 1 : Nat) : Int) < 0 := by omega
    have hjn : j < n := hk2
    have u1 := fun (o0 o1 : AO) (b : Nat) (z : Option Value) => @st_4 H n b o0 o1 z L j hL hjn
    have u2 := fun (o0 o1 : AO) (b : Nat) (z : Option Value) => @st_7 H n b o0 o1 z L j hL hjn
    have u3 := fun (o0 o1 : AO) (b : Nat) (z : Option Value) => @st_7 H n b o0 o1 z (L.set j (z0 (L.getD j bk0))) j (by rw [List.length_set]; exact hL) hjn
    rw [getD_set L (by omega)] at u3
    rw [List.set_set] at u3
    have hself := set_self' L j
    simp only [polS] at key
    generalize L.getD j bk0 = bj at *
    cases c0 : s.testBit (2 * j)
    · rw [c0] at m0
      cases c1 : s.testBit (2 * j + 1)
      · rw [c1] at m1
        have e : polB s j bj = bj := by simp only [polB, c0, c1, if_true, Bool.false_eq_true, if_false]
        rw [e, hself] at key
        simp only [loopIt, todoPast, todoAt, todoOf, firstReg, ↓reduceIte, Option.some.injEq, Nat.reduceEqDiff, reduceCtorEq, Try.f85]
        rw [execL_inLoop]
        simp (maxSteps := 1000000) (implicitDefEqProofs := false) (disch := first | rfl | omega | assumption) only [go_sem, g1, g2, g4, g5, g17, g18, ltT, ltF, leT, leF, hk', s1, s2, h0, h1, k0, k1, m0, m1, x0, x1, x2, z2, z3, a2, a5, b2, b5, u1, u2, u3]
        rw [execL_inLoop]
        simp (maxSteps := 1000000) (implicitDefEqProofs := false) (disch := first | rfl | omega | assumption) only [go_sem, g1, g2, g4, g5, g17, g18, ltT, ltF, leT, leF, hk', s1, s2, h0, h1, k0, k1, m0, m1, x0, x1, x2, z2, z3, a2, a5, b2, b5, u1, u2, u3]
        rw [execL_inLoop]
        simp (maxSteps := 1000000) (implicitDefEqProofs := false) (disch := first | rfl | omega | assumption) only [go_sem, g1, g2, g4, g5, g17, g18, ltT, ltF, leT, leF, hk', s1, s2, h0, h1, k0, k1, m0, m1, x0, x1, x2, z2, z3, a2, a5, b2, b5, u1, u2, u3]
        rw [execL_inLoop]
        simp (maxSteps := 1000000) (implicitDefEqProofs := false) (disch := first | rfl | omega | assumption) only [go_sem, g1, g2, g4, g5, g17, g18, ltT, ltF, leT, leF, hk', s1, s2, h0, h1, k0, k1, m0, m1, x0, x1, x2, z2, z3, a2, a5, b2, b5, u1, u2, u3]
        exact key _ (by exact g1) (by exact g2) (by exact g4) (by exact g5) (by exact g17) (by rfl)
      · rw [c1] at m1
        have e : polB s j bj = z1 bj := by simp only [polB, c0, c1, if_true, Bool.false_eq_true, if_false]
        rw [e] at key
        simp only [loopIt, todoPast, todoAt, todoOf, firstReg, ↓reduceIte, Option.some.injEq, Nat.reduceEqDiff, reduceCtorEq, Try.f85]
        rw [execL_inLoop]
        simp (maxSteps := 1000000) (implicitDefEqProofs := false) (disch := first | rfl | omega | assumption) only [go_sem, g1, g2, g4, g5, g17, g18, ltT, ltF, leT, leF, hk', s1, s2, h0, h1, k0, k1, m0, m1, x0, x1, x2, z2, z3, a2, a5, b2, b5, u1, u2, u3]
        rw [execL_inLoop]
        simp (maxSteps := 1000000) (implicitDefEqProofs := false) (disch := first | rfl | omega | assumption) only [go_sem, g1, g2, g4, g5, g17, g18, ltT, ltF, leT, leF, hk', s1, s2, h0, h1, k0, k1, m0, m1, x0, x1, x2, z2, z3, a2, a5, b2, b5, u1, u2, u3]
        rw [execL_inLoop]
        simp (maxSteps := 1000000) (implicitDefEqProofs := false) (disch := first | rfl | omega | assumption) only [go_sem, g1, g2, g4, g5, g17, g18, ltT, ltF, leT, leF, hk', s1, s2, h0, h1, k0, k1, m0, m1, x0, x1, x2, z2, z3, a2, a5, b2, b5, u1, u2, u3]
        rw [execL_inLoop]
        simp (maxSteps := 1000000) (implicitDefEqProofs := false) (disch := first | rfl | omega | assumption) only [go_sem, g1, g2, g4, g5, g17, g18, ltT, ltF, leT, leF, hk', s1, s2, h0, h1, k0, k1, m0, m1, x0, x1, x2, z2, z3, a2, a5, b2, b5, u1, u2, u3]
        exact key _ (by exact g1) (by exact g2) (by exact g4) (by exact g5) (by exact g17) (by rfl)
    · rw [c0] at m0
      cases c1 : s.testBit (2 * j + 1)
      · rw [c1] at m1
        have e : polB s j bj = z0 bj := by simp only [polB, c0, c1, if_true, Bool.false_eq_true, if_false]
        rw [e] at key
        simp only [loopIt, todoPast, todoAt, todoOf, firstReg, ↓reduceIte, Option.some.injEq, Nat.reduceEqDiff, reduceCtorEq, Try.f85]
        rw [execL_inLoop]
        simp (maxSteps := 1000000) (implicitDefEqProofs := false) (disch := first | rfl | omega | assumption) only [go_sem, g1, g2, g4, g5, g17, g18, ltT, ltF, leT, leF, hk', s1, s2, h0, h1, k0, k1, m0, m1, x0, x1, x2, z2, z3, a2, a5, b2, b5, u1, u2, u3]
        rw [execL_inLoop]
        simp (maxSteps := 1000000) (implicitDefEqProofs := false) (disch := first | rfl | omega | assumption) only [go_sem, g1, g2, g4, g5, g17, g18, ltT, ltF, leT, leF, hk', s1, s2, h0, h1, k0, k1, m0, m1, x0, x1, x2, z2, z3, a2, a5, b2, b5, u1, u2, u3]
        rw [execL_inLoop]
        simp (maxSteps := 1000000) (implicitDefEqProofs := false) (disch := first | rfl | omega | assumption) only [go_sem, g1, g2, g4, g5, g17, g18, ltT, ltF, leT, leF, hk', s1, s2, h0, h1, k0, k1, m0, m1, x0, x1, x2, z2, z3, a2, a5, b2, b5, u1, u2, u3]
        rw [execL_inLoop]
        simp (maxSteps := 1000000) (implicitDefEqProofs := false) (disch := first | rfl | omega | assumption) only [go_sem, g1, g2, g4, g5, g17, g18, ltT, ltF, leT, leF, hk', s1, s2, h0, h1, k0, k1, m0, m1, x0, x1, x2, z2, z3, a2, a5, b2, b5, u1, u2, u3]
        exact key _ (by exact g1) (by exact g2) (by exact g4) (by exact g5) (by exact g17) (by rfl)
      · rw [c1] at m1
        have e : polB s j bj = z1 (z0 bj) := by simp only [polB, c0, c1, if_true, Bool.false_eq_true, if_false]
        rw [e] at key
        simp only [loopIt, todoPast, todoAt, todoOf, firstReg, ↓reduceIte, Option.some.injEq, Nat.reduceEqDiff, reduceCtorEq, Try.f85]
        rw [execL_inLoop]
        simp (maxSteps := 1000000) (implicitDefEqProofs := false) (disch := first | rfl | omega | assumption) only [go_sem, g1, g2, g4, g5, g17, g18, ltT, ltF, leT, leF, hk', s1, s2, h0, h1, k0, k1, m0, m1, x0, x1, x2, z2, z3, a2, a5, b2, b5, u1, u2, u3]
        rw [execL_inLoop]
        simp (maxSteps := 1000000) (implicitDefEqProofs := false) (disch := first | rfl | omega | assumption) only [go_sem, g1, g2, g4, g5, g17, g18, ltT, ltF, leT, leF, hk', s1, s2, h0, h1, k0, k1, m0, m1, x0, x1, x2, z2, z3, a2, a5, b2, b5, u1, u2, u3]
        rw [execL_inLoop]
        simp (maxSteps := 1000000) (implicitDefEqProofs := false) (disch := first | rfl | omega | assumption) only [go_sem, g1, g2, g4, g5, g17, g18, ltT, ltF, leT, leF, hk', s1, s2, h0, h1, k0, k1, m0, m1, x0, x1, x2, z2, z3, a2, a5, b2, b5, u1, u2, u3]
        rw [execL_inLoop]
        simp (maxSteps := 1000000) (implicitDefEqProofs := false) (disch := first | rfl | omega | assumption) only [go_sem, g1, g2, g4, g5, g17, g18, ltT, ltF, leT, leF, hk', s1, s2, h0, h1, k0, k1, m0, m1, x0, x1, x2, z2, z3, a2, a5, b2, b5, u1, u2, u3]
        exact key _ (by exact g1) (by exact g2) (by exact g4) (by exact g5) (by exact g17) (by rfl)

theorem polF_len (s : Nat) : ∀ (q j : Nat) (L : List Bk), (foldF (polS s) L j q).length = L.length
  | 0, _, _ => rfl
  | q + 1, j, L => by rw [foldF, polF_len s q, polS_len]

theorem polF_at (s i : Nat) : ∀ (q j : Nat) (L : List Bk), j + q ≤ L.length → (foldF (polS s) L j q).getD i bk0 = if j ≤ i ∧ i < j + q then polB s i (L.getD i bk0) else L.getD i bk0
  | 0, j, L, h => by
    rw [if_neg (by omega)]; rfl
  | q + 1, j, L, h => by
    rw [foldF, polF_at s i q (j + 1) (polS s L j) (by rw [polS_len]; omega)]
    have e : (polS s L j).getD i bk0 = if j = i then polB s i (L.getD i bk0) else L.getD i bk0 := by
      by_cases hji : j = i
      · subst hji
        rw [if_pos rfl, polS, getD_set L (by omega)]
      · rw [if_neg hji]
        simp [polS, List.getElem?_set_ne hji]
    rw [e]
    by_cases h1 : j = i
    · subst h1
      rw [if_neg (by omega), if_pos rfl, if_pos (by omega)]
    · rw [if_neg h1]
      by_cases h2 : j + 1 ≤ i ∧ i < j + 1 + q
      · rw [if_pos h2, if_pos (by omega)]
      · rw [if_neg h2, if_neg (by omega)]

/-- A wring, some of whose faces were polished. -/
def Wg.pol (w : Wg) (s : Nat) : Wg := ⟨polL s w.bs, w.ps⟩
theorem pol_n (w : Wg) (s : Nat) : (w.pol s).bs.length = w.bs.length := polF_len s _ _ _
theorem pol_b (w : Wg) (s : Nat) {i : Nat} (h : i < w.bs.length) : (w.pol s).b i = polB s i (w.b i) := by
  have := polF_at s i w.bs.length 0 w.bs (by omega)
  rw [if_pos (by omega)] at this
  exact this

theorem polB_keep (s i : Nat) (b : Bk) : (polB s i b).lo = b.lo ∧ (polB s i b).hi = b.hi ∧ (polB s i b).f0.lo = b.f0.lo ∧ (polB s i b).f0.hi = b.f0.hi ∧ (polB s i b).f1.lo = b.f1.lo ∧ (polB s i b).f1.hi = b.f1.hi ∧ (polB s i b).f0.st = (if s.testBit (2 * i) then 0 else b.f0.st) ∧ (polB s i b).f1.st = (if s.testBit (2 * i + 1) then 0 else b.f1.st) := by
  simp only [polB]
  cases s.testBit (2 * i) <;> cases s.testBit (2 * i + 1) <;> simp [z0, z1]

theorem pol_ok {w : Wg} (ho : w.Ok) (s : Nat) : (w.pol s).Ok := by
  have hn := pol_n w s
  refine ⟨by simp only [Wg.n, hn]; exact ho.n, ho.np, fun i hi => ?_, fun i hi => ?_, fun i hi => ?_, fun i hi => ?_⟩
  · simp only [Wg.n, hn] at hi
    obtain ⟨k1, k2, -⟩ := polB_keep s i (w.b i)
    rw [pol_b w s hi, k1, k2]
    exact ho.sp i hi
  · simp only [Wg.n, hn] at hi
    obtain ⟨-, -, k1, k2, -, -, k3, -⟩ := polB_keep s i (w.b i)
    have h0 := ho.f0 i hi
    rw [pol_b w s hi]
    refine ⟨by rw [k1, k2]; exact h0.sp, ?_⟩
    rw [k3]
    split
    · omega
    · exact h0.st
  · simp only [Wg.n, hn] at hi
    obtain ⟨-, -, -, -, k1, k2, -, k3⟩ := polB_keep s i (w.b i)
    have h0 := ho.f1 i hi
    rw [pol_b w s hi]
    refine ⟨by rw [k1, k2]; exact h0.sp, ?_⟩
    rw [k3]
    split
    · omega
    · exact h0.st
  · have := ho.ap i hi
    simp only [Wg.n] at this ⊢
    rw [hn]
    exact this

def bkV (L : List Bk) : AV := .sl false (L.map Bk.av)

theorem pol_at {w : Wg} {vb va : AV} (h : WgAt H w vb va) (s : Nat) : WgAt H (w.pol s) (bkV (w.pol s).bs) va := ⟨⟨rfl, fun x hx => by obtain ⟨i, _, rfl⟩ := List.mem_map.1 hx; rfl⟩, h.ps⟩

theorem wr_polished {w : Wg} {vb va : AV} (h : WgAt H w vb va) (hl : w.bs.length ≤ 5) (s : Nat) (hs : s < 1024) :
    callFL cfg0 prog0 false 85 [.agg [vb, va], U s] H none = some ⟨.ret (.agg [bkV (w.pol s).bs, va]), H, none⟩ := by
  have s1 := h.bs.scal
  have s2 := h.ps.scal
  have n1 := h.bs.len
  rw [List.length_map] at n1
  have c1 := h.bs.cel
  have he := fun G : Heap => (h.bs.app G).elems
  have he2 : ltL 0 (w.bs.map Bk.av) = true := ltL_map (fun _ => rfl) _
  have he3 := elemsOk_map (f := Bk.av) (sz := 8) (a := true) (fun _ => rfl) w.bs
  have h1 := pol_loop (H := H) (vb := vb) s1 s2 h.ps.lt0 (fun A => h.ps.sld A) s hs w.bs.length hl (polL s w.bs) w.bs.length 0 (by omega) w.bs rfl rfl
  have e1 : bkV (w.pol s).bs = .sl false ((polL s w.bs).map Bk.av) := rfl
  rw [e1]
  refine (callFL_eq fn85 rfl (by simp [Try.f85])).trans ?_
  simp (maxSteps := 1000000) (implicitDefEqProofs := false) (disch := first | rfl | omega | assumption) only [go_sem, ltT, ltF, leT, leF, s1, s2, n1, c1, evCopy, he, he2, he3, List.length_replicate]
  exact h1 _ (by rfl) (by rfl) (by rfl) (by rfl) (by rfl) (by rfl)

end Go.Ab
/-
  Polish.
-/
namespace Go.Ab
open Go.Proofs
set_option linter.unusedSimpArgs false
set_option linter.unusedVariables false
set_option maxRecDepth 100000
set_option maxHeartbeats 2000000

variable {H : Heap}


/-- Whether all blocks can be wrung with some faces polished. -/
def Wg.canP (w : Wg) (s : Nat) : Bool := decide (0 < ((w.pol s).tal false ⟨2 ^ w.bs.length - 1, pc0, false⟩).1)

theorem wr_pol2 {w : Wg} {vb va : AV} {l m pa pb : Nat} {b : Bool} (hS : ShAt H l m w b vb va) (ho : w.Ok) (hA : H[pa]? = some (.box (.agg [vb, va]))) (hB : H[pb]? = some (.box (.ptr l 0))) (s : Nat) (hs : s < 1024) :
    callFL cfg0 prog0 false 84 [U s, .ptr pa 0, .ptr pb 0] H none = some ⟨.ret (.bool (w.canP s)), H, none⟩ := by
  have h5 := ho.n.2
  simp only [Wg.n] at h5
  have hp := wr_polished hS.wat h5 s hs
  have hpk := pol_ok ho s
  have hO := wr_openA (pol_at hS.wat s) ⟨by rw [pol_n]; omega, by have := ho.np; simp only [Wg.pol]; omega⟩ (((w.pol s).valid_iff).2 hpk)
  have hAl := fun G => wr_all (hS.app G) ho.n.2
  have hC := wr_can (opG_at (pol_at hS.wat s)) hpk (s := 2 ^ w.bs.length - 1) (by rw [pol_n]; exact full_lt w)
  have e : w.canP s = decide (0 < ((w.pol s).tal false ⟨2 ^ w.bs.length - 1, pc0, false⟩).1) := rfl
  rw [← e] at hC
  simp only [opG, Wg.n] at hO hAl hC
  have lA := (List.getElem?_eq_some_iff.1 hA).1
  have lB := (List.getElem?_eq_some_iff.1 hB).1
  have hB' := fun G : Heap => (by rw [List.getElem?_append_left lB]; exact hB : (H ++ G)[pb]? = some (.box (.ptr l 0)))
  refine (callFL_eq fn84 rfl (by simp [Try.f84])).trans ?_
  simp (maxSteps := 1000000) (implicitDefEqProofs := false) (disch := first | rfl | omega | assumption) only [go_sem, ltT, ltF, leT, leF, hA, hB]
  rw [chkK_of]; rotate_left; kernel_rfl
  simp (maxSteps := 1000000) (implicitDefEqProofs := false) (disch := first | rfl | omega | assumption) only [go_sem, ltT, ltF, leT, leF, hA, hB, hB', hp, hO, hAl, hC]
  done

def Wg.polishS (w : Wg) : Option Nat := firstF w.canP (setL (2 * w.bs.length)) 0 (setL (2 * w.bs.length)).length
/-- What Polish answers. -/
def Wg.polish (w : Wg) : Int × Int × Int := if w.valid then (match w.polishS with
  | some x => ((pop x : Nat), (x : Nat), 0)
  | none => (0, 0, 4)) else (0, 0, 1)

theorem wr_Polish {w : Wg} {vb va : AV} (h : WgAt H w vb va) (hl : w.bs.length ≤ 1000 ∧ w.ps.length ≤ 1000) :
    callFL cfg0 prog0 false 31 [.agg [vb, va]] H none = some ⟨.ret (.tup [I w.polish.1, I w.polish.2.1, I w.polish.2.2]), H, none⟩ := by
  have s1 := h.bs.scal
  have s2 := h.ps.scal
  have n1 := h.bs.len
  rw [List.length_map] at n1
  have c1 := h.bs.cel
  have hN := fun G => wd_Polishn (H.length + 1) G
  have hD := fun (e : Int) (a : AO) (G : Heap) => wd_Polishs (H.length + 1) e 0 (H ++ (a :: .box (I 0) :: G)) (by rw [get_at' 1]; rfl)
  simp only [Wg.polish]
  cases hv : w.valid
  · have hO := wr_openX (h.app [.box (.agg [vb, va]), .box (I 0)]) hl hv
    simp only [Bool.false_eq_true, if_false]
    refine (callFL_eq fn31 rfl (by simp [Try.f31])).trans ?_
    simp (maxSteps := 1000000) (implicitDefEqProofs := false) (disch := first | rfl | omega | assumption) only [go_sem, ltT, ltF, leT, leF, s1, s2, hO, hD]
    done
  have ho := w.valid_iff.1 hv
  have h5 := ho.n.2
  simp only [Wg.n] at h5
  have hp2 : (2 : Nat) ^ (2 * w.bs.length) ≤ 2 ^ 10 := Nat.pow_le_pow_right (by omega) (by omega)
  have hO := wr_openA (h.app [.box (.agg [vb, va]), .box (I 0)]) hl hv
  have hS := opG_in (H := H) (G0 := [.box (.agg [vb, va]), .box (I 0)]) (n := H.length + 2) (by simp) h
  have hSe := fun G => wr_sets (2 * w.bs.length) (by omega) G
  have hsl : SlOk (H ++ [.box (.agg [vb, va]), .box (I 0), .box (.agg [vb, va]), .map 71 (apM w.ps), .box (.agg (shC vb va (fcsN w.b) (vwA false) (H.length + 3))), .box (.ptr (H.length + 4) 0), .grow 1 ((setL (2 * w.bs.length)).map U)]) 1 (.gsl (H.length + 6) (2 ^ (2 * w.bs.length))) ((setL (2 * w.bs.length)).map U) :=
    ⟨⟨by rw [get_at']; rfl, by rw [List.length_map, setL_len]⟩, fun x hx => by obtain ⟨i, _, rfl⟩ := List.mem_map.1 hx; rfl⟩
  have hF := wr_firstU hsl (by rw [setL_len]; omega) (.func 84) [] [.ptr H.length 0, .ptr (H.length + 5) 0] w.canP rfl (fun j G hj => by
    have hc := wr_pol2 (pa := H.length) (pb := H.length + 5) (hS (.box (.ptr (H.length + 4) 0) :: .grow 1 ((setL (2 * w.bs.length)).map U) :: G)) ho (by rw [get_at]; rfl) (by rw [get_at' 5]; rfl) ((setL (2 * w.bs.length)).getD j 0) (by have := setL_lt (2 * w.bs.length) j hj; omega)
    rw [callVL_func]
    simp only [opG, List.append_assoc, List.cons_append, List.nil_append, Nat.add_assoc, Nat.reduceAdd] at hc ⊢
    exact hc)
  have hmS : w.polishS = firstF w.canP (setL (2 * w.bs.length)) 0 (setL (2 * w.bs.length)).length := rfl
  rw [← hmS] at hF
  have x0 : IntKind.i64.wrap (2 * (w.bs.length : Int)) = ((2 * w.bs.length : Nat) : Int) := by rw [w64 (by omega) (by omega)]; omega
  simp only [if_true]
  simp only [opG, List.length_append, List.length_cons, List.length_nil, Nat.zero_add, Nat.reduceAdd, Nat.add_assoc, List.append_assoc, List.cons_append, List.nil_append, List.append_nil] at hO ⊢
  cases hm : w.polishS with
  | none =>
    rw [hm] at hF
    simp only [firA] at hF ⊢
    refine (callFL_eq fn31 rfl (by simp [Try.f31])).trans ?_
    simp (maxSteps := 1000000) (implicitDefEqProofs := false) (disch := first | rfl | omega | assumption) only [go_sem, ltT, ltF, leT, leF, s1, s2, hO]
    simp (maxSteps := 1000000) (implicitDefEqProofs := false) (disch := first | rfl | omega | assumption) only [go_sem, ltT, ltF, leT, leF, s1, s2, n1, c1, x0, hO, hSe, hF, wr_must, hD]
    done
  | some x =>
    rw [hm] at hF
    have hxl := firstF_lt (setL_lt (2 * w.bs.length)) (hmS.symm.trans hm)
    have hOn := fun G : Heap => ones (H := G) (x := x) (by omega)
    simp only [firA] at hF ⊢
    refine (callFL_eq fn31 rfl (by simp [Try.f31])).trans ?_
    simp (maxSteps := 1000000) (implicitDefEqProofs := false) (disch := first | rfl | omega | assumption) only [go_sem, ltT, ltF, leT, leF, s1, s2, hO]
    simp (maxSteps := 1000000) (implicitDefEqProofs := false) (disch := first | rfl | omega | assumption) only [go_sem, ltT, ltF, leT, leF, s1, s2, n1, c1, x0, hO, hSe, hF, hOn, wr_must, hN]
    done

end Go.Ab
/-
  The reference, walked: blocks, faces, what must be apart, joints.
-/
namespace Go.Ab
open Go.Proofs
set_option linter.unusedSimpArgs false
set_option linter.unusedVariables false
set_option maxRecDepth 100000
set_option maxHeartbeats 2000000

variable {H : Heap}


theorem ld_ne {k m : Nat} {o : Option Nat} {r : Lds} (h : m ≠ k) : getAt (addLd k o r) m = getAt r m := by
  cases o
  · rfl
  · simp only [addLd, getAt]; rw [if_neg (Ne.symm h)]

theorem ld_eq {k : Nat} {o : Option Nat} {r : Lds} : getAt (addLd k o r) k = o.or (getAt r k) := by
  cases o
  · simp [addLd]
  · simp [addLd, getAt]

/-- What lies at a slice that was there before has not turned by what is made later. -/
theorem SlOk.old {sz : Nat} {v : AV} {xs : List AV} (h : SlOk H sz v xs) (A B : Heap) : pairM (some (H ++ A, H ++ B)) (gslOf v) = true := by
  rcases h.obj with hg | ⟨l, hg, hlt, hget⟩
  · rw [hg]; rfl
  · rw [hg, pairM_some]
    have hs : ∀ l : List AV, sameL l l = true := fun l => by
      induction l with
      | nil => rfl
      | cons x r ih => simp [sameL, AV.same_refl, ih]
    simp only [sameAt, List.getElem?_append_left hlt, hget, AO.same, hs]
    simp

theorem or_none' (o : Option Nat) : o.or none = o := by cases o <;> rfl

theorem ref_Block {w : Wg} {vb va : AV} (h : WgAt H w vb va) (hl : w.bs.length ≤ 1000) (x : Int) : callFL cfg0 prog0 false 91 [.agg [vb, va], I x] H none = some ⟨.ret (.bool (wi x 0 ((w.n : Int) - 1))), H, none⟩ := by
  have s1 := h.bs.scal
  have s2 := h.ps.scal
  have n1 := h.bs.len
  have c1 := h.bs.cel
  rw [List.length_map] at n1
  refine (callFL_eq fn91 rfl (by simp [Try.f91])).trans ?_
  simp (maxSteps := 1000000) (implicitDefEqProofs := false) (disch := first | rfl | omega | assumption) only [go_sem, ltT, ltF, leT, leF, s1, s2, n1, c1, ref_in]

end Go.Ab
/-
  The reference, walked: what is valid.
-/
namespace Go.Ab
open Go.Proofs
set_option linter.unusedSimpArgs false
set_option linter.unusedVariables false
set_option maxRecDepth 100000
set_option maxHeartbeats 2000000

variable {H : Heap}


theorem rw_blk {w : Wg} {vb va : AV} (h : WgAt H w vb va) (hn : w.n ≤ 5) (r : Bool) (K : List Item) (R : Option Done) (hK : r = true → ∀ E : Env, E.get 1 = .ptr H.length 0 → Option.map (finishC H.length) (execL cfg0 prog0 ⟨37, none, false, H.length⟩ K ⟨E, [], H ++ [.box (.agg [vb, va])], none⟩) = R) (e1 : r = false → R = some ⟨.ret (.bool false), H, none⟩) :
    ∀ (q j : Nat), j + q = w.bs.length → ∀ (G : Heap), w.bsOk j q = r → ∀ E : Env, E.get 1 = .ptr H.length 0 → E.get 3 = I j →
    Option.map (finishC H.length) (execL cfg0 prog0 ⟨37, none, false, H.length⟩ (loopIt Try.f37 4 :: .inBlock 0 :: K) ⟨E, [], H ++ (.box (.agg [vb, va]) :: G), none⟩) = R := by
  intro q
  have hn' : w.bs.length ≤ 5 := hn
  obtain ⟨a1, a2, a3, a4, a5⟩ := h.bs.fF (d := bk0)
  have s1 := h.bs.scal
  have s2 := h.ps.scal
  have c1' := h.bs.cel
  have n1 := h.bs.len
  rw [List.length_map] at n1
  have t1 := h.bs.ltn 1
  have t2 := h.ps.ltn 1
  induction q with
  | zero =>
    intro j hj G hr E g1 g3
    have hk' : ¬ (j : Int) < ((w.bs.length : Nat) : Int) := by omega
    have hr1 : r = true := by rw [← hr]; rfl
    simp only [loopIt, todoPast, todoAt, todoOf, firstReg, ↓reduceIte, Option.some.injEq, Nat.reduceEqDiff, reduceCtorEq, Try.f37]
    rw [execL_inLoop]
    simp (maxSteps := 1000000) (implicitDefEqProofs := false) (disch := first | rfl | omega | assumption) only [go_sem, g1, g3, ltT, ltF, leT, leF, hk', s1, s2, t1, t2, c1', n1]
    exact hK hr1 _ (by rfl)
  | succ q ih =>
    intro j hj G hr E g1 g3
    have hk' : (j : Int) < ((w.bs.length : Nat) : Int) := by omega
    have hk2 : j < w.bs.length := by omega
    have hu : w.bsOk j (q + 1) = (bkOk (w.b j) && w.bsOk (j + 1) q) := by
      simp only [Wg.bsOk, anyF]
      cases bkOk (w.b j) <;> simp
    rw [hu] at hr
    obtain ⟨x, hx⟩ : ∃ x, w.b j = x := ⟨_, rfl⟩
    have hx' : w.bs.getD j bk0 = x := hx
    rw [hx] at hr
    obtain ⟨lo, hi, ⟨f1, f2, f3⟩, ⟨f4, f5, f6⟩⟩ := x
    have hrd : ∀ (o : Nat) (ty : Ty), readPart (Bk.av ⟨lo, hi, ⟨f1, f2, f3⟩, ⟨f4, f5, f6⟩⟩).cells o ty = readPart [I lo, I hi, I f1, I f2, I f3, I f4, I f5, I f6] o ty := fun _ _ => rfl
    have hok : bkOk ⟨lo, hi, ⟨f1, f2, f3⟩, ⟨f4, f5, f6⟩⟩ = (spOk lo hi 1 200 && ((spOk f1 f2 0 5 && wi f3 0 2) && (spOk f4 f5 0 5 && wi f6 0 2))) := rfl
    rw [hok] at hr
    cases c1 : spOk lo hi 1 200
    · rw [c1, Bool.false_and, Bool.false_and] at hr
      rw [e1 hr.symm]
      simp only [loopIt, todoPast, todoAt, todoOf, firstReg, ↓reduceIte, Option.some.injEq, Nat.reduceEqDiff, reduceCtorEq, Try.f37]
      rw [execL_inLoop]
      simp (maxSteps := 1000000) (implicitDefEqProofs := false) (disch := first | rfl | omega | assumption) only [go_sem, g1, g3, ltT, ltF, leT, leF, hk', s1, s2, c1', n1, t1, t2, a1, a2, a3, a4, a5, hx', hrd, ref_span, ref_in, c1]
      done
    rw [c1, Bool.true_and] at hr
    simp only [loopIt, todoPast, todoAt, todoOf, firstReg, ↓reduceIte, Option.some.injEq, Nat.reduceEqDiff, reduceCtorEq, Try.f37]
    rw [execL_inLoop]
    simp (maxSteps := 1000000) (implicitDefEqProofs := false) (disch := first | rfl | omega | assumption) only [go_sem, g1, g3, ltT, ltF, leT, leF, hk', s1, s2, c1', n1, t1, t2, a1, a2, a3, a4, a5, hx', hrd, ref_span, ref_in, c1]
    rw [execL_inLoop]
    cases c2 : spOk f1 f2 0 5
    · rw [c2, Bool.false_and, Bool.false_and, Bool.false_and] at hr
      rw [e1 hr.symm]
      simp (maxSteps := 1000000) (implicitDefEqProofs := false) (disch := first | rfl | omega | assumption) only [go_sem, g1, g3, ltT, ltF, leT, leF, hk', s1, s2, c1', n1, t1, t2, a1, a2, a3, a4, a5, hx', hrd, ref_span, ref_in, c2]
      done
    cases c3 : wi f3 0 2
    · rw [c2, c3, Bool.and_false, Bool.false_and, Bool.false_and] at hr
      rw [e1 hr.symm]
      simp (maxSteps := 1000000) (implicitDefEqProofs := false) (disch := first | rfl | omega | assumption) only [go_sem, g1, g3, ltT, ltF, leT, leF, hk', s1, s2, c1', n1, t1, t2, a1, a2, a3, a4, a5, hx', hrd, ref_span, ref_in, c2, c3]
      done
    rw [c2, c3, Bool.and_self, Bool.true_and] at hr
    simp (maxSteps := 1000000) (implicitDefEqProofs := false) (disch := first | rfl | omega | assumption) only [go_sem, g1, g3, ltT, ltF, leT, leF, hk', s1, s2, c1', n1, t1, t2, a1, a2, a3, a4, a5, hx', hrd, ref_span, ref_in, c2, c3]
    rw [execL_inLoop]
    cases c4 : spOk f4 f5 0 5
    · rw [c4, Bool.false_and, Bool.false_and] at hr
      rw [e1 hr.symm]
      simp (maxSteps := 1000000) (implicitDefEqProofs := false) (disch := first | rfl | omega | assumption) only [go_sem, g1, g3, ltT, ltF, leT, leF, hk', s1, s2, c1', n1, t1, t2, a1, a2, a3, a4, a5, hx', hrd, ref_span, ref_in, c4]
      done
    cases c5 : wi f6 0 2
    · rw [c4, c5, Bool.and_false, Bool.false_and] at hr
      rw [e1 hr.symm]
      simp (maxSteps := 1000000) (implicitDefEqProofs := false) (disch := first | rfl | omega | assumption) only [go_sem, g1, g3, ltT, ltF, leT, leF, hk', s1, s2, c1', n1, t1, t2, a1, a2, a3, a4, a5, hx', hrd, ref_span, ref_in, c4, c5]
      done
    rw [c4, c5, Bool.and_self, Bool.true_and] at hr
    simp (maxSteps := 1000000) (implicitDefEqProofs := false) (disch := first | rfl | omega | assumption) only [go_sem, g1, g3, ltT, ltF, leT, leF, hk', s1, s2, c1', n1, t1, t2, a1, a2, a3, a4, a5, hx', hrd, ref_span, ref_in, c4, c5]
    rw [execL_inLoop]
    simp (maxSteps := 1000000) (implicitDefEqProofs := false) (disch := first | rfl | omega | assumption) only [go_sem, g1, g3, ltT, ltF, leT, leF, hk', s1, s2, c1', n1, t1, t2, a1, a2, a3, a4, a5, hx', hrd, ref_span, ref_in]
    exact ih (j + 1) (by omega) _ hr _ (by rfl) (by rfl)

theorem rw_ap {w : Wg} {vb va : AV} (h : WgAt H w vb va) (hn : w.bs.length ≤ 5) (hp : w.ps.length ≤ 6) (r : Bool) :
    ∀ (q j : Nat), j + q = w.ps.length → w.psOk j q = r → ∀ E : Env, E.get 1 = .ptr H.length 0 → E.get 6 = I j →
    Option.map (finishC H.length) (execL cfg0 prog0 ⟨37, none, false, H.length⟩ (todoAt Try.f37 15) ⟨E, [], H ++ [.box (.agg [vb, va])], none⟩) = some ⟨.ret (.bool r), H, none⟩ := by
  intro q
  obtain ⟨a1, a2, a3, a4, a5⟩ := h.ps.fF (d := ap0)
  have s1 := h.bs.scal
  have s2 := h.ps.scal
  have c1' := h.bs.cel
  have n2 := h.ps.len
  rw [List.length_map] at n2
  have o1 := h.ps.old
  have o2 := fun (k : Int) (off : Nat) => ptrOf_elA (k := k) (off := off) h.ps
  have hB := fun (G : Heap) (x : Int) => ref_Block (h.app G) (by omega) x
  induction q with
  | zero =>
    intro j hj hr E g1 g6
    have hk' : ¬ (j : Int) < ((w.ps.length : Nat) : Int) := by omega
    have hr1 : r = true := by rw [← hr]; rfl
    subst hr1
    simp only [loopIt, todoPast, todoAt, todoOf, firstReg, ↓reduceIte, Option.some.injEq, Nat.reduceEqDiff, reduceCtorEq, Try.f37]
    rw [execL_inLoop]
    simp (maxSteps := 1000000) (implicitDefEqProofs := false) (disch := first | rfl | omega | assumption) only [go_sem, g1, g6, ltT, ltF, leT, leF, hk', s1, s2, c1', n2]
    done
  | succ q ih =>
    intro j hj hr E g1 g6
    have hk' : (j : Int) < ((w.ps.length : Nat) : Int) := by omega
    have hk2 : j < w.ps.length := by omega
    have hu : w.psOk j (q + 1) = (w.apOk (w.a j) && w.psOk (j + 1) q) := by
      simp only [Wg.psOk, anyF]
      cases w.apOk (w.a j) <;> simp
    rw [hu] at hr
    obtain ⟨⟨a, b⟩, hx⟩ : ∃ x, w.a j = x := ⟨_, rfl⟩
    have hx' : w.ps.getD j ap0 = ⟨a, b⟩ := hx
    rw [hx] at hr
    have hrd : ∀ (o : Nat) (ty : Ty), readPart (Ap.av ⟨a, b⟩).cells o ty = readPart [I a, I b] o ty := fun _ _ => rfl
    have hok : w.apOk ⟨a, b⟩ = (wi a 0 ((w.n : Int) - 1) && (wi b 0 ((w.n : Int) - 1) && (a != b))) := rfl
    rw [hok] at hr
    have hBa := fun G => hB G a
    have hBb := fun G => hB G b
    cases k1 : wi a 0 ((w.n : Int) - 1)
    · rw [k1, Bool.false_and, Bool.false_and] at hr
      rw [k1] at hBa
      subst hr
      simp only [loopIt, todoPast, todoAt, todoOf, firstReg, ↓reduceIte, Option.some.injEq, Nat.reduceEqDiff, reduceCtorEq, Try.f37]
      rw [execL_inLoop]
      simp (maxSteps := 1000000) (implicitDefEqProofs := false) (disch := first | rfl | omega | assumption) only [go_sem, g1, g6, ltT, ltF, leT, leF, hk', s1, s2, c1', n2]
      rw [chkK_of]; rotate_left; kernel_rfl
      simp (maxSteps := 1000000) (implicitDefEqProofs := false) (disch := first | rfl | omega | assumption) only [go_sem, g1, g6, ltT, ltF, leT, leF, hk', s1, s2, c1', n2, a1, a2, a3, a4, a5, o1, o2, ld_ne, ld_eq, or_none', hx', hrd, hBa, hBb]
      done
    cases k2 : wi b 0 ((w.n : Int) - 1)
    · rw [k1, k2, Bool.false_and, Bool.and_false, Bool.false_and] at hr
      rw [k1] at hBa
      rw [k2] at hBb
      subst hr
      simp only [loopIt, todoPast, todoAt, todoOf, firstReg, ↓reduceIte, Option.some.injEq, Nat.reduceEqDiff, reduceCtorEq, Try.f37]
      rw [execL_inLoop]
      simp (maxSteps := 1000000) (implicitDefEqProofs := false) (disch := first | rfl | omega | assumption) only [go_sem, g1, g6, ltT, ltF, leT, leF, hk', s1, s2, c1', n2]
      rw [chkK_of]; rotate_left; kernel_rfl
      simp (maxSteps := 1000000) (implicitDefEqProofs := false) (disch := first | rfl | omega | assumption) only [go_sem, g1, g6, ltT, ltF, leT, leF, hk', s1, s2, c1', n2, a1, a2, a3, a4, a5, o1, o2, ld_ne, ld_eq, or_none', hx', hrd, hBa, hBb]
      done
    rw [k1] at hBa
    rw [k2] at hBb
    rw [k1, k2, Bool.true_and, Bool.true_and] at hr
    by_cases k3 : a = b
    · have k4 : (a == b) = true := by simp [k3]
      have k5 : (a != b) = false := by simp [k3]
      rw [k5, Bool.false_and] at hr
      subst hr
      simp only [loopIt, todoPast, todoAt, todoOf, firstReg, ↓reduceIte, Option.some.injEq, Nat.reduceEqDiff, reduceCtorEq, Try.f37]
      rw [execL_inLoop]
      simp (maxSteps := 1000000) (implicitDefEqProofs := false) (disch := first | rfl | omega | assumption) only [go_sem, g1, g6, ltT, ltF, leT, leF, hk', s1, s2, c1', n2]
      rw [chkK_of]; rotate_left; kernel_rfl
      simp (maxSteps := 1000000) (implicitDefEqProofs := false) (disch := first | rfl | omega | assumption) only [go_sem, g1, g6, ltT, ltF, leT, leF, hk', s1, s2, c1', n2, a1, a2, a3, a4, a5, o1, o2, ld_ne, ld_eq, or_none', hx', hrd, hBa, hBb, k4]
      done
    · have k4 : (a == b) = false := by simp [k3]
      have k5 : (a != b) = true := by simp [k3]
      rw [k5, Bool.true_and] at hr
      simp only [loopIt, todoPast, todoAt, todoOf, firstReg, ↓reduceIte, Option.some.injEq, Nat.reduceEqDiff, reduceCtorEq, Try.f37]
      rw [execL_inLoop]
      simp (maxSteps := 1000000) (implicitDefEqProofs := false) (disch := first | rfl | omega | assumption) only [go_sem, g1, g6, ltT, ltF, leT, leF, hk', s1, s2, c1', n2]
      rw [chkK_of]; rotate_left; kernel_rfl
      simp (maxSteps := 1000000) (implicitDefEqProofs := false) (disch := first | rfl | omega | assumption) only [go_sem, g1, g6, ltT, ltF, leT, leF, hk', s1, s2, c1', n2, a1, a2, a3, a4, a5, o1, o2, ld_ne, ld_eq, or_none', hx', hrd, hBa, hBb, k4]
      exact ih (j + 1) (by omega) hr _ (by exact g1) (by rfl)

theorem ref_Wring {w : Wg} {vb va : AV} (h : WgAt H w vb va) (hl : w.bs.length ≤ 1000 ∧ w.ps.length ≤ 1000) : callFL cfg0 prog0 false 37 [.agg [vb, va]] H none = some ⟨.ret (.bool w.valid), H, none⟩ := by
  have s1 := h.bs.scal
  have s2 := h.ps.scal
  have n1 := h.bs.len
  have n2 := h.ps.len
  have c1' := h.bs.cel
  have c2' := h.ps.cel
  rw [List.length_map] at n1 n2
  have hv : w.valid = ((wi w.bs.length 1 5 && decide ((w.ps.length : Int) ≤ 6)) && (w.bsOk 0 w.bs.length && w.psOk 0 w.ps.length)) := rfl
  cases c1 : wi w.bs.length 1 5
  · have : w.valid = false := by rw [hv, c1]; rfl
    simp only [this]
    refine (callFL_eq fn37 rfl (by simp [Try.f37])).trans ?_
    simp (maxSteps := 1000000) (implicitDefEqProofs := false) (disch := first | rfl | omega | assumption) only [go_sem, ltT, ltF, leT, leF, s1, s2, n1, n2, c1', c2', ref_in, c1]
    done
  by_cases c2 : (w.ps.length : Int) ≤ 6
  rotate_left
  · have : w.valid = false := by rw [hv, c1]; simp [c2]
    simp only [this]
    refine (callFL_eq fn37 rfl (by simp [Try.f37])).trans ?_
    simp (maxSteps := 1000000) (implicitDefEqProofs := false) (disch := first | rfl | omega | assumption) only [go_sem, ltT, ltF, leT, leF, s1, s2, n1, n2, c1', c2', ref_in, c1, c2]
    done
  have hb5 := (wi_iff.1 c1).2
  have hv2 : w.valid = (w.bsOk 0 w.bs.length && w.psOk 0 w.ps.length) := by rw [hv, c1]; simp [c2]
  rw [hv2]
  refine (callFL_eq fn37 rfl (by simp [Try.f37])).trans ?_
  simp (maxSteps := 1000000) (implicitDefEqProofs := false) (disch := first | rfl | omega | assumption) only [go_sem, ltT, ltF, leT, leF, s1, s2, n1, n2, c1', c2', ref_in, c1, c2]
  refine rw_blk h (by simp only [Wg.n]; omega) (w.bsOk 0 w.bs.length) _ _ (fun h1 E g1 => ?_) (fun h1 => ?_) w.bs.length 0 (by omega) [] rfl _ (by rfl) (by rfl)
  · simp (maxSteps := 1000000) (implicitDefEqProofs := false) (disch := first | rfl | omega | assumption) only [go_sem, ltT, ltF, leT, leF, s1, s2, n1, n2, c1', c2', g1]
    rw [h1, Bool.true_and]
    exact rw_ap h (by omega) (by omega) _ w.ps.length 0 (by omega) rfl _ (by exact g1) (by rfl)
  · rw [h1]; rfl

end Go.Ab
