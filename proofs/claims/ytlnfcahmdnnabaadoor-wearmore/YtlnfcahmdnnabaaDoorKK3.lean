/-
  The sort of a list of sets: ranges that change places, and rotations, walked.
-/
import Derived.Test.YtlnfcahmdnnabaaDoorKK2
import Derived.Test.YtlnfcahmdnnabaaDoorKK1
namespace Go.Ab
open Go.Proofs
set_option linter.unusedSimpArgs false
set_option linter.unusedVariables false
set_option maxRecDepth 100000

variable {H : Heap}

theorem swR_loop {p : Nat} (hp : p < H.length) (a b c : Nat) (n : Nat) (hn : n ≤ 100000) (hab : a + c ≤ n ∧ b + c ≤ n) (R0 : List Nat) :
    ∀ (q j : Nat), j + q = c → ∀ (L : List Nat), L.length = n → swR a b L j q = R0 → ∀ E : Env, E.get 0 = .gsl p n → E.get 1 = I a → E.get 2 = I b → E.get 3 = I c → E.get 10 = I j →
    Option.map (finishC H.length) (execL cfg0 prog0 ⟨96, none, false, H.length⟩ (todoAt Tryd.f96 1) ⟨E, [], GH H p L, none⟩) = some ⟨.ret (.tup []), GH H p R0, none⟩ := by
  intro q
  skip
  induction q with
  | zero =>
    intro j hj L hL hr E g0 g1 g2 g3 g10
    have hk' : ¬ (j : Int) < ((c : Nat) : Int) := by omega
    simp only [swR] at hr
    subst hr
    simp only [loopIt, todoPast, todoAt, todoOf, firstReg, ↓reduceIte, Option.some.injEq, Nat.reduceEqDiff, reduceCtorEq, Tryd.f96]
    rw [execL_inLoop]
    simp (maxSteps := 1000000) (implicitDefEqProofs := false) (disch := first | rfl | omega | assumption) only [go_sem, g0, g1, g2, g3, g10, ltT, ltF, leT, leF, hk']
  | succ q ih =>
    intro j hj L hL hr E g0 g1 g2 g3 g10
    have hk' : (j : Int) < ((c : Nat) : Int) := by omega
    have hk2 : j < c := by omega
    simp only [swR] at hr
    have f1 := @GH_idx H p n hp
    have f2 := @GH_load H p n hp
    have f3 := @GH_store H p n H.length hp
    have e1 : (a : Int) + j = ((a + j : Nat) : Int) := rfl
    have e2 : (b : Int) + j = ((b + j : Nat) : Int) := rfl
    have hL2 : (L.set (a + j) (L.getD (b + j) 0)).length = n := by rw [List.length_set]; exact hL
    simp only [loopIt, todoPast, todoAt, todoOf, firstReg, ↓reduceIte, Option.some.injEq, Nat.reduceEqDiff, reduceCtorEq, Tryd.f96]
    rw [execL_inLoop]
    simp (maxSteps := 1000000) (implicitDefEqProofs := false) (disch := first | rfl | omega | assumption) only [go_sem, g0, g1, g2, g3, g10, ltT, ltF, leT, leF, hk']
    rw [chkK_of]; rotate_left; kernel_rfl
    simp (maxSteps := 1000000) (implicitDefEqProofs := false) (disch := first | rfl | omega | assumption) only [go_sem, g0, g1, g2, g3, g10, ltT, ltF, leT, leF, hk', f1, f2, f3, e1, e2]
    exact ih (j + 1) (by omega) (swp L (a + j) (b + j)) (by rw [swp_len]; exact hL) hr _ (by exact g0) (by exact g1) (by exact g2) (by exact g3) (by rfl)

theorem so_swR {fn : Fn} {cap : List AV} {p : Nat} (hp : p < H.length) {a b c n : Nat} (hn : n ≤ 100000) (hab : a + c ≤ n ∧ b + c ≤ n) {L : List Nat} (hL : L.length = n) :
    callFL cfg0 prog0 false 96 [.gsl p n, I a, I b, I c, .func fn [] cap] (GH H p L) none = some ⟨.ret (.tup []), GH H p (swR a b L 0 c), none⟩ := by
  have hlen : (GH H p L).length = H.length := by simp [GH]
  have h1 := swR_loop hp a b c n hn hab (swR a b L 0 c) c 0 (by omega) L hL rfl
  refine (callFL_eq fn96 rfl (by simp [Tryd.f96])).trans ?_
  simp (maxSteps := 1000000) (implicitDefEqProofs := false) (disch := first | rfl | omega | assumption) only [go_sem, ltT, ltF, leT, leF, hlen]
  exact h1 _ (by rfl) (by rfl) (by rfl) (by rfl) (by rfl)

theorem rot_loop {fn : Fn} {cap : List AV} {p : Nat} (hp : p < H.length) (m : Nat) (n : Nat) (hn : n ≤ 100000) (N : Nat) (R0 : List Nat) :
    ∀ (q j : Nat), j + q = N → ∀ (L : List Nat), ∀ (x y : Nat), L.length = n → 0 < x → 0 < y → x ≤ m → m + y ≤ n → x + y ≤ q → rot m q L x y = R0 → ∀ E : Env, E.get 0 = .gsl p n → E.get 2 = I m → E.get 4 = .func fn [] cap → E.get 10 = I x → E.get 11 = I y →
    Option.map (finishC H.length) (execL cfg0 prog0 ⟨95, none, false, H.length⟩ (todoAt Tryd.f95 2) ⟨E, [], GH H p L, none⟩) = some ⟨.ret (.tup []), GH H p R0, none⟩ := by
  intro q
  skip
  induction q with
  | zero =>
    intro j hj L x y hL hx hy hxm hym hq hr E g0 g2 g4 g10 g11
    have hk' : ¬ (j : Int) < ((N : Nat) : Int) := by omega
    simp only [loopIt, todoPast, todoAt, todoOf, firstReg, ↓reduceIte, Option.some.injEq, Nat.reduceEqDiff, reduceCtorEq, Tryd.f95]
    rw [execL_inLoop]
    exfalso
    omega
  | succ q ih =>
    intro j hj L x y hL hx hy hxm hym hq hr E g0 g2 g4 g10 g11
    have hk' : (j : Int) < ((N : Nat) : Int) := by omega
    have hk2 : j < N := by omega
    rw [rot] at hr
    have e1 : (m : Int) - x = ((m - x : Nat) : Int) := by omega
    have e2 : (m : Int) + y - x = ((m + y - x : Nat) : Int) := by omega
    by_cases c : x = y
    · subst c
      rw [if_pos rfl] at hr
      subst hr
      have h1 := @so_swR H fn cap p hp (m - x) m x n hn (by omega) L hL
      have z : ((x : Int) != x) = false := by simp
      simp only [loopIt, todoPast, todoAt, todoOf, firstReg, ↓reduceIte, Option.some.injEq, Nat.reduceEqDiff, reduceCtorEq, Tryd.f95]
      rw [execL_inLoop]
      simp (maxSteps := 1000000) (implicitDefEqProofs := false) (disch := first | rfl | omega | assumption) only [go_sem, g0, g2, g4, g10, g11, ltT, ltF, leT, leF, hk', z, e1, h1]
      done
    · rw [if_neg c] at hr
      have z : ((x : Int) != y) = true := by simp; omega
      by_cases d : y < x
      · rw [if_pos d] at hr
        have h1 := @so_swR H fn cap p hp (m - x) m y n hn (by omega) L hL
        have e3 : (x : Int) - y = ((x - y : Nat) : Int) := by omega
        simp only [loopIt, todoPast, todoAt, todoOf, firstReg, ↓reduceIte, Option.some.injEq, Nat.reduceEqDiff, reduceCtorEq, Tryd.f95]
        rw [execL_inLoop]
        simp (maxSteps := 1000000) (implicitDefEqProofs := false) (disch := first | rfl | omega | assumption) only [go_sem, g0, g2, g4, g10, g11, ltT, ltF, leT, leF, hk', z, e1, h1, e3]
        exact ih (j + 1) (by omega) _ (x - y) y (by rw [swR_len]; exact hL) (by omega) hy (by omega) hym (by omega) hr _ (by exact g0) (by exact g2) (by exact g4) (by rfl) (by exact g11)
      · rw [if_neg d] at hr
        have h1 := @so_swR H fn cap p hp (m - x) (m + y - x) x n hn (by omega) L hL
        have e3 : (y : Int) - x = ((y - x : Nat) : Int) := by omega
        simp only [loopIt, todoPast, todoAt, todoOf, firstReg, ↓reduceIte, Option.some.injEq, Nat.reduceEqDiff, reduceCtorEq, Tryd.f95]
        rw [execL_inLoop]
        simp (maxSteps := 1000000) (implicitDefEqProofs := false) (disch := first | rfl | omega | assumption) only [go_sem, g0, g2, g4, g10, g11, ltT, ltF, leT, leF, hk', z, e1, e2, h1, e3]
        exact ih (j + 1) (by omega) _ x (y - x) (by rw [swR_len]; exact hL) hx (by omega) hxm (by omega) (by omega) hr _ (by exact g0) (by exact g2) (by exact g4) (by exact g10) (by rfl)

theorem so_rot {fn : Fn} {cap : List AV} {p : Nat} (hp : p < H.length) {a m b n : Nat} (hn : n ≤ 100000) (h1 : a < m) (h2 : m < b) (h3 : b ≤ n) {L : List Nat} (hL : L.length = n) :
    callFL cfg0 prog0 false 95 [.gsl p n, I a, I m, I b, .func fn [] cap] (GH H p L) none = some ⟨.ret (.tup []), GH H p (rot m (b - a) L (m - a) (b - m)), none⟩ := by
  have hlen : (GH H p L).length = H.length := by simp [GH]
  have e1 : (m : Int) - a = ((m - a : Nat) : Int) := by omega
  have e2 : (b : Int) - m = ((b - m : Nat) : Int) := by omega
  have h := @rot_loop H fn cap p hp m n hn (b - a) _ (b - a) 0 (by omega) L (m - a) (b - m) hL (by omega) (by omega) (by omega) (by omega) (by omega) rfl
  refine (callFL_eq fn95 rfl (by simp [Tryd.f95])).trans ?_
  simp (maxSteps := 1000000) (implicitDefEqProofs := false) (disch := first | rfl | omega | assumption) only [go_sem, ltT, ltF, leT, leF, hlen, e1, e2]
  exact h _ (by rfl) (by rfl) (by rfl) (by rfl) (by rfl)

end Go.Ab
/-
  The sort of a list of sets: two lists become one, walked.
-/
namespace Go.Ab
open Go.Proofs
set_option linter.unusedSimpArgs false
set_option linter.unusedVariables false
set_option maxRecDepth 100000

variable {H : Heap}

theorem bs_bd (P : Nat → Bool) : ∀ (f i j : Nat), i ≤ j → i ≤ bs P f i j ∧ bs P f i j ≤ j
  | 0, i, j, h => ⟨Nat.le_refl _, h⟩
  | f + 1, i, j, h => by
    rw [bs]
    split
    · split
      · have := bs_bd P f ((i + j) / 2 + 1) j (by omega)
        omega
      · have := bs_bd P f i ((i + j) / 2) (by omega)
        omega
    · exact ⟨Nat.le_refl _, h⟩

theorem small_swR {B : Nat} (a b : Nat) : ∀ (q i : Nat) (L : List Nat), a + i + q ≤ L.length → b + i + q ≤ L.length → Small B L → Small B (swR a b L i q)
  | 0, _, _, _, _, h => h
  | q + 1, i, L, h1, h2, h => by
    rw [swR]
    exact small_swR a b q (i + 1) _ (by rw [swp_len]; omega) (by rw [swp_len]; omega) (swp_mem h (by omega) (by omega))

theorem small_rot {B : Nat} (m : Nat) : ∀ (f : Nat) (L : List Nat) (i j : Nat), i ≤ m → m + j ≤ L.length → Small B L → Small B (rot m f L i j)
  | 0, _, _, _, _, _, h => h
  | f + 1, L, i, j, h1, h2, h => by
    rw [rot]
    split
    · exact small_swR _ _ _ _ _ (by omega) (by omega) h
    · split
      · exact small_rot m f _ _ _ (by omega) (by rw [swR_len]; omega) (small_swR _ _ _ _ _ (by omega) (by omega) h)
      · exact small_rot m f _ _ _ (by omega) (by rw [swR_len]; omega) (small_swR _ _ _ _ _ (by omega) (by omega) h)

theorem small_upS {B : Nat} : ∀ (q k : Nat) (L : List Nat), k + q < L.length → Small B L → Small B (upS L k q)
  | 0, _, _, _, h => h
  | q + 1, k, L, h1, h => by
    rw [upS]
    exact small_upS q (k + 1) _ (by rw [swp_len]; omega) (swp_mem h (by omega) (by omega))

theorem small_dnS {B : Nat} : ∀ (q k : Nat) (L : List Nat), k + q < L.length → Small B L → Small B (dnS L k q)
  | 0, _, _, _, h => h
  | q + 1, k, L, h1, h => by
    rw [dnS]
    exact small_dnS q k _ (by rw [swp_len]; omega) (swp_mem h (by omega) (by omega))

/-- Where the cut is. -/
theorem symS_bd (key : Nat → Int) (L : List Nat) {a m b : Nat} (h1 : a < m) (h2 : m < b) : a ≤ symS key L a m b ∧ symS key L a m b ≤ m ∧ symS key L a m b ≤ (a + b) / 2 ∧ m ≤ (a + b) / 2 + m - symS key L a m b ∧ (a + b) / 2 + m - symS key L a m b ≤ b := by
  simp only [symS]
  have := bs_bd (fun c => !decide (key (gt L ((a + b) / 2 + m - 1 - c)) - key (gt L c) < 0)) ((if (a + b) / 2 < m then (a + b) / 2 else m) - (if (a + b) / 2 < m then (a + b) / 2 + m - b else a) + 1) (if (a + b) / 2 < m then (a + b) / 2 + m - b else a) (if (a + b) / 2 < m then (a + b) / 2 else m) (by split <;> omega)
  generalize bs _ _ _ _ = t at this ⊢
  split at this <;> omega

theorem small_sym {B : Nat} (key : Nat → Int) : ∀ (f : Nat) (L : List Nat) (a m b : Nat), a < m → m < b → b ≤ L.length → Small B L → Small B (sym key f L a m b)
  | 0, _, _, _, _, _, _, _, h => h
  | f + 1, L, a, m, b, h1, h2, h3, h => by
    rw [sym]
    split
    · rw [symA]
      have := bs_bd (fun h => decide (key (gt L h) - key (gt L a) < 0)) (b - m + 1) m b (by omega)
      exact small_upS _ _ _ (by omega) h
    · split
      · rw [symB]
        have := bs_bd (fun h => !decide (key (gt L m) - key (gt L h) < 0)) (m - a + 1) a m (by omega)
        exact small_dnS _ _ _ (by omega) h
      · obtain ⟨s1, s2, s3, s4, s5⟩ := symS_bd key L h1 h2
        dsimp only
        generalize symS key L a m b = s at *
        generalize (a + b) / 2 = mid at *
        have g1 : Small B (if s < m ∧ m < mid + m - s then rot m (mid + m - s - s) L (m - s) (mid + m - s - m) else L) := by
          split
          · exact small_rot _ _ _ _ _ (by omega) (by omega) h
          · exact h
        have l1 : (if s < m ∧ m < mid + m - s then rot m (mid + m - s - s) L (m - s) (mid + m - s - m) else L).length = L.length := by
          split
          · rw [rot_len]
          · rfl
        generalize (if s < m ∧ m < mid + m - s then rot m (mid + m - s - s) L (m - s) (mid + m - s - m) else L) = L1 at *
        have g2 : Small B (if a < s ∧ s < mid then sym key f L1 a s mid else L1) := by
          split
          · exact small_sym key f _ _ _ _ (by omega) (by omega) (by omega) g1
          · exact g1
        have l2 : (if a < s ∧ s < mid then sym key f L1 a s mid else L1).length = L.length := by
          split
          · rw [sym_len, l1]
          · exact l1
        generalize (if a < s ∧ s < mid then sym key f L1 a s mid else L1) = L2 at *
        split
        · exact small_sym key f _ _ _ _ (by omega) (by omega) (by omega) g2
        · exact g2

theorem half (x y : Nat) : ((x : Int) + y).fdiv (2 ^ min 1 64) = (((x + y) / 2 : Nat) : Int) := fdivN (x + y) 2
theorem halfw {x y : Nat} (h : x + y ≤ 1000000) : IntKind.u64.wrap ((x : Int) + y) = (x : Int) + y := wrapU (n := x + y) (by omega)

theorem bsA_loop {fn : Fn} {cap : List AV} {key : Nat → Int} {B : Nat} (hc : Cmp fn cap key B) {p : Nat} (hp : p < H.length) (a m b n : Nat) (hn : n ≤ 100000) (han : a < n) (L : List Nat) (hL : L.length = n) (hB : Small B L) (N R0 : Nat) (K : List Item) (R : Option Done) (hK : ∀ E : Env, E.get 0 = .gsl p n → E.get 1 = I a → E.get 2 = I m → E.get 3 = I b → E.get 4 = .func fn [] cap → E.get 10 = I R0 → Option.map (finishC H.length) (execL cfg0 prog0 ⟨94, none, false, H.length⟩ K ⟨E, [], GH H p L, none⟩) = R)  :
    ∀ (q j : Nat), j + q = N → ∀ (x y : Nat), y ≤ n → x ≤ y → y - x < q → bs (fun h => decide (key (gt L h) - key (gt L a) < 0)) q x y = R0 → ∀ E : Env, E.get 0 = .gsl p n → E.get 1 = I a → E.get 2 = I m → E.get 3 = I b → E.get 4 = .func fn [] cap → E.get 10 = I x → E.get 11 = I y →
    Option.map (finishC H.length) (execL cfg0 prog0 ⟨94, none, false, H.length⟩ (loopIt Tryd.f94 3 :: .inBlock 0 :: K) ⟨E, [], GH H p L, none⟩) = R := by
  intro q
  have f1 := @GH_idx H p n hp
  have f2 := @GH_load H p n hp
  have x1 := hB a (by omega)
  induction q with
  | zero =>
    intro j hj x y hyb hxy hq hr E g0 g1 g2 g3 g4 g10 g11
    have hk' : ¬ (j : Int) < ((N : Nat) : Int) := by omega
    simp only [loopIt, todoPast, todoAt, todoOf, firstReg, ↓reduceIte, Option.some.injEq, Nat.reduceEqDiff, reduceCtorEq, Tryd.f94]
    rw [execL_inLoop]
    exfalso
    omega
  | succ q ih =>
    intro j hj x y hyb hxy hq hr E g0 g1 g2 g3 g4 g10 g11
    have hk' : (j : Int) < ((N : Nat) : Int) := by omega
    have hk2 : j < N := by omega
    rw [bs] at hr
    by_cases c : x < y
    · rw [if_pos c] at hr
      obtain ⟨h, hh⟩ : ∃ h, (x + y) / 2 = h := ⟨_, rfl⟩
      have e1 := half x y
      have e2 := halfw (x := x) (y := y) (by omega)
      rw [hh] at hr e1
      have e3 : IntKind.i64.wrap (h : Int) = h := w64 (by omega) (by omega)
      have x2 := hB h (by omega)
      have hcc := fun G => hc.call _ _ G x2 x1
      have k1 := hc.bd (L.getD a 0)
      have k2 := hc.bd (L.getD h 0)
      have c' : (x : Int) < y := by omega
      by_cases d : key (L.getD h 0) - key (L.getD a 0) < 0
      · have d' : decide (key (gt L h) - key (gt L a) < 0) = true := by simpa [gt] using d
        rw [if_pos d'] at hr
        simp only [loopIt, todoPast, todoAt, todoOf, firstReg, ↓reduceIte, Option.some.injEq, Nat.reduceEqDiff, reduceCtorEq, Tryd.f94]
        rw [execL_inLoop]
        simp (maxSteps := 1000000) (implicitDefEqProofs := false) (disch := first | rfl | omega | assumption) only [go_sem, g0, g1, g2, g3, g4, g10, g11, ltT, ltF, leT, leF, hk', c', e1, e2, e3]
        rw [chkK_of]; rotate_left; kernel_rfl
        simp (maxSteps := 1000000) (implicitDefEqProofs := false) (disch := first | rfl | omega | assumption) only [go_sem, g0, g1, g2, g3, g4, g10, g11, ltT, ltF, leT, leF, hk', f1, f2, hcc, d]
        exact ih (j + 1) (by omega) (h + 1) y hyb (by omega) (by omega) hr _ (by exact g0) (by exact g1) (by exact g2) (by exact g3) (by exact g4) (by rfl) (by exact g11)
      · have d' : ¬ decide (key (gt L h) - key (gt L a) < 0) = true := by simpa [gt] using d
        rw [if_neg d'] at hr
        simp only [loopIt, todoPast, todoAt, todoOf, firstReg, ↓reduceIte, Option.some.injEq, Nat.reduceEqDiff, reduceCtorEq, Tryd.f94]
        rw [execL_inLoop]
        simp (maxSteps := 1000000) (implicitDefEqProofs := false) (disch := first | rfl | omega | assumption) only [go_sem, g0, g1, g2, g3, g4, g10, g11, ltT, ltF, leT, leF, hk', c', e1, e2, e3]
        rw [chkK_of]; rotate_left; kernel_rfl
        simp (maxSteps := 1000000) (implicitDefEqProofs := false) (disch := first | rfl | omega | assumption) only [go_sem, g0, g1, g2, g3, g4, g10, g11, ltT, ltF, leT, leF, hk', f1, f2, hcc, d]
        exact ih (j + 1) (by omega) x h (by omega) (by omega) (by omega) hr _ (by exact g0) (by exact g1) (by exact g2) (by exact g3) (by exact g4) (by exact g10) (by rfl)
    · rw [if_neg c] at hr
      subst hr
      have c' : ¬ (x : Int) < y := by omega
      simp only [loopIt, todoPast, todoAt, todoOf, firstReg, ↓reduceIte, Option.some.injEq, Nat.reduceEqDiff, reduceCtorEq, Tryd.f94]
      rw [execL_inLoop]
      simp (maxSteps := 1000000) (implicitDefEqProofs := false) (disch := first | rfl | omega | assumption) only [go_sem, g0, g1, g2, g3, g4, g10, g11, ltT, ltF, leT, leF, hk', c']
      exact hK _ (by exact g0) (by exact g1) (by exact g2) (by exact g3) (by exact g4) (by exact g10)

theorem up_loop {p : Nat} (hp : p < H.length) (a i n : Nat) (hn : n ≤ 100000) (hai : a < i ∧ i ≤ n) (R0 : List Nat) :
    ∀ (q j : Nat), j + q = i - 1 - a → ∀ (L : List Nat), L.length = n → upS L (a + j) q = R0 → ∀ E : Env, E.get 0 = .gsl p n → E.get 10 = I i → E.get 13 = I ((a + j : Nat) : Int) →
    Option.map (finishC H.length) (execL cfg0 prog0 ⟨94, none, false, H.length⟩ (todoAt Tryd.f94 9) ⟨E, [], GH H p L, none⟩) = some ⟨.ret (.tup []), GH H p R0, none⟩ := by
  intro q
  skip
  induction q with
  | zero =>
    intro j hj L hL hr E g0 g10 g13
    have hk' : ¬ (j : Int) < ((i - 1 - a : Nat) : Int) := by omega
    simp only [upS] at hr
    subst hr
    simp only [loopIt, todoPast, todoAt, todoOf, firstReg, ↓reduceIte, Option.some.injEq, Nat.reduceEqDiff, reduceCtorEq, Tryd.f94]
    rw [execL_inLoop]
    have c' : ¬ ((a + j : Nat) : Int) < (i : Int) - 1 := by omega
    simp (maxSteps := 1000000) (implicitDefEqProofs := false) (disch := first | rfl | omega | assumption) only [go_sem, g0, g10, g13, ltT, ltF, leT, leF, hk', c']
  | succ q ih =>
    intro j hj L hL hr E g0 g10 g13
    have hk' : (j : Int) < ((i - 1 - a : Nat) : Int) := by omega
    have hk2 : j < i - 1 - a := by omega
    simp only [upS] at hr
    have f1 := @GH_idx H p n hp
    have f2 := @GH_load H p n hp
    have f3 := @GH_store H p n H.length hp
    have c' : ((a + j : Nat) : Int) < (i : Int) - 1 := by omega
    have e1 : ((a + j : Nat) : Int) + 1 = ((a + j + 1 : Nat) : Int) := rfl
    have hL2 : (L.set (a + j) (L.getD (a + j + 1) 0)).length = n := by rw [List.length_set]; exact hL
    simp only [loopIt, todoPast, todoAt, todoOf, firstReg, ↓reduceIte, Option.some.injEq, Nat.reduceEqDiff, reduceCtorEq, Tryd.f94]
    rw [execL_inLoop]
    simp (maxSteps := 1000000) (implicitDefEqProofs := false) (disch := first | rfl | omega | assumption) only [go_sem, g0, g10, g13, ltT, ltF, leT, leF, hk', c']
    rw [chkK_of]; rotate_left; kernel_rfl
    simp (maxSteps := 1000000) (implicitDefEqProofs := false) (disch := first | rfl | omega | assumption) only [go_sem, g0, g10, g13, ltT, ltF, leT, leF, hk', f1, f2, f3, e1]
    exact ih (j + 1) (by omega) (swp L (a + j) (a + j + 1)) (by rw [swp_len]; exact hL) hr _ (by exact g0) (by exact g10) (by rfl)

theorem bsB_loop {fn : Fn} {cap : List AV} {key : Nat → Int} {B : Nat} (hc : Cmp fn cap key B) {p : Nat} (hp : p < H.length) (a m b n : Nat) (hn : n ≤ 100000) (han : m < n) (L : List Nat) (hL : L.length = n) (hB : Small B L) (N R0 : Nat) (K : List Item) (R : Option Done) (hK : ∀ E : Env, E.get 0 = .gsl p n → E.get 1 = I a → E.get 2 = I m → E.get 3 = I b → E.get 4 = .func fn [] cap → E.get 14 = I R0 → Option.map (finishC H.length) (execL cfg0 prog0 ⟨94, none, false, H.length⟩ K ⟨E, [], GH H p L, none⟩) = R)  :
    ∀ (q j : Nat), j + q = N → ∀ (x y : Nat), y ≤ n → x ≤ y → y - x < q → bs (fun h => !decide (key (gt L m) - key (gt L h) < 0)) q x y = R0 → ∀ E : Env, E.get 0 = .gsl p n → E.get 1 = I a → E.get 2 = I m → E.get 3 = I b → E.get 4 = .func fn [] cap → E.get 14 = I x → E.get 15 = I y →
    Option.map (finishC H.length) (execL cfg0 prog0 ⟨94, none, false, H.length⟩ (loopIt Tryd.f94 15 :: .inBlock 4 :: K) ⟨E, [], GH H p L, none⟩) = R := by
  intro q
  have f1 := @GH_idx H p n hp
  have f2 := @GH_load H p n hp
  have x1 := hB m (by omega)
  induction q with
  | zero =>
    intro j hj x y hyb hxy hq hr E g0 g1 g2 g3 g4 g14 g15
    have hk' : ¬ (j : Int) < ((N : Nat) : Int) := by omega
    simp only [loopIt, todoPast, todoAt, todoOf, firstReg, ↓reduceIte, Option.some.injEq, Nat.reduceEqDiff, reduceCtorEq, Tryd.f94]
    rw [execL_inLoop]
    exfalso
    omega
  | succ q ih =>
    intro j hj x y hyb hxy hq hr E g0 g1 g2 g3 g4 g14 g15
    have hk' : (j : Int) < ((N : Nat) : Int) := by omega
    have hk2 : j < N := by omega
    rw [bs] at hr
    by_cases c : x < y
    · rw [if_pos c] at hr
      obtain ⟨h, hh⟩ : ∃ h, (x + y) / 2 = h := ⟨_, rfl⟩
      have e1 := half x y
      have e2 := halfw (x := x) (y := y) (by omega)
      rw [hh] at hr e1
      have e3 : IntKind.i64.wrap (h : Int) = h := w64 (by omega) (by omega)
      have x2 := hB h (by omega)
      have hcc := fun G => hc.call _ _ G x1 x2
      have k1 := hc.bd (L.getD m 0)
      have k2 := hc.bd (L.getD h 0)
      have c' : (x : Int) < y := by omega
      by_cases d : key (L.getD m 0) - key (L.getD h 0) < 0
      · have d' : ¬ (!decide (key (gt L m) - key (gt L h) < 0)) = true := by
          simp only [Bool.not_eq_true', decide_eq_false_iff_not, Decidable.not_not]
          exact d
        rw [if_neg d'] at hr
        simp only [loopIt, todoPast, todoAt, todoOf, firstReg, ↓reduceIte, Option.some.injEq, Nat.reduceEqDiff, reduceCtorEq, Tryd.f94]
        rw [execL_inLoop]
        simp (maxSteps := 1000000) (implicitDefEqProofs := false) (disch := first | rfl | omega | assumption) only [go_sem, g0, g1, g2, g3, g4, g14, g15, ltT, ltF, leT, leF, hk', c', e1, e2, e3]
        rw [chkK_of]; rotate_left; kernel_rfl
        simp (maxSteps := 1000000) (implicitDefEqProofs := false) (disch := first | rfl | omega | assumption) only [go_sem, g0, g1, g2, g3, g4, g14, g15, ltT, ltF, leT, leF, hk', f1, f2, hcc, d]
        exact ih (j + 1) (by omega) x h (by omega) (by omega) (by omega) hr _ (by exact g0) (by exact g1) (by exact g2) (by exact g3) (by exact g4) (by exact g14) (by rfl)
      · have d' : (!decide (key (gt L m) - key (gt L h) < 0)) = true := by
          simp only [Bool.not_eq_true', decide_eq_false_iff_not]
          exact d
        rw [if_pos d'] at hr
        simp only [loopIt, todoPast, todoAt, todoOf, firstReg, ↓reduceIte, Option.some.injEq, Nat.reduceEqDiff, reduceCtorEq, Tryd.f94]
        rw [execL_inLoop]
        simp (maxSteps := 1000000) (implicitDefEqProofs := false) (disch := first | rfl | omega | assumption) only [go_sem, g0, g1, g2, g3, g4, g14, g15, ltT, ltF, leT, leF, hk', c', e1, e2, e3]
        rw [chkK_of]; rotate_left; kernel_rfl
        simp (maxSteps := 1000000) (implicitDefEqProofs := false) (disch := first | rfl | omega | assumption) only [go_sem, g0, g1, g2, g3, g4, g14, g15, ltT, ltF, leT, leF, hk', f1, f2, hcc, d]
        exact ih (j + 1) (by omega) (h + 1) y hyb (by omega) (by omega) hr _ (by exact g0) (by exact g1) (by exact g2) (by exact g3) (by exact g4) (by rfl) (by exact g15)
    · rw [if_neg c] at hr
      subst hr
      have c' : ¬ (x : Int) < y := by omega
      simp only [loopIt, todoPast, todoAt, todoOf, firstReg, ↓reduceIte, Option.some.injEq, Nat.reduceEqDiff, reduceCtorEq, Tryd.f94]
      rw [execL_inLoop]
      simp (maxSteps := 1000000) (implicitDefEqProofs := false) (disch := first | rfl | omega | assumption) only [go_sem, g0, g1, g2, g3, g4, g14, g15, ltT, ltF, leT, leF, hk', c']
      exact hK _ (by exact g0) (by exact g1) (by exact g2) (by exact g3) (by exact g4) (by exact g14)

theorem dn_loop {p : Nat} (hp : p < H.length) (i m n : Nat) (hn : n ≤ 100000) (hai : i ≤ m ∧ m < n) (R0 : List Nat) :
    ∀ (q j : Nat), j + q = m - i → ∀ (L : List Nat), L.length = n → dnS L i q = R0 → ∀ E : Env, E.get 0 = .gsl p n → E.get 14 = I i → E.get 17 = I ((i + q : Nat) : Int) →
    Option.map (finishC H.length) (execL cfg0 prog0 ⟨94, none, false, H.length⟩ (todoAt Tryd.f94 21) ⟨E, [], GH H p L, none⟩) = some ⟨.ret (.tup []), GH H p R0, none⟩ := by
  intro q
  skip
  induction q with
  | zero =>
    intro j hj L hL hr E g0 g14 g17
    have hk' : ¬ (j : Int) < ((m - i : Nat) : Int) := by omega
    simp only [dnS] at hr
    subst hr
    simp only [loopIt, todoPast, todoAt, todoOf, firstReg, ↓reduceIte, Option.some.injEq, Nat.reduceEqDiff, reduceCtorEq, Tryd.f94]
    rw [execL_inLoop]
    have c' : ¬ (i : Int) < ((i + 0 : Nat) : Int) := by omega
    simp (maxSteps := 1000000) (implicitDefEqProofs := false) (disch := first | rfl | omega | assumption) only [go_sem, g0, g14, g17, ltT, ltF, leT, leF, hk', c']
  | succ q ih =>
    intro j hj L hL hr E g0 g14 g17
    have hk' : (j : Int) < ((m - i : Nat) : Int) := by omega
    have hk2 : j < m - i := by omega
    simp only [dnS] at hr
    have f1 := @GH_idx H p n hp
    have f2 := @GH_load H p n hp
    have f3 := @GH_store H p n H.length hp
    have c' : (i : Int) < ((i + (q + 1) : Nat) : Int) := by omega
    have e1 : ((i + (q + 1) : Nat) : Int) - 1 = ((i + q : Nat) : Int) := by omega
    have hL2 : (L.set (i + (q + 1)) (L.getD (i + q) 0)).length = n := by rw [List.length_set]; exact hL
    simp only [loopIt, todoPast, todoAt, todoOf, firstReg, ↓reduceIte, Option.some.injEq, Nat.reduceEqDiff, reduceCtorEq, Tryd.f94]
    rw [execL_inLoop]
    simp (maxSteps := 1000000) (implicitDefEqProofs := false) (disch := first | rfl | omega | assumption) only [go_sem, g0, g14, g17, ltT, ltF, leT, leF, hk', c']
    rw [chkK_of]; rotate_left; kernel_rfl
    simp (maxSteps := 1000000) (implicitDefEqProofs := false) (disch := first | rfl | omega | assumption) only [go_sem, g0, g14, g17, ltT, ltF, leT, leF, hk', f1, f2, f3, e1]
    exact ih (j + 1) (by omega) (swp L (i + q + 1) (i + q)) (by rw [swp_len]; exact hL) hr _ (by exact g0) (by exact g14) (by rfl)

theorem bsC_loop {fn : Fn} {cap : List AV} {key : Nat → Int} {B : Nat} (hc : Cmp fn cap key B) {p : Nat} (hp : p < H.length) (a m b n w pp mid : Nat) (hn : n ≤ 100000) (hw : w ≤ 1000000) (L : List Nat) (hL : L.length = n) (hB : Small B L) (N R0 : Nat) (K : List Item) (R : Option Done) (hK : ∀ E : Env, E.get 0 = .gsl p n → E.get 1 = I a → E.get 2 = I m → E.get 3 = I b → E.get 4 = .func fn [] cap → E.get 18 = I mid → E.get 19 = I w → E.get 20 = I R0 → Option.map (finishC H.length) (execL cfg0 prog0 ⟨94, none, false, H.length⟩ K ⟨E, [], GH H p L, none⟩) = R)  :
    ∀ (q j : Nat), j + q = N → ∀ (x y : Nat), y ≤ pp + 1 → y ≤ n → (x < y → pp - x < n) → x ≤ y → y - x < q → bs (fun c => !decide (key (gt L (pp - c)) - key (gt L c) < 0)) q x y = R0 → ∀ E : Env, E.get 0 = .gsl p n → E.get 1 = I a → E.get 2 = I m → E.get 3 = I b → E.get 4 = .func fn [] cap → E.get 18 = I mid → E.get 19 = I w → E.get 20 = I x → E.get 21 = I y → E.get 22 = I pp →
    Option.map (finishC H.length) (execL cfg0 prog0 ⟨94, none, false, H.length⟩ (loopIt Tryd.f94 33 :: .inBlock 8 :: K) ⟨E, [], GH H p L, none⟩) = R := by
  intro q
  have f1 := @GH_idx H p n hp
  have f2 := @GH_load H p n hp
  induction q with
  | zero =>
    intro j hj x y hyb hyb2 hpx hxy hq hr E g0 g1 g2 g3 g4 g18 g19 g20 g21 g22
    have hk' : ¬ (j : Int) < ((N : Nat) : Int) := by omega
    simp only [loopIt, todoPast, todoAt, todoOf, firstReg, ↓reduceIte, Option.some.injEq, Nat.reduceEqDiff, reduceCtorEq, Tryd.f94]
    rw [execL_inLoop]
    exfalso
    omega
  | succ q ih =>
    intro j hj x y hyb hyb2 hpx hxy hq hr E g0 g1 g2 g3 g4 g18 g19 g20 g21 g22
    have hk' : (j : Int) < ((N : Nat) : Int) := by omega
    have hk2 : j < N := by omega
    rw [bs] at hr
    by_cases c : x < y
    · rw [if_pos c] at hr
      have hpx' := hpx c
      obtain ⟨h, hh⟩ : ∃ h, (x + y) / 2 = h := ⟨_, rfl⟩
      have e1 := half x y
      have e2 := halfw (x := x) (y := y) (by omega)
      rw [hh] at hr e1
      have e3 : IntKind.i64.wrap (h : Int) = h := w64 (by omega) (by omega)
      have e4 : (pp : Int) - h = ((pp - h : Nat) : Int) := by omega
      have x1 := hB (pp - h) (by omega)
      have x2 := hB h (by omega)
      have hcc := fun G => hc.call _ _ G x1 x2
      have k1 := hc.bd (L.getD (pp - h) 0)
      have k2 := hc.bd (L.getD h 0)
      have c' : (x : Int) < y := by omega
      by_cases d : key (L.getD (pp - h) 0) - key (L.getD h 0) < 0
      · have d' : ¬ (!decide (key (gt L (pp - h)) - key (gt L h) < 0)) = true := by
          simp only [Bool.not_eq_true', decide_eq_false_iff_not, Decidable.not_not]
          exact d
        rw [if_neg d'] at hr
        simp only [loopIt, todoPast, todoAt, todoOf, firstReg, ↓reduceIte, Option.some.injEq, Nat.reduceEqDiff, reduceCtorEq, Tryd.f94]
        rw [execL_inLoop]
        simp (maxSteps := 1000000) (implicitDefEqProofs := false) (disch := first | rfl | omega | assumption) only [go_sem, g0, g1, g2, g3, g4, g18, g19, g20, g21, g22, ltT, ltF, leT, leF, hk', c', e1, e2, e3]
        rw [chkK_of]; rotate_left; kernel_rfl
        simp (maxSteps := 1000000) (implicitDefEqProofs := false) (disch := first | rfl | omega | assumption) only [go_sem, g0, g1, g2, g3, g4, g18, g19, g20, g21, g22, ltT, ltF, leT, leF, hk', f1, f2, hcc, d, e4]
        exact ih (j + 1) (by omega) x h (by omega) (by omega) (by omega) (by omega) (by omega) hr _ (by exact g0) (by exact g1) (by exact g2) (by exact g3) (by exact g4) (by exact g18) (by exact g19) (by exact g20) (by rfl) (by exact g22)
      · have d' : (!decide (key (gt L (pp - h)) - key (gt L h) < 0)) = true := by
          simp only [Bool.not_eq_true', decide_eq_false_iff_not]
          exact d
        rw [if_pos d'] at hr
        simp only [loopIt, todoPast, todoAt, todoOf, firstReg, ↓reduceIte, Option.some.injEq, Nat.reduceEqDiff, reduceCtorEq, Tryd.f94]
        rw [execL_inLoop]
        simp (maxSteps := 1000000) (implicitDefEqProofs := false) (disch := first | rfl | omega | assumption) only [go_sem, g0, g1, g2, g3, g4, g18, g19, g20, g21, g22, ltT, ltF, leT, leF, hk', c', e1, e2, e3]
        rw [chkK_of]; rotate_left; kernel_rfl
        simp (maxSteps := 1000000) (implicitDefEqProofs := false) (disch := first | rfl | omega | assumption) only [go_sem, g0, g1, g2, g3, g4, g18, g19, g20, g21, g22, ltT, ltF, leT, leF, hk', f1, f2, hcc, d, e4]
        exact ih (j + 1) (by omega) (h + 1) y hyb hyb2 (by omega) (by omega) (by omega) hr _ (by exact g0) (by exact g1) (by exact g2) (by exact g3) (by exact g4) (by exact g18) (by exact g19) (by rfl) (by exact g21) (by exact g22)
    · rw [if_neg c] at hr
      subst hr
      have c' : ¬ (x : Int) < y := by omega
      simp only [loopIt, todoPast, todoAt, todoOf, firstReg, ↓reduceIte, Option.some.injEq, Nat.reduceEqDiff, reduceCtorEq, Tryd.f94]
      rw [execL_inLoop]
      simp (maxSteps := 1000000) (implicitDefEqProofs := false) (disch := first | rfl | omega | assumption) only [go_sem, g0, g1, g2, g3, g4, g18, g19, g20, g21, g22, ltT, ltF, leT, leF, hk', c']
      exact hK _ (by exact g0) (by exact g1) (by exact g2) (by exact g3) (by exact g4) (by exact g18) (by exact g19) (by exact g20)

end Go.Ab
/-
  The sort of a list of sets, walked.
-/
namespace Go.Ab
open Go.Proofs
set_option linter.unusedSimpArgs false
set_option linter.unusedVariables false
set_option maxRecDepth 100000

variable {H : Heap}

theorem so_sym_tail {fn : Fn} {cap : List AV} {p n a m b s mid e : Nat} {L L1 L2 L3 : List Nat} (hn : n ≤ 100000) (hb : b ≤ n) (hab : a ≤ s ∧ s ≤ m ∧ m ≤ e ∧ e ≤ b ∧ mid < b) (he : mid + m - s = e) (e6 : ((mid + m : Nat) : Int) - s = (e : Int))
    (d1 : ((s : Int) < m ∧ (m : Int) < e ∧ callFL cfg0 prog0 false 95 [.gsl p n, I s, I m, I (e : Int), .func fn [] cap] (GH H p L) none = some ⟨.ret (.tup []), GH H p L1, none⟩) ∨ ((s : Int) < m ∧ ¬ (m : Int) < e ∧ L = L1) ∨ (¬ (s : Int) < m ∧ L = L1))
    (d2 : ((a : Int) < s ∧ (s : Int) < mid ∧ callFL cfg0 prog0 false 94 [.gsl p n, I a, I s, I mid, .func fn [] cap] (GH H p L1) none = some ⟨.ret (.tup []), GH H p L2, none⟩) ∨ ((a : Int) < s ∧ ¬ (s : Int) < mid ∧ L1 = L2) ∨ (¬ (a : Int) < s ∧ L1 = L2))
    (d3 : ((mid : Int) < e ∧ (e : Int) < b ∧ callFL cfg0 prog0 false 94 [.gsl p n, I mid, I e, I b, .func fn [] cap] (GH H p L2) none = some ⟨.ret (.tup []), GH H p L3, none⟩) ∨ ((mid : Int) < e ∧ ¬ (e : Int) < b ∧ L2 = L3) ∨ (¬ (mid : Int) < e ∧ L2 = L3)) :
    ∀ (E : Env), E.get 0 = .gsl p n → E.get 1 = I a → E.get 2 = I m → E.get 3 = I b → E.get 4 = .func fn [] cap → E.get 18 = I mid → E.get 19 = I ((mid + m : Nat) : Int) → E.get 20 = I s →
        Option.map (finishC H.length) (execL cfg0 prog0 ⟨94, none, false, H.length⟩ (todoPast Tryd.f94 33) ⟨E, [], GH H p L, none⟩) = some ⟨.ret (.tup []), GH H p L3, none⟩ := by
  intro E g0 g1 g2 g3 g4 g18 g19 g20
  simp only [loopIt, todoPast, todoAt, todoOf, firstReg, ↓reduceIte, Option.some.injEq, Nat.reduceEqDiff, reduceCtorEq, Tryd.f94]
  rcases d1 with ⟨u1, v1, w1⟩ | ⟨u1, v1, rfl⟩ | ⟨u1, rfl⟩
  · simp (maxSteps := 1000000) (implicitDefEqProofs := false) (disch := first | rfl | omega | assumption) only [go_sem, ltT, ltF, leT, leF, g0, g1, g2, g3, g4, g18, g19, g20, e6, u1, v1, w1]
    rcases d2 with ⟨u2, v2, w2⟩ | ⟨u2, v2, rfl⟩ | ⟨u2, rfl⟩
    · simp (maxSteps := 1000000) (implicitDefEqProofs := false) (disch := first | rfl | omega | assumption) only [go_sem, ltT, ltF, leT, leF, g0, g1, g2, g3, g4, g18, g19, g20, e6, u1, v1, w1, u2, v2, w2]
      rcases d3 with ⟨u3, v3, w3⟩ | ⟨u3, v3, rfl⟩ | ⟨u3, rfl⟩
      · first | (exfalso; omega) | simp (maxSteps := 1000000) (implicitDefEqProofs := false) (disch := first | rfl | omega | assumption) only [go_sem, ltT, ltF, leT, leF, g0, g1, g2, g3, g4, g18, g19, g20, e6, u1, v1, w1, u2, v2, w2, u3, v3, w3]
      · first | (exfalso; omega) | simp (maxSteps := 1000000) (implicitDefEqProofs := false) (disch := first | rfl | omega | assumption) only [go_sem, ltT, ltF, leT, leF, g0, g1, g2, g3, g4, g18, g19, g20, e6, u1, v1, w1, u2, v2, w2, u3, v3]
      · first | (exfalso; omega) | simp (maxSteps := 1000000) (implicitDefEqProofs := false) (disch := first | rfl | omega | assumption) only [go_sem, ltT, ltF, leT, leF, g0, g1, g2, g3, g4, g18, g19, g20, e6, u1, v1, w1, u2, v2, w2, u3]
    · simp (maxSteps := 1000000) (implicitDefEqProofs := false) (disch := first | rfl | omega | assumption) only [go_sem, ltT, ltF, leT, leF, g0, g1, g2, g3, g4, g18, g19, g20, e6, u1, v1, w1, u2, v2]
      rcases d3 with ⟨u3, v3, w3⟩ | ⟨u3, v3, rfl⟩ | ⟨u3, rfl⟩
      · first | (exfalso; omega) | simp (maxSteps := 1000000) (implicitDefEqProofs := false) (disch := first | rfl | omega | assumption) only [go_sem, ltT, ltF, leT, leF, g0, g1, g2, g3, g4, g18, g19, g20, e6, u1, v1, w1, u2, v2, u3, v3, w3]
      · first | (exfalso; omega) | simp (maxSteps := 1000000) (implicitDefEqProofs := false) (disch := first | rfl | omega | assumption) only [go_sem, ltT, ltF, leT, leF, g0, g1, g2, g3, g4, g18, g19, g20, e6, u1, v1, w1, u2, v2, u3, v3]
      · first | (exfalso; omega) | simp (maxSteps := 1000000) (implicitDefEqProofs := false) (disch := first | rfl | omega | assumption) only [go_sem, ltT, ltF, leT, leF, g0, g1, g2, g3, g4, g18, g19, g20, e6, u1, v1, w1, u2, v2, u3]
    · simp (maxSteps := 1000000) (implicitDefEqProofs := false) (disch := first | rfl | omega | assumption) only [go_sem, ltT, ltF, leT, leF, g0, g1, g2, g3, g4, g18, g19, g20, e6, u1, v1, w1, u2]
      rcases d3 with ⟨u3, v3, w3⟩ | ⟨u3, v3, rfl⟩ | ⟨u3, rfl⟩
      · first | (exfalso; omega) | simp (maxSteps := 1000000) (implicitDefEqProofs := false) (disch := first | rfl | omega | assumption) only [go_sem, ltT, ltF, leT, leF, g0, g1, g2, g3, g4, g18, g19, g20, e6, u1, v1, w1, u2, u3, v3, w3]
      · first | (exfalso; omega) | simp (maxSteps := 1000000) (implicitDefEqProofs := false) (disch := first | rfl | omega | assumption) only [go_sem, ltT, ltF, leT, leF, g0, g1, g2, g3, g4, g18, g19, g20, e6, u1, v1, w1, u2, u3, v3]
      · first | (exfalso; omega) | simp (maxSteps := 1000000) (implicitDefEqProofs := false) (disch := first | rfl | omega | assumption) only [go_sem, ltT, ltF, leT, leF, g0, g1, g2, g3, g4, g18, g19, g20, e6, u1, v1, w1, u2, u3]
  · simp (maxSteps := 1000000) (implicitDefEqProofs := false) (disch := first | rfl | omega | assumption) only [go_sem, ltT, ltF, leT, leF, g0, g1, g2, g3, g4, g18, g19, g20, e6, u1, v1]
    rcases d2 with ⟨u2, v2, w2⟩ | ⟨u2, v2, rfl⟩ | ⟨u2, rfl⟩
    · simp (maxSteps := 1000000) (implicitDefEqProofs := false) (disch := first | rfl | omega | assumption) only [go_sem, ltT, ltF, leT, leF, g0, g1, g2, g3, g4, g18, g19, g20, e6, u1, v1, u2, v2, w2]
      rcases d3 with ⟨u3, v3, w3⟩ | ⟨u3, v3, rfl⟩ | ⟨u3, rfl⟩
      · first | (exfalso; omega) | simp (maxSteps := 1000000) (implicitDefEqProofs := false) (disch := first | rfl | omega | assumption) only [go_sem, ltT, ltF, leT, leF, g0, g1, g2, g3, g4, g18, g19, g20, e6, u1, v1, u2, v2, w2, u3, v3, w3]
      · first | (exfalso; omega) | simp (maxSteps := 1000000) (implicitDefEqProofs := false) (disch := first | rfl | omega | assumption) only [go_sem, ltT, ltF, leT, leF, g0, g1, g2, g3, g4, g18, g19, g20, e6, u1, v1, u2, v2, w2, u3, v3]
      · first | (exfalso; omega) | simp (maxSteps := 1000000) (implicitDefEqProofs := false) (disch := first | rfl | omega | assumption) only [go_sem, ltT, ltF, leT, leF, g0, g1, g2, g3, g4, g18, g19, g20, e6, u1, v1, u2, v2, w2, u3]
    · simp (maxSteps := 1000000) (implicitDefEqProofs := false) (disch := first | rfl | omega | assumption) only [go_sem, ltT, ltF, leT, leF, g0, g1, g2, g3, g4, g18, g19, g20, e6, u1, v1, u2, v2]
      rcases d3 with ⟨u3, v3, w3⟩ | ⟨u3, v3, rfl⟩ | ⟨u3, rfl⟩
      · first | (exfalso; omega) | simp (maxSteps := 1000000) (implicitDefEqProofs := false) (disch := first | rfl | omega | assumption) only [go_sem, ltT, ltF, leT, leF, g0, g1, g2, g3, g4, g18, g19, g20, e6, u1, v1, u2, v2, u3, v3, w3]
      · first | (exfalso; omega) | simp (maxSteps := 1000000) (implicitDefEqProofs := false) (disch := first | rfl | omega | assumption) only [go_sem, ltT, ltF, leT, leF, g0, g1, g2, g3, g4, g18, g19, g20, e6, u1, v1, u2, v2, u3, v3]
      · first | (exfalso; omega) | simp (maxSteps := 1000000) (implicitDefEqProofs := false) (disch := first | rfl | omega | assumption) only [go_sem, ltT, ltF, leT, leF, g0, g1, g2, g3, g4, g18, g19, g20, e6, u1, v1, u2, v2, u3]
    · simp (maxSteps := 1000000) (implicitDefEqProofs := false) (disch := first | rfl | omega | assumption) only [go_sem, ltT, ltF, leT, leF, g0, g1, g2, g3, g4, g18, g19, g20, e6, u1, v1, u2]
      rcases d3 with ⟨u3, v3, w3⟩ | ⟨u3, v3, rfl⟩ | ⟨u3, rfl⟩
      · first | (exfalso; omega) | simp (maxSteps := 1000000) (implicitDefEqProofs := false) (disch := first | rfl | omega | assumption) only [go_sem, ltT, ltF, leT, leF, g0, g1, g2, g3, g4, g18, g19, g20, e6, u1, v1, u2, u3, v3, w3]
      · first | (exfalso; omega) | simp (maxSteps := 1000000) (implicitDefEqProofs := false) (disch := first | rfl | omega | assumption) only [go_sem, ltT, ltF, leT, leF, g0, g1, g2, g3, g4, g18, g19, g20, e6, u1, v1, u2, u3, v3]
      · first | (exfalso; omega) | simp (maxSteps := 1000000) (implicitDefEqProofs := false) (disch := first | rfl | omega | assumption) only [go_sem, ltT, ltF, leT, leF, g0, g1, g2, g3, g4, g18, g19, g20, e6, u1, v1, u2, u3]
  · simp (maxSteps := 1000000) (implicitDefEqProofs := false) (disch := first | rfl | omega | assumption) only [go_sem, ltT, ltF, leT, leF, g0, g1, g2, g3, g4, g18, g19, g20, e6, u1]
    rcases d2 with ⟨u2, v2, w2⟩ | ⟨u2, v2, rfl⟩ | ⟨u2, rfl⟩
    · simp (maxSteps := 1000000) (implicitDefEqProofs := false) (disch := first | rfl | omega | assumption) only [go_sem, ltT, ltF, leT, leF, g0, g1, g2, g3, g4, g18, g19, g20, e6, u1, u2, v2, w2]
      rcases d3 with ⟨u3, v3, w3⟩ | ⟨u3, v3, rfl⟩ | ⟨u3, rfl⟩
      · first | (exfalso; omega) | simp (maxSteps := 1000000) (implicitDefEqProofs := false) (disch := first | rfl | omega | assumption) only [go_sem, ltT, ltF, leT, leF, g0, g1, g2, g3, g4, g18, g19, g20, e6, u1, u2, v2, w2, u3, v3, w3]
      · first | (exfalso; omega) | simp (maxSteps := 1000000) (implicitDefEqProofs := false) (disch := first | rfl | omega | assumption) only [go_sem, ltT, ltF, leT, leF, g0, g1, g2, g3, g4, g18, g19, g20, e6, u1, u2, v2, w2, u3, v3]
      · first | (exfalso; omega) | simp (maxSteps := 1000000) (implicitDefEqProofs := false) (disch := first | rfl | omega | assumption) only [go_sem, ltT, ltF, leT, leF, g0, g1, g2, g3, g4, g18, g19, g20, e6, u1, u2, v2, w2, u3]
    · simp (maxSteps := 1000000) (implicitDefEqProofs := false) (disch := first | rfl | omega | assumption) only [go_sem, ltT, ltF, leT, leF, g0, g1, g2, g3, g4, g18, g19, g20, e6, u1, u2, v2]
      rcases d3 with ⟨u3, v3, w3⟩ | ⟨u3, v3, rfl⟩ | ⟨u3, rfl⟩
      · first | (exfalso; omega) | simp (maxSteps := 1000000) (implicitDefEqProofs := false) (disch := first | rfl | omega | assumption) only [go_sem, ltT, ltF, leT, leF, g0, g1, g2, g3, g4, g18, g19, g20, e6, u1, u2, v2, u3, v3, w3]
      · first | (exfalso; omega) | simp (maxSteps := 1000000) (implicitDefEqProofs := false) (disch := first | rfl | omega | assumption) only [go_sem, ltT, ltF, leT, leF, g0, g1, g2, g3, g4, g18, g19, g20, e6, u1, u2, v2, u3, v3]
      · first | (exfalso; omega) | simp (maxSteps := 1000000) (implicitDefEqProofs := false) (disch := first | rfl | omega | assumption) only [go_sem, ltT, ltF, leT, leF, g0, g1, g2, g3, g4, g18, g19, g20, e6, u1, u2, v2, u3]
    · simp (maxSteps := 1000000) (implicitDefEqProofs := false) (disch := first | rfl | omega | assumption) only [go_sem, ltT, ltF, leT, leF, g0, g1, g2, g3, g4, g18, g19, g20, e6, u1, u2]
      rcases d3 with ⟨u3, v3, w3⟩ | ⟨u3, v3, rfl⟩ | ⟨u3, rfl⟩
      · first | (exfalso; omega) | simp (maxSteps := 1000000) (implicitDefEqProofs := false) (disch := first | rfl | omega | assumption) only [go_sem, ltT, ltF, leT, leF, g0, g1, g2, g3, g4, g18, g19, g20, e6, u1, u2, u3, v3, w3]
      · first | (exfalso; omega) | simp (maxSteps := 1000000) (implicitDefEqProofs := false) (disch := first | rfl | omega | assumption) only [go_sem, ltT, ltF, leT, leF, g0, g1, g2, g3, g4, g18, g19, g20, e6, u1, u2, u3, v3]
      · first | (exfalso; omega) | simp (maxSteps := 1000000) (implicitDefEqProofs := false) (disch := first | rfl | omega | assumption) only [go_sem, ltT, ltF, leT, leF, g0, g1, g2, g3, g4, g18, g19, g20, e6, u1, u2, u3]


theorem so_sym {fn : Fn} {cap : List AV} {key : Nat → Int} {B : Nat} (hc : Cmp fn cap key B) {p : Nat} (hp : p < H.length) {n : Nat} (hn : n ≤ 100000) : ∀ (f : Nat) (L : List Nat) (a m b : Nat), b - a ≤ f → a < m → m < b → b ≤ n → L.length = n → Small B L →
    callFL cfg0 prog0 false 94 [.gsl p n, I a, I m, I b, .func fn [] cap] (GH H p L) none = some ⟨.ret (.tup []), GH H p (sym key f L a m b), none⟩ := by
  intro f
  induction f with
  | zero => intro L a m b h1 h2 h3; omega
  | succ f ih =>
    intro L a m b hf ham hmb hbn hL hB
    have hlen : ∀ M, (GH H p M).length = H.length := fun M => by simp [GH]
    rw [sym]
    by_cases c1 : m - a = 1
    · rw [if_pos c1]
      have z1 : ((m : Int) - a == 1) = true := by simp; omega
      have hb := bs_bd (fun h => decide (key (gt L h) - key (gt L a) < 0)) (b - m + 1) m b (by omega)
      have h2 := up_loop hp a (bs (fun h => decide (key (gt L h) - key (gt L a) < 0)) (b - m + 1) m b) n hn (by omega) (symA key L a m b) _ 0 (Nat.zero_add _) L hL rfl
      refine (callFL_eq fn94 rfl (by simp [Tryd.f94])).trans ?_
      simp (maxSteps := 1000000) (implicitDefEqProofs := false) (disch := first | rfl | omega | assumption) only [go_sem, ltT, ltF, leT, leF, hlen, z1]
      refine bsA_loop hc hp a m b n hn (by omega) L hL hB (b - m + 1) _ _ _ (fun E g0 g1 g2 g3 g4 g10 => ?_) (b - m + 1) 0 (by omega) m b hbn (by omega) (by omega) rfl _ (by rfl) (by rfl) (by rfl) (by rfl) (by rfl) (by rfl) (by rfl)
      simp (maxSteps := 1000000) (implicitDefEqProofs := false) (disch := first | rfl | omega | assumption) only [go_sem, ltT, ltF, leT, leF, g0, g1, g2, g3, g4, g10]
      exact h2 _ (by exact g0) (by exact g10) (by rfl)
    rw [if_neg c1]
    have z1 : ((m : Int) - a == 1) = false := by simp; omega
    by_cases c2 : b - m = 1
    · rw [if_pos c2]
      have z2 : ((b : Int) - m == 1) = true := by simp; omega
      have hb := bs_bd (fun h => !decide (key (gt L m) - key (gt L h) < 0)) (m - a + 1) a m (by omega)
      have h2 := dn_loop hp (bs (fun h => !decide (key (gt L m) - key (gt L h) < 0)) (m - a + 1) a m) m n hn (by omega) (symB key L a m b) _ 0 (Nat.zero_add _) L hL rfl
      have e : bs (fun h => !decide (key (gt L m) - key (gt L h) < 0)) (m - a + 1) a m + (m - bs (fun h => !decide (key (gt L m) - key (gt L h) < 0)) (m - a + 1) a m) = m := by omega
      rw [e] at h2
      refine (callFL_eq fn94 rfl (by simp [Tryd.f94])).trans ?_
      simp (maxSteps := 1000000) (implicitDefEqProofs := false) (disch := first | rfl | omega | assumption) only [go_sem, ltT, ltF, leT, leF, hlen, z1, z2]
      refine bsB_loop hc hp a m b n hn (by omega) L hL hB (m - a + 1) _ _ _ (fun E g0 g1 g2 g3 g4 g14 => ?_) (m - a + 1) 0 (by omega) a m (by omega) (by omega) (by omega) rfl _ (by rfl) (by rfl) (by rfl) (by rfl) (by rfl) (by rfl) (by rfl)
      simp (maxSteps := 1000000) (implicitDefEqProofs := false) (disch := first | rfl | omega | assumption) only [go_sem, ltT, ltF, leT, leF, g0, g1, g2, g3, g4, g14]
      exact h2 _ (by exact g0) (by exact g14) (by rfl)
    rw [if_neg c2]
    have z2 : ((b : Int) - m == 1) = false := by simp; omega
    dsimp only
    obtain ⟨s1, s2, s3, s4, s5⟩ := symS_bd key L ham hmb
    obtain ⟨s, hs⟩ : ∃ s, symS key L a m b = s := ⟨_, rfl⟩
    have hs' := hs
    simp only [symS] at hs'
    rw [hs] at s1 s2 s3 s4 s5 ⊢
    have e0 := half a b
    have e2 := halfw (x := a) (y := b) (by omega)
    obtain ⟨mid, hmid⟩ : ∃ mid, (a + b) / 2 = mid := ⟨_, rfl⟩
    have e3 : IntKind.i64.wrap (mid : Int) = mid := w64 (by omega) (by omega)
    have hab : a < mid ∧ mid < b := by omega
    rw [hmid] at s3 s4 s5 e0 hs' ⊢
    have e4 : (mid : Int) + m = ((mid + m : Nat) : Int) := rfl
    have e5 : ((mid + m : Nat) : Int) - 1 = ((mid + m - 1 : Nat) : Int) := by omega
    have e6 : ((mid + m : Nat) : Int) - s = ((mid + m - s : Nat) : Int) := by omega
    -- the three calls
    have k1 : s < m → m < mid + m - s → callFL cfg0 prog0 false 95 [.gsl p n, I s, I m, I ((mid + m - s : Nat) : Int), .func fn [] cap] (GH H p L) none = some ⟨.ret (.tup []), GH H p (rot m (mid + m - s - s) L (m - s) (mid + m - s - m)), none⟩ := fun h1 h2 => so_rot hp hn h1 h2 (by omega) hL
    obtain ⟨e, he⟩ : ∃ e, mid + m - s = e := ⟨_, rfl⟩
    rw [he] at k1 e6 s4 s5 ⊢
    have k2 : a < s → s < mid → ∀ M : List Nat, M.length = n → Small B M → callFL cfg0 prog0 false 94 [.gsl p n, I a, I s, I mid, .func fn [] cap] (GH H p M) none = some ⟨.ret (.tup []), GH H p (sym key f M a s mid), none⟩ := fun h1 h2 M h3 h4 => ih M a s mid (by omega) h1 h2 (by omega) h3 h4
    have k3 : mid < e → e < b → ∀ M : List Nat, M.length = n → Small B M → callFL cfg0 prog0 false 94 [.gsl p n, I mid, I e, I b, .func fn [] cap] (GH H p M) none = some ⟨.ret (.tup []), GH H p (sym key f M mid e b), none⟩ := fun h1 h2 M h3 h4 => ih M mid e b (by omega) h1 h2 (by omega) h3 h4
    -- what follows the search
    have tail : ∀ (E : Env), E.get 0 = .gsl p n → E.get 1 = I a → E.get 2 = I m → E.get 3 = I b → E.get 4 = .func fn [] cap → E.get 18 = I mid → E.get 19 = I ((mid + m : Nat) : Int) → E.get 20 = I s →
        Option.map (finishC H.length) (execL cfg0 prog0 ⟨94, none, false, H.length⟩ (todoPast Tryd.f94 33) ⟨E, [], GH H p L, none⟩) = some ⟨.ret (.tup []), GH H p (if mid < e ∧ e < b then sym key f (if a < s ∧ s < mid then sym key f (if s < m ∧ m < e then rot m (e - s) L (m - s) (e - m) else L) a s mid else if s < m ∧ m < e then rot m (e - s) L (m - s) (e - m) else L) mid e b else if a < s ∧ s < mid then sym key f (if s < m ∧ m < e then rot m (e - s) L (m - s) (e - m) else L) a s mid else if s < m ∧ m < e then rot m (e - s) L (m - s) (e - m) else L), none⟩ := by
      intro E g0 g1 g2 g3 g4 g18 g19 g20
      have l1 : ∀ M : List Nat, M.length = n → ∀ f' a' m' b', (sym key f' M a' m' b').length = n := fun M h _ _ _ _ => by rw [sym_len]; exact h
      obtain ⟨L1, hL1⟩ : ∃ L1, (if s < m ∧ m < e then rot m (e - s) L (m - s) (e - m) else L) = L1 := ⟨_, rfl⟩
      have hl1 : L1.length = n := by rw [← hL1]; split <;> simp only [rot_len, hL]
      have hB1 : Small B L1 := by
        rw [← hL1]
        split
        · exact small_rot _ _ _ _ _ (by omega) (by omega) hB
        · exact hB
      obtain ⟨L2, hL2⟩ : ∃ L2, (if a < s ∧ s < mid then sym key f L1 a s mid else L1) = L2 := ⟨_, rfl⟩
      have hl2 : L2.length = n := by rw [← hL2]; split <;> simp only [sym_len, hl1]
      have hB2 : Small B L2 := by
        rw [← hL2]
        split
        · exact small_sym _ _ _ _ _ _ (by omega) (by omega) (by omega) hB1
        · exact hB1
      rw [hL1, hL2]
      have d1 : ((s : Int) < m ∧ (m : Int) < e ∧ callFL cfg0 prog0 false 95 [.gsl p n, I s, I m, I (e : Int), .func fn [] cap] (GH H p L) none = some ⟨.ret (.tup []), GH H p L1, none⟩) ∨ ((s : Int) < m ∧ ¬ (m : Int) < e ∧ L = L1) ∨ (¬ (s : Int) < m ∧ L = L1) := by
        by_cases h1 : s < m
        · by_cases h2 : m < e
          · have := k1 h1 h2
            rw [if_pos ⟨h1, h2⟩] at hL1
            rw [hL1] at this
            exact .inl ⟨by omega, by omega, this⟩
          · rw [if_neg (by omega)] at hL1
            exact .inr (.inl ⟨by omega, by omega, hL1⟩)
        · rw [if_neg (by omega)] at hL1
          exact .inr (.inr ⟨by omega, hL1⟩)
      have d2 : ((a : Int) < s ∧ (s : Int) < mid ∧ callFL cfg0 prog0 false 94 [.gsl p n, I a, I s, I mid, .func fn [] cap] (GH H p L1) none = some ⟨.ret (.tup []), GH H p L2, none⟩) ∨ ((a : Int) < s ∧ ¬ (s : Int) < mid ∧ L1 = L2) ∨ (¬ (a : Int) < s ∧ L1 = L2) := by
        by_cases h1 : a < s
        · by_cases h2 : s < mid
          · have := k2 h1 h2 L1 hl1 hB1
            rw [if_pos ⟨h1, h2⟩] at hL2
            rw [hL2] at this
            exact .inl ⟨by omega, by omega, this⟩
          · rw [if_neg (by omega)] at hL2
            exact .inr (.inl ⟨by omega, by omega, hL2⟩)
        · rw [if_neg (by omega)] at hL2
          exact .inr (.inr ⟨by omega, hL2⟩)
      obtain ⟨L3, hL3⟩ : ∃ L3, (if mid < e ∧ e < b then sym key f L2 mid e b else L2) = L3 := ⟨_, rfl⟩
      rw [hL3]
      have d3 : ((mid : Int) < e ∧ (e : Int) < b ∧ callFL cfg0 prog0 false 94 [.gsl p n, I mid, I e, I b, .func fn [] cap] (GH H p L2) none = some ⟨.ret (.tup []), GH H p L3, none⟩) ∨ ((mid : Int) < e ∧ ¬ (e : Int) < b ∧ L2 = L3) ∨ (¬ (mid : Int) < e ∧ L2 = L3) := by
        by_cases h1 : mid < e
        · by_cases h2 : e < b
          · have := k3 h1 h2 L2 hl2 hB2
            rw [if_pos ⟨h1, h2⟩] at hL3
            rw [hL3] at this
            exact .inl ⟨by omega, by omega, this⟩
          · rw [if_neg (by omega)] at hL3
            exact .inr (.inl ⟨by omega, by omega, hL3⟩)
        · rw [if_neg (by omega)] at hL3
          exact .inr (.inr ⟨by omega, hL3⟩)
      exact so_sym_tail hn hbn ⟨s1, s2, s4, s5, hab.2⟩ he e6 d1 d2 d3 E g0 g1 g2 g3 g4 g18 g19 g20
    refine (callFL_eq fn94 rfl (by simp [Tryd.f94])).trans ?_
    by_cases c3 : mid < m
    · simp only [c3, if_true] at hs'
      have c3' : (mid : Int) < m := by omega
      have e7 : ((mid + m : Nat) : Int) - b = ((mid + m - b : Nat) : Int) := by omega
      simp (maxSteps := 1000000) (implicitDefEqProofs := false) (disch := first | rfl | omega | assumption) only [go_sem, ltT, ltF, leT, leF, hlen, z1, z2, e0, e2, e3, e4, e5, c3', e7]
      exact bsC_loop hc hp a m b n (mid + m) (mid + m - 1) mid hn (by omega) L hL hB (mid - (mid + m - b) + 1) _ _ _ tail (mid - (mid + m - b) + 1) 0 (by omega) (mid + m - b) mid (by omega) (by omega) (by omega) (by omega) (by omega) hs' _ (by rfl) (by rfl) (by rfl) (by rfl) (by rfl) (by rfl) (by rfl) (by rfl) (by rfl) (by rfl)
    · simp only [c3, if_false] at hs'
      have c3' : ¬ (mid : Int) < m := by omega
      simp (maxSteps := 1000000) (implicitDefEqProofs := false) (disch := first | rfl | omega | assumption) only [go_sem, ltT, ltF, leT, leF, hlen, z1, z2, e0, e2, e3, e4, e5, c3']
      exact bsC_loop hc hp a m b n (mid + m) (mid + m - 1) mid hn (by omega) L hL hB (m - a + 1) _ _ _ tail (m - a + 1) 0 (by omega) a m (by omega) (by omega) (by omega) (by omega) (by omega) hs' _ (by rfl) (by rfl) (by rfl) (by rfl) (by rfl) (by rfl) (by rfl) (by rfl) (by rfl) (by rfl)

end Go.Ab
/-
  The sort of a list of sets, walked: in blocks.
-/
namespace Go.Ab
open Go.Proofs
set_option linter.unusedSimpArgs false
set_option linter.unusedVariables false
set_option maxRecDepth 100000

variable {H : Heap}

theorem small_ins {B : Nat} (key : Nat → Int) (a : Nat) : ∀ (q i : Nat) (L : List Nat), a < i → i + q ≤ L.length → Small B L → Small B (insOut key a L i q)
  | 0, _, _, _, _, h => h
  | q + 1, i, L, h1, h2, h => by
    rw [insOut]
    exact small_ins key a q (i + 1) _ (by omega) (by rw [insIn_len]; omega) (insIn_small key a _ _ h (by omega))

theorem small_insS {B : Nat} (key : Nat → Int) {L : List Nat} {a b : Nat} (h : b ≤ L.length) (hB : Small B L) : Small B (insS key L a b) := by
  rw [insS]
  by_cases c : a + 1 ≤ b
  · exact small_ins key a _ _ _ (by omega) (by omega) hB
  · rw [show b - (a + 1) = 0 by omega]
    exact hB

def stM1 (key : Nat → Int) (s n : Nat) : Nat → List Nat → Nat → List Nat × Nat
  | 0, L, a => (L, a)
  | f + 1, L, a => if a + 2 * s ≤ n then stM1 key s n f (sym key n L a (a + s) (a + 2 * s)) (a + 2 * s) else (L, a)

theorem stM1_spec (key : Nat → Int) {B : Nat} {s n : Nat} (hs : 0 < s) : ∀ (f : Nat) (L : List Nat) (a : Nat), n < f + a → a ≤ n → L.length = n → Small B L →
    stM key s n f L a = (if (stM1 key s n f L a).2 + s < n then sym key n (stM1 key s n f L a).1 (stM1 key s n f L a).2 ((stM1 key s n f L a).2 + s) n else (stM1 key s n f L a).1) ∧ (stM1 key s n f L a).1.length = n ∧ Small B (stM1 key s n f L a).1 ∧ (stM1 key s n f L a).2 ≤ n
  | 0, L, a, h1, h2, h3, h4 => by omega
  | f + 1, L, a, h1, h2, h3, h4 => by
    rw [stM, stM1]
    by_cases c : a + 2 * s ≤ n
    · rw [if_pos c, if_pos c]
      exact stM1_spec key hs f _ _ (by omega) c (by rw [sym_len]; exact h3) (small_sym key _ _ _ _ _ (by omega) (by omega) (by omega) h4)
    · rw [if_neg c, if_neg c]
      exact ⟨rfl, h3, h4, h2⟩

theorem st3_loop {fn : Fn} {cap : List AV} {key : Nat → Int} {B : Nat} (hc : Cmp fn cap key B) {p : Nat} (hp : p < H.length) (n s : Nat) (hn : n ≤ 100000) (hs : 0 < s ∧ s ≤ 200000) (N : Nat) (R0 : List Nat) (Y : Nat) (K : List Item) (R : Option Done) (hK : ∀ E : Env, E.get 0 = .gsl p n → E.get 1 = I n → E.get 2 = .func fn [] cap → E.get 6 = I s → E.get 7 = I Y → Option.map (finishC H.length) (execL cfg0 prog0 ⟨86, none, false, H.length⟩ K ⟨E, [], GH H p R0, none⟩) = R)  :
    ∀ (q j : Nat), j + q = N → ∀ (L : List Nat), ∀ (a : Nat), L.length = n → Small B L → a ≤ n → n < q + a → stM1 key s n q L a = (R0, Y) → ∀ E : Env, E.get 0 = .gsl p n → E.get 1 = I n → E.get 2 = .func fn [] cap → E.get 6 = I s → E.get 7 = I a → E.get 8 = I ((a + 2 * s : Nat) : Int) →
    Option.map (finishC H.length) (execL cfg0 prog0 ⟨86, none, false, H.length⟩ (loopIt Tryd.f86 9 :: .inBlock 4 :: K) ⟨E, [], GH H p L, none⟩) = R := by
  intro q
  skip
  induction q with
  | zero =>
    intro j hj L a hL hB ha hq hr E g0 g1 g2 g6 g7 g8
    have hk' : ¬ (j : Int) < ((N : Nat) : Int) := by omega
    simp only [loopIt, todoPast, todoAt, todoOf, firstReg, ↓reduceIte, Option.some.injEq, Nat.reduceEqDiff, reduceCtorEq, Tryd.f86]
    rw [execL_inLoop]
    exfalso
    omega
  | succ q ih =>
    intro j hj L a hL hB ha hq hr E g0 g1 g2 g6 g7 g8
    have hk' : (j : Int) < ((N : Nat) : Int) := by omega
    have hk2 : j < N := by omega
    rw [stM1] at hr
    by_cases c : a + 2 * s ≤ n
    · rw [if_pos c] at hr
      have c' : ((a + 2 * s : Nat) : Int) ≤ n := by omega
      have h1 := so_sym hc hp hn n L a (a + s) (a + 2 * s) (by omega) (by omega) (by omega) c hL hB
      have e1 : (a : Int) + s = ((a + s : Nat) : Int) := rfl
      have e2 : (2 : Int) * s = ((2 * s : Nat) : Int) := rfl
      have e3 : ((a + 2 * s : Nat) : Int) + ((2 * s : Nat) : Int) = ((a + 2 * s + 2 * s : Nat) : Int) := rfl
      simp only [loopIt, todoPast, todoAt, todoOf, firstReg, ↓reduceIte, Option.some.injEq, Nat.reduceEqDiff, reduceCtorEq, Tryd.f86]
      rw [execL_inLoop]
      simp (maxSteps := 1000000) (implicitDefEqProofs := false) (disch := first | rfl | omega | assumption) only [go_sem, g0, g1, g2, g6, g7, g8, ltT, ltF, leT, leF, hk', c', e1, h1, e2, e3]
      exact ih (j + 1) (by omega) _ (a + 2 * s) (by rw [sym_len]; exact hL) (small_sym key _ _ _ _ _ (by omega) (by omega) (by omega) hB) c (by omega) hr _ (by exact g0) (by exact g1) (by exact g2) (by exact g6) (by rfl) (by show I _ = I _; congr 1; omega)
    · rw [if_neg c] at hr
      simp only [Prod.mk.injEq] at hr
      obtain ⟨rfl, rfl⟩ := hr
      have c' : ¬ ((a + 2 * s : Nat) : Int) ≤ n := by omega
      simp only [loopIt, todoPast, todoAt, todoOf, firstReg, ↓reduceIte, Option.some.injEq, Nat.reduceEqDiff, reduceCtorEq, Tryd.f86]
      rw [execL_inLoop]
      simp (maxSteps := 1000000) (implicitDefEqProofs := false) (disch := first | rfl | omega | assumption) only [go_sem, g0, g1, g2, g6, g7, g8, ltT, ltF, leT, leF, hk', c']
      exact hK _ (by exact g0) (by exact g1) (by exact g2) (by exact g6) (by exact g7)

theorem st2_loop {fn : Fn} {cap : List AV} {key : Nat → Int} {B : Nat} (hc : Cmp fn cap key B) {p : Nat} (hp : p < H.length) (n : Nat) (hn : n ≤ 100000) (N : Nat) (R0 : List Nat) :
    ∀ (q j : Nat), j + q = N → ∀ (L : List Nat), ∀ (s : Nat), L.length = n → Small B L → 0 < s ∧ s ≤ 200000 → n < q + s → stP key n q L s = R0 → ∀ E : Env, E.get 0 = .gsl p n → E.get 1 = I n → E.get 2 = .func fn [] cap → E.get 6 = I s →
    Option.map (finishC H.length) (execL cfg0 prog0 ⟨86, none, false, H.length⟩ (todoAt Tryd.f86 7) ⟨E, [], GH H p L, none⟩) = some ⟨.ret (.tup []), GH H p R0, none⟩ := by
  intro q
  skip
  induction q with
  | zero =>
    intro j hj L s hL hB hs hq hr E g0 g1 g2 g6
    have hk' : ¬ (j : Int) < ((N : Nat) : Int) := by omega
    simp only [stP] at hr
    subst hr
    simp only [loopIt, todoPast, todoAt, todoOf, firstReg, ↓reduceIte, Option.some.injEq, Nat.reduceEqDiff, reduceCtorEq, Tryd.f86]
    rw [execL_inLoop]
    have c' : ¬ (s : Int) < n := by omega
    simp (maxSteps := 1000000) (implicitDefEqProofs := false) (disch := first | rfl | omega | assumption) only [go_sem, g0, g1, g2, g6, ltT, ltF, leT, leF, hk', c']
  | succ q ih =>
    intro j hj L s hL hB hs hq hr E g0 g1 g2 g6
    have hk' : (j : Int) < ((N : Nat) : Int) := by omega
    have hk2 : j < N := by omega
    rw [stP] at hr
    by_cases c : s < n
    · rw [if_pos c] at hr
      have c' : (s : Int) < n := by omega
      obtain ⟨m1, m2, m3, m4⟩ := stM1_spec key (B := B) (s := s) (n := n) hs.1 (n + 1) L 0 (by omega) (by omega) hL hB
      obtain ⟨x, hx⟩ : ∃ x, stM1 key s n (n + 1) L 0 = x := ⟨_, rfl⟩
      obtain ⟨L', Y⟩ := x
      rw [hx] at m1 m2 m3 m4
      simp only at m1 m2 m3 m4
      rw [m1] at hr
      have e2 : (2 : Int) * s = ((0 + 2 * s : Nat) : Int) := by omega
      have e3 : (s : Int) * 2 = ((2 * s : Nat) : Int) := by omega
      simp only [loopIt, todoPast, todoAt, todoOf, firstReg, ↓reduceIte, Option.some.injEq, Nat.reduceEqDiff, reduceCtorEq, Tryd.f86]
      rw [execL_inLoop]
      simp (maxSteps := 1000000) (implicitDefEqProofs := false) (disch := first | rfl | omega | assumption) only [go_sem, g0, g1, g2, g6, ltT, ltF, leT, leF, hk', c', e2]
      refine st3_loop hc hp n s hn hs (n + 1) L' Y _ _ (fun E g0 g1 g2 g6 g7 => ?_) (n + 1) 0 (by omega) L 0 hL hB (by omega) (by omega) hx _ (by exact g0) (by exact g1) (by exact g2) (by exact g6) (by rfl) (by show I _ = I _; congr 2; omega)
      have e1 : (Y : Int) + s = ((Y + s : Nat) : Int) := rfl
      by_cases d : Y + s < n
      · rw [if_pos d] at hr
        have d' : ((Y + s : Nat) : Int) < n := by omega
        have h1 := so_sym hc hp hn n L' Y (Y + s) n (by omega) (by omega) d (Nat.le_refl _) m2 m3
        simp (maxSteps := 1000000) (implicitDefEqProofs := false) (disch := first | rfl | omega | assumption) only [go_sem, g0, g1, g2, g6, ltT, ltF, leT, leF, hk', g0, g1, g2, g6, g7, e1, d', h1, e3]
        exact ih (j + 1) (by omega) _ (2 * s) (by rw [sym_len]; exact m2) (small_sym key _ _ _ _ _ (by omega) d (by omega) m3) (by omega) (by omega) hr _ (by exact g0) (by exact g1) (by exact g2) (by rfl)
      · rw [if_neg d] at hr
        have d' : ¬ ((Y + s : Nat) : Int) < n := by omega
        simp (maxSteps := 1000000) (implicitDefEqProofs := false) (disch := first | rfl | omega | assumption) only [go_sem, g0, g1, g2, g6, ltT, ltF, leT, leF, hk', g0, g1, g2, g6, g7, e1, d', e3]
        exact ih (j + 1) (by omega) _ (2 * s) m2 m3 (by omega) (by omega) hr _ (by exact g0) (by exact g1) (by exact g2) (by rfl)
    · rw [if_neg c] at hr
      subst hr
      have c' : ¬ (s : Int) < n := by omega
      simp only [loopIt, todoPast, todoAt, todoOf, firstReg, ↓reduceIte, Option.some.injEq, Nat.reduceEqDiff, reduceCtorEq, Tryd.f86]
      rw [execL_inLoop]
      simp (maxSteps := 1000000) (implicitDefEqProofs := false) (disch := first | rfl | omega | assumption) only [go_sem, g0, g1, g2, g6, ltT, ltF, leT, leF, hk', c']

theorem st1_loop {fn : Fn} {cap : List AV} {key : Nat → Int} {B : Nat} (hc : Cmp fn cap key B) {p : Nat} (hp : p < H.length) (n : Nat) (hn : n ≤ 100000) (N : Nat) (R0 : List Nat) :
    ∀ (q j : Nat), j + q = N → ∀ (L : List Nat), ∀ (a : Nat), L.length = n → Small B L → a ≤ n → n < q + a → stI key n q L a = R0 → ∀ E : Env, E.get 0 = .gsl p n → E.get 1 = I n → E.get 2 = .func fn [] cap → E.get 6 = I 20 → E.get 7 = I a → E.get 8 = I ((a + 20 : Nat) : Int) →
    Option.map (finishC H.length) (execL cfg0 prog0 ⟨86, none, false, H.length⟩ (todoAt Tryd.f86 2) ⟨E, [], GH H p L, none⟩) = some ⟨.ret (.tup []), GH H p (stP key n (n + 1) R0 20), none⟩ := by
  intro q
  skip
  induction q with
  | zero =>
    intro j hj L a hL hB ha hq hr E g0 g1 g2 g6 g7 g8
    have hk' : ¬ (j : Int) < ((N : Nat) : Int) := by omega
    simp only [loopIt, todoPast, todoAt, todoOf, firstReg, ↓reduceIte, Option.some.injEq, Nat.reduceEqDiff, reduceCtorEq, Tryd.f86]
    rw [execL_inLoop]
    exfalso
    omega
  | succ q ih =>
    intro j hj L a hL hB ha hq hr E g0 g1 g2 g6 g7 g8
    have hk' : (j : Int) < ((N : Nat) : Int) := by omega
    have hk2 : j < N := by omega
    rw [stI] at hr
    by_cases c : a + 20 ≤ n
    · rw [if_pos c] at hr
      have c' : ((a + 20 : Nat) : Int) ≤ n := by omega
      have h1 := so_ins hc hp hn (a := a) (b := a + 20) (by omega) hL hB
      have e3 : ((a + 20 : Nat) : Int) + 20 = ((a + 20 + 20 : Nat) : Int) := rfl
      simp only [loopIt, todoPast, todoAt, todoOf, firstReg, ↓reduceIte, Option.some.injEq, Nat.reduceEqDiff, reduceCtorEq, Tryd.f86]
      rw [execL_inLoop]
      simp (maxSteps := 1000000) (implicitDefEqProofs := false) (disch := first | rfl | omega | assumption) only [go_sem, g0, g1, g2, g6, g7, g8, ltT, ltF, leT, leF, hk', c', h1, e3]
      exact ih (j + 1) (by omega) _ (a + 20) (by rw [insS_len]; exact hL) (small_insS key (by omega) hB) c (by omega) hr _ (by exact g0) (by exact g1) (by exact g2) (by exact g6) (by rfl) (by rfl)
    · rw [if_neg c] at hr
      have c' : ¬ ((a + 20 : Nat) : Int) ≤ n := by omega
      have h1 := so_ins hc hp hn (a := a) (b := n) (by omega) hL hB
      have h2 := st2_loop hc hp n hn (n + 1) _ (n + 1) 0 (by omega) R0 20 (by rw [← hr, insS_len]; exact hL) (by rw [← hr]; exact small_insS key (by omega) hB) (by omega) (by omega) rfl
      rw [hr] at h1
      simp only [loopIt, todoPast, todoAt, todoOf, firstReg, ↓reduceIte, Option.some.injEq, Nat.reduceEqDiff, reduceCtorEq, Tryd.f86]
      rw [execL_inLoop]
      simp (maxSteps := 1000000) (implicitDefEqProofs := false) (disch := first | rfl | omega | assumption) only [go_sem, g0, g1, g2, g6, g7, g8, ltT, ltF, leT, leF, hk', c', h1]
      exact h2 _ (by exact g0) (by exact g1) (by exact g2) (by exact g6)

theorem so_stable {fn : Fn} {cap : List AV} {key : Nat → Int} {B : Nat} (hc : Cmp fn cap key B) {p : Nat} (hp : p < H.length) {n : Nat} (hn : n ≤ 100000) {L : List Nat} (hL : L.length = n) (hB : Small B L) :
    callFL cfg0 prog0 false 86 [.gsl p n, I n, .func fn [] cap] (GH H p L) none = some ⟨.ret (.tup []), GH H p (stab key n L), none⟩ := by
  have hlen : ∀ M, (GH H p M).length = H.length := fun M => by simp [GH]
  have h1 := st1_loop hc hp n hn (n + 1) _ (n + 1) 0 (by omega) L 0 hL hB (by omega) (by omega) rfl
  refine (callFL_eq fn86 rfl (by simp [Tryd.f86])).trans ?_
  simp (maxSteps := 1000000) (implicitDefEqProofs := false) (disch := first | rfl | omega | assumption) only [go_sem, ltT, ltF, leT, leF, hlen]
  exact h1 _ (by rfl) (by rfl) (by rfl) (by rfl) (by rfl) (by rfl)

theorem so_sort {fn : Fn} {cap : List AV} {key : Nat → Int} {B : Nat} (hc : Cmp fn cap key B) {p : Nat} (hp : p < H.length) {n : Nat} (hn : n ≤ 100000) {L : List Nat} (hL : L.length = n) (hB : Small B L) :
    callFL cfg0 prog0 false 68 [.gsl p n, .func fn [] cap] (GH H p L) none = some ⟨.ret (.tup []), GH H p (stab key n L), none⟩ := by
  have hlen : ∀ M, (GH H p M).length = H.length := fun M => by simp [GH]
  have h1 := so_stable hc hp hn hL hB
  have hg : (GH H p L)[p]? = some (.grow 1 (L.map U)) := List.getElem?_set_self hp
  refine (callFL_eq fn68 rfl (by simp [Tryd.f68])).trans ?_
  simp (maxSteps := 1000000) (implicitDefEqProofs := false) (disch := first | rfl | omega | assumption) only [go_sem, ltT, ltF, leT, leF, hg, h1, hlen, hL, List.length_map]

end Go.Ab
/-
  Which readings clash: walked.
-/
namespace Go.Ab
open Go.Proofs
set_option linter.unusedSimpArgs false
set_option linter.unusedVariables false
set_option maxRecDepth 100000

variable {H : Heap}

/-- How many are in a set. -/
def popF : Nat → Nat → Nat
  | 0, _ => 0
  | f + 1, n => n % 2 + popF f (n / 2)
def pop (n : Nat) : Nat := popF 20 n

theorem popF_zero : ∀ f, popF f 0 = 0
  | 0 => rfl
  | f + 1 => by simp [popF, popF_zero f]

theorem popF_le : ∀ f n, popF f n ≤ f
  | 0, _ => Nat.le_refl _
  | f + 1, n => by have := popF_le f (n / 2); simp only [popF]; omega

def M0 : Nat := 6148914691236517205
def M1 : Nat := 3689348814741910323
def M2 : Nat := 1085102592571150095
def y1 (x : Nat) : Nat := (x / 2 &&& M0) + (x &&& M0)
def y2 (x : Nat) : Nat := (y1 x / 4 &&& M1) + (y1 x &&& M1)
def y3 (x : Nat) : Nat := (y2 x / 16 + y2 x) &&& M2
def y4 (x : Nat) : Nat := y3 x + y3 x / 256
def y5 (x : Nat) : Nat := y4 x + y4 x / 65536
def y6 (x : Nat) : Nat := y5 x + y5 x / 4294967296

theorem y_bd : ∀ x < 256, y1 x < 256 ∧ y2 x < 256 ∧ y3 x < 256 ∧ y4 x < 256 ∧ y5 x < 256 ∧ y6 x < 256 ∧ (y6 x &&& 127) = pop x := by decide +kernel

theorem ones64 {x : Nat} (hx : x < 256) : callFL cfg0 prog0 false 88 [U x] H none = some ⟨.ret (I (pop x)), H, none⟩ := by
  obtain ⟨b1, b2, b3, b4, b5, b6, b7⟩ := y_bd x hx
  have f1 : (x : Int).fdiv (2 ^ min 1 64) = ((x / 2 : Nat) : Int) := fdivN x 2
  have f2 : (y1 x : Int).fdiv (2 ^ min 2 64) = ((y1 x / 4 : Nat) : Int) := fdivN (y1 x) 4
  have f3 : (y2 x : Int).fdiv (2 ^ min 4 64) = ((y2 x / 16 : Nat) : Int) := fdivN (y2 x) 16
  have f4 : (y3 x : Int).fdiv (2 ^ min 8 64) = ((y3 x / 256 : Nat) : Int) := fdivN (y3 x) 256
  have f5 : (y4 x : Int).fdiv (2 ^ min 16 64) = ((y4 x / 65536 : Nat) : Int) := fdivN (y4 x) 65536
  have f6 : (y5 x : Int).fdiv (2 ^ min 32 64) = ((y5 x / 4294967296 : Nat) : Int) := fdivN (y5 x) 4294967296
  have g1 : bitsOp .and .u64 ((x / 2 : Nat) : Int) 6148914691236517205 = some ((x / 2 &&& M0 : Nat) : Int) := bitsAnd (b := M0) (by omega) (by decide)
  have g2 : bitsOp .and .u64 (x : Int) 6148914691236517205 = some ((x &&& M0 : Nat) : Int) := bitsAnd (b := M0) (by omega) (by decide)
  have g3 : bitsOp .and .u64 ((y1 x / 4 : Nat) : Int) 3689348814741910323 = some ((y1 x / 4 &&& M1 : Nat) : Int) := bitsAnd (b := M1) (by omega) (by decide)
  have g4 : bitsOp .and .u64 (y1 x : Int) 3689348814741910323 = some ((y1 x &&& M1 : Nat) : Int) := bitsAnd (b := M1) (by omega) (by decide)
  have g5 : bitsOp .and .u64 ((y2 x / 16 + y2 x : Nat) : Int) 1085102592571150095 = some (y3 x : Int) := bitsAnd (b := M2) (by omega) (by decide)
  have g6 : bitsOp .and .i64 (y6 x : Int) 127 = some (pop x : Int) := by rw [← b7]; exact bitsAndI (b := 127) (by omega) (by decide)
  have k1 : IntKind.u64.wrap (((x / 2 &&& M0 : Nat) : Int) + ((x &&& M0 : Nat) : Int)) = (y1 x : Int) := wrapU (n := y1 x) (by omega)
  have k2 : IntKind.u64.wrap (((y1 x / 4 &&& M1 : Nat) : Int) + ((y1 x &&& M1 : Nat) : Int)) = (y2 x : Int) := wrapU (n := y2 x) (by omega)
  have k3 : IntKind.u64.wrap (((y2 x / 16 : Nat) : Int) + (y2 x : Int)) = ((y2 x / 16 + y2 x : Nat) : Int) := wrapU (n := y2 x / 16 + y2 x) (by omega)
  have k4 : IntKind.u64.wrap ((y3 x : Int) + ((y3 x / 256 : Nat) : Int)) = (y4 x : Int) := wrapU (n := y4 x) (by omega)
  have k5 : IntKind.u64.wrap ((y4 x : Int) + ((y4 x / 65536 : Nat) : Int)) = (y5 x : Int) := wrapU (n := y5 x) (by omega)
  have k6 : IntKind.u64.wrap ((y5 x : Int) + ((y5 x / 4294967296 : Nat) : Int)) = (y6 x : Int) := wrapU (n := y6 x) (by omega)
  have k7 : IntKind.i64.wrap (y6 x : Int) = (y6 x : Int) := w64 (by omega) (by omega)
  refine (callFL_eq fn88 rfl (by simp [Tryd.f88])).trans ?_
  simp (maxSteps := 1000000) (implicitDefEqProofs := false) (disch := first | rfl | omega | assumption) only [go_sem, f1, f2, f3, f4, f5, f6, g1, g2, g3, g4, g5, g6, k1, k2, k3, k4, k5, k6, k7]

theorem ones {x : Nat} (hx : x < 256) : callFL cfg0 prog0 false 70 [U x] H none = some ⟨.ret (I (pop x)), H, none⟩ := by
  have h1 := fun G : Heap => ones64 (H := G) hx
  have h2 : IntKind.u64.wrap (x : Int) = x := wrapU (by omega)
  refine (callFL_eq fn70 rfl (by simp [Tryd.f70])).trans ?_
  simp (maxSteps := 1000000) (implicitDefEqProofs := false) (disch := first | rfl | omega | assumption) only [go_sem, h1, h2]

def popK (n : Nat) : Int := pop n

theorem cl_cmp : Cmp (.func 69) [] popK 256 where
  call x y G hx hy := by
    have h1 := fun G : Heap => ones (H := G) hx
    have h2 := fun G : Heap => ones (H := G) hy
    have b1 := popF_le 20 x
    have b2 := popF_le 20 y
    have e : IntKind.i64.wrap ((pop x : Int) - (pop y : Int)) = (pop x : Int) - (pop y : Int) := w64 (by simp only [pop]; omega) (by simp only [pop]; omega)
    simp only [callVL_func, List.append_nil, popK]
    refine (callFL_eq fn69 rfl (by simp [Tryd.f69])).trans ?_
    simp (maxSteps := 1000000) (implicitDefEqProofs := false) (disch := first | rfl | omega | assumption) only [go_sem, h1, h2, e]
  bd x := by have := popF_le 20 x; simp only [popK, pop]; omega

theorem cl_can {l lo lm p : Nat} {w : Wea} (h : BlAt H l lo lm w) (ho : w.Ok) {r : Nat} (hr : r < 256) {es : List (AV × AV)} (hm : H[lm]? = some (.map 88 es)) (hg : GoodM w es) (hp : H[p]? = some (.box (.ptr l 0))) :
    callVL cfg0 prog0 false (.func 72) [U r] [.ptr p 0] H none = some ⟨.ret (.bool !w.canB r w.L), H.set lm (.map 88 (w.folM r w.L es)), none⟩ := by
  have hb := h.box
  have hC := we_can h ho hr (L_bd ho) hm hg
  simp only [qkey, Wea.L] at hC
  simp only [callVL_func, List.cons_append, List.nil_append]
  refine (callFL_eq fn72 rfl (by simp [Tryd.f72])).trans ?_
  simp (maxSteps := 1000000) (implicitDefEqProofs := false) (disch := first | rfl | omega | assumption) only [go_sem, ltT, ltF, leT, leF, hp]
  rw [chkK_of]; rotate_left; kernel_rfl
  simp (maxSteps := 1000000) (implicitDefEqProofs := false) (disch := first | rfl | omega | assumption) only [go_sem, ltT, ltF, leT, leF, hp, hb, hC]
  done

theorem firstU_loop {p : Nat} {L : List Nat} (hl : L.length ≤ 1000000) (fn : Fn) (cap : List AV) (b : Nat → Bool) (Hs : Nat → Heap) (N : Nat) (hsl : ∀ j, (Hs j).length = N) (hp : ∀ j, SlOk (Hs j) 1 (.gsl p L.length) (L.map U)) (hc : ∀ (j : Nat) (G : Heap), j < L.length → callVL cfg0 prog0 false fn [U (L.getD j 0)] cap (Hs j ++ G) none = some ⟨.ret (.bool (b j)), Hs (j + 1) ++ G, none⟩) :
    ∀ (q j : Nat), j + q = L.length → ∀ E : Env, E.get 0 = .gsl p L.length → E.get 3 = .ptr N 0 → E.get 7 = .gsl p L.length → E.get 8 = I L.length → E.get 9 = I j →
    Option.map (finishC N) (execL cfg0 prog0 ⟨71, none, false, N⟩ (todoAt Tryd.f71 2) ⟨E, [], Hs j ++ [.box (.agg [.func fn [] cap])], none⟩) = some ⟨.ret (I (firstN b j q)), Hs (stepN b j q), none⟩ := by
  intro q
  skip
  induction q with
  | zero =>
    intro j hj  E g0 g3 g7 g8 g9
    have hk' : ¬ (j : Int) < ((L.length : Nat) : Int) := by omega
    have ej : j = L.length := by omega
    subst ej
    simp only [loopIt, todoPast, todoAt, todoOf, firstReg, ↓reduceIte, Option.some.injEq, Nat.reduceEqDiff, reduceCtorEq, Tryd.f71]
    rw [execL_inLoop]
    have ht : ∀ G : Heap, (Hs L.length ++ G).take N = Hs L.length := fun G => by rw [← hsl L.length, List.take_left]
    have hln := ((hp L.length).app [.box (.agg [.func fn [] cap])]).len
    simp (maxSteps := 1000000) (implicitDefEqProofs := false) (disch := first | rfl | omega | assumption) only [go_sem, g0, g3, g7, g8, g9, ltT, ltF, leT, leF, hk', hln, firstN, stepN, ht, List.length_map]
  | succ q ih =>
    intro j hj  E g0 g3 g7 g8 g9
    have hk' : (j : Int) < ((L.length : Nat) : Int) := by omega
    have hk2 : j < L.length := by omega
    obtain ⟨a1, a2, a3, a4, a5⟩ := (hp j).fA (d := 0)
    have hx := hc j [.box (.agg [.func fn [] cap])] hk2
    have hgt : (Hs j ++ [.box (.agg [.func fn [] cap])])[N]? = some (.box (.agg [.func fn [] cap])) := by rw [← hsl j, get_at]; rfl
    have ht : ∀ G : Heap, (Hs (j + 1) ++ G).take N = Hs (j + 1) := fun G => by rw [← hsl (j + 1), List.take_left]
    simp only [firstN, stepN]
    rcases Bool.eq_false_or_eq_true (b j) with hb | hb
    · rw [hb] at hx ⊢
      simp only [loopIt, todoPast, todoAt, todoOf, firstReg, ↓reduceIte, Option.some.injEq, Nat.reduceEqDiff, reduceCtorEq, Tryd.f71]
      rw [execL_inLoop]
      simp (maxSteps := 1000000) (implicitDefEqProofs := false) (disch := first | rfl | omega | assumption) only [go_sem, g0, g3, g7, g8, g9, ltT, ltF, leT, leF, hk', a1, a3, hgt, hx, ht]
    · rw [hb] at hx ⊢
      simp only [loopIt, todoPast, todoAt, todoOf, firstReg, ↓reduceIte, Option.some.injEq, Nat.reduceEqDiff, reduceCtorEq, Tryd.f71]
      rw [execL_inLoop]
      simp (maxSteps := 1000000) (implicitDefEqProofs := false) (disch := first | rfl | omega | assumption) only [go_sem, g0, g3, g7, g8, g9, ltT, ltF, leT, leF, hk', a1, a3, hgt, hx]
      exact ih (j + 1) (by omega) _ (by exact g0) (by exact g3) (by exact g7) (by exact g8) (by rfl)

theorem we_firstU {p : Nat} {L : List Nat} (hl : L.length ≤ 1000000) (fn : Fn) (cap : List AV) (b : Nat → Bool) (Hs : Nat → Heap) (N : Nat) (hsl : ∀ j, (Hs j).length = N) (hp : ∀ j, SlOk (Hs j) 1 (.gsl p L.length) (L.map U)) (hf : (AV.func fn [] cap).lt N = true ∧ (AV.func fn [] cap).stored = true)
    (hc : ∀ (j : Nat) (G : Heap), j < L.length → callVL cfg0 prog0 false fn [U (L.getD j 0)] cap (Hs j ++ G) none = some ⟨.ret (.bool (b j)), Hs (j + 1) ++ G, none⟩) :
    callFL cfg0 prog0 false 71 [.gsl p L.length, .agg [.func fn [] cap]] (Hs 0) none = some ⟨.ret (I (firstN b 0 L.length)), Hs (stepN b 0 L.length), none⟩ := by
  have h1 := firstU_loop hl fn cap b Hs N hsl hp hc L.length 0 (by omega)
  have h0 := hsl 0
  have hln := ((hp 0).app [.box (.agg [.func fn [] cap])]).len
  refine (callFL_eq fn71 rfl (by simp [Tryd.f71])).trans ?_
  simp (maxSteps := 1000000) (implicitDefEqProofs := false) (disch := first | rfl | omega | assumption) only [go_sem, ltT, ltF, leT, leF, h0, hln, List.length_map]
  exact h1 _ (by rfl) (by rfl) (by rfl) (by rfl) (by rfl)

end Go.Ab
/-
  Which readings clash.
-/
namespace Go.Ab
open Go.Proofs
set_option linter.unusedSimpArgs false
set_option linter.unusedVariables false
set_option maxRecDepth 100000

variable {H : Heap}

/-- All sets of readings. -/
def subP (r s : Nat) : Bool := ((diffN s r : Nat) : Int) == 0
def subs (r n : Nat) : List Nat := (List.range n).filter (subP r)

theorem subs_succ (r n : Nat) : subs r (n + 1) = if subP r n then subs r n ++ [n] else subs r n := by
  simp only [subs, List.range_succ, List.filter_append]
  cases h : subP r n <;> simp [h]

theorem subs_len (r n : Nat) : (subs r n).length ≤ n := by
  have := List.length_filter_le (subP r) (List.range n)
  simpa [subs] using this

theorem u64nat {n : Nat} (h : (n : Int) < 9223372036854775807) : IntKind.u64.wrap ((n : Int) + 1) = ((n + 1 : Nat) : Int) := wrapU (n := n + 1) (by omega)

theorem sets_loop (G : Heap) (hG : G.length = 7) {r : Nat} (hr : r < 256) (N : Nat) (hN : N ≤ 256) (K : List Item) (R : Option Done) (hK : ∀ E : Env, E.get 1 = .ptr H.length 0 → E.get 3 = .ptr (H.length + 1) 0 → E.get 4 = .ptr (H.length + 6) 0 → E.get 5 = U r → E.get 6 = .gsl (H.length + 7) (subs r N).length → Option.map (finishC H.length) (execL cfg0 prog0 ⟨26, none, false, H.length⟩ K ⟨E, [.fn (.func 41) [.ptr (H.length + 1) 0] []], H ++ (G ++ [.grow 1 ((subs r N).map U)]), none⟩) = R)  :
    ∀ (q j : Nat), j + q = N → ∀ (xs : List AV), xs = (subs r j).map U → ∀ E : Env, E.get 1 = .ptr H.length 0 → E.get 3 = .ptr (H.length + 1) 0 → E.get 4 = .ptr (H.length + 6) 0 → E.get 5 = U r → E.get 6 = .gsl (H.length + 7) (subs r j).length → E.get 22 = U N → E.get 23 = U j →
    Option.map (finishC H.length) (execL cfg0 prog0 ⟨26, none, false, H.length⟩ (loopIt Tryd.f26 7 :: .inBlock 0 :: K) ⟨E, [.fn (.func 41) [.ptr (H.length + 1) 0] []], H ++ (G ++ [.grow 1 xs]), none⟩) = R := by
  intro q
  skip
  induction q with
  | zero =>
    intro j hj xs hx E g1 g3 g4 g5 g6 g22 g23
    have hk' : ¬ (j : Int) < ((N : Nat) : Int) := by omega
    have ej : j = N := by omega
    subst ej
    subst hx
    simp only [loopIt, todoPast, todoAt, todoOf, firstReg, ↓reduceIte, Option.some.injEq, Nat.reduceEqDiff, reduceCtorEq, Tryd.f26]
    rw [execL_inLoop]
    simp (maxSteps := 1000000) (implicitDefEqProofs := false) (disch := first | rfl | omega | assumption) only [go_sem, g1, g3, g4, g5, g6, g22, g23, ltT, ltF, leT, leF, hk']
    exact hK _ (by exact g1) (by exact g3) (by exact g4) (by exact g5) (by exact g6)
  | succ q ih =>
    intro j hj xs hx E g1 g3 g4 g5 g6 g22 g23
    have hk' : (j : Int) < ((N : Nat) : Int) := by omega
    have hk2 : j < N := by omega
    have hnn : bitsOp .andNot .u64 (j : Int) (r : Int) = some ((diffN j r : Nat) : Int) := bitsNot (by omega) (by omega)
    have hw := u64nat (n := j) (by omega)
    have hsl := subs_len r j
    have hs := subs_succ r j
    have hq : (((diffN j r : Nat) : Int) == 0) = subP r j := rfl
    rcases Bool.eq_false_or_eq_true (subP r j) with hc | hc
    · rw [hc] at hs
      simp only [if_true] at hs
      have hof : addElem (H ++ (G ++ [.grow 1 xs])) 1 false (.gsl (H.length + 7) (subs r j).length) [U j] = some (.gsl (H.length + 7) ((subs r j).length + 1), H ++ (G ++ [.grow 1 (xs ++ [U j])])) := by
        have e : (H ++ (G ++ [.grow 1 xs]))[H.length + 7]? = some (.grow 1 xs) := by rw [get_at', List.getElem?_append_right (by omega), hG]; rfl
        rw [add_gsl e (by rw [hx]; simp) rfl rfl (by simp; omega), set_at', ← hG, List.set_append_right _ _ (Nat.le_refl _)]
        simp
      simp only [loopIt, todoPast, todoAt, todoOf, firstReg, ↓reduceIte, Option.some.injEq, Nat.reduceEqDiff, reduceCtorEq, Tryd.f26]
      rw [execL_inLoop]
      simp (maxSteps := 1000000) (implicitDefEqProofs := false) (disch := first | rfl | omega | assumption) only [go_sem, g1, g3, g4, g5, g6, g22, g23, ltT, ltF, leT, leF, hk', hnn, hw, hq, hc, hof]
      exact ih (j + 1) (by omega) _ (by rw [hs, hx]; simp) _ (by exact g1) (by exact g3) (by exact g4) (by exact g5) (by rw [hs, List.length_append]; rfl) (by exact g22) (by rfl)
    · rw [hc] at hs
      simp only [Bool.false_eq_true, if_false] at hs
      simp only [loopIt, todoPast, todoAt, todoOf, firstReg, ↓reduceIte, Option.some.injEq, Nat.reduceEqDiff, reduceCtorEq, Tryd.f26]
      rw [execL_inLoop]
      simp (maxSteps := 1000000) (implicitDefEqProofs := false) (disch := first | rfl | omega | assumption) only [go_sem, g1, g3, g4, g5, g6, g22, g23, ltT, ltF, leT, leF, hk', hnn, hw, hq, hc]
      exact ih (j + 1) (by omega) _ (by rw [hs]; exact hx) _ (by exact g1) (by exact g3) (by exact g4) (by exact g5) (by rw [hs]; exact g6) (by exact g22) (by rfl)

/-- The list that the sort leaves. -/
def SortsTo (S M : List Nat) : Prop := ∀ (H : Heap) (p : Nat), H[p]? = some (.grow 1 (S.map U)) →
  callFL cfg0 prog0 false 68 [.gsl p S.length, .func (.func 69) [] []] H none = some ⟨.ret (.tup []), H.set p (.grow 1 (M.map U)), none⟩

theorem sorts_short {S : List Nat} (hs : Small 256 S) (hl : S.length < 20) : SortsTo S (insS popK S 0 S.length) := by
  intro H p hp
  have hlt : p < H.length := (List.getElem?_eq_some_iff.1 hp).1
  have := so_sort_short (H := H) cl_cmp hlt hl rfl hs
  rwa [show GH H p S = H from set_self hp] at this

def Wea.clB (w : Wea) (M : List Nat) (i : Nat) : Bool := !w.canB (M.getD i 0) w.L

def Wea.clashP (w : Wea) (M : List Nat) : Int × Int := if w.valid then (if w.can then (0, 4) else ((M.getD (firstN (w.clB M) 0 M.length) 0 : Nat), 0)) else (0, 1)

def Wea.esC (w : Wea) (M : List Nat) : Nat → List (AV × AV)
  | 0 => w.folM w.rd w.L []
  | j + 1 => w.folM (M.getD j 0) w.L (w.esC M j)

theorem esC_good (w : Wea) (M : List Nat) : ∀ k, GoodM w (w.esC M k)
  | 0 => (GoodM.nil w).fol _ _
  | k + 1 => (esC_good w M k).fol _ _

abbrev Wea.S (w : Wea) : List Nat := subs w.rd (2 ^ w.es.length)

theorem firstN_lt (b : Nat → Bool) : ∀ (q j : Nat), (∃ i, j ≤ i ∧ i < j + q ∧ b i = true) → firstN b j q < j + q
  | 0, j, ⟨i, h1, h2, _⟩ => by omega
  | q + 1, j, ⟨i, h1, h2, h3⟩ => by
    simp only [firstN]
    by_cases h : b j = true
    · rw [if_pos h]; omega
    · rw [if_neg h]
      have : i ≠ j := by rintro rfl; exact h h3
      have := firstN_lt b q (j + 1) ⟨i, by omega, by omega, h3⟩
      omega

theorem we_Clash {w : Wea} {ve : AV} (h : WeaAt H w ve) (hl : w.es.length ≤ 1000) {M : List Nat} (hM : w.valid = true → w.can = false → SortsTo w.S M ∧ M.length = w.S.length ∧ Small 256 M ∧ ∃ i, i < M.length ∧ w.canB (M.getD i 0) w.L = false) :
    callFL cfg0 prog0 false 26 [w.av ve] H none = some ⟨.ret (.tup [I (w.clashP M).1, I (w.clashP M).2]), H, none⟩ := by
  have s1 := h.es.scal
  have hO := fun (a b : AO) => we_open (H := H ++ [a, b]) (h.app _) hl 0 true
  have hS := fun (e : Int) (x0 : AO) (G : Heap) => we_anss (H.length + 1) e 0 (H ++ (x0 :: .box (I 0) :: G)) (by rw [get_at' 1]; rfl)
  have hN := fun (G : Heap) => we_ansn (H.length + 1) G
  simp only [Wea.clashP]
  rcases Bool.eq_false_or_eq_true w.valid with hv | hv
  rotate_left
  · simp only [hv, if_true, if_false, Bool.false_eq_true, Wea.made, Wea.av, List.length_append, List.length_cons, List.length_nil, List.append_assoc, List.cons_append, List.nil_append, List.append_nil, Nat.add_assoc, Nat.reduceAdd, Nat.zero_add, (show (0 : Int) ≤ 10 by decide), (show ¬ (1 : Int) = 0 by decide)] at hO ⊢
    refine (callFL_eq fn26 rfl (by simp [Tryd.f26])).trans ?_
    simp (maxSteps := 1000000) (implicitDefEqProofs := false) (disch := first | rfl | omega | assumption) only [go_sem, ltT, ltF, leT, leF, s1, hO, hS]
  · have ho := w.valid_iff.1 hv
    have h8 := ho.many
    have hrl := rd_lt ho
    have hbl : ∀ (a b : AO) (es : List (AV × AV)) (G : Heap), BlAt (H ++ (a :: b :: .box (.agg [I w.llo, I w.lhi, I w.ulo, I w.uhi, .gsl (H.length + 3) w.es.length]) :: .grow 4 (w.es.map Ev.av) :: .map 88 es :: .box (.agg [I w.llo, I w.lhi, I w.ulo, I w.uhi, .gsl (H.length + 3) w.es.length, .map (H.length + 4)]) :: G)) (H.length + 5) (H.length + 3) (H.length + 4) w := by
      intro a b es G
      have := made_bl w (H ++ [a, b]) es G
      simp only [Wea.made, Wea.av, List.length_append, List.length_cons, List.length_nil, List.append_assoc, List.cons_append, List.nil_append, List.append_nil, Nat.add_assoc, Nat.reduceAdd, Nat.zero_add] at this
      exact this
    have hP := fun (a b : AO) (es : List (AV × AV)) (G : Heap) => we_plain (hbl a b es G) ho
    have hR := fun (a b : AO) (es : List (AV × AV)) (G : Heap) => we_reads (hbl a b es G) ho
    have hC := fun (a b : AO) (G : Heap) => we_can (hbl a b [] G) ho hrl (L_bd ho) (by simp [get_at']) (GoodM.nil w)
    simp only [hv, if_true, Wea.made, Wea.av, List.length_append, List.length_cons, List.length_nil, List.append_assoc, List.cons_append, List.nil_append, List.append_nil, Nat.add_assoc, Nat.reduceAdd, Nat.zero_add, (show (0 : Int) ≤ 10 by decide)] at hO ⊢
    simp only [qkey, Wea.L] at hP hC
    rcases Bool.eq_false_or_eq_true w.can with hc | hc
    · have hc' := hc
      simp only [Wea.can, Wea.L] at hc'
      rw [hc'] at hC
      simp only [hc, if_true]
      refine (callFL_eq fn26 rfl (by simp [Tryd.f26])).trans ?_
      simp (maxSteps := 1000000) (implicitDefEqProofs := false) (disch := first | rfl | omega | assumption) only [go_sem, ltT, ltF, leT, leF, s1, hO]
      rw [chkK_of]; rotate_left; kernel_rfl
      simp (maxSteps := 1000000) (implicitDefEqProofs := false) (disch := first | rfl | omega | assumption) only [go_sem, ltT, ltF, leT, leF, s1, hO, hP, hC, hS, we_ask]
    · obtain ⟨m1, m2, m3, m4⟩ := hM hv hc
      have hc' := hc
      simp only [Wea.can, Wea.L] at hc'
      rw [hc'] at hC
      simp only [hc, Bool.false_eq_true, if_false]
      have sh := shlU (k := w.es.length) (by omega)
      have z : ¬ (w.es.length : Int) < 0 := by omega
      refine (callFL_eq fn26 rfl (by simp [Tryd.f26])).trans ?_
      simp (maxSteps := 1000000) (implicitDefEqProofs := false) (disch := first | rfl | omega | assumption) only [go_sem, ltT, ltF, leT, leF, s1, hO]
      rw [chkK_of]; rotate_left; kernel_rfl
      simp (maxSteps := 1000000) (implicitDefEqProofs := false) (disch := first | rfl | omega | assumption) only [go_sem, ltT, ltF, leT, leF, s1, hO, hP, hC, hR, we_ask, h.es.len, sh, z]
      have hp8 : (2 : Nat) ^ w.es.length ≤ 2 ^ 8 := Nat.pow_le_pow_right (by omega) h8
      refine sets_loop [.box (.agg [I w.llo, I w.lhi, I w.ulo, I w.uhi, ve]), .box (I 0), .box (.agg [I w.llo, I w.lhi, I w.ulo, I w.uhi, .gsl (H.length + 3) w.es.length]), .grow 4 (w.es.map Ev.av), .map 88 (w.folM w.rd w.L []), .box (.agg [I w.llo, I w.lhi, I w.ulo, I w.uhi, .gsl (H.length + 3) w.es.length, .map (H.length + 4)]), .box (.ptr (H.length + 5) 0)] rfl hrl (2 ^ w.es.length) hp8 _ _ (fun E g1 g3 g4 g5 g6 => ?_) (2 ^ w.es.length) 0 (by omega) [] rfl _ (by rfl) (by rfl) (by rfl) (by rfl) (by rfl) (by rfl) (by rfl)
      have hq := m1 (H ++ [.box (.agg [I w.llo, I w.lhi, I w.ulo, I w.uhi, ve]), .box (I 0), .box (.agg [I w.llo, I w.lhi, I w.ulo, I w.uhi, .gsl (H.length + 3) w.es.length]), .grow 4 (w.es.map Ev.av), .map 88 (w.folM w.rd w.L []), .box (.agg [I w.llo, I w.lhi, I w.ulo, I w.uhi, .gsl (H.length + 3) w.es.length, .map (H.length + 4)]), .box (.ptr (H.length + 5) 0), .grow 1 (w.S.map U)]) (H.length + 7) (by simp [get_at'])
      have hF := we_firstU (p := H.length + 7) (L := M) (by rw [m2]; have := subs_len w.rd (2 ^ w.es.length); simp only [Wea.S]; omega) (.func 72) [.ptr (H.length + 6) 0] (w.clB M)
        (fun j => H ++ [.box (.agg [I w.llo, I w.lhi, I w.ulo, I w.uhi, ve]), .box (I 0), .box (.agg [I w.llo, I w.lhi, I w.ulo, I w.uhi, .gsl (H.length + 3) w.es.length]), .grow 4 (w.es.map Ev.av), .map 88 (w.esC M j), .box (.agg [I w.llo, I w.lhi, I w.ulo, I w.uhi, .gsl (H.length + 3) w.es.length, .map (H.length + 4)]), .box (.ptr (H.length + 5) 0), .grow 1 (M.map U)]) (H.length + 8) (fun j => by simp) (fun j => ⟨⟨by simp [get_at'], by simp⟩, by simp [U, AV.cells]⟩) ⟨by simp [AV.lt, ltL, fnLt], rfl⟩ (fun j G hj => by
          have hbj := hbl (.box (.agg [I w.llo, I w.lhi, I w.ulo, I w.uhi, ve])) (.box (I 0)) (w.esC M j) (.box (.ptr (H.length + 5) 0) :: .grow 1 (M.map U) :: G)
          have := cl_can (p := H.length + 6) hbj ho (m3 j hj) (by simp [get_at']) (esC_good w M j) (by simp [get_at'])
          simp only [List.append_assoc, List.cons_append, List.nil_append, set_at', List.set_cons_succ, List.set_cons_zero] at this ⊢
          exact this)
      have hlt := firstN_lt (w.clB M) M.length 0 (by obtain ⟨i, h1, h2⟩ := m4; exact ⟨i, by omega, by omega, by simp only [Wea.clB, h2, Bool.not_false]⟩)
      simp only [set_at', List.set_cons_succ, List.set_cons_zero] at hq
      rw [m2] at hF
      simp only [Wea.esC] at hF
      rw [Nat.zero_add, m2] at hlt
      rw [m2]
      simp only [Wea.S] at *
      generalize hfn : firstN (w.clB M) 0 (subs w.rd (2 ^ w.es.length)).length = fN at *
      obtain ⟨a1, a2, a3, a4, a5⟩ := (show SlOk (H ++ [.box (.agg [I w.llo, I w.lhi, I w.ulo, I w.uhi, ve]), .box (I 0), .box (.agg [I w.llo, I w.lhi, I w.ulo, I w.uhi, .gsl (H.length + 3) w.es.length]), .grow 4 (w.es.map Ev.av), .map 88 (w.esC M (stepN (w.clB M) 0 (subs w.rd (2 ^ w.es.length)).length)), .box (.agg [I w.llo, I w.lhi, I w.ulo, I w.uhi, .gsl (H.length + 3) w.es.length, .map (H.length + 4)]), .box (.ptr (H.length + 5) 0), .grow 1 (M.map U)]) 1 (.gsl (H.length + 7) (subs w.rd (2 ^ w.es.length)).length) (M.map U) from ⟨⟨by simp [get_at'], by simp [m2]⟩, by simp [U, AV.cells]⟩).fA (d := 0)
      have hv1 := m3 fN (by omega)
      have hw : IntKind.i64.wrap ((M.getD fN 0 : Nat) : Int) = ((M.getD fN 0 : Nat) : Int) := w64 (by omega) (by omega)
      simp only [List.cons_append, List.nil_append] at g1 ⊢
      simp (maxSteps := 1000000) (implicitDefEqProofs := false) (disch := first | rfl | omega | assumption) only [go_sem, ltT, ltF, leT, leF, g1, g3, g4, g5, g6, hq, hF, a2, a4, hw, hN]

end Go.Ab
/-
  Which readings clash: the least set that does.
-/
namespace Go.Ab
open Go.Proofs
set_option linter.unusedSimpArgs false
set_option linter.unusedVariables false
set_option maxRecDepth 100000

variable {H : Heap}

theorem sorts_all {S : List Nat} (hs : Small 256 S) (hl : S.length ≤ 100000) : SortsTo S (stab popK S.length S) := by
  intro H p hp
  have hlt : p < H.length := (List.getElem?_eq_some_iff.1 hp).1
  have := so_sort (H := H) cl_cmp hlt hl rfl hs
  rwa [show GH H p S = H from set_self hp] at this

theorem subs_mem (r n t : Nat) : t ∈ subs r n ↔ t < n ∧ subP r t = true := by simp [subs]

theorem subs_up (r n : Nat) : ∀ k l, k < l → l < (subs r n).length → gt (subs r n) k < gt (subs r n) l := by
  have h : (subs r n).Pairwise (· < ·) := List.Pairwise.filter _ List.pairwise_lt_range
  intro k l h1 h2
  have := List.pairwise_iff_getElem.1 h k l (by omega) h2 h1
  simpa [gt, List.getD, show k < (subs r n).length by omega, h2] using this

/-- The first at which it is so. -/
theorem firstN_is (b : Nat → Bool) : ∀ (q j : Nat), firstN b j q < j + q → b (firstN b j q) = true ∧ ∀ i, j ≤ i → i < firstN b j q → b i = false
  | 0, j, h => by simp only [firstN] at h; omega
  | q + 1, j, h => by
    simp only [firstN] at h ⊢
    by_cases c : b j = true
    · rw [if_pos c]
      exact ⟨c, fun i h1 h2 => by omega⟩
    · rw [if_neg c] at h ⊢
      obtain ⟨g1, g2⟩ := firstN_is b q (j + 1) (by omega)
      refine ⟨g1, fun i h1 h2 => ?_⟩
      by_cases e : i = j
      · subst e; simpa using c
      · exact g2 i (by omega) h2

/-- A set of readings that clash. -/
def Wea.Bad (w : Wea) (t : Nat) : Prop := t < 2 ^ w.es.length ∧ subP w.rd t = true ∧ w.canB t w.L = false

abbrev Wea.M (w : Wea) : List Nat := stab popK w.S.length w.S

/-- The least one. -/
def Wea.cs (w : Wea) : Nat := w.M.getD (firstN (w.clB w.M) 0 w.M.length) 0

def Wea.clA (w : Wea) : Int × Int := if w.valid then (if w.can then (0, 4) else ((w.cs : Nat), 0)) else (0, 1)

theorem subP_self (r : Nat) : subP r r = true := by
  have : diffN r r = 0 := Nat.eq_of_testBit_eq fun i => by rw [diffN_bit, Nat.zero_testBit]; cases r.testBit i <;> rfl
  simp [subP, this]

theorem rd_lt2 (w : Wea) : w.rd < 2 ^ w.es.length := maskN_lt _ _

theorem M_srt (w : Wea) : Srt popK (gt w.M) 0 w.S.length ∧ Ib (gt w.S) (gt w.M) 0 w.S.length := stab_srt rfl (subs_up _ _)

theorem M_len (w : Wea) : w.M.length = w.S.length := stab_len ..

theorem S_small {w : Wea} (ho : w.Ok) : Small 256 w.S := by
  intro k hk
  have e : w.S.getD k 0 = w.S[k] := by simp [hk]
  have h : w.S[k] ∈ w.S := List.getElem_mem hk
  have := ((subs_mem _ _ _).1 h).1
  have hp8 : (2 : Nat) ^ w.es.length ≤ 2 ^ 8 := Nat.pow_le_pow_right (by omega) ho.many
  rw [e]
  omega

theorem M_small {w : Wea} (ho : w.Ok) : Small 256 w.M := by
  intro k hk
  rw [M_len] at hk
  obtain ⟨j, _, j2, e⟩ := (M_srt w).2.fwd k (by omega) hk
  have := S_small ho j j2
  show gt w.M k < 256
  rw [e]
  exact this

theorem M_has {w : Wea} {t : Nat} (h1 : t < 2 ^ w.es.length) (h2 : subP w.rd t = true) : ∃ k, k < w.M.length ∧ gt w.M k = t := by
  have : t ∈ w.S := (subs_mem _ _ _).2 ⟨h1, h2⟩
  obtain ⟨k, hk, e⟩ := List.mem_iff_getElem.1 this
  obtain ⟨j, _, j2, e'⟩ := (M_srt w).2.bwd k (by omega) hk
  refine ⟨j, by rw [M_len]; exact j2, ?_⟩
  rw [← e', ← e]
  simp [gt, hk]

theorem M_is {w : Wea} {k : Nat} (hk : k < w.M.length) : gt w.M k < 2 ^ w.es.length ∧ subP w.rd (gt w.M k) = true := by
  rw [M_len] at hk
  obtain ⟨j, _, j2, e⟩ := (M_srt w).2.fwd k (by omega) hk
  have h : w.S[j] ∈ w.S := List.getElem_mem j2
  have e2 : gt w.S j = w.S[j] := by simp [gt, j2]
  rw [e, e2]
  exact (subs_mem _ _ _).1 h

theorem M_bad {w : Wea} (hc : w.can = false) : ∃ i, i < w.M.length ∧ w.canB (w.M.getD i 0) w.L = false := by
  obtain ⟨k, h1, h2⟩ := M_has (rd_lt2 w) (subP_self w.rd)
  exact ⟨k, h1, by show w.canB (gt w.M k) w.L = false; rw [h2]; exact hc⟩

theorem we_ClashA {w : Wea} {ve : AV} (h : WeaAt H w ve) (hl : w.es.length ≤ 1000) :
    callFL cfg0 prog0 false 26 [w.av ve] H none = some ⟨.ret (.tup [I w.clA.1, I w.clA.2]), H, none⟩ :=
  we_Clash h hl fun hv hc => by
    have ho := w.valid_iff.1 hv
    have hp8 : (2 : Nat) ^ w.es.length ≤ 2 ^ 8 := Nat.pow_le_pow_right (by omega) ho.many
    exact ⟨sorts_all (S_small ho) (by have := subs_len w.rd (2 ^ w.es.length); simp only [Wea.S]; omega), M_len w, M_small ho, M_bad hc⟩

theorem cs_at {w : Wea} (hc : w.can = false) : ∃ k, k < w.M.length ∧ gt w.M k = w.cs ∧ w.canB w.cs w.L = false ∧ ∀ i, i < k → w.canB (gt w.M i) w.L = true := by
  have hlt := firstN_lt (w.clB w.M) w.M.length 0 (by obtain ⟨i, h1, h2⟩ := M_bad hc; exact ⟨i, by omega, by omega, by simp only [Wea.clB, h2, Bool.not_false]⟩)
  obtain ⟨h1, h2⟩ := firstN_is _ _ _ hlt
  refine ⟨_, by omega, rfl, ?_, fun i hi => ?_⟩
  · simp only [Wea.clB, Bool.not_eq_true'] at h1
    exact h1
  · have := h2 i (by omega) hi
    simp only [Wea.clB, Bool.not_eq_false'] at this
    exact this

theorem cs_bad {w : Wea} (hc : w.can = false) : w.Bad w.cs := by
  obtain ⟨k, h1, h2, h3, -⟩ := cs_at hc
  have := M_is h1
  rw [h2] at this
  exact ⟨this.1, this.2, h3⟩

theorem cs_least {w : Wea} (hc : w.can = false) {t : Nat} (ht : w.Bad t) : t = w.cs ∨ lx popK w.cs t := by
  obtain ⟨k, h1, h2, h3, h4⟩ := cs_at hc
  obtain ⟨j, j1, j2⟩ := M_has ht.1 ht.2.1
  rw [← h2, ← j2]
  rcases Nat.lt_trichotomy j k with c | c | c
  · have := h4 j c
    rw [j2, ht.2.2] at this
    cases this
  · exact .inl (by rw [c])
  · exact .inr ((M_srt w).1 k j (by omega) c (by rw [M_len] at j1; exact j1))

/-- Nothing else is the least one. -/
theorem cs_uniq {w : Wea} (hc : w.can = false) {s : Nat} (h1 : w.Bad s) (h2 : ∀ t, w.Bad t → t = s ∨ lx popK s t) : s = w.cs := by
  rcases cs_least hc h1 with h | h
  · exact h
  · rcases h2 _ (cs_bad hc) with g | g
    · exact g.symm
    · exact absurd (lx_trans h g) lx_irr

end Go.Ab
