/-
  The sort of a list of sets, walked.
-/
import Derived.Test.YtmbdllgegkpfkaaKK3
namespace Go.Ab
open Go.Proofs
set_option linter.unusedSimpArgs false
set_option linter.unusedVariables false
set_option maxRecDepth 100000

variable {H : Heap}

theorem so_sym_tail {fn : Fn} {cap : List AV} {p n a m b s mid e : Nat} {L L1 L2 L3 : List Nat} (hn : n ≤ 100000) (hb : b ≤ n) (hab : a ≤ s ∧ s ≤ m ∧ m ≤ e ∧ e ≤ b ∧ mid < b) (he : mid + m - s = e) (e6 : ((mid + m : Nat) : Int) - s = (e : Int))
    (d1 : ((s : Int) < m ∧ (m : Int) < e ∧ callFL cfg0 prog0 false 85 [.gsl p n, I s, I m, I (e : Int), .func fn [] cap] (GH H p L) none = some ⟨.ret (.tup []), GH H p L1, none⟩) ∨ ((s : Int) < m ∧ ¬ (m : Int) < e ∧ L = L1) ∨ (¬ (s : Int) < m ∧ L = L1))
    (d2 : ((a : Int) < s ∧ (s : Int) < mid ∧ callFL cfg0 prog0 false 82 [.gsl p n, I a, I s, I mid, .func fn [] cap] (GH H p L1) none = some ⟨.ret (.tup []), GH H p L2, none⟩) ∨ ((a : Int) < s ∧ ¬ (s : Int) < mid ∧ L1 = L2) ∨ (¬ (a : Int) < s ∧ L1 = L2))
    (d3 : ((mid : Int) < e ∧ (e : Int) < b ∧ callFL cfg0 prog0 false 82 [.gsl p n, I mid, I e, I b, .func fn [] cap] (GH H p L2) none = some ⟨.ret (.tup []), GH H p L3, none⟩) ∨ ((mid : Int) < e ∧ ¬ (e : Int) < b ∧ L2 = L3) ∨ (¬ (mid : Int) < e ∧ L2 = L3)) :
    ∀ (E : Env), E.get 0 = .gsl p n → E.get 1 = I a → E.get 2 = I m → E.get 3 = I b → E.get 4 = .func fn [] cap → E.get 18 = I mid → E.get 19 = I ((mid + m : Nat) : Int) → E.get 20 = I s →
        Option.map (finishC H.length) (execL cfg0 prog0 ⟨82, none, false, H.length⟩ (todoPast Try.f82 33) ⟨E, [], GH H p L, none⟩) = some ⟨.ret (.tup []), GH H p L3, none⟩ := by
  intro E g0 g1 g2 g3 g4 g18 g19 g20
  simp only [loopIt, todoPast, todoAt, todoOf, firstReg, ↓reduceIte, Option.some.injEq, Nat.reduceEqDiff, reduceCtorEq, Try.f82]
  rcases d1 with ⟨u1, v1, w1⟩ | ⟨u1, v1, rfl⟩ | ⟨u1, rfl⟩
  · simp (maxSteps := 1000000) (implicitDefEqProofs := false) (disch := first | rfl | omega | assumption) only [go_sem, ltT, ltF, leT, leF, g0, g1, g2, g3, g4, g18, g19, g20, e6, u1, v1, w1]
    rcases d2 with ⟨u2, v2, w2⟩ | ⟨u2, v2, rfl⟩ | ⟨u2, rfl⟩
    · simp (maxSteps := 1000000) (implicitDefEqProofs := false) (disch := first | rfl | omega | assumption) only [go_sem, ltT, ltF, leT, leF, g0, g1, g2, g3, g4, g18, g19, g20, e6, u1, v1, w1, u2, v2, w2]
      rcases d3 with ⟨u3, v3, w3⟩ | ⟨u3, v3, rfl⟩ | ⟨u3, rfl⟩
      · first | (exfalso; omega) | simp (maxSteps := 1000000) (implicitDefEqProofs := false) (disch := first | rfl | omega | assumption) only [go_sem, ltT, ltF, leT, leF, g0, g1, g2, g3, g4, g18, g19, g20, e6, u1, v1, w1, u2, v2, w2, u3, v3, w3]
      · first | (exfalso; omega) | simp (maxSteps := 1000000) (implicitDefEqProofs := false) (disch := first | rfl | omega | assumption) only [go_sem, ltT, ltF, leT, leF, g0, g1, g2, g3, g4, g18, g19, g20, e6, u1, v1, w1, u2, v2, w2, u3, v3]
      · first | (exfalso; omega) | simp (maxSteps := 1000000) (implicitDefEqProofs := false) (disch := first | rfl | omega | assumption) only [go_sem, ltT, ltF, leT, leF, g0, g1, g2, g3, g4, g18, g19, g20, e6, u1, v1, w1, u2, v2, w2, u3]
    · simp (maxSteps := 1000000) (implicitDefEqProofs := false) (disch := first | rfl | omega | assumption) only [go_sem, ltT, ltF, leT, leF, g0, g1, g2, g3, g4, g18, g19, g20, e6, u1, v1, w1, u2, v2]
      rcases d3 with ⟨u3, v3, w3⟩ | ⟨u3, v3, rfl⟩ | ⟨u3, rfl⟩
      · first | (exfalso; omega) | simp (maxSteps := 1000000) (implicitDefEqProofs := false) (disch := first | rfl | omega | assumption) only [go_sem, ltT, ltF, leT, leF, g0, g1, g2, g3, g4, g18, g19, g20, e6, u1, v1, w1, u2, v2, u3, v3, w3]
      · first | (exfalso; omega) | simp (maxSteps := 1000000) (implicitDefEqProofs := false) (disch := first | rfl | omega | assumption) only [go_sem, ltT, ltF, leT, leF, g0, g1, g2, g3, g4, g18, g19, g20, e6, u1, v1, w1, u2, v2, u3, v3]
      · first | (exfalso; omega) | simp (maxSteps := 1000000) (implicitDefEqProofs := false) (disch := first | rfl | omega | assumption) only [go_sem, ltT, ltF, leT, leF, g0, g1, g2, g3, g4, g18, g19, g20, e6, u1, v1, w1, u2, v2, u3]
    · simp (maxSteps := 1000000) (implicitDefEqProofs := false) (disch := first | rfl | omega | assumption) only [go_sem, ltT, ltF, leT, leF, g0, g1, g2, g3, g4, g18, g19, g20, e6, u1, v1, w1, u2]
      rcases d3 with ⟨u3, v3, w3⟩ | ⟨u3, v3, rfl⟩ | ⟨u3, rfl⟩
      · first | (exfalso; omega) | simp (maxSteps := 1000000) (implicitDefEqProofs := false) (disch := first | rfl | omega | assumption) only [go_sem, ltT, ltF, leT, leF, g0, g1, g2, g3, g4, g18, g19, g20, e6, u1, v1, w1, u2, u3, v3, w3]
      · first | (exfalso; omega) | simp (maxSteps := 1000000) (implicitDefEqProofs := false) (disch := first | rfl | omega | assumption) only [go_sem, ltT, ltF, leT, leF, g0, g1, g2, g3, g4, g18, g19, g20, e6, u1, v1, w1, u2, u3, v3]
      · first | (exfalso; omega) | simp (maxSteps := 1000000) (implicitDefEqProofs := false) (disch := first | rfl | omega | assumption) only [go_sem, ltT, ltF, leT, leF, g0, g1, g2, g3, g4, g18, g19, g20, e6, u1, v1, w1, u2, u3]
  · simp (maxSteps := 1000000) (implicitDefEqProofs := false) (disch := first | rfl | omega | assumption) only [go_sem, ltT, ltF, leT, leF, g0, g1, g2, g3, g4, g18, g19, g20, e6, u1, v1]
    rcases d2 with ⟨u2, v2, w2⟩ | ⟨u2, v2, rfl⟩ | ⟨u2, rfl⟩
    · simp (maxSteps := 1000000) (implicitDefEqProofs := false) (disch := first | rfl | omega | assumption) only [go_sem, ltT, ltF, leT, leF, g0, g1, g2, g3, g4, g18, g19, g20, e6, u1, v1, u2, v2, w2]
      rcases d3 with ⟨u3, v3, w3⟩ | ⟨u3, v3, rfl⟩ | ⟨u3, rfl⟩
      · first | (exfalso; omega) | simp (maxSteps := 1000000) (implicitDefEqProofs := false) (disch := first | rfl | omega | assumption) only [go_sem, ltT, ltF, leT, leF, g0, g1, g2, g3, g4, g18, g19, g20, e6, u1, v1, u2, v2, w2, u3, v3, w3]
      · first | (exfalso; omega) | simp (maxSteps := 1000000) (implicitDefEqProofs := false) (disch := first | rfl | omega | assumption) only [go_sem, ltT, ltF, leT, leF, g0, g1, g2, g3, g4, g18, g19, g20, e6, u1, v1, u2, v2, w2, u3, v3]
      · first | (exfalso; omega) | simp (maxSteps := 1000000) (implicitDefEqProofs := false) (disch := first | rfl | omega | assumption) only [go_sem, ltT, ltF, leT, leF, g0, g1, g2, g3, g4, g18, g19, g20, e6, u1, v1, u2, v2, w2, u3]
    · simp (maxSteps := 1000000) (implicitDefEqProofs := false) (disch := first | rfl | omega | assumption) only [go_sem, ltT, ltF, leT, leF, g0, g1, g2, g3, g4, g18, g19, g20, e6, u1, v1, u2, v2]
      rcases d3 with ⟨u3, v3, w3⟩ | ⟨u3, v3, rfl⟩ | ⟨u3, rfl⟩
      · first | (exfalso; omega) | simp (maxSteps := 1000000) (implicitDefEqProofs := false) (disch := first | rfl | omega | assumption) only [go_sem, ltT, ltF, leT, leF, g0, g1, g2, g3, g4, g18, g19, g20, e6, u1, v1, u2, v2, u3, v3, w3]
      · first | (exfalso; omega) | simp (maxSteps := 1000000) (implicitDefEqProofs := false) (disch := first | rfl | omega | assumption) only [go_sem, ltT, ltF, leT, leF, g0, g1, g2, g3, g4, g18, g19, g20, e6, u1, v1, u2, v2, u3, v3]
      · first | (exfalso; omega) | simp (maxSteps := 1000000) (implicitDefEqProofs := false) (disch := first | rfl | omega | assumption) only [go_sem, ltT, ltF, leT, leF, g0, g1, g2, g3, g4, g18, g19, g20, e6, u1, v1, u2, v2, u3]
    · simp (maxSteps := 1000000) (implicitDefEqProofs := false) (disch := first | rfl | omega | assumption) only [go_sem, ltT, ltF, leT, leF, g0, g1, g2, g3, g4, g18, g19, g20, e6, u1, v1, u2]
      rcases d3 with ⟨u3, v3, w3⟩ | ⟨u3, v3, rfl⟩ | ⟨u3, rfl⟩
      · first | (exfalso; omega) | simp (maxSteps := 1000000) (implicitDefEqProofs := false) (disch := first | rfl | omega | assumption) only [go_sem, ltT, ltF, leT, leF, g0, g1, g2, g3, g4, g18, g19, g20, e6, u1, v1, u2, u3, v3, w3]
      · first | (exfalso; omega) | simp (maxSteps := 1000000) (implicitDefEqProofs := false) (disch := first | rfl | omega | assumption) only [go_sem, ltT, ltF, leT, leF, g0, g1, g2, g3, g4, g18, g19, g20, e6, u1, v1, u2, u3, v3]
      · first | (exfalso; omega) | simp (maxSteps := 1000000) (implicitDefEqProofs := false) (disch := first | rfl | omega | assumption) only [go_sem, ltT, ltF, leT, leF, g0, g1, g2, g3, g4, g18, g19, g20, e6, u1, v1, u2, u3]
  · simp (maxSteps := 1000000) (implicitDefEqProofs := false) (disch := first | rfl | omega | assumption) only [go_sem, ltT, ltF, leT, leF, g0, g1, g2, g3, g4, g18, g19, g20, e6, u1]
    rcases d2 with ⟨u2, v2, w2⟩ | ⟨u2, v2, rfl⟩ | ⟨u2, rfl⟩
    · simp (maxSteps := 1000000) (implicitDefEqProofs := false) (disch := first | rfl | omega | assumption) only [go_sem, ltT, ltF, leT, leF, g0, g1, g2, g3, g4, g18, g19, g20, e6, u1, u2, v2, w2]
      rcases d3 with ⟨u3, v3, w3⟩ | ⟨u3, v3, rfl⟩ | ⟨u3, rfl⟩
      · first | (exfalso; omega) | simp (maxSteps := 1000000) (implicitDefEqProofs := false) (disch := first | rfl | omega | assumption) only [go_sem, ltT, ltF, leT, leF, g0, g1, g2, g3, g4, g18, g19, g20, e6, u1, u2, v2, w2, u3, v3, w3]
      · first | (exfalso; omega) | simp (maxSteps := 1000000) (implicitDefEqProofs := false) (disch := first | rfl | omega | assumption) only [go_sem, ltT, ltF, leT, leF, g0, g1, g2, g3, g4, g18, g19, g20, e6, u1, u2, v2, w2, u3, v3]
      · first | (exfalso; omega) | simp (maxSteps := 1000000) (implicitDefEqProofs := false) (disch := first | rfl | omega | assumption) only [go_sem, ltT, ltF, leT, leF, g0, g1, g2, g3, g4, g18, g19, g20, e6, u1, u2, v2, w2, u3]
    · simp (maxSteps := 1000000) (implicitDefEqProofs := false) (disch := first | rfl | omega | assumption) only [go_sem, ltT, ltF, leT, leF, g0, g1, g2, g3, g4, g18, g19, g20, e6, u1, u2, v2]
      rcases d3 with ⟨u3, v3, w3⟩ | ⟨u3, v3, rfl⟩ | ⟨u3, rfl⟩
      · first | (exfalso; omega) | simp (maxSteps := 1000000) (implicitDefEqProofs := false) (disch := first | rfl | omega | assumption) only [go_sem, ltT, ltF, leT, leF, g0, g1, g2, g3, g4, g18, g19, g20, e6, u1, u2, v2, u3, v3, w3]
      · first | (exfalso; omega) | simp (maxSteps := 1000000) (implicitDefEqProofs := false) (disch := first | rfl | omega | assumption) only [go_sem, ltT, ltF, leT, leF, g0, g1, g2, g3, g4, g18, g19, g20, e6, u1, u2, v2, u3, v3]
      · first | (exfalso; omega) | simp (maxSteps := 1000000) (implicitDefEqProofs := false) (disch := first | rfl | omega | assumption) only [go_sem, ltT, ltF, leT, leF, g0, g1, g2, g3, g4, g18, g19, g20, e6, u1, u2, v2, u3]
    · simp (maxSteps := 1000000) (implicitDefEqProofs := false) (disch := first | rfl | omega | assumption) only [go_sem, ltT, ltF, leT, leF, g0, g1, g2, g3, g4, g18, g19, g20, e6, u1, u2]
      rcases d3 with ⟨u3, v3, w3⟩ | ⟨u3, v3, rfl⟩ | ⟨u3, rfl⟩
      · first | (exfalso; omega) | simp (maxSteps := 1000000) (implicitDefEqProofs := false) (disch := first | rfl | omega | assumption) only [go_sem, ltT, ltF, leT, leF, g0, g1, g2, g3, g4, g18, g19, g20, e6, u1, u2, u3, v3, w3]
      · first | (exfalso; omega) | simp (maxSteps := 1000000) (implicitDefEqProofs := false) (disch := first | rfl | omega | assumption) only [go_sem, ltT, ltF, leT, leF, g0, g1, g2, g3, g4, g18, g19, g20, e6, u1, u2, u3, v3]
      · first | (exfalso; omega) | simp (maxSteps := 1000000) (implicitDefEqProofs := false) (disch := first | rfl | omega | assumption) only [go_sem, ltT, ltF, leT, leF, g0, g1, g2, g3, g4, g18, g19, g20, e6, u1, u2, u3]


theorem so_sym {fn : Fn} {cap : List AV} {key : Nat → Int} {B : Nat} {p : Nat} (hc : Cmp H p fn cap key B) (hp : p < H.length) {n : Nat} (hn : n ≤ 100000) : ∀ (f : Nat) (L : List Nat) (a m b : Nat), b - a ≤ f → a < m → m < b → b ≤ n → L.length = n → Small B L →
    callFL cfg0 prog0 false 82 [.gsl p n, I a, I m, I b, .func fn [] cap] (GH H p L) none = some ⟨.ret (.tup []), GH H p (sym key f L a m b), none⟩ := by
  intro f
  induction f with
  | zero => intro L a m b h1 h2 h3; omega
  | succ f ih =>
    intro L a m b hf ham hmb hbn hL hB
    have hlen : ∀ M, (GH H p M).length = H.length := fun M => by simp [GH]
    rw [sym]
    by_cases c1 : m - a = 1
    · rw [if_pos c1]
      have z1 : ((m : Int) - a == 1) = true := by simp; omega
      have hb := bs_bd (fun h => decide (key (gt L h) - key (gt L a) < 0)) (b - m + 1) m b (by omega)
      have h2 := up_loop hp a (bsr (fun h => decide (key (gt L h) - key (gt L a) < 0)) (b - m + 1) m b) n hn (by omega) (symA key L a m b) _ 0 (Nat.zero_add _) L hL rfl
      refine (callFL_eq fn82 rfl (by simp [Try.f82])).trans ?_
      simp (maxSteps := 1000000) (implicitDefEqProofs := false) (disch := first | rfl | omega | assumption) only [go_sem, ltT, ltF, leT, leF, hlen, z1]
      refine bsA_loop hc hp a m b n hn (by omega) L hL hB (b - m + 1) _ _ _ (fun E g0 g1 g2 g3 g4 g10 => ?_) (b - m + 1) 0 (by omega) m b hbn (by omega) (by omega) rfl _ (by rfl) (by rfl) (by rfl) (by rfl) (by rfl) (by rfl) (by rfl)
      simp (maxSteps := 1000000) (implicitDefEqProofs := false) (disch := first | rfl | omega | assumption) only [go_sem, ltT, ltF, leT, leF, g0, g1, g2, g3, g4, g10]
      exact h2 _ (by exact g0) (by exact g10) (by rfl)
    rw [if_neg c1]
    have z1 : ((m : Int) - a == 1) = false := by simp; omega
    by_cases c2 : b - m = 1
    · rw [if_pos c2]
      have z2 : ((b : Int) - m == 1) = true := by simp; omega
      have hb := bs_bd (fun h => !decide (key (gt L m) - key (gt L h) < 0)) (m - a + 1) a m (by omega)
      have h2 := dn_loop hp (bsr (fun h => !decide (key (gt L m) - key (gt L h) < 0)) (m - a + 1) a m) m n hn (by omega) (symB key L a m b) _ 0 (Nat.zero_add _) L hL rfl
      have e : bsr (fun h => !decide (key (gt L m) - key (gt L h) < 0)) (m - a + 1) a m + (m - bsr (fun h => !decide (key (gt L m) - key (gt L h) < 0)) (m - a + 1) a m) = m := by omega
      rw [e] at h2
      refine (callFL_eq fn82 rfl (by simp [Try.f82])).trans ?_
      simp (maxSteps := 1000000) (implicitDefEqProofs := false) (disch := first | rfl | omega | assumption) only [go_sem, ltT, ltF, leT, leF, hlen, z1, z2]
      refine bsB_loop hc hp a m b n hn (by omega) L hL hB (m - a + 1) _ _ _ (fun E g0 g1 g2 g3 g4 g14 => ?_) (m - a + 1) 0 (by omega) a m (by omega) (by omega) (by omega) rfl _ (by rfl) (by rfl) (by rfl) (by rfl) (by rfl) (by rfl) (by rfl)
      simp (maxSteps := 1000000) (implicitDefEqProofs := false) (disch := first | rfl | omega | assumption) only [go_sem, ltT, ltF, leT, leF, g0, g1, g2, g3, g4, g14]
      exact h2 _ (by exact g0) (by exact g14) (by rfl)
    rw [if_neg c2]
    have z2 : ((b : Int) - m == 1) = false := by simp; omega
    dsimp only
    obtain ⟨s1, s2, s3, s4, s5⟩ := symS_bd key L ham hmb
    obtain ⟨s, hs⟩ : ∃ s, symS key L a m b = s := ⟨_, rfl⟩
    have hs' := hs
    simp only [symS] at hs'
    rw [hs] at s1 s2 s3 s4 s5 ⊢
    have e0 := half a b
    have e2 := halfw (x := a) (y := b) (by omega)
    obtain ⟨mid, hmid⟩ : ∃ mid, (a + b) / 2 = mid := ⟨_, rfl⟩
    have e3 : IntKind.i64.wrap (mid : Int) = mid := w64 (by omega) (by omega)
    have hab : a < mid ∧ mid < b := by omega
    rw [hmid] at s3 s4 s5 e0 hs' ⊢
    have e4 : (mid : Int) + m = ((mid + m : Nat) : Int) := rfl
    have e5 : ((mid + m : Nat) : Int) - 1 = ((mid + m - 1 : Nat) : Int) := by omega
    have e6 : ((mid + m : Nat) : Int) - s = ((mid + m - s : Nat) : Int) := by omega
    -- the three calls
    have k1 : s < m → m < mid + m - s → callFL cfg0 prog0 false 85 [.gsl p n, I s, I m, I ((mid + m - s : Nat) : Int), .func fn [] cap] (GH H p L) none = some ⟨.ret (.tup []), GH H p (rot m (mid + m - s - s) L (m - s) (mid + m - s - m)), none⟩ := fun h1 h2 => so_rot hp hn h1 h2 (by omega) hL
    obtain ⟨e, he⟩ : ∃ e, mid + m - s = e := ⟨_, rfl⟩
    rw [he] at k1 e6 s4 s5 ⊢
    have k2 : a < s → s < mid → ∀ M : List Nat, M.length = n → Small B M → callFL cfg0 prog0 false 82 [.gsl p n, I a, I s, I mid, .func fn [] cap] (GH H p M) none = some ⟨.ret (.tup []), GH H p (sym key f M a s mid), none⟩ := fun h1 h2 M h3 h4 => ih M a s mid (by omega) h1 h2 (by omega) h3 h4
    have k3 : mid < e → e < b → ∀ M : List Nat, M.length = n → Small B M → callFL cfg0 prog0 false 82 [.gsl p n, I mid, I e, I b, .func fn [] cap] (GH H p M) none = some ⟨.ret (.tup []), GH H p (sym key f M mid e b), none⟩ := fun h1 h2 M h3 h4 => ih M mid e b (by omega) h1 h2 (by omega) h3 h4
    -- what follows the search
    have tail : ∀ (E : Env), E.get 0 = .gsl p n → E.get 1 = I a → E.get 2 = I m → E.get 3 = I b → E.get 4 = .func fn [] cap → E.get 18 = I mid → E.get 19 = I ((mid + m : Nat) : Int) → E.get 20 = I s →
        Option.map (finishC H.length) (execL cfg0 prog0 ⟨82, none, false, H.length⟩ (todoPast Try.f82 33) ⟨E, [], GH H p L, none⟩) = some ⟨.ret (.tup []), GH H p (if mid < e ∧ e < b then sym key f (if a < s ∧ s < mid then sym key f (if s < m ∧ m < e then rot m (e - s) L (m - s) (e - m) else L) a s mid else if s < m ∧ m < e then rot m (e - s) L (m - s) (e - m) else L) mid e b else if a < s ∧ s < mid then sym key f (if s < m ∧ m < e then rot m (e - s) L (m - s) (e - m) else L) a s mid else if s < m ∧ m < e then rot m (e - s) L (m - s) (e - m) else L), none⟩ := by
      intro E g0 g1 g2 g3 g4 g18 g19 g20
      have l1 : ∀ M : List Nat, M.length = n → ∀ f' a' m' b', (sym key f' M a' m' b').length = n := fun M h _ _ _ _ => by rw [sym_len]; exact h
      obtain ⟨L1, hL1⟩ : ∃ L1, (if s < m ∧ m < e then rot m (e - s) L (m - s) (e - m) else L) = L1 := ⟨_, rfl⟩
      have hl1 : L1.length = n := by rw [← hL1]; split <;> simp only [rot_len, hL]
      have hB1 : Small B L1 := by
        rw [← hL1]
        split
        · exact small_rot _ _ _ _ _ (by omega) (by omega) hB
        · exact hB
      obtain ⟨L2, hL2⟩ : ∃ L2, (if a < s ∧ s < mid then sym key f L1 a s mid else L1) = L2 := ⟨_, rfl⟩
      have hl2 : L2.length = n := by rw [← hL2]; split <;> simp only [sym_len, hl1]
      have hB2 : Small B L2 := by
        rw [← hL2]
        split
        · exact small_sym _ _ _ _ _ _ (by omega) (by omega) (by omega) hB1
        · exact hB1
      rw [hL1, hL2]
      have d1 : ((s : Int) < m ∧ (m : Int) < e ∧ callFL cfg0 prog0 false 85 [.gsl p n, I s, I m, I (e : Int), .func fn [] cap] (GH H p L) none = some ⟨.ret (.tup []), GH H p L1, none⟩) ∨ ((s : Int) < m ∧ ¬ (m : Int) < e ∧ L = L1) ∨ (¬ (s : Int) < m ∧ L = L1) := by
        by_cases h1 : s < m
        · by_cases h2 : m < e
          · have := k1 h1 h2
            rw [if_pos ⟨h1, h2⟩] at hL1
            rw [hL1] at this
            exact .inl ⟨by omega, by omega, this⟩
          · rw [if_neg (by omega)] at hL1
            exact .inr (.inl ⟨by omega, by omega, hL1⟩)
        · rw [if_neg (by omega)] at hL1
          exact .inr (.inr ⟨by omega, hL1⟩)
      have d2 : ((a : Int) < s ∧ (s : Int) < mid ∧ callFL cfg0 prog0 false 82 [.gsl p n, I a, I s, I mid, .func fn [] cap] (GH H p L1) none = some ⟨.ret (.tup []), GH H p L2, none⟩) ∨ ((a : Int) < s ∧ ¬ (s : Int) < mid ∧ L1 = L2) ∨ (¬ (a : Int) < s ∧ L1 = L2) := by
        by_cases h1 : a < s
        · by_cases h2 : s < mid
          · have := k2 h1 h2 L1 hl1 hB1
            rw [if_pos ⟨h1, h2⟩] at hL2
            rw [hL2] at this
            exact .inl ⟨by omega, by omega, this⟩
          · rw [if_neg (by omega)] at hL2
            exact .inr (.inl ⟨by omega, by omega, hL2⟩)
        · rw [if_neg (by omega)] at hL2
          exact .inr (.inr ⟨by omega, hL2⟩)
      obtain ⟨L3, hL3⟩ : ∃ L3, (if mid < e ∧ e < b then sym key f L2 mid e b else L2) = L3 := ⟨_, rfl⟩
      rw [hL3]
      have d3 : ((mid : Int) < e ∧ (e : Int) < b ∧ callFL cfg0 prog0 false 82 [.gsl p n, I mid, I e, I b, .func fn [] cap] (GH H p L2) none = some ⟨.ret (.tup []), GH H p L3, none⟩) ∨ ((mid : Int) < e ∧ ¬ (e : Int) < b ∧ L2 = L3) ∨ (¬ (mid : Int) < e ∧ L2 = L3) := by
        by_cases h1 : mid < e
        · by_cases h2 : e < b
          · have := k3 h1 h2 L2 hl2 hB2
            rw [if_pos ⟨h1, h2⟩] at hL3
            rw [hL3] at this
            exact .inl ⟨by omega, by omega, this⟩
          · rw [if_neg (by omega)] at hL3
            exact .inr (.inl ⟨by omega, by omega, hL3⟩)
        · rw [if_neg (by omega)] at hL3
          exact .inr (.inr ⟨by omega, hL3⟩)
      exact so_sym_tail hn hbn ⟨s1, s2, s4, s5, hab.2⟩ he e6 d1 d2 d3 E g0 g1 g2 g3 g4 g18 g19 g20
    refine (callFL_eq fn82 rfl (by simp [Try.f82])).trans ?_
    by_cases c3 : mid < m
    · simp only [c3, if_true] at hs'
      have c3' : (mid : Int) < m := by omega
      have e7 : ((mid + m : Nat) : Int) - b = ((mid + m - b : Nat) : Int) := by omega
      simp (maxSteps := 1000000) (implicitDefEqProofs := false) (disch := first | rfl | omega | assumption) only [go_sem, ltT, ltF, leT, leF, hlen, z1, z2, e0, e2, e3, e4, e5, c3', e7]
      exact bsC_loop hc hp a m b n (mid + m) (mid + m - 1) mid hn (by omega) L hL hB (mid - (mid + m - b) + 1) _ _ _ tail (mid - (mid + m - b) + 1) 0 (by omega) (mid + m - b) mid (by omega) (by omega) (by omega) (by omega) (by omega) hs' _ (by rfl) (by rfl) (by rfl) (by rfl) (by rfl) (by rfl) (by rfl) (by rfl) (by rfl) (by rfl)
    · simp only [c3, if_false] at hs'
      have c3' : ¬ (mid : Int) < m := by omega
      simp (maxSteps := 1000000) (implicitDefEqProofs := false) (disch := first | rfl | omega | assumption) only [go_sem, ltT, ltF, leT, leF, hlen, z1, z2, e0, e2, e3, e4, e5, c3']
      exact bsC_loop hc hp a m b n (mid + m) (mid + m - 1) mid hn (by omega) L hL hB (m - a + 1) _ _ _ tail (m - a + 1) 0 (by omega) a m (by omega) (by omega) (by omega) (by omega) (by omega) hs' _ (by rfl) (by rfl) (by rfl) (by rfl) (by rfl) (by rfl) (by rfl) (by rfl) (by rfl) (by rfl)

end Go.Ab
/-
  The sort of a list of sets, walked: in blocks.
-/
namespace Go.Ab
open Go.Proofs
set_option linter.unusedSimpArgs false
set_option linter.unusedVariables false
set_option maxRecDepth 100000

variable {H : Heap}

theorem small_ins {B : Nat} (key : Nat → Int) (a : Nat) : ∀ (q i : Nat) (L : List Nat), a < i → i + q ≤ L.length → Small B L → Small B (insOut key a L i q)
  | 0, _, _, _, _, h => h
  | q + 1, i, L, h1, h2, h => by
    rw [insOut]
    exact small_ins key a q (i + 1) _ (by omega) (by rw [insIn_len]; omega) (insIn_small key a _ _ h (by omega))

theorem small_insS {B : Nat} (key : Nat → Int) {L : List Nat} {a b : Nat} (h : b ≤ L.length) (hB : Small B L) : Small B (insS key L a b) := by
  rw [insS]
  by_cases c : a + 1 ≤ b
  · exact small_ins key a _ _ _ (by omega) (by omega) hB
  · rw [show b - (a + 1) = 0 by omega]
    exact hB

def stM1 (key : Nat → Int) (s n : Nat) : Nat → List Nat → Nat → List Nat × Nat
  | 0, L, a => (L, a)
  | f + 1, L, a => if a + 2 * s ≤ n then stM1 key s n f (sym key n L a (a + s) (a + 2 * s)) (a + 2 * s) else (L, a)

theorem stM1_spec (key : Nat → Int) {B : Nat} {s n : Nat} (hs : 0 < s) : ∀ (f : Nat) (L : List Nat) (a : Nat), n < f + a → a ≤ n → L.length = n → Small B L →
    stM key s n f L a = (if (stM1 key s n f L a).2 + s < n then sym key n (stM1 key s n f L a).1 (stM1 key s n f L a).2 ((stM1 key s n f L a).2 + s) n else (stM1 key s n f L a).1) ∧ (stM1 key s n f L a).1.length = n ∧ Small B (stM1 key s n f L a).1 ∧ (stM1 key s n f L a).2 ≤ n
  | 0, L, a, h1, h2, h3, h4 => by omega
  | f + 1, L, a, h1, h2, h3, h4 => by
    rw [stM, stM1]
    by_cases c : a + 2 * s ≤ n
    · rw [if_pos c, if_pos c]
      exact stM1_spec key hs f _ _ (by omega) c (by rw [sym_len]; exact h3) (small_sym key _ _ _ _ _ (by omega) (by omega) (by omega) h4)
    · rw [if_neg c, if_neg c]
      exact ⟨rfl, h3, h4, h2⟩

theorem st3_loop {fn : Fn} {cap : List AV} {key : Nat → Int} {B : Nat} {p : Nat} (hc : Cmp H p fn cap key B) (hp : p < H.length) (n s : Nat) (hn : n ≤ 100000) (hs : 0 < s ∧ s ≤ 200000) (N : Nat) (R0 : List Nat) (Y : Nat) (K : List Item) (R : Option Done) (hK : ∀ E : Env, E.get 0 = .gsl p n → E.get 1 = I n → E.get 2 = .func fn [] cap → E.get 6 = I s → E.get 7 = I Y → Option.map (finishC H.length) (execL cfg0 prog0 ⟨74, none, false, H.length⟩ K ⟨E, [], GH H p R0, none⟩) = R)  :
    ∀ (q j : Nat), j + q = N → ∀ (L : List Nat), ∀ (a : Nat), L.length = n → Small B L → a ≤ n → n < q + a → stM1 key s n q L a = (R0, Y) → ∀ E : Env, E.get 0 = .gsl p n → E.get 1 = I n → E.get 2 = .func fn [] cap → E.get 6 = I s → E.get 7 = I a → E.get 8 = I ((a + 2 * s : Nat) : Int) →
    Option.map (finishC H.length) (execL cfg0 prog0 ⟨74, none, false, H.length⟩ (loopIt Try.f74 9 :: .inBlock 4 :: K) ⟨E, [], GH H p L, none⟩) = R := by
  intro q
  skip
  induction q with
  | zero =>
    intro j hj L a hL hB ha hq hr E g0 g1 g2 g6 g7 g8
    have hk' : ¬ (j : Int) < ((N : Nat) : Int) := by omega
    simp only [loopIt, todoPast, todoAt, todoOf, firstReg, ↓reduceIte, Option.some.injEq, Nat.reduceEqDiff, reduceCtorEq, Try.f74]
    rw [execL_inLoop]
    exfalso
    omega
  | succ q ih =>
    intro j hj L a hL hB ha hq hr E g0 g1 g2 g6 g7 g8
    have hk' : (j : Int) < ((N : Nat) : Int) := by omega
    have hk2 : j < N := by omega
    rw [stM1] at hr
    by_cases c : a + 2 * s ≤ n
    · rw [if_pos c] at hr
      have c' : ((a + 2 * s : Nat) : Int) ≤ n := by omega
      have h1 := so_sym hc hp hn n L a (a + s) (a + 2 * s) (by omega) (by omega) (by omega) c hL hB
      have e1 : (a : Int) + s = ((a + s : Nat) : Int) := rfl
      have e2 : (2 : Int) * s = ((2 * s : Nat) : Int) := rfl
      have e3 : ((a + 2 * s : Nat) : Int) + ((2 * s : Nat) : Int) = ((a + 2 * s + 2 * s : Nat) : Int) := rfl
      simp only [loopIt, todoPast, todoAt, todoOf, firstReg, ↓reduceIte, Option.some.injEq, Nat.reduceEqDiff, reduceCtorEq, Try.f74]
      rw [execL_inLoop]
      simp (maxSteps := 1000000) (implicitDefEqProofs := false) (disch := first | rfl | omega | assumption) only [go_sem, g0, g1, g2, g6, g7, g8, ltT, ltF, leT, leF, hk', c', e1, h1, e2, e3]
      exact ih (j + 1) (by omega) _ (a + 2 * s) (by rw [sym_len]; exact hL) (small_sym key _ _ _ _ _ (by omega) (by omega) (by omega) hB) c (by omega) hr _ (by exact g0) (by exact g1) (by exact g2) (by exact g6) (by rfl) (by show I _ = I _; congr 1; omega)
    · rw [if_neg c] at hr
      simp only [Prod.mk.injEq] at hr
      obtain ⟨rfl, rfl⟩ := hr
      have c' : ¬ ((a + 2 * s : Nat) : Int) ≤ n := by omega
      simp only [loopIt, todoPast, todoAt, todoOf, firstReg, ↓reduceIte, Option.some.injEq, Nat.reduceEqDiff, reduceCtorEq, Try.f74]
      rw [execL_inLoop]
      simp (maxSteps := 1000000) (implicitDefEqProofs := false) (disch := first | rfl | omega | assumption) only [go_sem, g0, g1, g2, g6, g7, g8, ltT, ltF, leT, leF, hk', c']
      exact hK _ (by exact g0) (by exact g1) (by exact g2) (by exact g6) (by exact g7)

theorem st2_loop {fn : Fn} {cap : List AV} {key : Nat → Int} {B : Nat} {p : Nat} (hc : Cmp H p fn cap key B) (hp : p < H.length) (n : Nat) (hn : n ≤ 100000) (N : Nat) (R0 : List Nat) :
    ∀ (q j : Nat), j + q = N → ∀ (L : List Nat), ∀ (s : Nat), L.length = n → Small B L → 0 < s ∧ s ≤ 200000 → n < q + s → stP key n q L s = R0 → ∀ E : Env, E.get 0 = .gsl p n → E.get 1 = I n → E.get 2 = .func fn [] cap → E.get 6 = I s →
    Option.map (finishC H.length) (execL cfg0 prog0 ⟨74, none, false, H.length⟩ (todoAt Try.f74 7) ⟨E, [], GH H p L, none⟩) = some ⟨.ret (.tup []), GH H p R0, none⟩ := by
  intro q
  skip
  induction q with
  | zero =>
    intro j hj L s hL hB hs hq hr E g0 g1 g2 g6
    have hk' : ¬ (j : Int) < ((N : Nat) : Int) := by omega
    simp only [stP] at hr
    subst hr
    simp only [loopIt, todoPast, todoAt, todoOf, firstReg, ↓reduceIte, Option.some.injEq, Nat.reduceEqDiff, reduceCtorEq, Try.f74]
    rw [execL_inLoop]
    have c' : ¬ (s : Int) < n := by omega
    simp (maxSteps := 1000000) (implicitDefEqProofs := false) (disch := first | rfl | omega | assumption) only [go_sem, g0, g1, g2, g6, ltT, ltF, leT, leF, hk', c']
  | succ q ih =>
    intro j hj L s hL hB hs hq hr E g0 g1 g2 g6
    have hk' : (j : Int) < ((N : Nat) : Int) := by omega
    have hk2 : j < N := by omega
    rw [stP] at hr
    by_cases c : s < n
    · rw [if_pos c] at hr
      have c' : (s : Int) < n := by omega
      obtain ⟨m1, m2, m3, m4⟩ := stM1_spec key (B := B) (s := s) (n := n) hs.1 (n + 1) L 0 (by omega) (by omega) hL hB
      obtain ⟨x, hx⟩ : ∃ x, stM1 key s n (n + 1) L 0 = x := ⟨_, rfl⟩
      obtain ⟨L', Y⟩ := x
      rw [hx] at m1 m2 m3 m4
      simp only at m1 m2 m3 m4
      rw [m1] at hr
      have e2 : (2 : Int) * s = ((0 + 2 * s : Nat) : Int) := by omega
      have e3 : (s : Int) * 2 = ((2 * s : Nat) : Int) := by omega
      simp only [loopIt, todoPast, todoAt, todoOf, firstReg, ↓reduceIte, Option.some.injEq, Nat.reduceEqDiff, reduceCtorEq, Try.f74]
      rw [execL_inLoop]
      simp (maxSteps := 1000000) (implicitDefEqProofs := false) (disch := first | rfl | omega | assumption) only [go_sem, g0, g1, g2, g6, ltT, ltF, leT, leF, hk', c', e2]
      refine st3_loop hc hp n s hn hs (n + 1) L' Y _ _ (fun E g0 g1 g2 g6 g7 => ?_) (n + 1) 0 (by omega) L 0 hL hB (by omega) (by omega) hx _ (by exact g0) (by exact g1) (by exact g2) (by exact g6) (by rfl) (by show I _ = I _; congr 2; omega)
      have e1 : (Y : Int) + s = ((Y + s : Nat) : Int) := rfl
      by_cases d : Y + s < n
      · rw [if_pos d] at hr
        have d' : ((Y + s : Nat) : Int) < n := by omega
        have h1 := so_sym hc hp hn n L' Y (Y + s) n (by omega) (by omega) d (Nat.le_refl _) m2 m3
        simp (maxSteps := 1000000) (implicitDefEqProofs := false) (disch := first | rfl | omega | assumption) only [go_sem, g0, g1, g2, g6, ltT, ltF, leT, leF, hk', g0, g1, g2, g6, g7, e1, d', h1, e3]
        exact ih (j + 1) (by omega) _ (2 * s) (by rw [sym_len]; exact m2) (small_sym key _ _ _ _ _ (by omega) d (by omega) m3) (by omega) (by omega) hr _ (by exact g0) (by exact g1) (by exact g2) (by rfl)
      · rw [if_neg d] at hr
        have d' : ¬ ((Y + s : Nat) : Int) < n := by omega
        simp (maxSteps := 1000000) (implicitDefEqProofs := false) (disch := first | rfl | omega | assumption) only [go_sem, g0, g1, g2, g6, ltT, ltF, leT, leF, hk', g0, g1, g2, g6, g7, e1, d', e3]
        exact ih (j + 1) (by omega) _ (2 * s) m2 m3 (by omega) (by omega) hr _ (by exact g0) (by exact g1) (by exact g2) (by rfl)
    · rw [if_neg c] at hr
      subst hr
      have c' : ¬ (s : Int) < n := by omega
      simp only [loopIt, todoPast, todoAt, todoOf, firstReg, ↓reduceIte, Option.some.injEq, Nat.reduceEqDiff, reduceCtorEq, Try.f74]
      rw [execL_inLoop]
      simp (maxSteps := 1000000) (implicitDefEqProofs := false) (disch := first | rfl | omega | assumption) only [go_sem, g0, g1, g2, g6, ltT, ltF, leT, leF, hk', c']

theorem st1_loop {fn : Fn} {cap : List AV} {key : Nat → Int} {B : Nat} {p : Nat} (hc : Cmp H p fn cap key B) (hp : p < H.length) (n : Nat) (hn : n ≤ 100000) (N : Nat) (R0 : List Nat) :
    ∀ (q j : Nat), j + q = N → ∀ (L : List Nat), ∀ (a : Nat), L.length = n → Small B L → a ≤ n → n < q + a → stI key n q L a = R0 → ∀ E : Env, E.get 0 = .gsl p n → E.get 1 = I n → E.get 2 = .func fn [] cap → E.get 6 = I 20 → E.get 7 = I a → E.get 8 = I ((a + 20 : Nat) : Int) →
    Option.map (finishC H.length) (execL cfg0 prog0 ⟨74, none, false, H.length⟩ (todoAt Try.f74 2) ⟨E, [], GH H p L, none⟩) = some ⟨.ret (.tup []), GH H p (stP key n (n + 1) R0 20), none⟩ := by
  intro q
  skip
  induction q with
  | zero =>
    intro j hj L a hL hB ha hq hr E g0 g1 g2 g6 g7 g8
    have hk' : ¬ (j : Int) < ((N : Nat) : Int) := by omega
    simp only [loopIt, todoPast, todoAt, todoOf, firstReg, ↓reduceIte, Option.some.injEq, Nat.reduceEqDiff, reduceCtorEq, Try.f74]
    rw [execL_inLoop]
    exfalso
    omega
  | succ q ih =>
    intro j hj L a hL hB ha hq hr E g0 g1 g2 g6 g7 g8
    have hk' : (j : Int) < ((N : Nat) : Int) := by omega
    have hk2 : j < N := by omega
    rw [stI] at hr
    by_cases c : a + 20 ≤ n
    · rw [if_pos c] at hr
      have c' : ((a + 20 : Nat) : Int) ≤ n := by omega
      have h1 := so_ins hc hp hn (a := a) (b := a + 20) (by omega) hL hB
      have e3 : ((a + 20 : Nat) : Int) + 20 = ((a + 20 + 20 : Nat) : Int) := rfl
      simp only [loopIt, todoPast, todoAt, todoOf, firstReg, ↓reduceIte, Option.some.injEq, Nat.reduceEqDiff, reduceCtorEq, Try.f74]
      rw [execL_inLoop]
      simp (maxSteps := 1000000) (implicitDefEqProofs := false) (disch := first | rfl | omega | assumption) only [go_sem, g0, g1, g2, g6, g7, g8, ltT, ltF, leT, leF, hk', c', h1, e3]
      exact ih (j + 1) (by omega) _ (a + 20) (by rw [insS_len]; exact hL) (small_insS key (by omega) hB) c (by omega) hr _ (by exact g0) (by exact g1) (by exact g2) (by exact g6) (by rfl) (by rfl)
    · rw [if_neg c] at hr
      have c' : ¬ ((a + 20 : Nat) : Int) ≤ n := by omega
      have h1 := so_ins hc hp hn (a := a) (b := n) (by omega) hL hB
      have h2 := st2_loop hc hp n hn (n + 1) _ (n + 1) 0 (by omega) R0 20 (by rw [← hr, insS_len]; exact hL) (by rw [← hr]; exact small_insS key (by omega) hB) (by omega) (by omega) rfl
      rw [hr] at h1
      simp only [loopIt, todoPast, todoAt, todoOf, firstReg, ↓reduceIte, Option.some.injEq, Nat.reduceEqDiff, reduceCtorEq, Try.f74]
      rw [execL_inLoop]
      simp (maxSteps := 1000000) (implicitDefEqProofs := false) (disch := first | rfl | omega | assumption) only [go_sem, g0, g1, g2, g6, g7, g8, ltT, ltF, leT, leF, hk', c', h1]
      exact h2 _ (by exact g0) (by exact g1) (by exact g2) (by exact g6)

theorem so_stable {fn : Fn} {cap : List AV} {key : Nat → Int} {B : Nat} {p : Nat} (hc : Cmp H p fn cap key B) (hp : p < H.length) {n : Nat} (hn : n ≤ 100000) {L : List Nat} (hL : L.length = n) (hB : Small B L) :
    callFL cfg0 prog0 false 74 [.gsl p n, I n, .func fn [] cap] (GH H p L) none = some ⟨.ret (.tup []), GH H p (stab key n L), none⟩ := by
  have hlen : ∀ M, (GH H p M).length = H.length := fun M => by simp [GH]
  have h1 := st1_loop hc hp n hn (n + 1) _ (n + 1) 0 (by omega) L 0 hL hB (by omega) (by omega) rfl
  refine (callFL_eq fn74 rfl (by simp [Try.f74])).trans ?_
  simp (maxSteps := 1000000) (implicitDefEqProofs := false) (disch := first | rfl | omega | assumption) only [go_sem, ltT, ltF, leT, leF, hlen]
  exact h1 _ (by rfl) (by rfl) (by rfl) (by rfl) (by rfl) (by rfl)

theorem so_sort {fn : Fn} {cap : List AV} {key : Nat → Int} {B : Nat} {p : Nat} (hc : Cmp H p fn cap key B) (hp : p < H.length) {n : Nat} (hn : n ≤ 100000) {L : List Nat} (hL : L.length = n) (hB : Small B L) :
    callFL cfg0 prog0 false 52 [.gsl p n, .func fn [] cap] (GH H p L) none = some ⟨.ret (.tup []), GH H p (stab key n L), none⟩ := by
  have hlen : ∀ M, (GH H p M).length = H.length := fun M => by simp [GH]
  have h1 := so_stable hc hp hn hL hB
  have hg : (GH H p L)[p]? = some (.grow 1 (L.map U)) := List.getElem?_set_self hp
  refine (callFL_eq fn52 rfl (by simp [Try.f52])).trans ?_
  simp (maxSteps := 1000000) (implicitDefEqProofs := false) (disch := first | rfl | omega | assumption) only [go_sem, ltT, ltF, leT, leF, hg, h1, hlen, hL, List.length_map]

end Go.Ab
/-
  Package plan: numbers, sets, what goes through a set.
-/
namespace Go.Ab
open Go.Proofs
set_option linter.unusedSimpArgs false
set_option linter.unusedVariables false
set_option maxRecDepth 100000
set_option maxHeartbeats 2000000

variable {H : Heap}


theorem pl_within (n lo hi : Int) (H : Heap) : callFL cfg0 prog0 false 48 [I n, I lo, I hi] H none = some ⟨.ret (.bool (wi n lo hi)), H, none⟩ := by
  refine (callFL_eq fn48 rfl (by simp [Try.f48])).trans ?_
  by_cases h1 : lo ≤ n <;> simp (implicitDefEqProofs := false) only [go_sem, h1, wi]

theorem pl_ask (b : Bool) (e : Int) (H : Heap) : callFL cfg0 prog0 false 47 [.bool b, I e] H none = some ⟨if b then .ret (.tup []) else .pan (.iface 92 (I e)), H, none⟩ := by
  refine (callFL_eq fn47 rfl (by simp [Try.f47])).trans ?_
  cases b
  · skip
    simp (maxSteps := 1000000) (implicitDefEqProofs := false) (disch := first | rfl | omega | assumption) only [go_sem, ltT, ltF, leT, leF]
    done
  · skip
    simp (maxSteps := 1000000) (implicitDefEqProofs := false) (disch := first | rfl | omega | assumption) only [go_sem, ltT, ltF, leT, leF]
    done

theorem pl_has {s j : Nat} (hs : s < 1024) (hj : j ≤ 20) (H : Heap) : callFL cfg0 prog0 false 58 [U s, I j] H none = some ⟨.ret (.bool (s.testBit j)), H, none⟩ := by
  have hsh := shrN (s := s) (j := j) (by omega)
  have hand := bitU (s := s) (j := j) (by omega)
  have hone := and_one (s := s) (j := j)
  have z : ¬ (j : Int) < 0 := by omega
  refine (callFL_eq fn58 rfl (by simp [Try.f58])).trans ?_
  simp (maxSteps := 1000000) (implicitDefEqProofs := false) (disch := first | rfl | omega | assumption) only [go_sem, ltT, ltF, leT, leF, hsh, hand, hone, z]
  done

theorem pl_with {s j : Nat} (hs : s < 1024) (hj : j ≤ 20) (H : Heap) : callFL cfg0 prog0 false 32 [U s, I j] H none = some ⟨.ret (U (s ||| 2 ^ j)), H, none⟩ := by
  have hsh := shlU (k := j) (by omega)
  have h2 : (2 : Nat) ^ j < 2 ^ 63 := Nat.pow_lt_pow_right (by omega) (by omega)
  have hor := bitsOr (a := s) (b := 2 ^ j) (by omega) h2
  have z : ¬ (j : Int) < 0 := by omega
  refine (callFL_eq fn32 rfl (by simp [Try.f32])).trans ?_
  simp (maxSteps := 1000000) (implicitDefEqProofs := false) (disch := first | rfl | omega | assumption) only [go_sem, ltT, ltF, leT, leF, hsh, hor, z]
  done

theorem pl_many {s : Nat} (hs : s < 1024) (H : Heap) : callFL cfg0 prog0 false 83 [U s] H none = some ⟨.ret (I (pop s)), H, none⟩ := by
  have h1 := fun G : Heap => ones (H := G) hs
  have h2 : IntKind.u64.wrap (s : Int) = s := wrapU (by omega)
  refine (callFL_eq fn83 rfl (by simp [Try.f83])).trans ?_
  simp (maxSteps := 1000000) (implicitDefEqProofs := false) (disch := first | rfl | omega | assumption) only [go_sem, ltT, ltF, leT, leF, h1, h2]
  done

/-- What the numbers of a set are told to. -/
structure HearsN (p1 s n N y : Nat) (Hr : Nat → Heap) : Prop where
  lr : ∀ i, (Hr i).length = N
  b1 : ∀ i, (Hr i)[p1]? = some (.box (U s))
  y : ∀ b i, i < n → s.testBit i = true → callVL cfg0 prog0 b false (.yield y) [I i] [] (Hr i) none = some ⟨.ret (.bool true), Hr (i + 1), none⟩
  no : ∀ i, i < n → s.testBit i = false → Hr (i + 1) = Hr i

theorem HearsN.rest {p1 s n N y : Nat} {Hr : Nat → Heap} (hh : HearsN p1 s n N y Hr) {j : Nat} (hz : s / 2 ^ j = 0) : ∀ q, j + q ≤ n → Hr (j + q) = Hr j
  | 0, _ => rfl
  | q + 1, h => by
    have hb : s.testBit (j + q) = false := by
      rw [Nat.testBit_eq_decide_div_mod_eq, Nat.pow_add, ← Nat.div_div_eq_div_mul, hz]
      simp
    have := hh.rest hz q (by omega)
    rw [show j + (q + 1) = j + q + 1 by omega, hh.no (j + q) (by omega) hb, this]

theorem of_loop {p1 s n N y : Nat} {Hr : Nat → Heap} (hn : n ≤ 10) (hs : s < 2 ^ n) (hh : HearsN p1 s n N y Hr) :
    ∀ (q j : Nat), j + q = n → ∀ E : Env, E.get 0 = .func (.yield y) [] [] → E.get 1 = .ptr p1 0 → E.get 3 = I j →
    Option.map (finishC N) (execL cfg0 prog0 ⟨57, none, false, N⟩ (todoAt Try.f57 1) ⟨E, [], Hr j, none⟩) = some ⟨.ret (.tup []), Hr n, none⟩ := by
  intro q
  have hs1 : s < 1024 := Nat.lt_of_lt_of_le hs (show 2 ^ n ≤ 2 ^ 10 from Nat.pow_le_pow_right (by omega) hn)
  have tr : ∀ i, (Hr i).take N = Hr i := fun i => List.take_of_length_le (by rw [hh.lr]; exact Nat.le_refl _)
  have z0 : ((0 : Int) != 0) = false := rfl
  induction q with
  | zero =>
    intro j hj  E g0 g1 g3
    have hk' : ¬ (j : Int) < ((n : Nat) : Int) := by omega
    have ej : j = n := by omega
    subst ej
    simp only [loopIt, todoPast, todoAt, todoOf, firstReg, ↓reduceIte, Option.some.injEq, Nat.reduceEqDiff, reduceCtorEq, Try.f57]
    rw [execL_inLoop]
    have hz : s / 2 ^ j = 0 := Nat.div_eq_of_lt hs
    have hsh := shrN (s := s) (j := j) (by omega)
    have z : ¬ (j : Int) < 0 := by omega
    rw [hz] at hsh
    simp (maxSteps := 1000000) (implicitDefEqProofs := false) (disch := first | rfl | omega | assumption) only [go_sem, g0, g1, g3, ltT, ltF, leT, leF, hk', hh.b1, hsh, z, tr, z0, Int.natCast_zero]
    done
  | succ q ih =>
    intro j hj  E g0 g1 g3
    have hk' : (j : Int) < ((n : Nat) : Int) := by omega
    have hk2 : j < n := by omega
    have hsh := shrN (s := s) (j := j) (by omega)
    have z : ¬ (j : Int) < 0 := by omega
    by_cases hz : s / 2 ^ j = 0
    · have hr := hh.rest hz (n - j) (by omega)
      rw [show j + (n - j) = n by omega] at hr
      rw [hr]
      rw [hz] at hsh
      simp only [loopIt, todoPast, todoAt, todoOf, firstReg, ↓reduceIte, Option.some.injEq, Nat.reduceEqDiff, reduceCtorEq, Try.f57]
      rw [execL_inLoop]
      simp (maxSteps := 1000000) (implicitDefEqProofs := false) (disch := first | rfl | omega | assumption) only [go_sem, g0, g1, g3, ltT, ltF, leT, leF, hk', hh.b1, hsh, z, tr, z0, Int.natCast_zero]
      done
    · have hd : ((s / 2 ^ j : Nat) : Int) ≠ 0 := by omega
      have hnz : (((s / 2 ^ j : Nat) : Int) != 0) = true := by simpa using hd
      have hha := fun G : Heap => pl_has hs1 (show j ≤ 20 by omega) G
      cases hb : s.testBit j
      · rw [hb] at hha
        have key := ih (j + 1) (by omega)
        rw [hh.no j (by omega) hb] at key
        simp only [loopIt, todoPast, todoAt, todoOf, firstReg, ↓reduceIte, Option.some.injEq, Nat.reduceEqDiff, reduceCtorEq, Try.f57]
        rw [execL_inLoop]
        simp (maxSteps := 1000000) (implicitDefEqProofs := false) (disch := first | rfl | omega | assumption) only [go_sem, g0, g1, g3, ltT, ltF, leT, leF, hk', hh.b1, hsh, z, hnz, hha]
        exact key _ (by exact g0) (by exact g1) (by rfl)
      · rw [hb] at hha
        have hy := fun b => hh.y b j (by omega) hb
        simp only [loopIt, todoPast, todoAt, todoOf, firstReg, ↓reduceIte, Option.some.injEq, Nat.reduceEqDiff, reduceCtorEq, Try.f57]
        rw [execL_inLoop]
        simp (maxSteps := 1000000) (implicitDefEqProofs := false) (disch := first | rfl | omega | assumption) only [go_sem, g0, g1, g3, ltT, ltF, leT, leF, hk', hh.b1, hsh, z, hnz, hha, hy]
        exact ih (j + 1) (by omega) _ (by exact g0) (by exact g1) (by rfl)

theorem pl_of_it {p1 s n N y : Nat} {Hr : Nat → Heap} (hn : n ≤ 10) (hs : s < 2 ^ n) (hh : HearsN p1 s n N y Hr) :
    callFL cfg0 prog0 false 57 [.func (.yield y) [] [], .ptr p1 0] (Hr 0) none = some ⟨.ret (.tup []), Hr n, none⟩ := by
  have hl := hh.lr 0
  have h1 := of_loop hn hs hh n 0 (by omega)
  refine (callFL_eq fn57 rfl (by simp [Try.f57])).trans ?_
  simp (maxSteps := 1000000) (implicitDefEqProofs := false) (disch := first | rfl | omega | assumption) only [go_sem, ltT, ltF, leT, leF, hl]
  exact h1 _ (by rfl) (by rfl) (by rfl)

theorem pl_of (s : Nat) (H : Heap) : callFL cfg0 prog0 false 31 [U s] H none = some ⟨.ret (.func (.func 57) [] [.ptr H.length 0]), H ++ [.box (U s)], none⟩ := by
  refine (callFL_eq fn31 rfl (by simp [Try.f31])).trans ?_
  simp (maxSteps := 1000000) (implicitDefEqProofs := false) (disch := first | rfl | omega | assumption) only [go_sem, ltT, ltF, leT, leF]
  done

end Go.Ab
/-
  Package plan: a plan is opened.
-/
namespace Go.Ab
open Go.Proofs
set_option linter.unusedSimpArgs false
set_option linter.unusedVariables false
set_option maxRecDepth 100000
set_option maxHeartbeats 2000000

variable {H : Heap}


/-- A plan. -/
structure Pn where
  pr : Pr
  wide : Int
  ps : List Int

structure Pn.Ok (n : Pn) : Prop where
  pr : n.pr.Ok
  wide : 0 ≤ n.wide ∧ n.wide ≤ 40
  len : n.ps.length = n.pr.rs.length
  price : ∀ i, i < n.ps.length → 0 ≤ n.ps.getD i 0 ∧ n.ps.getD i 0 ≤ 20

def Pn.av (n : Pn) (vb vr vp : AV) : AV := .agg [vb, I n.pr.zlo, I n.pr.zhi, I n.pr.rlo, I n.pr.rhi, vr, I n.wide, vp]
def Pn.box (n : Pn) (vb vr vp vm : AV) : AV := .agg [vb, I n.pr.zlo, I n.pr.zhi, I n.pr.rlo, I n.pr.rhi, vr, I n.wide, vp, vm]

structure PnAt (H : Heap) (n : Pn) (vb vr vp : AV) : Prop where
  pr : PrAt H n.pr vb vr
  ps : SlOk H 1 vp (n.ps.map I)

theorem PnAt.app {n : Pn} {vb vr vp : AV} (h : PnAt H n vb vr vp) (G : Heap) : PnAt (H ++ G) n vb vr vp := ⟨h.pr.app G, h.ps.app G⟩

theorem pl_open1 {x : Int} (H : Heap) : callFL cfg0 prog0 false 50 [I x] H none = some ⟨.ret (.bool (!wi x 0 20)), H, none⟩ := by
  refine (callFL_eq fn50 rfl (by simp [Try.f50])).trans ?_
  simp (maxSteps := 1000000) (implicitDefEqProofs := false) (disch := first | rfl | omega | assumption) only [go_sem, ltT, ltF, leT, leF, pl_within]
  done

theorem ix_loop {ps : List Int} {vp : AV} (h : SlOk H 1 vp (ps.map I)) (hl : ps.length ≤ 100) (hp : ∀ i, i < ps.length → 0 ≤ ps.getD i 0 ∧ ps.getD i 0 ≤ 20) :
    ∀ (q j : Nat), j + q = ps.length → ∀ E : Env, E.get 0 = vp → E.get 1 = .func (.func 50) [] [] → E.get 6 = vp → E.get 7 = I ps.length → E.get 8 = I j →
    Option.map (finishC H.length) (execL cfg0 prog0 ⟨73, none, false, H.length⟩ (todoAt Try.f73 2) ⟨E, [], H, none⟩) = some ⟨.ret (I (-1)), H, none⟩ := by
  intro q
  obtain ⟨a1, a2, a3, a4⟩ := h.fI
  induction q with
  | zero =>
    intro j hj  E g0 g1 g6 g7 g8
    have hk' : ¬ (j : Int) < ((ps.length : Nat) : Int) := by omega
    simp only [loopIt, todoPast, todoAt, todoOf, firstReg, ↓reduceIte, Option.some.injEq, Nat.reduceEqDiff, reduceCtorEq, Try.f73]
    rw [execL_inLoop]
    simp (maxSteps := 1000000) (implicitDefEqProofs := false) (disch := first | rfl | omega | assumption) only [go_sem, g0, g1, g6, g7, g8, ltT, ltF, leT, leF, hk']
    done
  | succ q ih =>
    intro j hj  E g0 g1 g6 g7 g8
    have hk' : (j : Int) < ((ps.length : Nat) : Int) := by omega
    have hk2 : j < ps.length := by omega
    obtain ⟨x, hxe⟩ : ∃ x, ps.getD j 0 = x := ⟨_, rfl⟩
    have hx := hp j (by omega)
    rw [hxe] at hx
    have hw : wi x 0 20 = true := by simp only [wi, Bool.and_eq_true, decide_eq_true_eq]; omega
    simp only [loopIt, todoPast, todoAt, todoOf, firstReg, ↓reduceIte, Option.some.injEq, Nat.reduceEqDiff, reduceCtorEq, Try.f73]
    rw [execL_inLoop]
    simp (maxSteps := 1000000) (implicitDefEqProofs := false) (disch := first | rfl | omega | assumption) only [go_sem, g0, g1, g6, g7, g8, ltT, ltF, leT, leF, hk', a1, a2, a3, a4, hxe, pl_open1, hw]
    exact ih (j + 1) (by omega) _ (by exact g0) (by exact g1) (by exact g6) (by exact g7) (by rfl)

theorem pl_contains {ps : List Int} {vp : AV} (h : SlOk H 1 vp (ps.map I)) (hl : ps.length ≤ 100) (hp : ∀ i, i < ps.length → 0 ≤ ps.getD i 0 ∧ ps.getD i 0 ≤ 20) : callFL cfg0 prog0 false 49 [vp, .func (.func 50) [] []] H none = some ⟨.ret (.bool false), H, none⟩ := by
  have l1 := h.len
  rw [List.length_map] at l1
  have h1 : callFL cfg0 prog0 false 73 [vp, .func (.func 50) [] []] H none = some ⟨.ret (I (-1)), H, none⟩ := by
    have key := ix_loop h hl hp ps.length 0 (by omega)
    refine (callFL_eq fn73 rfl (by simp [Try.f73])).trans ?_
    simp (maxSteps := 1000000) (implicitDefEqProofs := false) (disch := first | rfl | omega | assumption) only [go_sem, ltT, ltF, leT, leF, l1]
    exact key _ (by rfl) (by rfl) (by rfl) (by rfl) (by rfl)
  have z : ¬ (-1 : Int) ≥ 0 := by omega
  refine (callFL_eq fn49 rfl (by simp [Try.f49])).trans ?_
  simp (maxSteps := 1000000) (implicitDefEqProofs := false) (disch := first | rfl | omega | assumption) only [go_sem, ltT, ltF, leT, leF, h1, z]
  done

theorem pl_always (v : AV) (H : Heap) : callFL cfg0 prog0 false 24 [v] H none = some ⟨.ret (.bool true), H, none⟩ := by
  refine (callFL_eq fn24 rfl (by simp [Try.f24])).trans ?_
  simp (maxSteps := 1000000) (implicitDefEqProofs := false) (disch := first | rfl | omega | assumption) only [go_sem, ltT, ltF, leT, leF]
  done

def Pn.open (n : Pn) (vb vr vp : AV) (N : Nat) (m : List (AV × AV)) : Heap := [.box (n.av vb vr vp), .map 66 m, .box (n.box vb vr vp (.map (N + 1)))]

theorem pl_open {n : Pn} {vb vr vp : AV} (h : PnAt H n vb vr vp) (ho : n.Ok) :
    callFL cfg0 prog0 false 23 [n.av vb vr vp, .func (.func 24) [] []] H none = some ⟨.ret (.ptr (H.length + 2) 0), H ++ n.open vb vr vp H.length [], none⟩ := by
  obtain ⟨k, hg⟩ := pr_Groups (H := H ++ [.box (n.av vb vr vp)]) (h.pr.app _) ho.pr
  have hs1 := h.pr.bs.scal
  have hs2 := h.pr.rs.scal
  have hs3 := h.ps.scal
  have t1 := h.pr.bs.ltn 1
  have t2 := h.pr.rs.ltn 1
  have t3 := h.ps.ltn 1
  have l2 := h.pr.rs.len
  have l3 := h.ps.len
  rw [List.length_map] at l2 l3
  have w0 := ho.wide
  have hw : wi n.wide 0 40 = true := by simp only [wi, Bool.and_eq_true, decide_eq_true_eq]; omega
  have h8 := ho.pr.reads
  have hc := fun G : Heap => pl_contains (h.ps.app G) (by have := ho.len; omega) ho.price
  have el : ((n.ps.length : Int) == (n.pr.rs.length : Int)) = true := by simp [ho.len]
  simp only [Pn.open, Pn.av, Pn.box, Pr.av] at hg ⊢
  refine (callFL_eq fn23 rfl (by simp [Try.f23])).trans ?_
  simp (maxSteps := 1000000) (implicitDefEqProofs := false) (disch := first | rfl | omega | assumption) only [go_sem, ltT, ltF, leT, leF, hs1, hs2, hs3, hg, pl_within, hw, l2, l3, el, pl_ask, hc, pl_always, if_true]
  done

end Go.Ab
/-
  Package plan: the readings of a set alone.
-/
namespace Go.Ab
open Go.Proofs
set_option linter.unusedSimpArgs false
set_option linter.unusedVariables false
set_option maxRecDepth 100000
set_option maxHeartbeats 2000000

variable {H : Heap}


def zpA : AV := .agg [I 0, I 0, I 0, I 0, I 0]
def onlyX (rs : List Pt) (s i : Nat) : List AV := ((idxS i s).map fun k => (rs.getD k pt0).av) ++ List.replicate (pop s - (idxS i s).length) zpA

theorem idx_succ (s i : Nat) : idxS (i + 1) s = if s.testBit i then idxS i s ++ [i] else idxS i s := by
  simp only [idxS, List.range_succ, List.filter_append]
  cases h : s.testBit i <;> simp [h]
theorem idx_mono (s : Nat) : ∀ q i, (idxS i s).length ≤ (idxS (i + q) s).length
  | 0, i => Nat.le_refl _
  | q + 1, i => by
    have := idx_mono s q (i + 1)
    rw [idx_succ] at this
    rw [show i + (q + 1) = i + 1 + q by omega]
    split at this
    · simp at this; omega
    · exact this
theorem onlyX_len (rs : List Pt) {s i : Nat} (h : (idxS i s).length ≤ pop s) : (onlyX rs s i).length = pop s := by simp [onlyX]; omega
theorem onlyX_set (rs : List Pt) {s i : Nat} (hb : s.testBit i = true) (h : (idxS (i + 1) s).length ≤ pop s) : List.take (idxS i s).length (onlyX rs s i) ++ ([(rs.getD i pt0).av] ++ List.drop ((idxS i s).length + 1) (onlyX rs s i)) = onlyX rs s (i + 1) := by
  rw [idx_succ, hb, if_pos rfl] at h
  simp only [List.length_append, List.length_cons, List.length_nil] at h
  simp only [onlyX]
  have hl : ((idxS i s).map fun k => (rs.getD k pt0).av).length = (idxS i s).length := List.length_map _
  rw [List.take_append, hl, Nat.sub_self, List.take_zero, List.append_nil, List.take_of_length_le (by omega), List.drop_append, hl, List.drop_of_length_le (by omega), List.nil_append, List.drop_replicate, idx_succ, hb, if_pos rfl]
  simp only [List.map_append, List.map_cons, List.map_nil, List.length_append, List.length_cons, List.length_nil, List.append_assoc]
  congr 3
  omega

theorem rs_all (rs : List Pt) : (rs.map Pt.av).all (fun v => v.cells.length == 5) = true := by
  rw [List.all_map]
  exact List.all_eq_true.2 fun x _ => rfl

theorem rs_cut {rs : List Pt} {i : Nat} (h : i < rs.length) : List.drop i (List.take (i + 1) (rs.map Pt.av)) = [(rs.getD i pt0).av] := by
  rw [List.drop_take, show i + 1 - i = 1 by omega, List.take_one, List.head?_drop]
  simp [h]

theorem copyW {G : Heap} {l n i : Nat} {xs : List AV} {x : Pt} (hg : G[l]? = some (.grow 5 xs)) (hx : xs.length = n) (hi : i + 1 ≤ n) : evCopy cfg0 G [25, 25] (.wsl l n i (i * 5)) (.sl false [x.av]) = some (I 1, G.set l (.grow 5 (xs.take i ++ ([x.av] ++ xs.drop (i + 1))))) := by
  have h1 : elemsOk 5 true [x.av] = true := rfl
  simp only [evCopy, sliceElem, ty25, ty39, hg, elems, Ty.agg, h1, Bool.true_and]
  have h2 : ltL 0 [x.av] = true := rfl
  have h3 : (5 : Nat) = 5 := rfl
  rw [h2, if_pos (by simp [hx]; omega)]
  rfl

theorem on_listen {n : Pn} {vb vp vm : AV} {fr : Bool} (h8 : n.pr.rs.length ≤ 8) (hs1 : vb.scalar = true) (hs3 : vp.scalar = true) (hs4 : vm.scalar = true) {B : Nat} (hB : H[B]? = some (.box (n.box vb (.sl fr (n.pr.rs.map Pt.av)) vp vm))) {s : Nat} {bb : Nat} {Hr : Nat → Heap}
    (hHr : Hr = fun i => H ++ [.box (.ptr B 0), .box (.agg [.sl true [], I 0, I 0, I 0, I 0, .sl true []]), .box (.agg [vb, I n.pr.zlo, I n.pr.zhi, I n.pr.rlo, I n.pr.rhi, .gsl (H.length + 3) (pop s)]), .grow 5 (onlyX n.pr.rs s i), .box (I (idxS i s).length), .box (U s), .dfr, .loop (loopRec Try.f75 75 0 [(18, .func (.func 57) [] [.ptr (H.length + 5) 0]), (17, U s), (6, .ptr (H.length + 4) 0), (16, .ptr (H.length + 2) 5), (15, .gsl (H.length + 3) (pop s)), (14, I (pop s)), (13, U s), (5, .ptr (H.length + 2) 0), (12, .agg [vb, I n.pr.zlo, I n.pr.zhi, I n.pr.rlo, I n.pr.rhi, .sl fr (n.pr.rs.map Pt.av)]), (11, .ptr B 0), (10, .ptr B 0), (9, .ptr B 0), (8, .ptr B 0), (4, .ptr (H.length + 1) 0), (2, .ptr H.length 0), (0, .ptr B 0), (1, U s)] (H.length + 6))]) (i : Nat) (hi : i < n.pr.rs.length) (hbit : s.testBit i = true) (hp : (idxS (i + 1) s).length ≤ pop s) (hp8 : pop s ≤ 8) :
    callVL cfg0 prog0 bb false (.yield (H.length + 7)) [I i] [] (Hr i) none = some ⟨.ret (.bool true), Hr (i + 1), none⟩ := by
  have hBl : B < H.length := (List.getElem?_eq_some_iff.1 hB).1
  have hset := onlyX_set n.pr.rs hbit hp
  have hsu := idx_succ s i
  rw [hbit, if_pos rfl] at hsu
  have hlen : (idxS (i + 1) s).length = (idxS i s).length + 1 := by rw [hsu]; simp
  have hxl := onlyX_len n.pr.rs (s := s) (i := i) (by omega)
  have hcp : ∀ a0 a1 a2 r, evCopy cfg0 (H ++ (a0 :: a1 :: a2 :: .grow 5 (onlyX n.pr.rs s i) :: r)) [25, 25] (.wsl (H.length + 3) (pop s) (idxS i s).length ((idxS i s).length * 5)) (.sl false [(n.pr.rs.getD i pt0).av]) = some (I 1, H ++ (a0 :: a1 :: a2 :: .grow 5 ((onlyX n.pr.rs s i).take (idxS i s).length ++ ([(n.pr.rs.getD i pt0).av] ++ (onlyX n.pr.rs s i).drop ((idxS i s).length + 1))) :: r)) := by
    intro a0 a1 a2 r
    rw [copyW (xs := onlyX n.pr.rs s i) (by rw [get_at']; rfl) hxl (by omega), set_at']
    rfl
  have hcut := rs_cut hi
  have hall := rs_all n.pr.rs
  subst hHr
  simp only [loopRec, rangesOf, List.nil_append, List.append_nil, List.cons_append, List.getElem?_cons_zero, List.getElem?_cons_succ, Try.f75, hlen]
  rw [← hset]
  generalize onlyX n.pr.rs s i = xs at *
  have hln : (n.pr.rs.map Pt.av).length = n.pr.rs.length := List.length_map _
  obtain ⟨k, hk⟩ : ∃ k, (idxS i s).length = k := ⟨_, rfl⟩
  rw [hlen, hk] at hp
  rw [hk] at hcp ⊢
  have hkp : k < pop s := by omega
  have hti : ((i : Int) + 1).toNat = i + 1 := by omega
  simp (maxSteps := 1000000) (implicitDefEqProofs := false) (disch := first | rfl | omega | assumption) only [go_sem, ltT, ltF, leT, leF, loopRec, rangesOf, List.nil_append, List.append_nil, List.cons_append, List.getElem?_cons_zero, List.getElem?_cons_succ, Try.f75, get_lt hBl, hB, Pn.box, hs1, hs3, hs4]
  rw [chkK_of]; rotate_left; kernel_rfl
  simp (maxSteps := 1000000) (implicitDefEqProofs := false) (disch := first | rfl | omega | assumption) only [go_sem, ltT, ltF, leT, leF, loopRec, rangesOf, List.nil_append, List.append_nil, List.cons_append, List.getElem?_cons_zero, List.getElem?_cons_succ, Try.f75, get_lt hBl, hB, Pn.box, hs1, hs3, hs4, hall, hcut, hcp, hln, hkp, hti, if_true, Option.map_some]
  rfl

theorem pl_only {n : Pn} {vb vp vm : AV} {fr : Bool} (h : PnAt H n vb (.sl fr (n.pr.rs.map Pt.av)) vp) (ho : n.Ok) {B : Nat} (hB : H[B]? = some (.box (n.box vb (.sl fr (n.pr.rs.map Pt.av)) vp vm))) (hs5 : vm.scalar = true) {s : Nat} (hs : s < 2 ^ n.pr.rs.length) :
    callFL cfg0 prog0 false 75 [.ptr B 0, U s] H none = some ⟨.ret (.agg [vb, I n.pr.zlo, I n.pr.zhi, I n.pr.rlo, I n.pr.rhi, .sl false ((rdS n.pr.rs s).map Pt.av)]), H, none⟩ := by
  have hs1 := h.pr.bs.scal
  have hs2 := h.pr.rs.scal
  have hs3 := h.ps.scal
  have t1 := h.pr.bs.ltn 0
  rw [Nat.add_zero] at t1
  have hse := h.pr.bs.seal
  have h8 := ho.pr.reads
  have hBl : B < H.length := (List.getElem?_eq_some_iff.1 hB).1
  have hs4 : s < 1024 := Nat.lt_of_lt_of_le hs (show 2 ^ n.pr.rs.length ≤ 2 ^ 10 from Nat.pow_le_pow_right (by omega) (by omega))
  have hmy := fun G : Heap => pl_many hs4 G
  have hof := fun G : Heap => pl_of s G
  have hpp := (pop_le8 n.pr.rs.length (by omega) s hs).1
  have hil := idx_len n.pr.rs.length (by omega) s hs
  have hall : onlyX n.pr.rs s n.pr.rs.length = (rdS n.pr.rs s).map Pt.av := by
    simp only [onlyX, hil, Nat.sub_self, List.replicate_zero, List.append_nil, rdS, List.map_map]
    rfl
  have hbeg : onlyX n.pr.rs s 0 = List.replicate (pop s) zpA := by simp [onlyX, idxS]
  have hit := pl_of_it (p1 := H.length + 5) (s := s) (n := n.pr.rs.length) (N := H.length + 8) (y := H.length + 7) (Hr := fun i => H ++ [.box (.ptr B 0), .box (.agg [.sl true [], I 0, I 0, I 0, I 0, .sl true []]), .box (.agg [vb, I n.pr.zlo, I n.pr.zhi, I n.pr.rlo, I n.pr.rhi, .gsl (H.length + 3) (pop s)]), .grow 5 (onlyX n.pr.rs s i), .box (I (idxS i s).length), .box (U s), .dfr, .loop (loopRec Try.f75 75 0 [(18, .func (.func 57) [] [.ptr (H.length + 5) 0]), (17, U s), (6, .ptr (H.length + 4) 0), (16, .ptr (H.length + 2) 5), (15, .gsl (H.length + 3) (pop s)), (14, I (pop s)), (13, U s), (5, .ptr (H.length + 2) 0), (12, .agg [vb, I n.pr.zlo, I n.pr.zhi, I n.pr.rlo, I n.pr.rhi, .sl fr (n.pr.rs.map Pt.av)]), (11, .ptr B 0), (10, .ptr B 0), (9, .ptr B 0), (8, .ptr B 0), (4, .ptr (H.length + 1) 0), (2, .ptr H.length 0), (0, .ptr B 0), (1, U s)] (H.length + 6))]) (by omega) hs
    ⟨fun i => by simp, fun i => by rw [get_at']; rfl, fun b i hi hb => on_listen h8 hs1 hs3 hs5 hB rfl i hi hb (by
      rw [← hil]
      have := idx_mono s (n.pr.rs.length - (i + 1)) (i + 1)
      rw [show i + 1 + (n.pr.rs.length - (i + 1)) = n.pr.rs.length by omega] at this
      exact this) (by omega), fun i hi hb => by
      have := idx_succ s i
      rw [hb, if_neg (by simp)] at this
      simp only [onlyX, this]⟩
  simp only [hall, hbeg] at hit
  have hi0 : (idxS 0 s).length = 0 := rfl
  simp only [hi0, hil, Int.natCast_zero] at hit
  have ltp : ∀ N, ltL N ((rdS n.pr.rs s).map Pt.av) = true := fun N => ltL_map (fun _ => rfl) _
  have lp : ((rdS n.pr.rs s).map Pt.av).length = pop s := by rw [List.length_map, rdS, List.length_map, hil]
  generalize (rdS n.pr.rs s).map Pt.av = xs at *
  simp only [loopRec, rangesOf, List.nil_append, List.append_nil, List.cons_append, List.getElem?_cons_zero, List.getElem?_cons_succ, Try.f75, zpA, Int.natCast_zero] at hit
  refine (callFL_eq fn75 rfl (by simp [Try.f75])).trans ?_
  simp (maxSteps := 1000000) (implicitDefEqProofs := false) (disch := first | rfl | omega | assumption) only [go_sem, ltT, ltF, leT, leF, loopRec, rangesOf, List.nil_append, List.append_nil, List.cons_append, List.getElem?_cons_zero, List.getElem?_cons_succ, Try.f75, get_lt hBl, hB, Pn.box, hs1, hs2, hs3, hs5, hmy, hof]
  rw [hit]
  simp (maxSteps := 1000000) (implicitDefEqProofs := false) (disch := first | rfl | omega | assumption) only [go_sem, ltT, ltF, leT, leF, loopRec, rangesOf, List.nil_append, List.append_nil, List.cons_append, List.getElem?_cons_zero, List.getElem?_cons_succ, Try.f75, hs1, lp, ltp, t1, hse, elems, if_true]
  done

end Go.Ab
/-
  Package plan: how wide blocks are by a set.
-/
namespace Go.Ab
open Go.Proofs
set_option linter.unusedSimpArgs false
set_option linter.unusedVariables false
set_option maxRecDepth 100000
set_option maxHeartbeats 2000000

variable {H : Heap}


/-- A pair with the readings of a set alone. -/
def subP (p : Pr) (s : Nat) : Pr := { p with rs := rdS p.rs s }

theorem rdS_mem {rs : List Pt} {s : Nat} {x : Pt} (h : x ∈ rdS rs s) : x ∈ rs := (rdS_sub rs s).subset h

theorem getD_mem' {α : Type} {l : List α} {d : α} {i : Nat} (h : i < l.length) : l.getD i d ∈ l := by
  rw [List.getD_eq_getElem?_getD, List.getElem?_eq_getElem h]
  exact List.getElem_mem _

theorem sub_ok {p : Pr} (ho : p.Ok) (s : Nat) : (subP p s).Ok := by
  refine ⟨ho.many, ?_, ho.blk, ho.zero, ho.rate, fun i hi => ?_⟩
  · have := (rdS_sub p.rs s).length_le
    have h8 := ho.reads
    show (rdS p.rs s).length ≤ 8
    omega
  · have hm := rdS_mem (getD_mem' (d := pt0) hi)
    obtain ⟨k, hk, e⟩ := mem_getD (d := pt0) hm
    have := ho.rd k hk
    rw [e] at this
    exact this

theorem PrAt.sub {p : Pr} {vb vr : AV} (h : PrAt H p vb vr) (s : Nat) : PrAt H (subP p s) vb (.sl false ((rdS p.rs s).map Pt.av)) :=
  ⟨h.bs, ⟨rfl, fun x hx => by obtain ⟨i, _, rfl⟩ := List.mem_map.1 hx; rfl⟩⟩

/-- There is a truth, by all sets of readings. -/
def HasT (n : Pn) : Prop := ∀ s b, b < n.pr.bs.length → ∃ lo hi, knownL n.pr (rdS n.pr.rs s) b = some (lo, hi)

theorem known_bd {p : Pr} (ho : p.Ok) {l : List Pt} (hl : ∀ x ∈ l, x ∈ p.rs) {b : Nat} (hb : b < 5) {lo hi : Int} (h : knownL p l b = some (lo, hi)) : -2000000000000 ≤ lo ∧ lo ≤ 2000000000000 ∧ -2000000000000 ≤ hi ∧ hi ≤ 2000000000000 := by
  have hne : (toldL p l).map (fun x => spnT x.2 b) ≠ [] := by intro e; rw [knownL, e] at h; cases h
  obtain ⟨a', b', h1, ⟨x, x1, x2⟩, ⟨y, y1, y2⟩, _⟩ := hull_is hne
  rw [knownL, h1] at h
  cases h
  have key : ∀ x ∈ (toldL p l).map (fun x => spnT x.2 b), -2000000000000 ≤ x.1 ∧ x.1 ≤ 2000000000000 ∧ -2000000000000 ≤ x.2 ∧ x.2 ≤ 2000000000000 := by
    intro x hx
    simp only [toldL, List.mem_map, List.mem_filter] at hx
    obtain ⟨⟨c, t⟩, ⟨⟨c', hc, e⟩, _⟩, rfl⟩ := hx
    cases e
    obtain ⟨k1, k2⟩ := mem_combs.1 hc
    have hbd := (tabW_eq ho hl k1 k2).2
    have q1 := hbd.bd 5 (by omega) b (by omega)
    have q2 := hbd.bd b (by omega) 5 (by omega)
    simp only [spnT]
    omega
  have k1 := key x x1
  have k2 := key y y1
  omega

/-- How wide the first blocks are by a set. -/
def widP (n : Pn) (s j : Nat) : List Int := (List.range 5).map fun b => if b < j then ((knownL n.pr (rdS n.pr.rs s) b).getD (0, 0)).2 - ((knownL n.pr (rdS n.pr.rs s) b).getD (0, 0)).1 else 0
def widS (n : Pn) (s : Nat) : List Int := widL n.pr (rdS n.pr.rs s)
theorem widP_len (n : Pn) (s j : Nat) : (widP n s j).length = 5 := by simp [widP]
theorem widP_all (n : Pn) (s : Nat) : widP n s n.pr.bs.length = widS n s := rfl
theorem widS_len (n : Pn) (s : Nat) : (widS n s).length = 5 := widP_len n s _
theorem widP_zero (n : Pn) (s : Nat) : (widP n s 0).map I = [I 0, I 0, I 0, I 0, I 0] := by simp [widP, List.range_succ_eq_map]
theorem widP_set (n : Pn) (s : Nat) {j : Nat} (hj : j < 5) {lo hi : Int} (h : knownL n.pr (rdS n.pr.rs s) j = some (lo, hi)) : List.take j ((widP n s j).map I) ++ I (hi - lo) :: List.drop (j + 1) ((widP n s j).map I) = (widP n s (j + 1)).map I := by
  have hl := widP_len n s j
  have e := List.set_eq_take_append_cons_drop (l := (widP n s j).map I) (i := j) (a := I (hi - lo))
  rw [if_pos (by rw [List.length_map, hl]; exact hj)] at e
  rw [← e, ← List.map_set]
  congr 1
  apply List.ext_getElem
  · simp [widP]
  · intro i h1 h2
    rw [List.getElem_set]
    simp only [widP, List.getElem_map, List.getElem_range]
    by_cases hij : j = i
    · subst hij
      rw [if_pos rfl, if_pos (by omega), h]
      rfl
    · rw [if_neg hij]
      by_cases hlt : i < j
      · rw [if_pos hlt, if_pos (by omega)]
      · rw [if_neg hlt, if_neg (by omega)]

theorem wlen {t : List Int} (hl : t.length = 5) : (t.map I).length = 5 := by rw [List.length_map, hl]
theorem wtake {t : List Int} (hl : t.length = 5) : List.take 5 (t.map I) = t.map I := List.take_of_length_le (by rw [wlen hl]; omega)

/-- What is kept of a set. -/
def kE (n : Pn) (s : Nat) : AV × AV := (U s, .agg ((widS n s).map I))
def addK (m : List Nat) (s : Nat) : List Nat := if s ∈ m then m else m ++ [s]

theorem set_same (b x : Nat) : (U b).same (U x) = decide (b = x) := by
  have : (U b).same (U x) = ((b : Int) == (x : Int)) := by simp [AV.same]
  rw [this, Bool.eq_iff_iff]
  simp only [beq_iff_eq, decide_eq_true_eq]
  omega
theorem kE_look (n : Pn) : ∀ (m : List Nat) (s : Nat), lookupM (U s) (m.map (kE n)) = if s ∈ m then some (.agg ((widS n s).map I)) else none
  | [], s => rfl
  | x :: m, s => by
    have ih := kE_look n m s
    simp only [List.map_cons, kE, lookupM, set_same, List.mem_cons] at ih ⊢
    by_cases e : s = x
    · simp [e]
    · simp only [e, decide_false, Bool.false_eq_true, if_false, false_or]; exact ih
theorem kE_put (n : Pn) : ∀ (m : List Nat) (s : Nat), ¬ s ∈ m → putM (U s) (.agg ((widS n s).map I)) (m.map (kE n)) = (m ++ [s]).map (kE n)
  | [], s, _ => rfl
  | x :: m, s, h => by
    simp only [List.mem_cons, not_or] at h
    have ih := kE_put n m s h.2
    simp only [kE, List.map_cons, List.cons_append, putM, set_same] at ih ⊢
    simp only [h.1, decide_false, Bool.false_eq_true, if_false]
    rw [ih]

/-- What is there when a plan is looked at, with what is kept. -/
structure KAt (n : Pn) (vb vp : AV) (fr : Bool) (W : List Nat → Heap) (N B M : Nat) : Prop where
  len : ∀ m, (W m).length = N
  aB : ∀ m, (W m)[B]? = some (.box (n.box vb (.sl fr (n.pr.rs.map Pt.av)) vp (.map M)))
  aM : ∀ m, (W m)[M]? = some (.map 66 (m.map (kE n)))
  put : ∀ m m', (W m).set M (.map 66 (m'.map (kE n))) = W m'
  pn : ∀ m, PnAt (W m) n vb (.sl fr (n.pr.rs.map Pt.av)) vp
  lt : B < N ∧ M < N

theorem KAt.app {n : Pn} {vb vp : AV} {fr : Bool} {W : List Nat → Heap} {N B M : Nat} (h : KAt n vb vp fr W N B M) (G : Heap) : KAt n vb vp fr (fun m => W m ++ G) (N + G.length) B M := by
  have hl := h.len
  have hlt := h.lt
  refine ⟨fun s => by simp [hl], fun s => ?_, fun s => ?_, fun s s' => ?_, fun s => (h.pn s).app G, by omega⟩
  · rw [List.getElem?_append_left (by rw [hl]; omega)]; exact h.aB s
  · rw [List.getElem?_append_left (by rw [hl]; omega)]; exact h.aM s
  · rw [List.set_append_left _ _ (by rw [hl]; omega), h.put]

theorem kn_loop {n : Pn} (ho : n.Ok) (hT : HasT n) {vb vp : AV} {fr : Bool} {W : List Nat → Heap} {N B M : Nat} (h : KAt n vb vp fr W N B M) {m : List Nat} {s : Nat} (hm : ¬ s ∈ m) :
    ∀ (q j : Nat), j + q = n.pr.bs.length → ∀ (G : Heap), ∀ E : Env, E.get 0 = .ptr B 0 → E.get 1 = U s → E.get 4 = .ptr N 0 → E.get 7 = .ptr (N + 2) 0 → E.get 8 = .ptr (N + 3) 0 → E.get 28 = I n.pr.bs.length → E.get 29 = I j →
    Option.map (finishC N) (execL cfg0 prog0 ⟨55, none, false, N⟩ (todoAt Try.f55 7) ⟨E, [], W m ++ (.box (.agg [I 0, I 0, I 0, I 0, I 0]) :: .box (.agg [I 0, I 0, I 0, I 0, I 0]) :: .box (.agg ((widP n s j).map I)) :: .box ((subP n.pr s).av vb (.sl false ((rdS n.pr.rs s).map Pt.av))) :: G), none⟩) = some ⟨.ret (.agg ((widS n s).map I)), W (m ++ [s]), none⟩ := by
  intro q
  have hlen := h.len
  have hlt := h.lt
  have h5 := ho.pr.many
  have hB' : ∀ m l, (W m ++ l)[B]? = some (.box (n.box vb (.sl fr (n.pr.rs.map Pt.av)) vp (.map M))) := fun m l => by rw [List.getElem?_append_left (by rw [hlen]; omega)]; exact h.aB m
  have hM' : ∀ m l, (W m ++ l)[M]? = some (.map 66 (m.map (kE n))) := fun m l => by rw [List.getElem?_append_left (by rw [hlen]; omega)]; exact h.aM m
  have hP' : ∀ m m' l, (W m ++ l).set M (.map 66 (m'.map (kE n))) = W m' ++ l := fun m m' l => by rw [List.set_append_left _ _ (by rw [hlen]; omega), h.put]
  have yt : ∀ st l, (W st ++ l).take N = W st := fun st l => by rw [← hlen st, List.take_left]
  have yt2 : ∀ st, (W st).take N = W st := fun st => List.take_of_length_le (by rw [hlen]; exact Nat.le_refl _)
  have yd : ∀ st l, (W st ++ l).drop N = l := fun st l => by rw [← hlen st, List.drop_left]
  have yu : ∀ st l k, (W st ++ l).take (N + k) = W st ++ l.take k := fun st l k => by rw [← hlen st, List.take_length_add_append]
  have yk : ∀ st l k, (W st ++ l)[N + k]? = l[k]? := fun st l k => by rw [← hlen st, get_at']
  have y0 : ∀ st l, (W st ++ l)[N]? = l[0]? := fun st l => by rw [← hlen st, get_at]
  have ys : ∀ st l o, (W st ++ l).set N o = W st ++ l.set 0 o := fun st l o => by rw [← hlen st, set_at]
  have yr : ∀ st l k o, (W st ++ l).set (N + k) o = W st ++ l.set k o := fun st l k o => by rw [← hlen st, set_at']
  have hB1 : B < N + 4 := by omega
  have t1 : ∀ k, vb.lt (N + k) = true := fun k => by have := (h.pn []).pr.bs.ltn k; simpa [hlen] using this
  have hs1 := (h.pn []).pr.bs.scal
  have hs3 := (h.pn []).ps.scal
  induction q with
  | zero =>
    intro j hj G E g0 g1 g4 g7 g8 g28 g29
    have hk' : ¬ (j : Int) < ((n.pr.bs.length : Nat) : Int) := by omega
    have ej : j = n.pr.bs.length := by omega
    subst ej
    have w1 := widP_len n s n.pr.bs.length
    rw [widP_all] at w1 ⊢
    simp only [loopIt, todoPast, todoAt, todoOf, firstReg, ↓reduceIte, Option.some.injEq, Nat.reduceEqDiff, reduceCtorEq, Try.f55]
    rw [execL_inLoop]
    have hpm := kE_put n m s hm
    have w2 := wlen w1
    have w3 := wtake w1
    have w4 := sealI (H := []) (N := 0) (widS n s)
    generalize widS n s = w at *
    simp (maxSteps := 1000000) (implicitDefEqProofs := false) (disch := first | rfl | omega | assumption) only [go_sem, g0, g1, g4, g7, g8, g28, g29, ltT, ltF, leT, leF, hk', hlen, yt, yt2, yd, yu, yk, y0, ys, yr, t1, hB1, if_true, alI, ltI, sealI, w2, w3, Pr.av, subP]
    rw [chkK_of]; rotate_left; kernel_rfl
    simp (maxSteps := 1000000) (implicitDefEqProofs := false) (disch := first | rfl | omega | assumption) only [go_sem, g0, g1, g4, g7, g8, g28, g29, ltT, ltF, leT, leF, hk', hlen, hB', hM', hP', Pn.box, hs1, hs3, yt, yt2, yd, yu, yk, y0, ys, yr, t1, hB1, if_true, alI, ltI, sealI, w2, w3, Pr.av, subP, hpm]
    done
  | succ q ih =>
    intro j hj G E g0 g1 g4 g7 g8 g28 g29
    have hk' : (j : Int) < ((n.pr.bs.length : Nat) : Int) := by omega
    have hk2 : j < n.pr.bs.length := by omega
    have hj5 : j < 5 := by omega
    obtain ⟨lo, hi, hk⟩ := hT s j (by omega)
    have hbd := known_bd ho.pr (fun x hx => rdS_mem hx) hj5 hk
    have hkn := fun (G : Heap) => pr_Known (H := W m ++ G) (((h.pn m).pr.app G).sub s) (sub_ok ho.pr s) (n := j) (by show j < n.pr.bs.length; omega) (lo, hi) hk
    have hset := widP_set n s hj5 hk
    have w1 := widP_len n s j
    have w2 := wlen w1
    have w3 := wtake w1
    have w5 := widP_len n s (j + 1)
    have w6 := wlen w5
    have w7 := wtake w5
    have hsz : j + 1 ≤ 5 := by omega
    have key := ih (j + 1) (by omega) [.box (.agg [I lo, I hi])]
    generalize (widP n s (j + 1)) = wb at *
    generalize (widP n s j) = wa at *
    have ltp : ∀ N, ltL N ((rdS n.pr.rs s).map Pt.av) = true := fun N => ltL_map (fun _ => rfl) _
    simp only [Pr.av, subP] at hkn key ⊢
    simp only [loopIt, todoPast, todoAt, todoOf, firstReg, ↓reduceIte, Option.some.injEq, Nat.reduceEqDiff, reduceCtorEq, Try.f55]
    rw [execL_inLoop]
    simp (maxSteps := 1000000) (implicitDefEqProofs := false) (disch := first | rfl | omega | assumption) only [go_sem, g0, g1, g4, g7, g8, g28, g29, ltT, ltF, leT, leF, hk', hlen, yt, yt2, yd, yu, yk, y0, ys, yr, t1, hB1, if_true, alI, ltI, sealI, w2, w3, ltp, hs1, hkn, pl_ask, hset, hsz, w6]
    exact key _ (by rfl) (by rfl) (by rfl) (by rfl) (by rfl) (by rfl) (by rfl)

end Go.Ab
/-
  Package plan: what is known by a set; whether it is enough.
-/
namespace Go.Ab
open Go.Proofs
set_option linter.unusedSimpArgs false
set_option linter.unusedVariables false
set_option maxRecDepth 100000
set_option maxHeartbeats 2000000

variable {H : Heap}


theorem pl_known {n : Pn} (ho : n.Ok) (hT : HasT n) {vb vp : AV} {fr : Bool} {W : List Nat → Heap} {N B M : Nat} (h : KAt n vb vp fr W N B M) (m : List Nat) {s : Nat} (hs : s < 2 ^ n.pr.rs.length) :
    callFL cfg0 prog0 false 55 [.ptr B 0, U s] (W m) none = some ⟨.ret (.agg ((widS n s).map I)), W (addK m s), none⟩ := by
  have hlen := h.len
  have hlt := h.lt
  have h5 := ho.pr.many
  have h8 := ho.pr.reads
  have hB' : ∀ m l, (W m ++ l)[B]? = some (.box (n.box vb (.sl fr (n.pr.rs.map Pt.av)) vp (.map M))) := fun m l => by rw [List.getElem?_append_left (by rw [hlen]; omega)]; exact h.aB m
  have hM' : ∀ m l, (W m ++ l)[M]? = some (.map 66 (m.map (kE n))) := fun m l => by rw [List.getElem?_append_left (by rw [hlen]; omega)]; exact h.aM m
  have hB2 := h.aB
  have yt : ∀ st l, (W st ++ l).take N = W st := fun st l => by rw [← hlen st, List.take_left]
  have yt2 : ∀ st, (W st).take N = W st := fun st => List.take_of_length_le (by rw [hlen]; exact Nat.le_refl _)
  have yu : ∀ st l k, (W st ++ l).take (N + k) = W st ++ l.take k := fun st l k => by rw [← hlen st, List.take_length_add_append]
  have yk : ∀ st l k, (W st ++ l)[N + k]? = l[k]? := fun st l k => by rw [← hlen st, get_at']
  have y0 : ∀ st l, (W st ++ l)[N]? = l[0]? := fun st l => by rw [← hlen st, get_at]
  have ys : ∀ st l o, (W st ++ l).set N o = W st ++ l.set 0 o := fun st l o => by rw [← hlen st, set_at]
  have yr : ∀ st l k o, (W st ++ l).set (N + k) o = W st ++ l.set k o := fun st l k o => by rw [← hlen st, set_at']
  have t1 : ∀ k, vb.lt (N + k) = true := fun k => by have := (h.pn []).pr.bs.ltn k; simpa [hlen] using this
  have hs1 := (h.pn []).pr.bs.scal
  have hs3 := (h.pn []).ps.scal
  have hlk := kE_look n m s
  have w1 := widS_len n s
  have w2 := wlen w1
  have w3 := wtake w1
  simp only [addK]
  have dz : List.drop 5 [I 0, I 0, I 0, I 0, I 0] = [] := rfl
  by_cases hm : s ∈ m
  · rw [if_pos hm] at hlk ⊢
    generalize widS n s = w at *
    refine (callFL_eq fn55 rfl (by simp [Try.f55])).trans ?_
    simp (maxSteps := 1000000) (implicitDefEqProofs := false) (disch := first | rfl | omega | assumption) only [go_sem, ltT, ltF, leT, leF, hlen, hB', hB2, hM', h.aM, Pn.box, hs1, hs3, yt, yt2, yk, y0, ys, yr, alI, ltI, sealI, w2, w3, hlk, dz]
    done
  · rw [if_neg hm] at hlk ⊢
    have hon := fun G : Heap => pl_only (H := W m ++ G) ((h.pn m).app G) ho (hB' m G) rfl hs
    have key := kn_loop ho hT h hm n.pr.bs.length 0 (by omega) []
    have ltp : ∀ N, ltL N ((rdS n.pr.rs s).map Pt.av) = true := fun N => ltL_map (fun _ => rfl) _
    have l1 := (h.pn m).pr.bs.len
    rw [List.length_map] at l1
    rw [widP_zero] at key
    simp only [Pr.av, subP] at key
    generalize widS n s = w at *
    refine (callFL_eq fn55 rfl (by simp [Try.f55])).trans ?_
    simp (maxSteps := 1000000) (implicitDefEqProofs := false) (disch := first | rfl | omega | assumption) only [go_sem, ltT, ltF, leT, leF, hlen, hB', hB2, hM', h.aM, Pn.box, hs1, hs3, yt, yt2, yk, y0, ys, yr, alI, ltI, sealI, w2, w3, hlk, hon, ltp, l1]
    exact key _ (by rfl) (by rfl) (by rfl) (by rfl) (by rfl) (by rfl) (by rfl)

theorem pl_every {n : Pn} (ho : n.Ok) {vb vr vp vm : AV} (hs1 : vb.scalar = true) (hs2 : vr.scalar = true) (hp : SlOk H 1 vp (n.ps.map I)) (hs4 : vm.scalar = true) {B : Nat} (hB : H[B]? = some (.box (n.box vb vr vp vm))) :
    callFL cfg0 prog0 false 30 [.ptr B 0] H none = some ⟨.ret (U (2 ^ n.pr.rs.length - 1)), H, none⟩ := by
  have l2 := hp.len
  rw [List.length_map, ho.len] at l2
  have hs3 := hp.scal
  have h8 := ho.pr.reads
  have e : ∀ n : Nat, n ≤ 8 → IntKind.u64.wrap (1 * 2 ^ (min n 64)) = ((2 ^ n : Nat) : Int) ∧ IntKind.u64.wrap (((2 ^ n : Nat) : Int) - 1) = ((2 ^ n - 1 : Nat) : Int) := by decide
  obtain ⟨e1, e2⟩ := e _ h8
  have z : ¬ (n.pr.rs.length : Int) < 0 := by omega
  refine (callFL_eq fn30 rfl (by simp [Try.f30])).trans ?_
  simp (maxSteps := 1000000) (implicitDefEqProofs := false) (disch := first | rfl | omega | assumption) only [go_sem, ltT, ltF, leT, leF, hB, Pn.box, l2, hs1, hs2, hs3, hs4, z, e1, e2]
  done

def mxF (m y : Int) : Int := if m < y then y else m

theorem mx_loop (w : List Int) (hl : w.length ≤ 100) (v0 : AV) (r : Int) :
    ∀ (q j : Nat), j + q = w.length → ∀ (x : Int), (w.drop j).foldl mxF x = r → ∀ E : Env, E.get 0 = .sl false (w.map I) → E.get 3 = I x → E.get 4 = I j →
    Option.map (finishC H.length) (execL cfg0 prog0 ⟨76, none, false, H.length⟩ (todoAt Try.f76 5) ⟨E, [], H, none⟩) = some ⟨.ret (I r), H, none⟩ := by
  intro q
  obtain ⟨a1, a2, a3, a4⟩ := (slI (H := H) false w).fI
  induction q with
  | zero =>
    intro j hj x hr E g0 g3 g4
    have hk' : ¬ (j : Int) < ((w.length : Nat) : Int) := by omega
    rw [List.drop_of_length_le (by omega)] at hr
    simp only [List.foldl_nil] at hr
    subst hr
    simp only [loopIt, todoPast, todoAt, todoOf, firstReg, ↓reduceIte, Option.some.injEq, Nat.reduceEqDiff, reduceCtorEq, Try.f76]
    rw [execL_inLoop]
    simp (maxSteps := 1000000) (implicitDefEqProofs := false) (disch := first | rfl | omega | assumption) only [go_sem, g0, g3, g4, ltT, ltF, leT, leF, hk']
    done
  | succ q ih =>
    intro j hj x hr E g0 g3 g4
    have hk' : (j : Int) < ((w.length : Nat) : Int) := by omega
    have hk2 : j < w.length := by omega
    obtain ⟨y, hxe⟩ : ∃ x, w.getD j 0 = x := ⟨_, rfl⟩
    have hd : w.drop j = w.getD j 0 :: w.drop (j + 1) := by rw [List.drop_eq_getElem_cons hk2]; simp [hk2]
    rw [hd, hxe] at hr
    simp only [List.foldl_cons] at hr
    have hmx : (if x < y then y else x) = mxF x y := rfl
    simp only [loopIt, todoPast, todoAt, todoOf, firstReg, ↓reduceIte, Option.some.injEq, Nat.reduceEqDiff, reduceCtorEq, Try.f76]
    rw [execL_inLoop]
    simp (maxSteps := 1000000) (implicitDefEqProofs := false) (disch := first | rfl | omega | assumption) only [go_sem, g0, g3, g4, ltT, ltF, leT, leF, hk', a1, a2, a3, a4, hxe, hmx]
    exact ih (j + 1) (by omega) _ hr _ (by exact g0) (by rfl) (by rfl)

theorem pl_max (w : List Int) (hw : w.length = 5) : callFL cfg0 prog0 false 76 [.sl false (w.map I)] H none = some ⟨.ret (I (maxL w)), H, none⟩ := by
  obtain ⟨a1, a2, a3, a4⟩ := (slI (H := H) false w).fI
  have e : maxL w = (w.drop 1).foldl mxF (w.getD 0 0) := by
    cases w with
    | nil => cases hw
    | cons x r => rfl
  have key := mx_loop (H := H) w (by omega) .undef (maxL w) 4 1 (by omega) (w.getD 0 0) e.symm
  have hr : (w.length : Int) = 5 := by omega
  have a1' := fun te hs => a2 te 0 hs (by omega)
  have a3' := fun te => a4 te 0 (by omega)
  rw [show ((0 : Int)).toNat = 0 from rfl] at a3'
  refine (callFL_eq fn76 rfl (by simp [Try.f76])).trans ?_
  simp (maxSteps := 1000000) (implicitDefEqProofs := false) (disch := first | rfl | omega | assumption) only [go_sem, ltT, ltF, leT, leF, a1', a3', hr]
  exact key _ (by rfl) (by rfl) (by rfl)

theorem pl_widest (w : List Int) (hw : w.length = 5) : callFL cfg0 prog0 false 56 [.agg (w.map I)] H none = some ⟨.ret (I (maxL w)), H, none⟩ := by
  have w2 := wlen hw
  have w3 := wtake hw
  have hmx := fun G : Heap => pl_max (H := G) w hw
  refine (callFL_eq fn56 rfl (by simp [Try.f56])).trans ?_
  simp (maxSteps := 1000000) (implicitDefEqProofs := false) (disch := first | rfl | omega | assumption) only [go_sem, ltT, ltF, leT, leF, w2, w3, alI, ltI, sealI, hmx]
  done

end Go.Ab
