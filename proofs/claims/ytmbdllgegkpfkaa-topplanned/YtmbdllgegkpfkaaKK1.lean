/-
  Plain part of TopPlanned.
-/
import Derived.Test.YtmbdllgegkpfkaaKK0
namespace Go.Ab
open Go.Proofs
set_option linter.unusedSimpArgs false
set_option linter.unusedVariables false
set_option maxRecDepth 100000
set_option maxHeartbeats 2000000

variable {H : Heap}

def tg (t : List Int) (a b : Nat) : Int := t.getD (6 * a + b) 0
def ts (t : List Int) (a b : Nat) (v : Int) : List Int := t.set (6 * a + b) v
def mnI (x y : Int) : Int := if y < x then y else x
def lstT (one other : Nat) (most : Int) (t : List Int) : List Int := ts t one other (mnI (tg t one other) most)
def rlx (by_ a b : Nat) (t : List Int) : List Int := ts t a b (mnI (tg t a b) (tg t a by_ + tg t by_ b))
def clB (by_ a : Nat) : Nat → Nat → List Int → List Int
  | _, 0, t => t
  | j, q + 1, t => clB by_ a (j + 1) q (rlx by_ a j t)
def clA (by_ : Nat) : Nat → Nat → List Int → List Int
  | _, 0, t => t
  | j, q + 1, t => clA by_ (j + 1) q (clB by_ j 0 6 t)
def clT : Nat → Nat → List Int → List Int
  | _, 0, t => t
  | j, q + 1, t => clT (j + 1) q (clA j 0 6 t)
def closeT (t : List Int) : List Int := clT 0 6 t

/-- The same, as the program reckons. -/
def rlxW (by_ a b : Nat) (t : List Int) : List Int := ts t a b (mnI (tg t a b) (IntKind.i64.wrap (tg t a by_ + tg t by_ b)))
def clBW (by_ a : Nat) : Nat → Nat → List Int → List Int
  | _, 0, t => t
  | j, q + 1, t => clBW by_ a (j + 1) q (rlxW by_ a j t)
def clAW (by_ : Nat) : Nat → Nat → List Int → List Int
  | _, 0, t => t
  | j, q + 1, t => clAW by_ (j + 1) q (clBW by_ j 0 6 t)
def clTW : Nat → Nat → List Int → List Int
  | _, 0, t => t
  | j, q + 1, t => clTW (j + 1) q (clAW j 0 6 t)
def closeW (t : List Int) : List Int := clTW 0 6 t

theorem rlxW_eq {i a b : Nat} {t : List Int} (h1 : -2000000000000 ≤ tg t a i ∧ tg t a i ≤ 2000000000000) (h2 : -2000000000000 ≤ tg t i b ∧ tg t i b ≤ 2000000000000) : rlxW i a b t = rlx i a b t := by
  simp only [rlxW, rlx]
  rw [w64 (by omega) (by omega)]

theorem mnI_le (x y : Int) : mnI x y ≤ x ∧ mnI x y ≤ y ∧ (mnI x y = x ∨ mnI x y = y) := by simp only [mnI]; split <;> omega

theorem ts_len (t : List Int) (a b : Nat) (v : Int) : (ts t a b v).length = t.length := by simp [ts]

theorem tg_ts {t : List Int} (hl : t.length = 36) {a b a' b' : Nat} (ha : a < 6) (hb : b < 6) (ha' : a' < 6) (hb' : b' < 6) (v : Int) : tg (ts t a b v) a' b' = if a = a' ∧ b = b' then v else tg t a' b' := by
  simp only [tg, ts, List.getD_eq_getElem?_getD]
  by_cases h : a = a' ∧ b = b'
  · obtain ⟨rfl, rfl⟩ := h
    rw [List.getElem?_set_self (by omega)]
    simp
  · rw [List.getElem?_set_ne (by omega), if_neg h]

/-! ### One table is no greater than another one -/

structure TLe (t t' : List Int) : Prop where
  l1 : t.length = 36
  l2 : t'.length = 36
  le : ∀ a b, a < 6 → b < 6 → tg t a b ≤ tg t' a b

theorem TLe.lst {t t' : List Int} (h : TLe t t') {one other : Nat} (h1 : one < 6) (h2 : other < 6) {m m' : Int} (hm : m ≤ m') : TLe (lstT one other m t) (lstT one other m' t') := by
  refine ⟨by simp only [lstT, ts_len, h.l1], by simp only [lstT, ts_len, h.l2], fun a b ha hb => ?_⟩
  have k := h.le a b ha hb
  have k2 := h.le one other h1 h2
  simp only [lstT]
  rw [tg_ts h.l1 h1 h2 ha hb, tg_ts h.l2 h1 h2 ha hb]
  split
  · simp only [mnI]; split <;> split <;> omega
  · exact k

/-- A bound more makes it no greater. -/
theorem TLe.lst1 {t t' : List Int} (h : TLe t t') {one other : Nat} (h1 : one < 6) (h2 : other < 6) (m : Int) : TLe (lstT one other m t) t' := by
  refine ⟨by simp only [lstT, ts_len, h.l1], h.l2, fun a b ha hb => ?_⟩
  have k := h.le a b ha hb
  simp only [lstT]
  rw [tg_ts h.l1 h1 h2 ha hb]
  split
  · rename_i e
    obtain ⟨rfl, rfl⟩ := e
    have := (mnI_le (tg t one other) m).1
    omega
  · exact k

theorem TLe.rlx {t t' : List Int} (h : TLe t t') {i a b : Nat} (hi : i < 6) (ha : a < 6) (hb : b < 6) : TLe (rlx i a b t) (rlx i a b t') := by
  refine ⟨by simp only [Go.Ab.rlx, ts_len, h.l1], by simp only [Go.Ab.rlx, ts_len, h.l2], fun a' b' ha' hb' => ?_⟩
  have k := h.le a' b' ha' hb'
  have k1 := h.le a b ha hb
  have k2 := h.le a i ha hi
  have k3 := h.le i b hi hb
  simp only [Go.Ab.rlx]
  rw [tg_ts h.l1 ha hb ha' hb', tg_ts h.l2 ha hb ha' hb']
  split
  · simp only [mnI]; split <;> split <;> omega
  · exact k

theorem TLe.clB {i a : Nat} (hi : i < 6) (ha : a < 6) : ∀ (q j : Nat) {t t' : List Int}, j + q ≤ 6 → TLe t t' → TLe (clB i a j q t) (clB i a j q t')
  | 0, j, t, t', _, h => h
  | q + 1, j, t, t', hj, h => TLe.clB hi ha q (j + 1) (by omega) (h.rlx hi ha (by omega))

theorem TLe.clA {i : Nat} (hi : i < 6) : ∀ (q j : Nat) {t t' : List Int}, j + q ≤ 6 → TLe t t' → TLe (clA i j q t) (clA i j q t')
  | 0, j, t, t', _, h => h
  | q + 1, j, t, t', hj, h => TLe.clA hi q (j + 1) (by omega) (TLe.clB hi (by omega) 6 0 (by omega) h)

theorem TLe.clT : ∀ (q j : Nat) {t t' : List Int}, j + q ≤ 6 → TLe t t' → TLe (clT j q t) (clT j q t')
  | 0, j, t, t', _, h => h
  | q + 1, j, t, t', hj, h => TLe.clT q (j + 1) (by omega) (TLe.clA (by omega) 6 0 (by omega) h)

theorem TLe.close {t t' : List Int} (h : TLe t t') : TLe (closeT t) (closeT t') := TLe.clT 6 0 (by omega) h

/-! ### A truth is within a table -/

structure TSd (x : Nat → Int) (t : List Int) : Prop where
  l : t.length = 36
  le : ∀ a b, a < 6 → b < 6 → x a - x b ≤ tg t a b

theorem TSd.lst {x : Nat → Int} {t : List Int} (h : TSd x t) {one other : Nat} (h1 : one < 6) (h2 : other < 6) {m : Int} (hm : x one - x other ≤ m) : TSd x (lstT one other m t) := by
  refine ⟨by simp only [lstT, ts_len, h.l], fun a b ha hb => ?_⟩
  have k := h.le a b ha hb
  have k2 := h.le one other h1 h2
  simp only [lstT]
  rw [tg_ts h.l h1 h2 ha hb]
  split
  · rename_i e
    obtain ⟨rfl, rfl⟩ := e
    rcases (mnI_le (tg t one other) m).2.2 with e | e <;> rw [e] <;> omega
  · exact k

theorem TSd.rlx {x : Nat → Int} {t : List Int} (h : TSd x t) {i a b : Nat} (hi : i < 6) (ha : a < 6) (hb : b < 6) : TSd x (rlx i a b t) := by
  refine ⟨by simp only [Go.Ab.rlx, ts_len, h.l], fun a' b' ha' hb' => ?_⟩
  have k := h.le a' b' ha' hb'
  have k1 := h.le a b ha hb
  have k2 := h.le a i ha hi
  have k3 := h.le i b hi hb
  simp only [Go.Ab.rlx]
  rw [tg_ts h.l ha hb ha' hb']
  split
  · rename_i e
    obtain ⟨rfl, rfl⟩ := e
    rcases (mnI_le (tg t a b) (tg t a i + tg t i b)).2.2 with e | e <;> rw [e] <;> omega
  · exact k

theorem TSd.clB {x : Nat → Int} {i a : Nat} (hi : i < 6) (ha : a < 6) : ∀ (q j : Nat) {t : List Int}, j + q ≤ 6 → TSd x t → TSd x (clB i a j q t)
  | 0, j, t, _, h => h
  | q + 1, j, t, hj, h => TSd.clB hi ha q (j + 1) (by omega) (h.rlx hi ha (by omega))

theorem TSd.clA {x : Nat → Int} {i : Nat} (hi : i < 6) : ∀ (q j : Nat) {t : List Int}, j + q ≤ 6 → TSd x t → TSd x (clA i j q t)
  | 0, j, t, _, h => h
  | q + 1, j, t, hj, h => TSd.clA hi q (j + 1) (by omega) (TSd.clB hi (by omega) 6 0 (by omega) h)

theorem TSd.clT {x : Nat → Int} : ∀ (q j : Nat) {t : List Int}, j + q ≤ 6 → TSd x t → TSd x (clT j q t)
  | 0, j, t, _, h => h
  | q + 1, j, t, hj, h => TSd.clT q (j + 1) (by omega) (TSd.clA (by omega) 6 0 (by omega) h)

theorem TSd.close {x : Nat → Int} {t : List Int} (h : TSd x t) : TSd x (closeT t) := TSd.clT 6 0 (by omega) h

/-! ### Numbers stay small -/

/-- Row a is from -m to M. -/
def RowB (M m : Int) (a : Nat) (t : List Int) : Prop := ∀ b, b < 6 → -m ≤ tg t a b ∧ tg t a b ≤ M

theorem rlx_row {i a b : Nat} {t : List Int} (hl : t.length = 36) (hi : i < 6) (ha : a < 6) (hb : b < 6) {c : Nat} (hc : c < 6) (hca : c ≠ a) (d : Nat) (hd : d < 6) : tg (rlx i a b t) c d = tg t c d := by
  simp only [rlx]
  rw [tg_ts hl ha hb hc hd, if_neg (fun h => hca h.1.symm)]

/-- A row that is not the one gone by: what it is made of. -/
theorem clB_other {i a : Nat} (hi : i < 6) (ha : a < 6) (hne : a ≠ i) {M A B : Int} (hA : 0 ≤ A) (hB : 0 ≤ B) (hM : M ≤ 2000000000000) (hAB : A + 2 * B ≤ 2000000000000) : ∀ (q j : Nat) (t : List Int), j + q = 6 → t.length = 36 → RowB M B i t → (∀ b, j ≤ b → b < 6 → -A ≤ tg t a b ∧ tg t a b ≤ M) → (∀ b, b < 6 → -(A + 2 * B) ≤ tg t a b ∧ tg t a b ≤ M) → -(A + B) ≤ tg t a i →
    (clB i a j q t).length = 36 ∧ RowB M (A + 2 * B) a (clB i a j q t) ∧ (∀ c, c < 6 → c ≠ a → ∀ d, d < 6 → tg (clB i a j q t) c d = tg t c d) ∧ clBW i a j q t = clB i a j q t
  | 0, j, t, hj, hl, hr, h1, h2, h3 => ⟨hl, fun b hb => h2 b hb, fun _ _ _ _ _ => rfl, rfl⟩
  | q + 1, j, t, hj, hl, hr, h1, h2, h3 => by
    have hjb : j < 6 := by omega
    have hl' : (rlx i a j t).length = 36 := by simp only [rlx, ts_len, hl]
    have hget : ∀ b, b < 6 → tg (rlx i a j t) a b = if j = b then mnI (tg t a j) (tg t a i + tg t i j) else tg t a b := by
      intro b hb
      simp only [rlx]
      rw [tg_ts hl ha hjb ha hb]
      simp only [true_and]
    have hij := hr j hjb
    have haj := h1 j (by omega) hjb
    have hm := mnI_le (tg t a j) (tg t a i + tg t i j)
    have k := clB_other hi ha hne hA hB hM hAB q (j + 1) (rlx i a j t) (by omega) hl'
      (fun b hb => by rw [rlx_row hl hi ha hjb hi (fun e => hne e.symm) b hb]; exact hr b hb)
      (fun b hb1 hb2 => by rw [hget b hb2, if_neg (by omega)]; exact h1 b (by omega) hb2)
      (fun b hb => by
        rw [hget b hb]
        split
        · omega
        · exact h2 b hb)
      (by
        rw [hget i hi]
        split
        · rename_i e
          subst e
          omega
        · exact h3)
    have hai := h2 i hi
    have hrw := rlxW_eq (i := i) (a := a) (b := j) (t := t) (by omega) (by omega)
    refine ⟨k.1, k.2.1, fun c hc hca d hd => ?_, ?_⟩
    · show tg (clB i a (j + 1) q (rlx i a j t)) c d = _
      rw [k.2.2.1 c hc hca d hd, rlx_row hl hi ha hjb hc hca d hd]
    · show clBW i a (j + 1) q (rlxW i a j t) = clB i a (j + 1) q (rlx i a j t)
      rw [hrw]
      exact k.2.2.2

/-- The row gone by itself. -/
theorem clB_self {i : Nat} (hi : i < 6) {M A : Int} (hA : 0 ≤ A) (hM : M ≤ 2000000000000) (hA3 : 3 * A ≤ 2000000000000) : ∀ (q j : Nat) (t : List Int), j + q = 6 → t.length = 36 → (∀ b, j ≤ b → b < 6 → -A ≤ tg t i b ∧ tg t i b ≤ M) → (∀ b, b < 6 → -(3 * A) ≤ tg t i b ∧ tg t i b ≤ M) → -(2 * A) ≤ tg t i i →
    (clB i i j q t).length = 36 ∧ RowB M (3 * A) i (clB i i j q t) ∧ (∀ c, c < 6 → c ≠ i → ∀ d, d < 6 → tg (clB i i j q t) c d = tg t c d) ∧ clBW i i j q t = clB i i j q t
  | 0, j, t, hj, hl, h1, h2, h3 => ⟨hl, fun b hb => h2 b hb, fun _ _ _ _ _ => rfl, rfl⟩
  | q + 1, j, t, hj, hl, h1, h2, h3 => by
    have hjb : j < 6 := by omega
    have hl' : (rlx i i j t).length = 36 := by simp only [rlx, ts_len, hl]
    have hget : ∀ b, b < 6 → tg (rlx i i j t) i b = if j = b then mnI (tg t i j) (tg t i i + tg t i j) else tg t i b := by
      intro b hb
      simp only [rlx]
      rw [tg_ts hl hi hjb hi hb]
      simp only [true_and]
    have haj := h1 j (by omega) hjb
    have hm := mnI_le (tg t i j) (tg t i i + tg t i j)
    have k := clB_self hi hA hM hA3 q (j + 1) (rlx i i j t) (by omega) hl'
      (fun b hb1 hb2 => by rw [hget b hb2, if_neg (by omega)]; exact h1 b (by omega) hb2)
      (fun b hb => by
        rw [hget b hb]
        split
        · omega
        · exact h2 b hb)
      (by
        rw [hget i hi]
        split
        · rename_i e
          subst e
          omega
        · exact h3)
    have hai := h2 i hi
    have hrw := rlxW_eq (i := i) (a := i) (b := j) (t := t) (by omega) (by omega)
    refine ⟨k.1, k.2.1, fun c hc hca d hd => ?_, ?_⟩
    · show tg (clB i i (j + 1) q (rlx i i j t)) c d = _
      rw [k.2.2.1 c hc hca d hd, rlx_row hl hi hi hjb hc hca d hd]
    · show clBW i i (j + 1) q (rlxW i i j t) = clB i i (j + 1) q (rlx i i j t)
      rw [hrw]
      exact k.2.2.2

/-- All numbers are from -m to M. -/
structure TBd (M m : Int) (t : List Int) : Prop where
  l : t.length = 36
  bd : ∀ a, a < 6 → RowB M m a t

theorem clA_bd {i : Nat} (hi : i < 6) {M m : Int} (hm : 0 ≤ m) (hM : M ≤ 2000000000000) (hm7 : 7 * m ≤ 2000000000000) : ∀ (q j : Nat) (t : List Int), j + q = 6 → t.length = 36 → (∀ a, a < 6 → RowB M (7 * m) a t) → RowB M (3 * m) i t → (∀ a, j ≤ a → a < 6 → RowB M m a t) → TBd M (7 * m) (clA i j q t) ∧ clAW i j q t = clA i j q t
  | 0, j, t, hj, hl, h1, h2, h3 => ⟨⟨hl, h1⟩, rfl⟩
  | q + 1, j, t, hj, hl, h1, h2, h3 => by
    have hjb : j < 6 := by omega
    have hrj := h3 j (by omega) hjb
    by_cases e : j = i
    · subst e
      obtain ⟨k1, k2, k3, k4⟩ := clB_self (i := j) hi hm hM (by omega) 6 0 t (by omega) hl (fun b _ hb => hrj b hb) (fun b hb => by have := hrj b hb; omega) (by have := hrj j hi; omega)
      have key := clA_bd hi hm hM hm7 q (j + 1) _ (by omega) k1 (fun a ha => ?_) k2 (fun a ha1 ha2 => ?_)
      · refine ⟨key.1, ?_⟩
        show clAW j (j + 1) q (clBW j j 0 6 t) = clA j (j + 1) q (clB j j 0 6 t)
        rw [k4]; exact key.2
      · by_cases e : a = j
        · subst e
          intro b hb
          have := k2 b hb
          omega
        · intro b hb
          rw [k3 a ha e b hb]
          exact h1 a ha b hb
      · intro b hb
        rw [k3 a ha2 (by omega) b hb]
        exact h3 a (by omega) ha2 b hb
    · obtain ⟨k1, k2, k3, k4⟩ := clB_other (i := i) hi hjb e (M := M) hm (B := 3 * m) (by omega) hM (by omega) 6 0 t (by omega) hl h2 (fun b _ hb => hrj b hb) (fun b hb => by have := hrj b hb; omega) (by have := hrj i hi; omega)
      have key := clA_bd hi hm hM hm7 q (j + 1) _ (by omega) k1 (fun a ha => ?_) (fun b hb => by rw [k3 i hi (fun h => e h.symm) b hb]; exact h2 b hb) (fun a ha1 ha2 => ?_)
      · refine ⟨key.1, ?_⟩
        show clAW i (j + 1) q (clBW i j 0 6 t) = clA i (j + 1) q (clB i j 0 6 t)
        rw [k4]; exact key.2
      · by_cases e2 : a = j
        · subst e2
          intro b hb
          have := k2 b hb
          omega
        · intro b hb
          rw [k3 a ha e2 b hb]
          exact h1 a ha b hb
      · intro b hb
        rw [k3 a ha2 (by omega) b hb]
        exact h3 a (by omega) ha2 b hb

theorem TBd.cl {i : Nat} (hi : i < 6) {M m : Int} (hm : 0 ≤ m) (hM : M ≤ 2000000000000) (hm7 : 7 * m ≤ 2000000000000) {t : List Int} (h : TBd M m t) : TBd M (7 * m) (clA i 0 6 t) ∧ clAW i 0 6 t = clA i 0 6 t :=
  clA_bd hi hm hM hm7 6 0 t (by omega) h.l (fun a ha b hb => by have := h.bd a ha b hb; omega) (fun b hb => by have := h.bd i hi b hb; omega) (fun a _ ha => h.bd a ha)

theorem clTW_eq {M : Int} (hM : M ≤ 2000000000000) : ∀ (q j : Nat) (m : Int) (t : List Int), j + q ≤ 6 → 0 ≤ m → 7 ^ q * m ≤ 2000000000000 → TBd M m t → clTW j q t = clT j q t ∧ TBd M (7 ^ q * m) (clT j q t)
  | 0, j, m, t, _, _, _, h => ⟨rfl, by rw [Int.pow_zero, Int.one_mul]; exact h⟩
  | q + 1, j, m, t, hj, hm, hq, h => by
    have h7 : (1 : Int) ≤ 7 ^ q := by
      have : (0 : Int) < 7 ^ q := Int.pow_pos (by decide)
      omega
    have e : (7 : Int) ^ (q + 1) * m = 7 ^ q * (7 * m) := by rw [Int.pow_succ, Int.mul_assoc]
    have hle : 7 * m ≤ 7 ^ q * (7 * m) := by
      have := Int.mul_le_mul_of_nonneg_right h7 (show 0 ≤ 7 * m by omega)
      omega
    obtain ⟨k1, k2⟩ := h.cl (i := j) (by omega) hm hM (by omega)
    obtain ⟨r1, r2⟩ := clTW_eq hM q (j + 1) (7 * m) (clA j 0 6 t) (by omega) (by omega) (by omega) k1
    refine ⟨?_, by rw [e]; exact r2⟩
    show clTW (j + 1) q (clAW j 0 6 t) = clT (j + 1) q (clA j 0 6 t)
    rw [k2]
    exact r1

theorem closeW_eq {M m : Int} {t : List Int} (hM : M ≤ 2000000000000) (hm : 0 ≤ m ∧ m ≤ 10000000) (h : TBd M m t) : closeW t = closeT t ∧ TBd M 2000000000000 (closeT t) := by
  obtain ⟨k1, k2⟩ := clTW_eq hM 6 0 m t (by omega) hm.1 (by have : (7 : Int) ^ 6 = 117649 := by decide
                                                            rw [this]; omega) h
  refine ⟨k1, k2.l, fun a ha b hb => ?_⟩
  have := k2.bd a ha b hb
  have e : (7 : Int) ^ 6 = 117649 := by decide
  rw [e] at this
  have e2 : tg (closeT t) a b = tg (clT 0 6 t) a b := by rw [closeT]
  omega

end Go.Ab
/-
  Plain part of TopPlanned.
-/
namespace Go.Ab
open Go.Proofs
set_option linter.unusedSimpArgs false
set_option linter.unusedVariables false
set_option maxRecDepth 100000
set_option maxHeartbeats 2000000

variable {H : Heap}


/-! ### A pair: what is known of its blocks -/

/-- A reading. -/
structure Pt where
  a : Int
  b : Int
  m : Int
  lo : Int
  hi : Int

def pt0 : Pt := ⟨0, 0, 0, 0, 0⟩

/-- A pair. -/
structure Pr where
  bs : List (Int × Int)
  zlo : Int
  zhi : Int
  rlo : Int
  rhi : Int
  rs : List Pt

/-- What is shown of equal blocks. -/
def shw (z r m : Int) : Int := z + r * m / 10

def putK (one other : Nat) (lo hi : Int) (t : List Int) : List Int := lstT other one (-lo) (lstT one other hi t)
def putR (z r : Int) (x : Pt) (t : List Int) : List Int := putK x.a.toNat x.b.toNat (x.lo - shw z r x.m) (x.hi - shw z r x.m) t
def putRs (z r : Int) (l : List Pt) (t : List Int) : List Int := l.foldl (fun t x => putR z r x t) t
def putBs : Nat → List (Int × Int) → List Int → List Int
  | _, [], t => t
  | j, s :: l, t => putBs (j + 1) l (putK j 5 s.1 s.2 t)
def tab0 : List Int := (List.range 36).map fun k => if k / 6 = k % 6 then 0 else 1048576
def tabL (bs : List (Int × Int)) (l : List Pt) (z r : Int) : List Int := closeT (putRs z r l (putBs 0 bs tab0))
def fitT (t : List Int) : Bool := (List.range 6).all fun a => decide (0 ≤ tg t a a)

theorem fit_iff {t : List Int} : fitT t = true ↔ ∀ a, a < 6 → 0 ≤ tg t a a := by simp [fitT]

/-- Readings of blocks that there are. -/
def InB (l : List Pt) : Prop := ∀ x ∈ l, x.a.toNat < 5 ∧ x.b.toNat < 5

theorem TLe.refl {t : List Int} (h : t.length = 36) : TLe t t := ⟨h, h, fun _ _ _ _ => Int.le_refl _⟩

theorem putK_len (one other : Nat) (lo hi : Int) (t : List Int) : (putK one other lo hi t).length = t.length := by simp only [putK, lstT, ts_len]

theorem TLe.kp {t t' : List Int} (h : TLe t t') {one other : Nat} (h1 : one < 6) (h2 : other < 6) (lo hi : Int) : TLe (putK one other lo hi t) (putK one other lo hi t') := (h.lst h1 h2 (Int.le_refl _)).lst h2 h1 (Int.le_refl _)
theorem TLe.kp1 {t t' : List Int} (h : TLe t t') {one other : Nat} (h1 : one < 6) (h2 : other < 6) (lo hi : Int) : TLe (putK one other lo hi t) t' := (h.lst1 h1 h2 _).lst1 h2 h1 _

/-- Fewer readings: a greater table. -/
theorem putRs_sub {z r : Int} {l l' : List Pt} (hs : l.Sublist l') (hb : InB l') {t t' : List Int} (h : TLe t' t) : TLe (putRs z r l' t') (putRs z r l t) := by
  induction hs generalizing t t' with
  | slnil => exact h
  | @cons l1 l2 x hs ih =>
    have hx := hb x List.mem_cons_self
    exact ih (fun y hy => hb y (List.mem_cons_of_mem _ hy)) (h.kp1 (show x.a.toNat < 6 by omega) (show x.b.toNat < 6 by omega) _ _)
  | @cons_cons l1 l2 x hs ih =>
    have hx := hb x List.mem_cons_self
    exact ih (fun y hy => hb y (List.mem_cons_of_mem _ hy)) (h.kp (show x.a.toNat < 6 by omega) (show x.b.toNat < 6 by omega) _ _)

theorem putBs_len : ∀ (l : List (Int × Int)) (j : Nat) (t : List Int), (putBs j l t).length = t.length
  | [], _, _ => rfl
  | s :: l, j, t => by rw [putBs, putBs_len l, putK_len]

theorem tab0_len : tab0.length = 36 := by simp [tab0]

theorem tab_sub {bs : List (Int × Int)} {z r : Int} {l l' : List Pt} (hs : l.Sublist l') (hb : InB l') : TLe (tabL bs l' z r) (tabL bs l z r) :=
  (putRs_sub hs hb (TLe.refl (by rw [putBs_len, tab0_len]))).close

theorem fit_sub {t t' : List Int} (h : TLe t t') (hf : fitT t = true) : fitT t' = true := fit_iff.2 fun a ha => Int.le_trans (fit_iff.1 hf a ha) (h.le a a ha ha)

/-- A truth: the blocks, the mark is 0. -/
def xOf (xs : List Int) (i : Nat) : Int := if i < 5 then xs.getD i 0 else 0

theorem TSd.kp {x : Nat → Int} {t : List Int} (h : TSd x t) {one other : Nat} (h1 : one < 6) (h2 : other < 6) {lo hi : Int} (hl : lo ≤ x one - x other) (hh : x one - x other ≤ hi) : TSd x (putK one other lo hi t) := (h.lst h1 h2 hh).lst h2 h1 (by omega)

theorem TSd.krs {x : Nat → Int} {z r : Int} : ∀ (l : List Pt) {t : List Int}, InB l → (∀ p ∈ l, p.lo ≤ x p.a.toNat - x p.b.toNat + shw z r p.m ∧ x p.a.toNat - x p.b.toNat + shw z r p.m ≤ p.hi) → TSd x t → TSd x (putRs z r l t)
  | [], t, _, _, h => h
  | p :: l, t, hb, hr, h => by
    have k1 := hb p List.mem_cons_self
    have k2 := hr p List.mem_cons_self
    exact TSd.krs l (fun y hy => hb y (List.mem_cons_of_mem _ hy)) (fun y hy => hr y (List.mem_cons_of_mem _ hy)) (h.kp (by omega) (by omega) (by omega) (by omega))

theorem TSd.kbs {x : Nat → Int} (h5 : x 5 = 0) : ∀ (l : List (Int × Int)) (j : Nat) {t : List Int}, j + l.length ≤ 5 → (∀ i, i < l.length → (l.getD i (0, 0)).1 ≤ x (j + i) ∧ x (j + i) ≤ (l.getD i (0, 0)).2) → TSd x t → TSd x (putBs j l t)
  | [], j, t, _, _, h => h
  | s :: l, j, t, hj, hr, h => by
    have k := hr 0 (by simp)
    simp only [List.getD_cons_zero, Nat.add_zero] at k
    simp only [List.length_cons] at hj
    exact TSd.kbs h5 l (j + 1) (by omega) (fun i hi => by
      have := hr (i + 1) (by simp only [List.length_cons]; omega)
      simp only [List.getD_cons_succ] at this
      rw [show j + 1 + i = j + (i + 1) by omega]
      exact this) (h.kp (by omega) (by omega) (by rw [h5]; omega) (by rw [h5]; omega))

theorem tab0_at {a b : Nat} (ha : a < 6) (hb : b < 6) : tg tab0 a b = if a = b then 0 else 1048576 := by
  have hk : 6 * a + b < 36 := by omega
  have e1 : (6 * a + b) / 6 = a := by omega
  have e2 : (6 * a + b) % 6 = b := by omega
  simp only [tg, tab0, List.getD_eq_getElem?_getD, List.getElem?_map, List.getElem?_range hk, Option.map_some, Option.getD_some, e1, e2]

theorem tab_sound {bs : List (Int × Int)} {l : List Pt} {z r : Int} {x : Nat → Int} (h5 : x 5 = 0) (hx : ∀ i, i < 6 → -1000 ≤ x i ∧ x i ≤ 1000) (hbl : bs.length ≤ 5) (hbs : ∀ i, i < bs.length → (bs.getD i (0, 0)).1 ≤ x i ∧ x i ≤ (bs.getD i (0, 0)).2) (hb : InB l) (hr : ∀ p ∈ l, p.lo ≤ x p.a.toNat - x p.b.toNat + shw z r p.m ∧ x p.a.toNat - x p.b.toNat + shw z r p.m ≤ p.hi) : TSd x (tabL bs l z r) := by
  have h0 : TSd x tab0 := ⟨tab0_len, fun a b ha hb => by
    rw [tab0_at ha hb]
    have k1 := hx a ha
    have k2 := hx b hb
    split
    · rename_i e; subst e; omega
    · omega⟩
  refine TSd.close (TSd.krs l hb hr (TSd.kbs h5 bs 0 (by omega) (fun i hi => ?_) h0))
  rw [Nat.zero_add]
  exact hbs i hi

theorem sound_fit {x : Nat → Int} {t : List Int} (h : TSd x t) : fitT t = true := fit_iff.2 fun a ha => by have := h.le a a ha ha; omega

/-! ### All comparators -/

def upI (a b : Int) : List Int := (List.range (b + 1 - a).toNat).map fun i => a + ((i : Nat) : Int)
theorem mem_upI {a b x : Int} : x ∈ upI a b ↔ a ≤ x ∧ x ≤ b := by
  simp only [upI, List.mem_map, List.mem_range]
  constructor
  · rintro ⟨i, h, rfl⟩; omega
  · intro h; exact ⟨(x - a).toNat, by omega, by omega⟩

def combs (p : Pr) : List (Int × Int) := (upI p.zlo p.zhi).flatMap fun z => (upI p.rlo p.rhi).map fun r => (z, r)
theorem mem_combs {p : Pr} {c : Int × Int} : c ∈ combs p ↔ (p.zlo ≤ c.1 ∧ c.1 ≤ p.zhi) ∧ (p.rlo ≤ c.2 ∧ c.2 ≤ p.rhi) := by
  obtain ⟨z, r⟩ := c
  simp only [combs, List.mem_flatMap, List.mem_map, mem_upI, Prod.mk.injEq]
  constructor
  · rintro ⟨z', h1, r', h2, rfl, rfl⟩; exact ⟨h1, h2⟩
  · rintro ⟨h1, h2⟩; exact ⟨z, h1, r, h2, rfl, rfl⟩

/-- The comparators that can be, with their tables. -/
def toldL (p : Pr) (l : List Pt) : List ((Int × Int) × List Int) := ((combs p).map fun c => (c, tabL p.bs l c.1 c.2)).filter fun x => fitT x.2

def hullS (s : Option (Int × Int)) (x : Int × Int) : Option (Int × Int) := match s with
  | none => some x
  | some s => some (if x.1 < s.1 then x.1 else s.1, if s.2 < x.2 then x.2 else s.2)
/-- The least span that has all. -/
def hullL (l : List (Int × Int)) : Option (Int × Int) := l.foldl hullS none

theorem hull_fold : ∀ (l : List (Int × Int)) (s : Int × Int), ∃ a b, l.foldl hullS (some s) = some (a, b) ∧ (a = s.1 ∨ ∃ x ∈ l, a = x.1) ∧ (b = s.2 ∨ ∃ x ∈ l, b = x.2) ∧ a ≤ s.1 ∧ s.2 ≤ b ∧ ∀ x ∈ l, a ≤ x.1 ∧ x.2 ≤ b
  | [], s => ⟨s.1, s.2, rfl, Or.inl rfl, Or.inl rfl, Int.le_refl _, Int.le_refl _, fun x hx => by cases hx⟩
  | y :: r, s => by
    obtain ⟨a, b, h1, h2, h3, h4, h5, h6⟩ := hull_fold r (if y.1 < s.1 then y.1 else s.1, if s.2 < y.2 then y.2 else s.2)
    simp only at h2 h3 h4 h5
    refine ⟨a, b, h1, ?_, ?_, ?_, ?_, fun x hx => ?_⟩
    · rcases h2 with h2 | ⟨x, hx, e⟩
      · split at h2
        · exact Or.inr ⟨y, List.mem_cons_self, h2⟩
        · exact Or.inl h2
      · exact Or.inr ⟨x, List.mem_cons_of_mem _ hx, e⟩
    · rcases h3 with h3 | ⟨x, hx, e⟩
      · split at h3
        · exact Or.inr ⟨y, List.mem_cons_self, h3⟩
        · exact Or.inl h3
      · exact Or.inr ⟨x, List.mem_cons_of_mem _ hx, e⟩
    · split at h4 <;> omega
    · split at h5 <;> omega
    · rcases List.mem_cons.1 hx with rfl | hx
      · constructor
        · split at h4 <;> omega
        · split at h5 <;> omega
      · exact h6 x hx

theorem hull_is {l : List (Int × Int)} (h : l ≠ []) : ∃ a b, hullL l = some (a, b) ∧ (∃ x ∈ l, a = x.1) ∧ (∃ x ∈ l, b = x.2) ∧ ∀ x ∈ l, a ≤ x.1 ∧ x.2 ≤ b := by
  cases l with
  | nil => exact absurd rfl h
  | cons y r =>
    obtain ⟨a, b, h1, h2, h3, h4, h5, h6⟩ := hull_fold r y
    refine ⟨a, b, h1, ?_, ?_, fun x hx => ?_⟩
    · rcases h2 with h2 | ⟨x, hx, e⟩
      · exact ⟨y, List.mem_cons_self, h2⟩
      · exact ⟨x, List.mem_cons_of_mem _ hx, e⟩
    · rcases h3 with h3 | ⟨x, hx, e⟩
      · exact ⟨y, List.mem_cons_self, h3⟩
      · exact ⟨x, List.mem_cons_of_mem _ hx, e⟩
    · rcases List.mem_cons.1 hx with rfl | hx
      · exact ⟨h4, h5⟩
      · exact h6 x hx

/-- In any order the hull is the same. -/
theorem hull_perm {l l' : List (Int × Int)} (h : l.Perm l') : hullL l = hullL l' := by
  by_cases e : l = []
  · subst e; rw [List.nil_perm.1 h]
  · have e' : l' ≠ [] := fun h' => by subst h'; exact e (List.perm_nil.1 h)
    obtain ⟨a, b, h1, ⟨x, x1, x2⟩, ⟨y, y1, y2⟩, h4⟩ := hull_is e
    obtain ⟨a', b', h1', ⟨x', x1', x2'⟩, ⟨y', y1', y2'⟩, h4'⟩ := hull_is e'
    rw [h1, h1']
    have k1 := h4 x' (h.mem_iff.2 x1')
    have k2 := h4 y' (h.mem_iff.2 y1')
    have k3 := h4' x (h.mem_iff.1 x1)
    have k4 := h4' y (h.mem_iff.1 y1)
    have ea : a = a' := by omega
    have eb : b = b' := by omega
    rw [ea, eb]

/-- By how much a block differs from its mark. -/
def spnT (t : List Int) (b : Nat) : Int × Int := (-(tg t 5 b), tg t b 5)
def knownL (p : Pr) (l : List Pt) (b : Nat) : Option (Int × Int) := hullL ((toldL p l).map fun x => spnT x.2 b)

/-- Fewer readings tell no more. -/
theorem known_sub {p : Pr} {l l' : List Pt} (hs : l.Sublist l') (hb : InB l') {b : Nat} (hb6 : b < 6) {s' : Int × Int} (h : knownL p l' b = some s') : ∃ s, knownL p l b = some s ∧ s.1 ≤ s'.1 ∧ s'.2 ≤ s.2 := by
  have hne' : (toldL p l').map (fun x => spnT x.2 b) ≠ [] := by intro e; rw [knownL, e] at h; cases h
  obtain ⟨a', b', h1', ⟨x, x1, x2⟩, ⟨y, y1, y2⟩, h4'⟩ := hull_is hne'
  have hmem : ∀ c t', (c, t') ∈ toldL p l' → (c, tabL p.bs l c.1 c.2) ∈ toldL p l ∧ TLe t' (tabL p.bs l c.1 c.2) := by
    intro c t' hm
    simp only [toldL, List.mem_filter, List.mem_map] at hm ⊢
    obtain ⟨⟨c', hc', e⟩, hf⟩ := hm
    cases e
    have hle := tab_sub (bs := p.bs) (z := c.1) (r := c.2) hs hb
    exact ⟨⟨⟨c, hc', rfl⟩, fit_sub hle hf⟩, hle⟩
  have hne : (toldL p l).map (fun x => spnT x.2 b) ≠ [] := by
    obtain ⟨⟨c, t'⟩, hm, _⟩ := List.mem_map.1 x1
    intro e
    have := List.mem_map_of_mem (f := fun x => spnT x.2 b) (hmem c t' hm).1
    rw [e] at this
    cases this
  obtain ⟨a, b2, h1, _, _, h4⟩ := hull_is hne
  rw [knownL, h1'] at h
  cases h
  refine ⟨(a, b2), h1, ?_, ?_⟩
  · obtain ⟨⟨c, t'⟩, hm, e⟩ := List.mem_map.1 x1
    obtain ⟨m1, m2⟩ := hmem c t' hm
    have := (h4 _ (List.mem_map_of_mem (f := fun x => spnT x.2 b) m1)).1
    have k := m2.le 5 b (by omega) hb6
    simp only [spnT] at this e
    rw [← e] at x2
    simp only at x2 ⊢
    omega
  · obtain ⟨⟨c, t'⟩, hm, e⟩ := List.mem_map.1 y1
    obtain ⟨m1, m2⟩ := hmem c t' hm
    have := (h4 _ (List.mem_map_of_mem (f := fun x => spnT x.2 b) m1)).2
    have k := m2.le b 5 hb6 (by omega)
    simp only [spnT] at this e
    rw [← e] at y2
    simp only at y2 ⊢
    omega

/-- What truly is, is within what is told. -/
theorem known_sound {p : Pr} {l : List Pt} {x : Nat → Int} {c : Int × Int} (hc : c ∈ combs p) (h : TSd x (tabL p.bs l c.1 c.2)) (h5 : x 5 = 0) {b : Nat} (hb6 : b < 6) : ∃ s, knownL p l b = some s ∧ s.1 ≤ x b ∧ x b ≤ s.2 := by
  have hm : (c, tabL p.bs l c.1 c.2) ∈ toldL p l := by
    simp only [toldL, List.mem_filter, List.mem_map]
    exact ⟨⟨c, hc, rfl⟩, sound_fit h⟩
  have hm2 := List.mem_map_of_mem (f := fun x => spnT x.2 b) hm
  have hne : (toldL p l).map (fun x => spnT x.2 b) ≠ [] := by intro e; rw [e] at hm2; cases hm2
  obtain ⟨a, b2, h1, _, _, h4⟩ := hull_is hne
  have k := h4 _ hm2
  have k1 := h.le 5 b (by omega) hb6
  have k2 := h.le b 5 hb6 (by omega)
  simp only [spnT] at k
  exact ⟨(a, b2), h1, by simp only; omega, by simp only; omega⟩

end Go.Ab
/-
  Plain part of TopPlanned.
-/
namespace Go.Ab
open Go.Proofs
set_option linter.unusedSimpArgs false
set_option linter.unusedVariables false
set_option maxRecDepth 100000
set_option maxHeartbeats 2000000

variable {H : Heap}


/-! ### Sets of readings -/

def idxS (n s : Nat) : List Nat := (List.range n).filter fun i => s.testBit i
def rdS (rs : List Pt) (s : Nat) : List Pt := (idxS rs.length s).map fun i => rs.getD i pt0

theorem idx_len : ∀ n < 9, ∀ s < 2 ^ n, (idxS n s).length = pop s := by decide +kernel

theorem filter_of_sub {α : Type} [DecidableEq α] {l m : List α} (h : l.Sublist m) : m.Nodup → m.filter (fun x => decide (x ∈ l)) = l := by
  induction h with
  | slnil => intro _; rfl
  | @cons l1 l2 x hs ih =>
    intro hn
    rw [List.nodup_cons] at hn
    have hx : ¬ x ∈ l1 := fun h => hn.1 (hs.subset h)
    rw [List.filter_cons_of_neg (by simpa using hx)]
    exact ih hn.2
  | @cons_cons l1 l2 x hs ih =>
    intro hn
    rw [List.nodup_cons] at hn
    rw [List.filter_cons_of_pos (by simp)]
    congr 1
    have e : l2.filter (fun y => decide (y ∈ x :: l1)) = l2.filter (fun y => decide (y ∈ l1)) := by
      apply List.filter_congr
      intro y hy
      have : y ≠ x := fun e => hn.1 (e ▸ hy)
      simp [this]
    rw [e]
    exact ih hn.2

/-- Each list of numbers, rising, is that of a set. -/
theorem idx_of {n : Nat} (hn : n ≤ 8) {l : List Nat} (h : l.Sublist (List.range n)) : ∃ u, u < 2 ^ n ∧ idxS n u = l ∧ pop u = l.length := by
  have hu := maskN_lt (fun i => decide (i ∈ l)) n
  have e : idxS n (maskN (fun i => decide (i ∈ l)) n) = l := by
    have h1 : idxS n (maskN (fun i => decide (i ∈ l)) n) = (List.range n).filter fun x => decide (x ∈ l) := by
      apply List.filter_congr
      intro i hi
      rw [maskN_bit, decide_eq_true (List.mem_range.1 hi), Bool.true_and]
    rw [h1]
    exact filter_of_sub h List.nodup_range
  exact ⟨_, hu, e, by rw [← idx_len n (by omega) _ hu, e]⟩

theorem idx_sub (n s : Nat) : (idxS n s).Sublist (List.range n) := List.filter_sublist

theorem map_get {α : Type} (d : α) (l : List α) : (List.range l.length).map (fun i => l.getD i d) = l := by
  apply List.ext_getElem
  · simp
  · intro i h1 h2
    simp [h2]

/-- A set of the readings of a set. -/
theorem rdS_of {rs : List Pt} (hn : rs.length ≤ 8) (s t : Nat) : ∃ u, u < 2 ^ rs.length ∧ rdS rs u = rdS (rdS rs s) t ∧ pop u = (idxS (rdS rs s).length t).length ∧ idxS rs.length u = (idxS (rdS rs s).length t).map (fun k => (idxS rs.length s).getD k 0) ∧ (idxS rs.length u).Sublist (idxS rs.length s) := by
  have hl : (rdS rs s).length = (idxS rs.length s).length := by simp [rdS]
  have hsub : ((idxS (rdS rs s).length t).map (fun k => (idxS rs.length s).getD k 0)).Sublist (idxS rs.length s) := by
    have h1 := (idx_sub (rdS rs s).length t).map (fun k => (idxS rs.length s).getD k 0)
    rw [hl] at h1 ⊢
    rw [map_get 0 (idxS rs.length s)] at h1
    exact h1
  obtain ⟨u, u1, u2, u3⟩ := idx_of hn (hsub.trans (idx_sub _ _))
  refine ⟨u, u1, ?_, by rw [u3, List.length_map], u2, by rw [u2]; exact hsub⟩
  simp only [rdS, u2, List.map_map]
  apply List.map_congr_left
  intro k hk
  have hkl : k < (idxS rs.length s).length := by
    have := List.mem_range.1 ((idx_sub _ _).subset hk)
    rw [← hl]; exact this
  simp [hkl]

theorem rdS_all (rs : List Pt) : rdS rs (2 ^ rs.length - 1) = rs := by
  have e : idxS rs.length (2 ^ rs.length - 1) = List.range rs.length := by
    apply List.filter_eq_self.2
    intro i hi
    rw [Nat.testBit_two_pow_sub_one]
    simpa using hi
  rw [rdS, e, map_get]

theorem rdS_sub (rs : List Pt) (s : Nat) : (rdS rs s).Sublist rs := by
  have h := (idx_sub rs.length s).map (fun i => rs.getD i pt0)
  rw [map_get] at h
  exact h

theorem rdS_len {rs : List Pt} (hn : rs.length ≤ 8) {s : Nat} (hs : s < 2 ^ rs.length) : (rdS rs s).length = pop s := by
  rw [rdS, List.length_map, idx_len _ (by omega) s hs]

/-! ### How wide blocks are -/

def widL (p : Pr) (l : List Pt) : List Int := (List.range 5).map fun b => if b < p.bs.length then ((knownL p l b).getD (0, 0)).2 - ((knownL p l b).getD (0, 0)).1 else 0
def maxL : List Int → Int
  | [] => 0
  | x :: r => r.foldl (fun m y => if m < y then y else m) x
def wdst (p : Pr) (l : List Pt) : Int := maxL (widL p l)
def enoughL (p : Pr) (w : Int) (l : List Pt) : Bool := decide (wdst p l ≤ w)

theorem max_fold : ∀ (l : List Int) (m : Int), m ≤ l.foldl (fun m y => if m < y then y else m) m ∧ ∀ x ∈ l, x ≤ l.foldl (fun m y => if m < y then y else m) m
  | [], m => ⟨Int.le_refl _, fun x h => by cases h⟩
  | y :: r, m => by
    have hm : m ≤ (if m < y then y else m) ∧ y ≤ (if m < y then y else m) := by split <;> omega
    simp only [List.foldl_cons]
    generalize (if m < y then y else m) = m' at *
    obtain ⟨h1, h2⟩ := max_fold r m'
    refine ⟨by omega, fun x hx => ?_⟩
    rcases List.mem_cons.1 hx with rfl | hx
    · omega
    · exact h2 x hx

theorem max_ge {l : List Int} {x : Int} (h : x ∈ l) : x ≤ maxL l := by
  cases l with
  | nil => cases h
  | cons y r =>
    obtain ⟨h1, h2⟩ := max_fold r y
    rcases List.mem_cons.1 h with rfl | h
    · exact h1
    · exact h2 x h

theorem enough_wide {p : Pr} {w : Int} {l : List Pt} (h : enoughL p w l = true) {b : Nat} (hb : b < p.bs.length) (h5 : p.bs.length ≤ 5) {s : Int × Int} (hs : knownL p l b = some s) : s.2 - s.1 ≤ w := by
  have hm : s.2 - s.1 ∈ widL p l := by
    simp only [widL, List.mem_map, List.mem_range]
    exact ⟨b, by omega, by rw [if_pos hb, hs]; rfl⟩
  have := max_ge hm
  have h2 : wdst p l ≤ w := of_decide_eq_true h
  simp only [wdst] at h2
  omega

/-! ### The least set that is enough -/

/-- Of a key, the least set. -/
structure LeastS (key : Nat → Int) (n : Nat) (P : Nat → Bool) (s : Nat) : Prop where
  lt : s < 2 ^ n
  ok : P s = true
  min : ∀ y, y < 2 ^ n → P y = true → key s ≤ key y

/-- By how many there are, and by their number. -/
def keyM (s : Nat) : Int := (pop s : Int) * 1024 + (s : Int)
/-- By what they cost first. -/
def costL (ps : List Int) (s : Nat) : Int := ((idxS ps.length s).map fun i => ps.getD i 0).sum
def keyP (ps : List Int) (s : Nat) : Int := costL ps s * 1048576 + keyM s

theorem pop_le8 : ∀ n < 9, ∀ s < 2 ^ n, pop s ≤ n ∧ (pop s = n → s = 2 ^ n - 1) := by decide +kernel

/-- Of the readings of the least set none can be left out. -/
theorem least_all {p : Pr} {w : Int} (hn : p.rs.length ≤ 8) {s : Nat} (h : LeastS keyM p.rs.length (fun u => enoughL p w (rdS p.rs u)) s) {t : Nat} (ht : t < 2 ^ (rdS p.rs s).length) (he : enoughL p w (rdS (rdS p.rs s) t) = true) : t = 2 ^ (rdS p.rs s).length - 1 := by
  have hl := rdS_len hn h.lt
  have h8 : (rdS p.rs s).length ≤ 8 := by rw [hl]; have := (pop_le8 p.rs.length (by omega) s h.lt).1; omega
  obtain ⟨u, u1, u2, u3, _, _⟩ := rdS_of hn s t
  rw [← u2] at he
  have hm := h.min u u1 he
  have hp2 : (2 : Nat) ^ p.rs.length ≤ 2 ^ 8 := Nat.pow_le_pow_right (by omega) hn
  have hs := h.lt
  rw [idx_len _ (by omega) t ht] at u3
  simp only [keyM] at hm
  have hq := pop_le8 _ (show (rdS p.rs s).length < 9 by omega) t ht
  exact hq.2 (by omega)

theorem sum_sub {g : Nat → Int} (hg : ∀ i, 0 ≤ g i) {l m : List Nat} (h : l.Sublist m) : (l.map g).sum ≤ (m.map g).sum := by
  induction h with
  | slnil => simp
  | @cons l1 l2 x hs ih => have := hg x; simp only [List.map_cons, List.sum_cons]; omega
  | @cons_cons l1 l2 x hs ih => simp only [List.map_cons, List.sum_cons]; omega

theorem cheap_all {p : Pr} {w : Int} {ps : List Int} (hps : ps.length = p.rs.length) (hp0 : ∀ i, 0 ≤ ps.getD i 0) (hn : p.rs.length ≤ 8) {s : Nat} (h : LeastS (keyP ps) p.rs.length (fun u => enoughL p w (rdS p.rs u)) s) {t : Nat} (ht : t < 2 ^ (rdS p.rs s).length) (he : enoughL p w (rdS (rdS p.rs s) t) = true) : t = 2 ^ (rdS p.rs s).length - 1 := by
  have hl := rdS_len hn h.lt
  have h8 : (rdS p.rs s).length ≤ 8 := by rw [hl]; have := (pop_le8 p.rs.length (by omega) s h.lt).1; omega
  obtain ⟨u, u1, u2, u3, _, u5⟩ := rdS_of hn s t
  rw [← u2] at he
  have hm := h.min u u1 he
  have hp2 : (2 : Nat) ^ p.rs.length ≤ 2 ^ 8 := Nat.pow_le_pow_right (by omega) hn
  have hs := h.lt
  rw [idx_len _ (by omega) t ht] at u3
  have hc : costL ps u ≤ costL ps s := by
    simp only [costL, hps]
    exact sum_sub hp0 u5
  have hpu := (pop_le8 p.rs.length (by omega) u u1).1
  have hpsl := (pop_le8 p.rs.length (by omega) s hs).1
  simp only [keyP, keyM] at hm
  have hq := pop_le8 _ (show (rdS p.rs s).length < 9 by omega) t ht
  exact hq.2 (by omega)

/-- The cheapest set costs no more than another one that is enough. -/
theorem cheap_le {ps : List Int} {n : Nat} (hn : n ≤ 8) {P : Nat → Bool} {s u : Nat} (h : LeastS (keyP ps) n P s) (hu : u < 2 ^ n) (hP : P u = true) : costL ps s ≤ costL ps u := by
  have hm := h.min u hu hP
  have hp2 : (2 : Nat) ^ n ≤ 2 ^ 8 := Nat.pow_le_pow_right (by omega) hn
  have hs := h.lt
  have h1 := (pop_le8 n (by omega) s hs).1
  have h2 := (pop_le8 n (by omega) u hu).1
  simp only [keyP, keyM] at hm
  omega

end Go.Ab
/-
  Plain part of TopPlanned.
-/
namespace Go.Ab
open Go.Proofs
set_option linter.unusedSimpArgs false
set_option linter.unusedVariables false
set_option maxRecDepth 100000
set_option maxHeartbeats 2000000

variable {H : Heap}


/-! ### The tables are small -/

theorem TBd.lst {M m : Int} {t : List Int} (h : TBd M m t) {one other : Nat} (h1 : one < 6) (h2 : other < 6) {most : Int} (hm : -m ≤ most) : TBd M m (lstT one other most t) := by
  refine ⟨by simp only [lstT, ts_len, h.l], fun a ha b hb => ?_⟩
  have k := h.bd a ha b hb
  have k2 := h.bd one h1 other h2
  simp only [lstT]
  rw [tg_ts h.l h1 h2 ha hb]
  split
  · have := mnI_le (tg t one other) most
    omega
  · exact k

theorem TBd.kp {M m : Int} {t : List Int} (h : TBd M m t) {one other : Nat} (h1 : one < 6) (h2 : other < 6) {lo hi : Int} (hh : -m ≤ hi) (hl : lo ≤ m) : TBd M m (putK one other lo hi t) := (h.lst h1 h2 hh).lst h2 h1 (by omega)

theorem tab0_bd : TBd 1048576 1000 tab0 := ⟨tab0_len, fun a ha b hb => by rw [tab0_at ha hb]; split <;> omega⟩

theorem TBd.kbs {M : Int} : ∀ (l : List (Int × Int)) (j : Nat) {t : List Int}, j + l.length ≤ 5 → (∀ s ∈ l, -1000 ≤ s.2 ∧ s.1 ≤ 1000) → TBd M 1000 t → TBd M 1000 (putBs j l t)
  | [], j, t, _, _, h => h
  | s :: l, j, t, hj, hr, h => by
    have k := hr s List.mem_cons_self
    simp only [List.length_cons] at hj
    exact TBd.kbs l (j + 1) (by omega) (fun y hy => hr y (List.mem_cons_of_mem _ hy)) (h.kp (by omega) (by omega) k.1 k.2)

theorem TBd.krs {M z r : Int} : ∀ (l : List Pt) {t : List Int}, InB l → (∀ p ∈ l, -1000 ≤ p.hi - shw z r p.m ∧ p.lo - shw z r p.m ≤ 1000) → TBd M 1000 t → TBd M 1000 (putRs z r l t)
  | [], t, _, _, h => h
  | p :: l, t, hb, hr, h => by
    have k1 := hb p List.mem_cons_self
    have k2 := hr p List.mem_cons_self
    exact TBd.krs l (fun y hy => hb y (List.mem_cons_of_mem _ hy)) (fun y hy => hr y (List.mem_cons_of_mem _ hy)) (h.kp (show p.a.toNat < 6 by omega) (show p.b.toNat < 6 by omega) k2.1 k2.2)

theorem shw_bd {z r m : Int} (hz : -10 ≤ z ∧ z ≤ 10) (hr : -5 ≤ r ∧ r ≤ 5) (hm : 0 ≤ m ∧ m ≤ 60) : -40 ≤ shw z r m ∧ shw z r m ≤ 40 := by
  have h1 : r * m ≤ 5 * 60 := by
    have a1 : r * m ≤ 5 * m := Int.mul_le_mul_of_nonneg_right hr.2 hm.1
    omega
  have h2 : -(5 * 60) ≤ r * m := by
    have a1 : -5 * m ≤ r * m := Int.mul_le_mul_of_nonneg_right hr.1 hm.1
    omega
  simp only [shw]
  omega

/-- A pair is valid. -/
structure Pr.Ok (p : Pr) : Prop where
  many : 1 ≤ p.bs.length ∧ p.bs.length ≤ 5
  reads : p.rs.length ≤ 8
  blk : ∀ i, i < p.bs.length → -20 ≤ (p.bs.getD i (0, 0)).1 ∧ (p.bs.getD i (0, 0)).1 ≤ (p.bs.getD i (0, 0)).2 ∧ (p.bs.getD i (0, 0)).2 ≤ 20
  zero : -10 ≤ p.zlo ∧ p.zlo ≤ p.zhi ∧ p.zhi ≤ 10 ∧ p.zhi - p.zlo ≤ 4
  rate : -5 ≤ p.rlo ∧ p.rlo ≤ p.rhi ∧ p.rhi ≤ 5 ∧ p.rhi - p.rlo ≤ 4
  rd : ∀ i, i < p.rs.length → 0 ≤ (p.rs.getD i pt0).a ∧ (p.rs.getD i pt0).a < p.bs.length ∧ 0 ≤ (p.rs.getD i pt0).b ∧ (p.rs.getD i pt0).b < p.bs.length ∧ (p.rs.getD i pt0).a ≠ (p.rs.getD i pt0).b ∧ 0 ≤ (p.rs.getD i pt0).m ∧ (p.rs.getD i pt0).m ≤ 60 ∧ -80 ≤ (p.rs.getD i pt0).lo ∧ (p.rs.getD i pt0).lo ≤ (p.rs.getD i pt0).hi ∧ (p.rs.getD i pt0).hi ≤ 80

theorem mem_getD {α : Type} {l : List α} {x d : α} (h : x ∈ l) : ∃ i, i < l.length ∧ l.getD i d = x := by
  obtain ⟨i, hi, e⟩ := List.getElem_of_mem h
  exact ⟨i, hi, by simp [hi, e]⟩

theorem Pr.Ok.inB {p : Pr} (h : p.Ok) : InB p.rs := by
  intro x hx
  obtain ⟨i, hi, rfl⟩ := mem_getD (d := pt0) hx
  have := h.rd i hi
  have := h.many
  omega

theorem pre_bd {p : Pr} (h : p.Ok) {l : List Pt} (hl : ∀ x ∈ l, x ∈ p.rs) {z r : Int} (hz : p.zlo ≤ z ∧ z ≤ p.zhi) (hr : p.rlo ≤ r ∧ r ≤ p.rhi) : TBd 1048576 1000 (putRs z r l (putBs 0 p.bs tab0)) := by
  have hm := h.many
  have hze := h.zero
  have hra := h.rate
  refine TBd.krs l (fun x hx => h.inB x (hl x hx)) (fun x hx => ?_) (TBd.kbs p.bs 0 (by omega) (fun s hs => ?_) tab0_bd)
  · obtain ⟨i, hi, rfl⟩ := mem_getD (d := pt0) (hl x hx)
    have k := h.rd i hi
    have ks := shw_bd (z := z) (r := r) (m := (p.rs.getD i pt0).m) (by omega) (by omega) (by omega)
    omega
  · obtain ⟨i, hi, rfl⟩ := mem_getD (d := (0, 0)) hs
    have k := h.blk i hi
    omega

theorem tabW_eq {p : Pr} (h : p.Ok) {l : List Pt} (hl : ∀ x ∈ l, x ∈ p.rs) {z r : Int} (hz : p.zlo ≤ z ∧ z ≤ p.zhi) (hr : p.rlo ≤ r ∧ r ≤ p.rhi) : closeW (putRs z r l (putBs 0 p.bs tab0)) = tabL p.bs l z r ∧ TBd 1048576 2000000000000 (tabL p.bs l z r) := by
  have k := closeW_eq (M := 1048576) (m := 1000) (by omega) (by omega) (pre_bd h hl hz hr)
  exact k

end Go.Ab
/-
  Package pair: spans, tables.
-/
namespace Go.Ab
open Go.Proofs
set_option linter.unusedSimpArgs false
set_option linter.unusedVariables false
set_option maxRecDepth 100000
set_option maxHeartbeats 2000000

variable {H : Heap}


theorem pr_within (n lo hi : Int) (H : Heap) : callFL cfg0 prog0 false 60 [I n, I lo, I hi] H none = some ⟨.ret (.bool (wi n lo hi)), H, none⟩ := by
  refine (callFL_eq fn60 rfl (by simp [Try.f60])).trans ?_
  by_cases h1 : lo ≤ n <;> simp (implicitDefEqProofs := false) only [go_sem, h1, wi]

/-- Whether a span is valid. -/
def spOk (lo hi most : Int) : Bool := decide (-most ≤ lo) && (decide (lo ≤ hi) && decide (hi ≤ most))

theorem pr_isSpan (lo hi most : Int) (hm : 0 ≤ most ∧ most ≤ 1000) (H : Heap) : callFL cfg0 prog0 false 61 [.agg [I lo, I hi], I most] H none = some ⟨.ret (.bool (spOk lo hi most)), H, none⟩ := by
  simp only [spOk]
  by_cases h1 : -most ≤ lo
  · by_cases h2 : lo ≤ hi
    · skip
      refine (callFL_eq fn61 rfl (by simp [Try.f61])).trans ?_
      simp (maxSteps := 1000000) (implicitDefEqProofs := false) (disch := first | rfl | omega | assumption) only [go_sem, ltT, ltF, leT, leF, h1, h2, decide_true, Bool.true_and]
      done
    · skip
      refine (callFL_eq fn61 rfl (by simp [Try.f61])).trans ?_
      simp (maxSteps := 1000000) (implicitDefEqProofs := false) (disch := first | rfl | omega | assumption) only [go_sem, ltT, ltF, leT, leF, h1, h2, decide_true, Bool.true_and, decide_false, Bool.false_and]
      done
  · skip
    refine (callFL_eq fn61 rfl (by simp [Try.f61])).trans ?_
    simp (maxSteps := 1000000) (implicitDefEqProofs := false) (disch := first | rfl | omega | assumption) only [go_sem, ltT, ltF, leT, leF, h1, decide_false, Bool.false_and]
    done

theorem pr_isMinute (n : Int) (H : Heap) : callFL cfg0 prog0 false 62 [I n] H none = some ⟨.ret (.bool (wi n 0 60)), H, none⟩ := by
  refine (callFL_eq fn62 rfl (by simp [Try.f62])).trans ?_
  simp (maxSteps := 1000000) (implicitDefEqProofs := false) (disch := first | rfl | omega | assumption) only [go_sem, ltT, ltF, leT, leF, pr_within]
  done

theorem pr_must (b : Bool) (e : Int) (H : Heap) : callFL cfg0 prog0 false 59 [.bool b, I e] H none = some ⟨if b then .ret (.tup []) else .pan (.iface 114 (.agg [I e])), H, none⟩ := by
  refine (callFL_eq fn59 rfl (by simp [Try.f59])).trans ?_
  cases b
  · skip
    simp (maxSteps := 1000000) (implicitDefEqProofs := false) (disch := first | rfl | omega | assumption) only [go_sem, ltT, ltF, leT, leF]
    done
  · skip
    simp (maxSteps := 1000000) (implicitDefEqProofs := false) (disch := first | rfl | omega | assumption) only [go_sem, ltT, ltF, leT, leF]
    done

theorem tg_get {t : List Int} (hl : t.length = 36) {a b : Nat} (ha : a < 6) (hb : b < 6) : (t.map I)[a * 6 + b]? = some (I (tg t a b)) := by
  have h : 6 * a + b < t.length := by omega
  rw [show a * 6 + b = 6 * a + b by omega, List.getElem?_map, List.getElem?_eq_getElem h]
  simp [tg, h]

theorem ts_set {t : List Int} (hl : t.length = 36) {a b : Nat} (ha : a < 6) (hb : b < 6) (v : Int) : List.take (a * 6 + b) (t.map I) ++ I v :: List.drop (a * 6 + (b + 1)) (t.map I) = (ts t a b v).map I := by
  have h : a * 6 + b < (t.map I).length := by rw [List.length_map, hl]; omega
  have := List.set_eq_take_append_cons_drop (l := t.map I) (i := a * 6 + b) (a := I v)
  rw [if_pos h] at this
  rw [show a * 6 + (b + 1) = a * 6 + b + 1 by omega, ← this, show a * 6 + b = 6 * a + b by omega, ts, List.map_set]
theorem lt36 {a b : Nat} (ha : a < 6) (hb : b < 6) : a * 6 + (b + 1) ≤ 36 := by omega

theorem alI (t : List Int) : allScalar (t.map I) = true := allScalar_map (fun _ => rfl) t
theorem tlen {t : List Int} (hl : t.length = 36) : (t.map I).length = 36 := by rw [List.length_map, hl]
theorem ttake {t : List Int} (hl : t.length = 36) : List.take 36 (t.map I) = t.map I := List.take_of_length_le (by rw [tlen hl]; omega)

theorem pr_least {t : List Int} (hl : t.length = 36) {a b : Nat} (ha : a < 6) (hb : b < 6) (m : Int) (H : Heap) : callFL cfg0 prog0 false 110 [.agg (t.map I), I a, I b, I m] H none = some ⟨.ret (.agg ((lstT a b m t).map I)), H, none⟩ := by
  have h1 := tg_get hl ha hb
  have h2 := tlen hl
  have h3 := ttake hl
  have ha6 : ((a : Nat) : Int) < 6 := by omega
  have hb6 : ((b : Nat) : Int) < 6 := by omega
  have hm : (if m < tg t a b then m else tg t a b) = mnI (tg t a b) m := rfl
  have hsz := lt36 ha hb
  have hs := ts_set hl ha hb (mnI (tg t a b) m)
  have h4 : (lstT a b m t).length = 36 := by simp only [lstT, ts_len, hl]
  have h5 := tlen h4
  have h6 := ttake h4
  have he : ts t a b (mnI (tg t a b) m) = lstT a b m t := rfl
  rw [he] at hs
  refine (callFL_eq fn110 rfl (by simp [Try.f110])).trans ?_
  simp (maxSteps := 1000000) (implicitDefEqProofs := false) (disch := first | rfl | omega | assumption) only [go_sem, ltT, ltF, leT, leF, alI, sealI, ltI, h2, h3]
  rw [chkK_of]; rotate_left; kernel_rfl
  simp (maxSteps := 1000000) (implicitDefEqProofs := false) (disch := first | rfl | omega | assumption) only [go_sem, ltT, ltF, leT, leF, alI, sealI, ltI, h1, h2, h3, ha6, hb6, hm, hsz, hs, h5, h6]
  done

end Go.Ab
/-
  Package pair: bounds that are put into tables; closed tables.
-/
namespace Go.Ab
open Go.Proofs
set_option linter.unusedSimpArgs false
set_option linter.unusedVariables false
set_option maxRecDepth 100000
set_option maxHeartbeats 2000000

variable {H : Heap}


theorem pr_shows {z r m : Int} (hz : -10 ≤ z ∧ z ≤ 10) (hr : -5 ≤ r ∧ r ≤ 5) (hm : 0 ≤ m ∧ m ≤ 60) (H : Heap) : callFL cfg0 prog0 false 108 [.agg [I z, I r], I m] H none = some ⟨.ret (I (shw z r m)), H, none⟩ := by
  have h1 : r * m ≤ 300 := by
    have a1 : r * m ≤ 5 * m := Int.mul_le_mul_of_nonneg_right hr.2 hm.1
    omega
  have h2 : -300 ≤ r * m := by
    have a1 : -5 * m ≤ r * m := Int.mul_le_mul_of_nonneg_right hr.1 hm.1
    omega
  simp only [shw]
  obtain ⟨n, hn⟩ : ∃ n, r * m = n := ⟨_, rfl⟩
  rw [hn] at h1 h2 ⊢
  have key : (n.tmod 10 < 0 ∧ n.tdiv 10 - 1 = n / 10 ∧ -31 ≤ n.tdiv 10 ∧ n.tdiv 10 ≤ 31) ∨ (¬ n.tmod 10 < 0 ∧ n.tdiv 10 = n / 10) := by
    rcases Int.le_total 0 n with h | h
    · right
      rw [Int.tdiv_eq_ediv_of_nonneg h, Int.tmod_eq_emod_of_nonneg h]
      omega
    · obtain ⟨k, hk⟩ : ∃ k, n = -k := ⟨-n, by omega⟩
      subst hk
      rw [Int.neg_tdiv, Int.neg_tmod, Int.tdiv_eq_ediv_of_nonneg (by omega), Int.tmod_eq_emod_of_nonneg (by omega)]
      omega
  rcases key with ⟨hc, e, b⟩ | ⟨hc, e⟩
  · skip
    refine (callFL_eq fn108 rfl (by simp [Try.f108])).trans ?_
    simp (maxSteps := 1000000) (implicitDefEqProofs := false) (disch := first | rfl | omega | assumption) only [go_sem, ltT, ltF, leT, leF, hn, hc, e]
    done
  · have b : -31 ≤ n / 10 ∧ n / 10 ≤ 31 := by omega
    refine (callFL_eq fn108 rfl (by simp [Try.f108])).trans ?_
    simp (maxSteps := 1000000) (implicitDefEqProofs := false) (disch := first | rfl | omega | assumption) only [go_sem, ltT, ltF, leT, leF, hn, hc, e]
    done

theorem pr_put {t : List Int} (hl : t.length = 36) {a b : Nat} (ha : a < 6) (hb : b < 6) {lo hi : Int} (h1 : -1000 ≤ lo ∧ lo ≤ 1000) (c : AV) (hc : ∃ z r, c = .agg [I z, I r]) (H : Heap) : callFL cfg0 prog0 false 109 [.agg [I a, I b, I lo, I hi], .agg (t.map I), c] H none = some ⟨.ret (.agg ((putK a b lo hi t).map I)), H, none⟩ := by
  obtain ⟨z, r, rfl⟩ := hc
  have h4 : (lstT a b hi t).length = 36 := by simp only [lstT, ts_len, hl]
  have h5 : (putK a b lo hi t).length = 36 := by rw [putK_len, hl]
  have k1 := fun G : Heap => pr_least hl ha hb hi G
  have k2 := fun G : Heap => pr_least h4 hb ha (-lo) G
  have he : lstT b a (-lo) (lstT a b hi t) = putK a b lo hi t := rfl
  rw [he] at k2
  have e1 : (0 : Int) - lo = -lo := by omega
  have q1 := tlen hl
  have q2 := ttake hl
  have q3 := tlen h5
  have q4 := ttake h5
  refine (callFL_eq fn109 rfl (by simp [Try.f109])).trans ?_
  simp (maxSteps := 1000000) (implicitDefEqProofs := false) (disch := first | rfl | omega | assumption) only [go_sem, ltT, ltF, leT, leF, alI, sealI, ltI, q1, q2]
  rw [chkK_of]; rotate_left; kernel_rfl
  simp (maxSteps := 1000000) (implicitDefEqProofs := false) (disch := first | rfl | omega | assumption) only [go_sem, ltT, ltF, leT, leF, alI, sealI, ltI, q1, q2, k1, k2, q3, q4, e1]
  done

theorem pr_putR {t : List Int} (hl : t.length = 36) {x : Pt} {a b : Nat} (ha : x.a = a) (hb : x.b = b) (ha5 : a < 5) (hb5 : b < 5) (hm : 0 ≤ x.m ∧ x.m ≤ 60) (hd : -80 ≤ x.lo ∧ x.lo ≤ x.hi ∧ x.hi ≤ 80) {z r : Int} (hz : -10 ≤ z ∧ z ≤ 10) (hr : -5 ≤ r ∧ r ≤ 5) (H : Heap) :
    callFL cfg0 prog0 false 111 [.agg [I x.a, I x.b, I x.lo, I x.hi, I x.m], .agg (t.map I), .agg [I z, I r]] H none = some ⟨.ret (.agg ((putR z r x t).map I)), H, none⟩ := by
  have hs := fun G : Heap => pr_shows hz hr hm G
  have hb1 := shw_bd hz hr hm
  have hp := fun G : Heap => pr_put hl (show a < 6 by omega) (show b < 6 by omega) (lo := x.lo - shw z r x.m) (hi := x.hi - shw z r x.m) (by omega) (.agg [I z, I r]) ⟨z, r, rfl⟩ G
  have he : putK a b (x.lo - shw z r x.m) (x.hi - shw z r x.m) t = putR z r x t := by simp only [putR, ha, hb, Int.toNat_natCast]
  rw [he] at hp
  have h5 : (putR z r x t).length = 36 := by rw [putR, putK_len, hl]
  have q1 := tlen hl
  have q2 := ttake hl
  have q3 := tlen h5
  have q4 := ttake h5
  rw [ha, hb]
  refine (callFL_eq fn111 rfl (by simp [Try.f111])).trans ?_
  simp (maxSteps := 1000000) (implicitDefEqProofs := false) (disch := first | rfl | omega | assumption) only [go_sem, ltT, ltF, leT, leF, alI, sealI, ltI, q1, q2, hs, hp, q3, q4]
  done

theorem pr_span {t : List Int} (hb : TBd 1048576 2000000000000 t) {a b : Nat} (ha : a < 6) (hb6 : b < 6) (H : Heap) : callFL cfg0 prog0 false 68 [.agg (t.map I), I a, I b] H none = some ⟨.ret (.agg [I (-(tg t b a)), I (tg t a b)]), H, none⟩ := by
  have h1 := tg_get hb.l ha hb6
  have h2 := tg_get hb.l hb6 ha
  have h3 := tlen hb.l
  have h4 := ttake hb.l
  have k1 := hb.bd a ha b hb6
  have k2 := hb.bd b hb6 a ha
  have ha6 : ((a : Nat) : Int) < 6 := by omega
  have hb6' : ((b : Nat) : Int) < 6 := by omega
  have en : (0 : Int) - tg t b a = -(tg t b a) := by omega
  refine (callFL_eq fn68 rfl (by simp [Try.f68])).trans ?_
  simp (maxSteps := 1000000) (implicitDefEqProofs := false) (disch := first | rfl | omega | assumption) only [go_sem, ltT, ltF, leT, leF, alI, sealI, ltI, h3, h4]
  rw [chkK_of]; rotate_left; kernel_rfl
  simp (maxSteps := 1000000) (implicitDefEqProofs := false) (disch := first | rfl | omega | assumption) only [go_sem, ltT, ltF, leT, leF, alI, sealI, ltI, h1, h2, h3, h4, ha6, hb6', en]
  done

theorem rlxW_len {i a b : Nat} {t : List Int} (hl : t.length = 36) : (rlxW i a b t).length = 36 := by simp only [rlxW, ts_len, hl]
theorem clBW_len (i a : Nat) : ∀ (q j : Nat) (t : List Int), t.length = 36 → (clBW i a j q t).length = 36
  | 0, j, t, h => h
  | q + 1, j, t, h => clBW_len i a q (j + 1) _ (rlxW_len h)
theorem clAW_len (i : Nat) : ∀ (q j : Nat) (t : List Int), t.length = 36 → (clAW i j q t).length = 36
  | 0, j, t, h => h
  | q + 1, j, t, h => clAW_len i q (j + 1) _ (clBW_len i j 6 0 t h)
theorem clTW_len : ∀ (q j : Nat) (t : List Int), t.length = 36 → (clTW j q t).length = 36
  | 0, j, t, h => h
  | q + 1, j, t, h => clTW_len q (j + 1) _ (clAW_len j 6 0 t h)
def tz : List Int := List.replicate 36 0
theorem tz_len : tz.length = 36 := by simp [tz]
theorem tz_av : tz.map I = [I 0, I 0, I 0, I 0, I 0, I 0, I 0, I 0, I 0, I 0, I 0, I 0, I 0, I 0, I 0, I 0, I 0, I 0, I 0, I 0, I 0, I 0, I 0, I 0, I 0, I 0, I 0, I 0, I 0, I 0, I 0, I 0, I 0, I 0, I 0, I 0] := rfl

theorem c8_loop (i a : Nat) (hi : i < 6) (ha : a < 6) (o : AO) (r : List Int) (K : List Item) (R : Option Done) (hK : ∀ E : Env, E.get 1 = .ptr H.length 0 → E.get 2 = .ptr (H.length + 1) 0 → E.get 4 = I i → E.get 8 = I i → E.get 11 = I a → Option.map (finishC H.length) (execL cfg0 prog0 ⟨79, none, false, H.length⟩ K ⟨E, [], H ++ [.box (.agg (r.map I)), o], none⟩) = R)  :
    ∀ (q j : Nat), j + q = 6 → ∀ (t : List Int), t.length = 36 → clBW i a j q t = r → ∀ E : Env, E.get 1 = .ptr H.length 0 → E.get 2 = .ptr (H.length + 1) 0 → E.get 4 = I i → E.get 5 = I a → E.get 8 = I i → E.get 11 = I a → E.get 14 = I j →
    Option.map (finishC H.length) (execL cfg0 prog0 ⟨79, none, false, H.length⟩ (loopIt Try.f79 8 :: .inBlock 4 :: K) ⟨E, [], H ++ [.box (.agg (t.map I)), o], none⟩) = R := by
  intro q
  have hi6 : ((i : Nat) : Int) < 6 := by omega
  have ha6 : ((a : Nat) : Int) < 6 := by omega
  induction q with
  | zero =>
    intro j hj t hl hr E g1 g2 g4 g5 g8 g11 g14
    have hk' : ¬ (j : Int) < ((6 : Nat) : Int) := by omega
    simp only [clBW] at hr
    subst hr
    simp only [loopIt, todoPast, todoAt, todoOf, firstReg, ↓reduceIte, Option.some.injEq, Nat.reduceEqDiff, reduceCtorEq, Try.f79]
    rw [execL_inLoop]
    simp (maxSteps := 1000000) (implicitDefEqProofs := false) (disch := first | rfl | omega | assumption) only [go_sem, g1, g2, g4, g5, g8, g11, g14, ltT, ltF, leT, leF, hk']
    exact hK _ (by exact g1) (by exact g2) (by exact g4) (by exact g8) (by exact g11)
  | succ q ih =>
    intro j hj t hl hr E g1 g2 g4 g5 g8 g11 g14
    have hk' : (j : Int) < ((6 : Nat) : Int) := by omega
    have hk2 : j < 6 := by omega
    simp only [clBW] at hr
    have h1 := tg_get hl ha hk2
    have h2 := tg_get hl ha hi
    have h3 := tg_get hl hi hk2
    have h4 := tlen hl
    have h5 := ttake hl
    have hsz := lt36 ha hk2
    have hs := ts_set hl ha hk2 (mnI (tg t a j) (IntKind.i64.wrap (tg t a i + tg t i j)))
    have hm : (if IntKind.i64.wrap (tg t a i + tg t i j) < tg t a j then IntKind.i64.wrap (tg t a i + tg t i j) else tg t a j) = mnI (tg t a j) (IntKind.i64.wrap (tg t a i + tg t i j)) := rfl
    have hj6 : ((j : Nat) : Int) < 6 := by omega
    have hlr : (rlxW i a j t).length = 36 := by simp only [rlxW, ts_len, hl]
    have he : ts t a j (mnI (tg t a j) (IntKind.i64.wrap (tg t a i + tg t i j))) = rlxW i a j t := rfl
    rw [he] at hs
    simp only [loopIt, todoPast, todoAt, todoOf, firstReg, ↓reduceIte, Option.some.injEq, Nat.reduceEqDiff, reduceCtorEq, Try.f79]
    rw [execL_inLoop]
    simp (maxSteps := 1000000) (implicitDefEqProofs := false) (disch := first | rfl | omega | assumption) only [go_sem, g1, g2, g4, g5, g8, g11, g14, ltT, ltF, leT, leF, hk']
    rw [chkK_of]; rotate_left; kernel_rfl
    simp (maxSteps := 1000000) (implicitDefEqProofs := false) (disch := first | rfl | omega | assumption) only [go_sem, g1, g2, g4, g5, g8, g11, g14, ltT, ltF, leT, leF, hk', alI, sealI, ltI, h1, h2, h3, h4, h5, hi6, ha6, hj6, hm, hsz, hs]
    exact ih (j + 1) (by omega) _ hlr hr _ (by exact g1) (by exact g2) (by exact g4) (by exact g5) (by exact g8) (by exact g11) (by rfl)

theorem c5_loop (i : Nat) (hi : i < 6) (o : AO) (r : List Int) (K : List Item) (R : Option Done) (hK : ∀ E : Env, E.get 1 = .ptr H.length 0 → E.get 2 = .ptr (H.length + 1) 0 → E.get 8 = I i → Option.map (finishC H.length) (execL cfg0 prog0 ⟨79, none, false, H.length⟩ K ⟨E, [], H ++ [.box (.agg (r.map I)), o], none⟩) = R)  :
    ∀ (q j : Nat), j + q = 6 → ∀ (t : List Int), t.length = 36 → clAW i j q t = r → ∀ E : Env, E.get 1 = .ptr H.length 0 → E.get 2 = .ptr (H.length + 1) 0 → E.get 4 = I i → E.get 8 = I i → E.get 11 = I j →
    Option.map (finishC H.length) (execL cfg0 prog0 ⟨79, none, false, H.length⟩ (loopIt Try.f79 5 :: .inBlock 2 :: K) ⟨E, [], H ++ [.box (.agg (t.map I)), o], none⟩) = R := by
  intro q
  induction q with
  | zero =>
    intro j hj t hl hr E g1 g2 g4 g8 g11
    have hk' : ¬ (j : Int) < ((6 : Nat) : Int) := by omega
    simp only [clAW] at hr
    subst hr
    simp only [loopIt, todoPast, todoAt, todoOf, firstReg, ↓reduceIte, Option.some.injEq, Nat.reduceEqDiff, reduceCtorEq, Try.f79]
    rw [execL_inLoop]
    simp (maxSteps := 1000000) (implicitDefEqProofs := false) (disch := first | rfl | omega | assumption) only [go_sem, g1, g2, g4, g8, g11, ltT, ltF, leT, leF, hk']
    exact hK _ (by exact g1) (by exact g2) (by exact g8)
  | succ q ih =>
    intro j hj t hl hr E g1 g2 g4 g8 g11
    have hk' : (j : Int) < ((6 : Nat) : Int) := by omega
    have hk2 : j < 6 := by omega
    simp only [clAW] at hr
    have hin := c8_loop (H := H) i j hi hk2 o (clBW i j 0 6 t)
    have hlr : (clBW i j 0 6 t).length = 36 := clBW_len i j 6 0 t hl
    simp only [loopIt, todoPast, todoAt, todoOf, firstReg, ↓reduceIte, Option.some.injEq, Nat.reduceEqDiff, reduceCtorEq, Try.f79]
    rw [execL_inLoop]
    simp (maxSteps := 1000000) (implicitDefEqProofs := false) (disch := first | rfl | omega | assumption) only [go_sem, g1, g2, g4, g8, g11, ltT, ltF, leT, leF, hk']
    refine hin _ _ (fun E g1 g2 g4 g8 g11 => ?_) 6 0 (by omega) t hl rfl _ (by exact g1) (by exact g2) (by exact g4) (by rfl) (by exact g8) (by exact g11) (by rfl)
    simp (maxSteps := 1000000) (implicitDefEqProofs := false) (disch := first | rfl | omega | assumption) only [go_sem, g1, g2, g4, g8, g11, ltT, ltF, leT, leF, hk']
    exact ih (j + 1) (by omega) _ hlr hr _ (by exact g1) (by exact g2) (by exact g4) (by exact g8) (by rfl)

theorem c2_loop (o : AO) (r : List Int) (K : List Item) (R : Option Done) (hK : ∀ E : Env, E.get 1 = .ptr H.length 0 → E.get 2 = .ptr (H.length + 1) 0 → Option.map (finishC H.length) (execL cfg0 prog0 ⟨79, none, false, H.length⟩ K ⟨E, [], H ++ [.box (.agg (r.map I)), o], none⟩) = R)  :
    ∀ (q j : Nat), j + q = 6 → ∀ (t : List Int), t.length = 36 → clTW j q t = r → ∀ E : Env, E.get 1 = .ptr H.length 0 → E.get 2 = .ptr (H.length + 1) 0 → E.get 8 = I j →
    Option.map (finishC H.length) (execL cfg0 prog0 ⟨79, none, false, H.length⟩ (loopIt Try.f79 2 :: .inBlock 0 :: K) ⟨E, [], H ++ [.box (.agg (t.map I)), o], none⟩) = R := by
  intro q
  induction q with
  | zero =>
    intro j hj t hl hr E g1 g2 g8
    have hk' : ¬ (j : Int) < ((6 : Nat) : Int) := by omega
    simp only [clTW] at hr
    subst hr
    simp only [loopIt, todoPast, todoAt, todoOf, firstReg, ↓reduceIte, Option.some.injEq, Nat.reduceEqDiff, reduceCtorEq, Try.f79]
    rw [execL_inLoop]
    simp (maxSteps := 1000000) (implicitDefEqProofs := false) (disch := first | rfl | omega | assumption) only [go_sem, g1, g2, g8, ltT, ltF, leT, leF, hk']
    exact hK _ (by exact g1) (by exact g2)
  | succ q ih =>
    intro j hj t hl hr E g1 g2 g8
    have hk' : (j : Int) < ((6 : Nat) : Int) := by omega
    have hk2 : j < 6 := by omega
    simp only [clTW] at hr
    have hin := c5_loop (H := H) j hk2 o (clAW j 0 6 t)
    have hlr : (clAW j 0 6 t).length = 36 := clAW_len j 6 0 t hl
    simp only [loopIt, todoPast, todoAt, todoOf, firstReg, ↓reduceIte, Option.some.injEq, Nat.reduceEqDiff, reduceCtorEq, Try.f79]
    rw [execL_inLoop]
    simp (maxSteps := 1000000) (implicitDefEqProofs := false) (disch := first | rfl | omega | assumption) only [go_sem, g1, g2, g8, ltT, ltF, leT, leF, hk']
    refine hin _ _ (fun E g1 g2 g8 => ?_) 6 0 (by omega) t hl rfl _ (by exact g1) (by exact g2) (by rfl) (by exact g8) (by rfl)
    simp (maxSteps := 1000000) (implicitDefEqProofs := false) (disch := first | rfl | omega | assumption) only [go_sem, g1, g2, g8, ltT, ltF, leT, leF, hk']
    exact ih (j + 1) (by omega) _ hlr hr _ (by exact g1) (by exact g2) (by rfl)

theorem fit_step (t : List Int) : fitT t = !anyF (fun a => decide (tg t a a < 0)) 0 6 := by
  rw [Bool.eq_iff_iff, fit_iff, Bool.not_eq_true', anyF_false]
  constructor
  · intro h a _ ha
    have := h a (by omega)
    rw [decide_eq_false_iff_not]; omega
  · intro h a ha
    have := h a (by omega) (by omega)
    rw [decide_eq_false_iff_not] at this; omega

theorem c15_loop (o : AO) (t : List Int) (hl : t.length = 36) (r : Bool) :
    ∀ (q j : Nat), j + q = 6 → (!anyF (fun a => decide (tg t a a < 0)) j q) = r → ∀ E : Env, E.get 1 = .ptr H.length 0 → E.get 2 = .ptr (H.length + 1) 0 → E.get 41 = I j →
    Option.map (finishC H.length) (execL cfg0 prog0 ⟨79, none, false, H.length⟩ (todoAt Try.f79 15) ⟨E, [], H ++ [.box (.agg (t.map I)), .box (.agg (tz.map I))], none⟩) = some ⟨.ret (.tup [.agg (t.map I), .bool r]), H, none⟩ := by
  intro q
  have h4 := tlen hl
  have h5 := ttake hl
  induction q with
  | zero =>
    intro j hj hr E g1 g2 g41
    have hk' : ¬ (j : Int) < ((6 : Nat) : Int) := by omega
    simp only [anyF, Bool.not_false] at hr
    subst hr
    simp only [loopIt, todoPast, todoAt, todoOf, firstReg, ↓reduceIte, Option.some.injEq, Nat.reduceEqDiff, reduceCtorEq, Try.f79]
    rw [execL_inLoop]
    have hz := tlen tz_len
    have hz2 := ttake tz_len
    have hdz : List.drop 36 (tz.map I) = [] := List.drop_of_length_le (by rw [hz]; omega)
    simp (maxSteps := 1000000) (implicitDefEqProofs := false) (disch := first | rfl | omega | assumption) only [go_sem, g1, g2, g41, ltT, ltF, leT, leF, hk', alI, sealI, ltI, h4, h5, hz, hz2, hdz, Nat.le_refl]
    done
  | succ q ih =>
    intro j hj hr E g1 g2 g41
    have hk' : (j : Int) < ((6 : Nat) : Int) := by omega
    have hk2 : j < 6 := by omega
    have h1 := tg_get hl hk2 hk2
    have hj6 : ((j : Nat) : Int) < 6 := by omega
    have hz := tlen tz_len
    have hz2 := ttake tz_len
    have hdz : List.drop 36 (tz.map I) = [] := List.drop_of_length_le (by rw [hz]; omega)
    simp only [anyF] at hr
    by_cases hc : tg t j j < 0
    · rw [decide_eq_true hc, Bool.true_or, Bool.not_true] at hr
      subst hr
      simp only [loopIt, todoPast, todoAt, todoOf, firstReg, ↓reduceIte, Option.some.injEq, Nat.reduceEqDiff, reduceCtorEq, Try.f79]
      rw [execL_inLoop]
      simp (maxSteps := 1000000) (implicitDefEqProofs := false) (disch := first | rfl | omega | assumption) only [go_sem, g1, g2, g41, ltT, ltF, leT, leF, hk', alI, sealI, ltI, h1, h4, h5, hj6, hc, hz, hz2, hdz, Nat.le_refl]
      done
    · rw [decide_eq_false hc, Bool.false_or] at hr
      simp only [loopIt, todoPast, todoAt, todoOf, firstReg, ↓reduceIte, Option.some.injEq, Nat.reduceEqDiff, reduceCtorEq, Try.f79]
      rw [execL_inLoop]
      simp (maxSteps := 1000000) (implicitDefEqProofs := false) (disch := first | rfl | omega | assumption) only [go_sem, g1, g2, g41, ltT, ltF, leT, leF, hk', alI, sealI, ltI, h1, h4, h5, hj6, hc]
      exact ih (j + 1) (by omega) hr _ (by exact g1) (by exact g2) (by rfl)

theorem pr_closed {t : List Int} (hl : t.length = 36) (H : Heap) : callFL cfg0 prog0 false 79 [.agg (t.map I)] H none = some ⟨.ret (.tup [.agg ((closeW t).map I), .bool (fitT (closeW t))]), H, none⟩ := by
  have h4 := tlen hl
  have h5 := ttake hl
  have hlc := clTW_len 6 0 t hl
  have h1 := c2_loop (H := H) (.box (.agg (tz.map I))) (clTW 0 6 t)
  have h2 := c15_loop (H := H) (.box (.agg (tz.map I))) (clTW 0 6 t) hlc (fitT (closeW t)) 6 0 (by omega) (fit_step _).symm
  have hk' : True := trivial
  have ec : closeW t = clTW 0 6 t := by rw [closeW]
  rw [← ec] at h1 h2
  rw [tz_av] at h1 h2
  refine (callFL_eq fn79 rfl (by simp [Try.f79])).trans ?_
  simp (maxSteps := 1000000) (implicitDefEqProofs := false) (disch := first | rfl | omega | assumption) only [go_sem, ltT, ltF, leT, leF, alI, sealI, ltI, h4, h5]
  refine h1 _ _ (fun E g1 g2 => ?_) 6 0 (by omega) t hl rfl _ (by rfl) (by rfl) (by rfl)
  simp (maxSteps := 1000000) (implicitDefEqProofs := false) (disch := first | rfl | omega | assumption) only [go_sem, g1, g2, ltT, ltF, leT, leF, hk']
  exact h2 _ (by exact g1) (by exact g2) (by rfl)

end Go.Ab
/-
  Package pair: all comparators.
-/
namespace Go.Ab
open Go.Proofs
set_option linter.unusedSimpArgs false
set_option linter.unusedVariables false
set_option maxRecDepth 100000
set_option maxHeartbeats 2000000

variable {H : Heap}


structure SpAt (H : Heap) (p : Pr) (vb vr : AV) : Prop where
  bs : SlOk H 2 vb (p.bs.map spA)
  rs : SlOk H 5 vr (p.rs.map fun x => .agg [I x.a, I x.b, I x.m, I x.lo, I x.hi])

/-- A pair as a value, and a bench as it lies. -/
def Pr.av (p : Pr) (vb vr : AV) : AV := .agg [vb, I p.zlo, I p.zhi, I p.rlo, I p.rhi, vr]
def bnA (p : Pr) (vb vr vm : AV) : AV := .agg [vb, I p.zlo, I p.zhi, I p.rlo, I p.rhi, vr, vm]

/-- What comparators are told to. -/
structure HearsC {β : Type} (p : Pr) (p1 B N y : Nat) (vb vr vm : AV) (Hr : β → Heap) (g : β → Int × Int → β) : Prop where
  lr : ∀ st, (Hr st).length = N
  b1 : ∀ st, (Hr st)[p1]? = some (.box (.ptr B 0))
  b2 : ∀ st, (Hr st)[B]? = some (.box (bnA p vb vr vm))
  y : ∀ b st c, (p.zlo ≤ c.1 ∧ c.1 ≤ p.zhi) → (p.rlo ≤ c.2 ∧ c.2 ≤ p.rhi) → callVL cfg0 prog0 b false (.yield y) [.agg [I c.1, I c.2]] [] (Hr st) none = some ⟨.ret (.bool true), Hr (g st c), none⟩

def itR {β : Type} (g : β → Int × Int → β) (z : Int) : β → Int → Nat → β
  | st, _, 0 => st
  | st, r, q + 1 => itR g z (g st (z, r)) (r + 1) q
def itZ {β : Type} (g : β → Int × Int → β) (rlo : Int) (qr : Nat) : β → Int → Nat → β
  | st, _, 0 => st
  | st, z, q + 1 => itZ g rlo qr (itR g z st rlo qr) (z + 1) q

theorem upI_cons (a : Int) (q : Nat) : (List.range (q + 1)).map (fun (i : Nat) => a + (i : Int)) = a :: (List.range q).map (fun (i : Nat) => a + 1 + (i : Int)) := by
  rw [List.range_succ_eq_map, List.map_cons, List.map_map]
  congr 1
  · simp
  · apply List.map_congr_left
    intro i _
    simp only [Function.comp]
    omega

theorem itR_fold {β : Type} (g : β → Int × Int → β) (z : Int) : ∀ (q : Nat) (st : β) (r : Int), itR g z st r q = (((List.range q).map fun (i : Nat) => r + (i : Int)).map fun r => (z, r)).foldl g st
  | 0, st, r => rfl
  | q + 1, st, r => by rw [itR, itR_fold g z q, upI_cons]; rfl

theorem itZ_fold {β : Type} (g : β → Int × Int → β) (rlo : Int) (qr : Nat) : ∀ (q : Nat) (st : β) (z : Int), itZ g rlo qr st z q = (((List.range q).map fun (i : Nat) => z + (i : Int)).flatMap fun z => ((List.range qr).map fun (i : Nat) => rlo + (i : Int)).map fun r => (z, r)).foldl g st
  | 0, st, z => rfl
  | q + 1, st, z => by
    rw [itZ, itZ_fold g rlo qr q, upI_cons, List.flatMap_cons, List.foldl_append, itR_fold]

theorem itZ_combs {β : Type} (g : β → Int × Int → β) (p : Pr) (st : β) : itZ g p.rlo (p.rhi + 1 - p.rlo).toNat st p.zlo (p.zhi + 1 - p.zlo).toNat = (combs p).foldl g st := by
  rw [itZ_fold]; rfl

theorem cm_l2 {β : Type} {p : Pr} (ho : p.Ok) {p1 B N y : Nat} {vb vr vm : AV} {Hr : β → Heap} {g : β → Int × Int → β} (hh : HearsC p p1 B N y vb vr vm Hr g) (z : Int) (hz : p.zlo ≤ z ∧ z ≤ p.zhi) (s : β) (K : List Item) (R : Option Done) (hK : ∀ E : Env, E.get 0 = .func (.yield y) [] [] → E.get 1 = .ptr p1 0 → E.get 3 = I z → Option.map (finishC N) (execL cfg0 prog0 ⟨84, none, false, N⟩ K ⟨E, [], Hr s, none⟩) = R)  :
    ∀ (q j : Nat), j + q = (p.rhi + 1 - p.rlo).toNat → ∀ (st : β), ∀ (r : Int), r = p.rlo + j → itR g z st r q = s → ∀ E : Env, E.get 0 = .func (.yield y) [] [] → E.get 1 = .ptr p1 0 → E.get 3 = I z → E.get 4 = I r →
    Option.map (finishC N) (execL cfg0 prog0 ⟨84, none, false, N⟩ (loopIt Try.f84 4 :: .inBlock 2 :: K) ⟨E, [], Hr st, none⟩) = R := by
  intro q
  have hrb := ho.rate
  have hzb := ho.zero
  induction q with
  | zero =>
    intro j hj st r er hs E g0 g1 g3 g4
    have hk' : ¬ (j : Int) < (((p.rhi + 1 - p.rlo).toNat : Nat) : Int) := by omega
    simp only [itR] at hs
    subst hs
    simp only [loopIt, todoPast, todoAt, todoOf, firstReg, ↓reduceIte, Option.some.injEq, Nat.reduceEqDiff, reduceCtorEq, Try.f84]
    rw [execL_inLoop]
    have hgt : ¬ r ≤ p.rhi := by omega
    simp (maxSteps := 1000000) (implicitDefEqProofs := false) (disch := first | rfl | omega | assumption) only [go_sem, g0, g1, g3, g4, ltT, ltF, leT, leF, hk', hh.b1, hh.b2, bnA, hgt]
    exact hK _ (by exact g0) (by exact g1) (by exact g3)
  | succ q ih =>
    intro j hj st r er hs E g0 g1 g3 g4
    have hk' : (j : Int) < (((p.rhi + 1 - p.rlo).toNat : Nat) : Int) := by omega
    have hk2 : j < (p.rhi + 1 - p.rlo).toNat := by omega
    simp only [itR] at hs
    have hle : r ≤ p.rhi := by omega
    have hy := fun b => hh.y b st (z, r) hz ⟨by simp only; omega, hle⟩
    simp only at hy
    simp only [loopIt, todoPast, todoAt, todoOf, firstReg, ↓reduceIte, Option.some.injEq, Nat.reduceEqDiff, reduceCtorEq, Try.f84]
    rw [execL_inLoop]
    simp (maxSteps := 1000000) (implicitDefEqProofs := false) (disch := first | rfl | omega | assumption) only [go_sem, g0, g1, g3, g4, ltT, ltF, leT, leF, hk', hh.b1, hh.b2, bnA, hle, hy]
    exact ih (j + 1) (by omega) _ (r + 1) (by omega) hs _ (by exact g0) (by exact g1) (by exact g3) (by rfl)

theorem cm_l1 {β : Type} {p : Pr} (ho : p.Ok) {p1 B N y : Nat} {vb vr vm : AV} {Hr : β → Heap} {g : β → Int × Int → β} (hh : HearsC p p1 B N y vb vr vm Hr g) (s : β) :
    ∀ (q j : Nat), j + q = (p.zhi + 1 - p.zlo).toNat → ∀ (st : β), ∀ (z : Int), z = p.zlo + j → itZ g p.rlo (p.rhi + 1 - p.rlo).toNat st z q = s → ∀ E : Env, E.get 0 = .func (.yield y) [] [] → E.get 1 = .ptr p1 0 → E.get 3 = I z →
    Option.map (finishC N) (execL cfg0 prog0 ⟨84, none, false, N⟩ (todoAt Try.f84 1) ⟨E, [], Hr st, none⟩) = some ⟨.ret (.tup []), Hr s, none⟩ := by
  intro q
  have hrb := ho.rate
  have hzb := ho.zero
  have tr : ∀ st, (Hr st).take N = Hr st := fun st => List.take_of_length_le (by rw [hh.lr]; exact Nat.le_refl _)
  induction q with
  | zero =>
    intro j hj st z ez hs E g0 g1 g3
    have hk' : ¬ (j : Int) < (((p.zhi + 1 - p.zlo).toNat : Nat) : Int) := by omega
    simp only [itZ] at hs
    subst hs
    simp only [loopIt, todoPast, todoAt, todoOf, firstReg, ↓reduceIte, Option.some.injEq, Nat.reduceEqDiff, reduceCtorEq, Try.f84]
    rw [execL_inLoop]
    have hgt : ¬ z ≤ p.zhi := by omega
    simp (maxSteps := 1000000) (implicitDefEqProofs := false) (disch := first | rfl | omega | assumption) only [go_sem, g0, g1, g3, ltT, ltF, leT, leF, hk', hh.b1, hh.b2, bnA, hgt, tr]
    done
  | succ q ih =>
    intro j hj st z ez hs E g0 g1 g3
    have hk' : (j : Int) < (((p.zhi + 1 - p.zlo).toNat : Nat) : Int) := by omega
    have hk2 : j < (p.zhi + 1 - p.zlo).toNat := by omega
    simp only [itZ] at hs
    have hle : z ≤ p.zhi := by omega
    have hin := cm_l2 ho hh z ⟨by omega, hle⟩ (itR g z st p.rlo (p.rhi + 1 - p.rlo).toNat)
    simp only [loopIt, todoPast, todoAt, todoOf, firstReg, ↓reduceIte, Option.some.injEq, Nat.reduceEqDiff, reduceCtorEq, Try.f84]
    rw [execL_inLoop]
    simp (maxSteps := 1000000) (implicitDefEqProofs := false) (disch := first | rfl | omega | assumption) only [go_sem, g0, g1, g3, ltT, ltF, leT, leF, hk', hh.b1, hh.b2, bnA, hle]
    refine hin _ _ (fun E g0 g1 g3 => ?_) (p.rhi + 1 - p.rlo).toNat 0 (by omega) st p.rlo (by omega) rfl _ (by exact g0) (by exact g1) (by exact g3) (by rfl)
    simp (maxSteps := 1000000) (implicitDefEqProofs := false) (disch := first | rfl | omega | assumption) only [go_sem, g0, g1, g3, ltT, ltF, leT, leF, hk']
    exact ih (j + 1) (by omega) _ (z + 1) (by omega) hs _ (by exact g0) (by exact g1) (by rfl)

theorem pr_comp_it {β : Type} {p : Pr} (ho : p.Ok) {p1 B N y : Nat} {vb vr vm : AV} {Hr : β → Heap} {g : β → Int × Int → β} (hh : HearsC p p1 B N y vb vr vm Hr g) (st : β) :
    callFL cfg0 prog0 false 84 [.func (.yield y) [] [], .ptr p1 0] (Hr st) none = some ⟨.ret (.tup []), Hr ((combs p).foldl g st), none⟩ := by
  have hl := hh.lr st
  have hzb := ho.zero
  have h1 := cm_l1 ho hh _ (p.zhi + 1 - p.zlo).toNat 0 (by omega) st p.zlo (by omega) (itZ_combs g p st)
  refine (callFL_eq fn84 rfl (by simp [Try.f84])).trans ?_
  simp (maxSteps := 1000000) (implicitDefEqProofs := false) (disch := first | rfl | omega | assumption) only [go_sem, ltT, ltF, leT, leF, hh.b1, hh.b2, bnA, hl]
  exact h1 _ (by rfl) (by rfl) (by rfl)

theorem pr_comparators (B : Nat) (H : Heap) (hB : B < H.length) : callFL cfg0 prog0 false 78 [.ptr B 0] H none = some ⟨.ret (.func (.func 84) [] [.ptr H.length 0]), H ++ [.box (.ptr B 0)], none⟩ := by
  refine (callFL_eq fn78 rfl (by simp [Try.f78])).trans ?_
  simp (maxSteps := 1000000) (implicitDefEqProofs := false) (disch := first | rfl | omega | assumption) only [go_sem, ltT, ltF, leT, leF]
  done

end Go.Ab
