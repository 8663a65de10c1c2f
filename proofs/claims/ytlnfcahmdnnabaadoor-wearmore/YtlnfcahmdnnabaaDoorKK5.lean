/-
  A truth by remainders: plain.
-/
import Derived.Test.YtlnfcahmdnnabaaDoorKK4
import Derived.Test.YtlnfcahmdnnabaaDoorKK3
namespace Go.Ab
open Go.Proofs
set_option linter.unusedSimpArgs false
set_option linter.unusedVariables false
set_option maxRecDepth 100000

/-- So many uses, each by a remainder. -/
def useN (b : List Int) (lo hi : Int) : Nat → Int × Nat → Int × Nat
  | 0, s => s
  | c + 1, s => useN b lo hi c (s.1 - drawV b (s.2 + 1) lo hi, s.2 + 1)

theorem useN_at (b : List Int) (lo hi : Int) : ∀ c s, (useN b lo hi c s).2 = s.2 + c
  | 0, _ => rfl
  | c + 1, s => by rw [useN, useN_at b lo hi c]; simp only; omega

theorem useN_bd (b : List Int) {lo hi : Int} (h : lo ≤ hi) : ∀ (c : Nat) s, s.1 - c * hi ≤ (useN b lo hi c s).1 ∧ (useN b lo hi c s).1 ≤ s.1 - c * lo
  | 0, s => by simp [useN]
  | c + 1, s => by
    have hd := drawV_in b (s.2 + 1) h
    have ih := useN_bd b h c (s.1 - drawV b (s.2 + 1) lo hi, s.2 + 1)
    rw [useN]
    have e1 : ((c + 1 : Nat) : Int) * hi = c * hi + hi := by rw [Int.natCast_add, Int.add_mul]; simp
    have e2 : ((c + 1 : Nat) : Int) * lo = c * lo + lo := by rw [Int.natCast_add, Int.add_mul]; simp
    simp only at ih
    omega

/-- What an event does to a length. -/
def evS (b : List Int) (w : Wea) (e : Ev) (s : Int × Nat) : Int × Nat :=
  if e.k = 0 then useN b w.ulo w.uhi e.u.toNat s else if e.k = 2 then (s.1 - drawV b (s.2 + 1) e.lo e.hi, s.2 + 1) else s

/-- A reading that is right. -/
def evT (e : Ev) (n : Int) : Ev :=
  if e.k = 0 then e else if e.k = 2 then e else ⟨1, 0, n - min (e.hi - e.lo) 30 / 2, n + min (e.hi - e.lo) 30 - min (e.hi - e.lo) 30 / 2⟩

/-- The true length after so many events, and how many draws there were. -/
def tst (b : List Int) (w : Wea) : Nat → Int × Nat
  | 0 => (drawV b 1 w.llo w.lhi, 1)
  | j + 1 => evS b w (w.ev j) (tst b w j)

def tEv (b : List Int) (w : Wea) (i : Nat) : Ev := evT (w.ev i) (tst b w i).1

def esT (b : List Int) (w : Wea) (j : Nat) : List Ev := (List.range w.es.length).map fun i => if i < j then tEv b w i else w.ev i

def truW (b : List Int) (w : Wea) : Wea := { w with es := esT b w w.es.length }

def lenT (b : List Int) (w : Wea) (j : Nat) : List Int := (List.range (j + 1)).map fun i => (tst b w i).1

theorem esT_len (b : List Int) (w : Wea) (j : Nat) : (esT b w j).length = w.es.length := by simp [esT]

theorem esT_get (b : List Int) (w : Wea) (j : Nat) {i : Nat} (hi : i < w.es.length) : (esT b w j).getD i ev0 = if i < j then tEv b w i else w.ev i := by
  simp [esT, hi]

theorem ext_getD {l m : List Ev} (h : l.length = m.length) (e : ∀ i, i < l.length → l.getD i ev0 = m.getD i ev0) : l = m := by
  refine List.ext_getElem h fun i h1 h2 => ?_
  have := e i h1
  simpa [List.getD, h1, h2] using this

theorem getD_set (l : List Ev) (i k : Nat) (e : Ev) (hk : k < l.length) : (l.set i e).getD k ev0 = if i = k then e else l.getD k ev0 := by
  simp only [List.getD, List.getElem?_set]
  by_cases h : i = k
  · subst h; simp [hk]
  · simp [h]

theorem esT_zero (b : List Int) (w : Wea) : esT b w 0 = w.es := by
  refine ext_getD (esT_len ..) fun i hi => ?_
  rw [esT_len] at hi
  rw [esT_get b w 0 hi, if_neg (by omega)]

theorem esT_set (b : List Int) (w : Wea) {j : Nat} (hj : j < w.es.length) : (esT b w j).set j (tEv b w j) = esT b w (j + 1) := by
  refine ext_getD (by simp [esT_len]) fun i hi => ?_
  rw [List.length_set, esT_len] at hi
  rw [getD_set _ _ _ _ (by rw [esT_len]; exact hi), esT_get b w j hi, esT_get b w (j + 1) hi]
  by_cases c : j = i
  · subst c; simp
  · by_cases d : i < j
    · rw [if_neg c, if_pos d, if_pos (by omega)]
    · rw [if_neg c, if_neg d, if_neg (by omega)]

theorem esT_same (b : List Int) (w : Wea) {j : Nat} (hj : j < w.es.length) (h : tEv b w j = w.ev j) : esT b w (j + 1) = esT b w j := by
  rw [← esT_set b w hj, h]
  refine ext_getD (by simp) fun i hi => ?_
  rw [List.length_set, esT_len] at hi
  rw [getD_set _ _ _ _ (by rw [esT_len]; exact hi), esT_get b w j hi]
  by_cases c : j = i
  · subst c; simp
  · rw [if_neg c]

theorem lenT_succ (b : List Int) (w : Wea) (j : Nat) : lenT b w (j + 1) = lenT b w j ++ [(tst b w (j + 1)).1] := by
  simp [lenT, List.range_succ]

theorem lenT_len (b : List Int) (w : Wea) (j : Nat) : (lenT b w j).length = j + 1 := by simp [lenT]

theorem lenT_get (b : List Int) (w : Wea) (j : Nat) {i : Nat} (hi : i ≤ j) : (lenT b w j).getD i 0 = (tst b w i).1 := by
  simp [lenT, show i < j + 1 by omega]

/-- How far true lengths are, and how many draws. -/
theorem tst_bd {w : Wea} (ho : w.Ok) (b : List Int) : ∀ j, j ≤ w.es.length → -60 * (j : Int) ≤ (tst b w j).1 ∧ (tst b w j).1 ≤ 300 ∧ (tst b w j).2 ≤ 1 + 20 * j
  | 0, _ => by
    have hl := ho.len
    have := drawV_in b 1 (show w.llo ≤ w.lhi by omega)
    simp only [tst]
    omega
  | j + 1, hj => by
    have ih := tst_bd ho b j (by omega)
    have hu := ho.use
    simp only [tst, evS]
    rcases ho.ev j (by omega) with ⟨k0, k1⟩ | ⟨k0, k1⟩ | ⟨k0, k1⟩
    · simp only [k0, if_true]
      have h1 := useN_bd b (show w.ulo ≤ w.uhi by omega) (w.ev j).u.toNat (tst b w j)
      have h2 := useN_at b w.ulo w.uhi (w.ev j).u.toNat (tst b w j)
      have h3 : ((w.ev j).u.toNat : Int) * w.uhi ≤ 20 * 3 := Int.mul_le_mul (by omega) (by omega) (by omega) (by omega)
      have h4 : 0 ≤ ((w.ev j).u.toNat : Int) * w.ulo := Int.mul_nonneg (by omega) (by omega)
      omega
    · simp only [k0, if_false, (show ¬ (1 : Int) = 0 by decide), (show ¬ (1 : Int) = 2 by decide)]
      omega
    · simp only [k0, if_true, if_false, (show ¬ (2 : Int) = 0 by decide)]
      have := drawV_in b ((tst b w j).2 + 1) (show (w.ev j).lo ≤ (w.ev j).hi by omega)
      omega

theorem tEv_0 {b : List Int} {w : Wea} {j : Nat} (h : (w.ev j).k = 0) : tEv b w j = w.ev j := by simp only [tEv, evT, h, if_true]
theorem tEv_2 {b : List Int} {w : Wea} {j : Nat} (h : (w.ev j).k = 2) : tEv b w j = w.ev j := by simp only [tEv, evT, h, if_true, if_false, (show ¬ (2 : Int) = 0 by decide)]

theorem truW_ev (b : List Int) (w : Wea) {i : Nat} (hi : i < w.es.length) : (truW b w).ev i = tEv b w i := by
  show (esT b w w.es.length).getD i ev0 = _
  rw [esT_get b w _ hi, if_pos hi]

theorem truW_len (b : List Int) (w : Wea) : (truW b w).es.length = w.es.length := esT_len ..

/-- The true lengths are a truth. -/
theorem truW_T {w : Wea} (ho : w.Ok) (b : List Int) : (truW b w).T fun i => (tst b w i).1 := by
  constructor
  · have hl := ho.len
    exact drawV_in b 1 (show w.llo ≤ w.lhi by omega)
  · intro i hi
    rw [truW_len] at hi
    rw [truW_ev b w hi]
    have hu := ho.use
    show (tEv b w i).go (w.ulo, w.uhi) _ _
    simp only [tst, evS]
    rcases ho.ev i hi with ⟨k0, k1⟩ | ⟨k0, k1⟩ | ⟨k0, k1⟩
    · rw [tEv_0 k0]
      simp only [Ev.go, k0, if_true]
      have h1 := useN_bd b (show w.ulo ≤ w.uhi by omega) (w.ev i).u.toNat (tst b w i)
      have e : ((w.ev i).u.toNat : Int) = (w.ev i).u := by omega
      rw [e] at h1
      exact h1
    · simp only [tEv, evT, k0, if_false, (show ¬ (1 : Int) = 0 by decide), (show ¬ (1 : Int) = 2 by decide), Ev.go, if_true]
      exact ⟨by omega, by omega, trivial⟩
    · rw [tEv_2 k0]
      simp only [Ev.go, k0, if_true, if_false, (show ¬ (2 : Int) = 0 by decide)]
      have := drawV_in b ((tst b w i).2 + 1) (show (w.ev i).lo ≤ (w.ev i).hi by omega)
      omega

theorem truW_valid {w : Wea} (ho : w.Ok) (b : List Int) : (truW b w).valid = true := by
  rw [Wea.valid_iff]
  refine ⟨ho.len, ho.use, by rw [truW_len]; exact ho.many, fun i hi => ?_⟩
  rw [truW_len] at hi
  rw [truW_ev b w hi]
  have h8 := ho.many
  rcases ho.ev i hi with ⟨k0, k1⟩ | ⟨k0, k1⟩ | ⟨k0, k1⟩
  · rw [tEv_0 k0]; exact .inl ⟨k0, k1⟩
  · have := tst_bd ho b i (by omega)
    refine .inr (.inl ?_)
    simp only [tEv, evT, k0, if_false, (show ¬ (1 : Int) = 0 by decide), (show ¬ (1 : Int) = 2 by decide)]
    exact ⟨trivial, by omega, by omega, by omega⟩
  · rw [tEv_2 k0]; exact .inr (.inr ⟨k0, k1⟩)

/-- The uses of later days, by remainders. -/
def nowS (b : List Int) (lo hi : Int) (D : List Int) (x : Int) : Nat → Int × Nat
  | 0 => (x, 0)
  | j + 1 => useN b lo hi (D.getD j 0).toNat (nowS b lo hi D x j)

theorem nowS_bd {b : List Int} {lo hi : Int} (h : 0 ≤ lo ∧ lo ≤ hi ∧ hi ≤ 3) {D : List Int} (hD : ∀ i, i < D.length → 0 ≤ D.getD i 0 ∧ D.getD i 0 ≤ 20) (x y : Int) (hxy : y ≤ x) : ∀ j, j ≤ D.length → leftD hi D y j ≤ (nowS b lo hi D x j).1 ∧ (nowS b lo hi D x j).1 ≤ x ∧ x - 60 * j ≤ (nowS b lo hi D x j).1 ∧ (nowS b lo hi D x j).2 ≤ 20 * j
  | 0, _ => by simp [leftD, nowS]; exact hxy
  | j + 1, hj => by
    have ih := nowS_bd (b := b) h hD x y hxy j (by omega)
    have hd := hD j (by omega)
    have h1 := useN_bd b h.2.1 (D.getD j 0).toNat (nowS b lo hi D x j)
    have h2 := useN_at b lo hi (D.getD j 0).toNat (nowS b lo hi D x j)
    have e : ((D.getD j 0).toNat : Int) = D.getD j 0 := by omega
    have h3 : D.getD j 0 * hi ≤ 20 * 3 := Int.mul_le_mul (by omega) (by omega) (by omega) (by omega)
    have h4 : 0 ≤ D.getD j 0 * lo := Int.mul_nonneg (by omega) (by omega)
    rw [e] at h1
    simp only [leftD, nowS]
    omega

end Go.Ab
/-
  More is known of a block: plain.
-/
namespace Go.Ab
open Go.Proofs
set_option linter.unusedSimpArgs false
set_option linter.unusedVariables false
set_option maxRecDepth 100000

variable {H : Heap}

/-! ### More is known -/

/-- A second block of which each truth is one of the first: what lies where. -/
structure More (w z : Wea) (φ : Nat → Nat) : Prop where
  tr : ∀ l, z.T l → w.T (fun i => l (φ i))
  z0 : φ 0 = 0
  zn : ∀ l, z.T l → l (φ w.es.length) = l z.es.length
  le : ∀ i, i ≤ w.es.length → φ i ≤ z.es.length
  u : z.uhi = w.uhi

theorem More.can {w z : Wea} {φ : Nat → Nat} (h : More w z φ) (ho : w.Ok) (hz : z.Ok) (hc : z.can = true) : w.can = true := by
  obtain ⟨l, hl⟩ := (canT hz).1 hc
  exact (canT ho).2 ⟨_, h.tr l hl⟩

theorem More.at' {w z : Wea} {φ : Nat → Nat} (h : More w z φ) (ho : w.Ok) (hz : z.Ok) (hc : z.can = true) {i : Nat} (hi : i ≤ w.es.length) : (w.at w.rd w.L i).1 ≤ (z.at z.rd z.L (φ i)).1 ∧ (z.at z.rd z.L (φ i)).2 ≤ (w.at w.rd w.L i).2 := by
  have h1 := atT hz hc (h.le i hi)
  have hle := h1.1
  obtain ⟨l, hl, e1⟩ := (h1.2 _).2 ⟨Int.le_refl _, hle⟩
  obtain ⟨k, hk, e2⟩ := (h1.2 _).2 ⟨hle, Int.le_refl _⟩
  have a := at_inT ho (h.tr l hl) hi
  have b := at_inT ho (h.tr k hk) hi
  simp only [inP] at a b
  rw [e1] at a
  rw [e2] at b
  exact ⟨a.1, b.2⟩

theorem More.lost {w z : Wea} {φ : Nat → Nat} (h : More w z φ) (hv : w.valid = true) (hzv : z.valid = true) (hc : z.can = true) : w.lostP.1 ≤ z.lostP.1 ∧ z.lostP.2 ≤ w.lostP.2 := by
  have ho := w.valid_iff.1 hv
  have hz := z.valid_iff.1 hzv
  have hw := h.can ho hz hc
  refine hull_sub (lostT hzv hc) (lostT hv hw) ?_
  rintro x ⟨l, hl, e⟩
  refine ⟨_, h.tr l hl, ?_⟩
  show l (φ 0) - l (φ w.es.length) = x
  rw [h.z0, h.zn l hl]
  exact e

theorem More.last {w z : Wea} {φ : Nat → Nat} (h : More w z φ) (ho : w.Ok) (hz : z.Ok) (hc : z.can = true) : w.lastP.1 ≤ z.lastP.1 := by
  have hle := at_le hz hc (Nat.le_refl z.es.length)
  obtain ⟨l, hl, e⟩ := at_ofT hz hc (Nat.le_refl z.es.length) (x := (z.at z.rd z.L z.es.length).1) ⟨Int.le_refl _, hle⟩
  have a := at_inT ho (h.tr l hl) (Nat.le_refl w.es.length)
  simp only [inP] at a
  rw [h.zn l hl, e] at a
  exact a.1

theorem More.until {w z : Wea} {φ : Nat → Nat} (h : More w z φ) (hv : w.valid = true) (hzv : z.valid = true) (hc : z.can = true) {lim : Int} (hl : -1000 ≤ lim ∧ lim ≤ 1000) : (w.untilP lim).2 = 0 → (z.untilP lim).2 = 0 ∧ (w.untilP lim).1 ≤ (z.untilP lim).1 := by
  have ho := w.valid_iff.1 hv
  have hz := z.valid_iff.1 hzv
  have hw := h.can ho hz hc
  have hla := h.last ho hz hc
  have wi1 : wi lim (-1000) 1000 = true := wi_iff.2 hl
  have g1 : w.gate 0 (wi lim (-1000) 1000) = 0 := by rw [wi1]; exact gate_can hv hw
  have g2 : z.gate 0 (wi lim (-1000) 1000) = 0 := by rw [wi1]; exact gate_can hzv hc
  have hu := ho.use
  simp only [Wea.untilP, g1, g2, if_true]
  by_cases c : lim ≤ w.lastP.1
  · rw [if_pos c, if_pos (show lim ≤ z.lastP.1 by omega), h.u]
    intro _
    refine ⟨rfl, ?_⟩
    have := untN_mono (u := w.uhi) (d := w.lastP.1 - lim) (e := z.lastP.1 - lim) ⟨by omega, by omega⟩ (by omega) (by omega)
    simp only [untN] at this
    exact this
  · rw [if_neg c]
    intro hh; simp at hh

theorem sure_bit {w : Wea} (hv : w.valid = true) (hc : w.can = true) {lim : Int} (hl : -1000 ≤ lim ∧ lim ≤ 1000) {m : Nat} (hm : m < w.es.length) : (w.sureP lim).testBit m = decide ((w.at w.rd w.L (m + 1)).2 < lim) ∧ (w.perP lim).testBit m = decide ((w.at w.rd w.L (m + 1)).1 < lim) := by
  have wi1 : wi lim (-1000) 1000 = true := wi_iff.2 hl
  have g1 : w.gate 0 (wi lim (-1000) 1000) = 0 := by rw [wi1]; exact gate_can hv hc
  simp only [Wea.sureP, Wea.perP, g1, if_true, maskN_bit, hm, decide_true, Bool.true_and]
  exact ⟨rfl, rfl⟩

/-! ### A reading more -/

def Wea.ins (w : Wea) (p : Nat) (e : Ev) : Wea := { w with es := w.es.take p ++ e :: w.es.drop p }
def phi (p i : Nat) : Nat := if i ≤ p then i else i + 1

theorem ins_len (w : Wea) {p : Nat} (hp : p ≤ w.es.length) (e : Ev) : (w.ins p e).es.length = w.es.length + 1 := by
  simp only [Wea.ins, List.length_append, List.length_cons, List.length_take, List.length_drop]; omega

theorem ins_lo (w : Wea) {p : Nat} (hp : p ≤ w.es.length) (e : Ev) {i : Nat} (hi : i < p) : (w.ins p e).ev i = w.ev i := by
  simp only [Wea.ev, Wea.ins, List.getD_eq_getElem?_getD]
  rw [List.getElem?_append_left (by rw [List.length_take]; omega), List.getElem?_take, if_pos hi]

theorem ins_at (w : Wea) {p : Nat} (hp : p ≤ w.es.length) (e : Ev) : (w.ins p e).ev p = e := by
  simp only [Wea.ev, Wea.ins, List.getD_eq_getElem?_getD]
  rw [List.getElem?_append_right (by rw [List.length_take]; omega), List.length_take, show p - min p w.es.length = 0 by omega]
  rfl

theorem ins_hi (w : Wea) {p : Nat} (hp : p ≤ w.es.length) (e : Ev) {i : Nat} (hi : p ≤ i) : (w.ins p e).ev (i + 1) = w.ev i := by
  simp only [Wea.ev, Wea.ins, List.getD_eq_getElem?_getD]
  rw [List.getElem?_append_right (by rw [List.length_take]; omega), List.length_take, show i + 1 - min p w.es.length = i - p + 1 by omega, List.getElem?_cons_succ, List.getElem?_drop, show p + (i - p) = i by omega]

theorem ins_more (w : Wea) {p : Nat} (hp : p ≤ w.es.length) (q : Int × Int) : More w (w.ins p (rdE q)) (phi p) where
  tr l hl := by
    obtain ⟨h1, h2⟩ := hl
    refine ⟨?_, fun i hi => ?_⟩
    · simp only [phi, Nat.zero_le, if_true]; exact h1
    · by_cases hip : i < p
      · have := h2 i (by rw [ins_len w hp]; omega)
        rw [ins_lo w hp _ hip] at this
        simp only [phi, if_pos (show i ≤ p by omega), if_pos (show i + 1 ≤ p by omega)]
        exact this
      · have h3 := h2 (i + 1) (by rw [ins_len w hp]; omega)
        rw [ins_hi w hp _ (show p ≤ i by omega)] at h3
        simp only [phi, if_neg (show ¬ i + 1 ≤ p by omega)]
        by_cases e : i = p
        · subst e
          have h4 := h2 i (by rw [ins_len w hp]; omega)
          rw [ins_at w hp, rdE_go] at h4
          simp only [Nat.le_refl, if_true]
          rw [← h4.2]
          exact h3
        · rw [if_neg (show ¬ i ≤ p by omega)]
          exact h3
  z0 := by simp [phi]
  zn l hl := by
    rw [ins_len w hp]
    by_cases e : p = w.es.length
    · have h4 := hl.2 p (by rw [ins_len w hp]; omega)
      rw [ins_at w hp, rdE_go] at h4
      simp only [phi, if_pos (show w.es.length ≤ p by omega)]
      rw [e] at h4
      exact h4.2.symm
    · simp only [phi, if_neg (show ¬ w.es.length ≤ p by omega)]
  le i hi := by
    rw [ins_len w hp]
    simp only [phi]
    split <;> omega
  u := rfl

/-! ### Narrower readings -/

/-- A narrower reading. -/
def nrE (n i : Nat) (e : Ev) : Ev := if e.k = 1 then (if (n + i) % 2 = 0 then ⟨e.k, e.u, mn e.hi (e.lo + 1), e.hi⟩ else ⟨e.k, e.u, e.lo, mx e.lo (e.hi - 1)⟩) else e
def nrL (w : Wea) (n j : Nat) : List Ev := (List.range w.es.length).map fun i => if i < j then nrE n i (w.ev i) else w.ev i
def Wea.nar (w : Wea) (n : Nat) : Wea := { w with es := nrL w n w.es.length }

theorem nrL_len (w : Wea) (n j : Nat) : (nrL w n j).length = w.es.length := by simp [nrL]
theorem nrL_get (w : Wea) (n j : Nat) {i : Nat} (hi : i < w.es.length) : (nrL w n j).getD i ev0 = if i < j then nrE n i (w.ev i) else w.ev i := by
  simp [nrL, hi]
theorem nrL_zero (w : Wea) (n : Nat) : nrL w n 0 = w.es := by
  refine ext_getD (nrL_len w n 0) (fun i hi => ?_)
  rw [nrL_len] at hi
  rw [nrL_get w n 0 hi, if_neg (by omega)]
theorem nrL_set (w : Wea) (n : Nat) {j : Nat} (hj : j < w.es.length) : (nrL w n j).set j (nrE n j (w.ev j)) = nrL w n (j + 1) := by
  refine ext_getD (by rw [List.length_set, nrL_len, nrL_len]) (fun i hi => ?_)
  rw [List.length_set, nrL_len] at hi
  rw [getD_set _ _ _ _ (by rw [nrL_len]; exact hi), nrL_get w n j hi, nrL_get w n (j + 1) hi]
  by_cases e : j = i
  · subst e; rw [if_pos rfl, if_pos (by omega)]
  · rw [if_neg e]
    by_cases h : i < j
    · rw [if_pos h, if_pos (by omega)]
    · rw [if_neg h, if_neg (by omega)]
theorem nrL_same (w : Wea) (n : Nat) {j : Nat} (hj : j < w.es.length) (h : nrE n j (w.ev j) = w.ev j) : nrL w n (j + 1) = nrL w n j := by
  rw [← nrL_set w n hj, h]
  refine ext_getD (by rw [List.length_set]) (fun i hi => ?_)
  rw [List.length_set, nrL_len] at hi
  rw [getD_set _ _ _ _ (by rw [nrL_len]; exact hi)]
  by_cases e : j = i
  · subst e; rw [if_pos rfl, nrL_get w n j hi, if_neg (by omega)]
  · rw [if_neg e]

theorem nar_len (w : Wea) (n : Nat) : (w.nar n).es.length = w.es.length := nrL_len ..
theorem nar_ev (w : Wea) (n : Nat) {i : Nat} (hi : i < w.es.length) : (w.nar n).ev i = nrE n i (w.ev i) := by
  show (nrL w n w.es.length).getD i ev0 = _
  rw [nrL_get w n _ hi, if_pos hi]

theorem nrE_go {n i : Nat} {e : Ev} (hle : e.k = 1 → e.lo ≤ e.hi) {u : Int × Int} {x y : Int} (h : (nrE n i e).go u x y) : e.go u x y := by
  simp only [nrE] at h
  split at h
  · rename_i hk
    have h1 : ∀ a b : Int, (⟨e.k, e.u, a, b⟩ : Ev).go u x y ↔ inP (a, b) x ∧ y = x := fun a b => by simp only [Ev.go, hk, inP]; simp [and_assoc]
    have hlh := hle hk
    have h2 : e.go u x y ↔ inP (e.lo, e.hi) x ∧ y = x := h1 e.lo e.hi
    rw [h2]
    split at h
    · rw [h1] at h
      refine ⟨⟨?_, h.1.2⟩, h.2⟩
      have a := h.1.1
      simp only [mn] at a
      show e.lo ≤ x
      split at a <;> omega
    · rw [h1] at h
      refine ⟨⟨h.1.1, ?_⟩, h.2⟩
      have b := h.1.2
      simp only [mx] at b
      show x ≤ e.hi
      split at b <;> omega
  · exact h

theorem nar_more {w : Wea} (ho : w.Ok) (n : Nat) : More w (w.nar n) (fun i => i) where
  tr l hl := by
    obtain ⟨h1, h2⟩ := hl
    refine ⟨h1, fun i hi => ?_⟩
    have := h2 i (by rw [nar_len]; exact hi)
    rw [nar_ev w n hi] at this
    refine nrE_go (fun hk => ?_) this
    have := ho.ev i hi
    omega
  z0 := rfl
  zn l _ := by rw [nar_len]
  le i hi := by rw [nar_len]; exact hi
  u := rfl

theorem ins_ok {w : Wea} {p : Nat} (hp : p ≤ w.es.length) (e : Ev) : (w.ins p e).es.map Ev.av = (w.es.take p).map Ev.av ++ (e.av :: (w.es.drop p).map Ev.av) := by
  simp only [Wea.ins, List.map_append, List.map_cons]

/-- What lies behind an event. -/
structure Step (w z : Wea) (φ : Nat → Nat) (m o : Nat) : Prop where
  hm : m < w.es.length
  ho : o < z.es.length
  e : φ (m + 1) = o + 1

theorem bit_in {w : Wea} {f : Nat → Bool} {m : Nat} (hm : m < w.es.length) : (maskN f w.es.length).testBit m = f m := by
  rw [maskN_bit]; simp [hm]

theorem More.step {w z : Wea} {φ : Nat → Nat} (h : More w z φ) (hv : w.valid = true) (hzv : z.valid = true) (hc : z.can = true) {m o : Nat} (s : Step w z φ m o) (lim : Int) :
    ((w.afterP m).1 ≤ (z.afterP o).1 ∧ (z.afterP o).2 ≤ (w.afterP m).2) ∧ ((w.sureP lim).testBit m = true → (-1000 ≤ lim ∧ lim ≤ 1000) → (z.sureP lim).testBit o = true) ∧ ((w.perP lim).testBit m = false → (-1000 ≤ lim ∧ lim ≤ 1000) → (z.perP lim).testBit o = false) := by
  have ho := w.valid_iff.1 hv
  have hz := z.valid_iff.1 hzv
  have hw := h.can ho hz hc
  have hm := s.hm
  have ho' := s.ho
  have a := h.at' ho hz hc (i := m + 1) (by omega)
  rw [s.e] at a
  obtain ⟨e1, -⟩ := after_ok hv hw hm
  obtain ⟨e2, -⟩ := after_ok hzv hc ho'
  refine ⟨by rw [e1, e2]; exact a, fun hs hl => ?_, fun hs hl => ?_⟩
  · rw [(sure_bit hv hw hl hm).1] at hs
    rw [(sure_bit hzv hc hl ho').1]
    simp only [decide_eq_true_eq] at hs ⊢
    omega
  · rw [(sure_bit hv hw hl hm).2] at hs
    rw [(sure_bit hzv hc hl ho').2]
    simp only [decide_eq_false_iff_not] at hs ⊢
    omega

end Go.Ab
/-
  A block that is longer by a number, and one with two uses in one: plain.
-/
namespace Go.Ab
open Go.Proofs
set_option linter.unusedSimpArgs false
set_option linter.unusedVariables false
set_option maxRecDepth 100000

/-- An event of a block that is longer. -/
def upE (n : Int) (e : Ev) : Ev := if e.k = 1 then ⟨e.k, e.u, e.lo + n, e.hi + n⟩ else e

def Wea.up (w : Wea) (n : Int) : Wea := { w with llo := w.llo + n, lhi := w.lhi + n, es := w.es.map (upE n) }

theorem up_len (w : Wea) (n : Int) : (w.up n).es.length = w.es.length := by simp [Wea.up]

theorem up_ev (w : Wea) (n : Int) {i : Nat} (hi : i < w.es.length) : (w.up n).ev i = upE n (w.ev i) := by
  simp [Wea.up, Wea.ev, List.getD, hi]

theorem upE_k (n : Int) (e : Ev) : (upE n e).k = e.k := by
  simp only [upE]
  split <;> rfl

theorem up_rd (w : Wea) (n : Int) : (w.up n).rd = w.rd := by
  refine Nat.eq_of_testBit_eq fun i => ?_
  rw [rd_bit, rd_bit, up_len]
  by_cases hi : i < w.es.length
  · rw [up_ev w n hi, upE_k]
  · simp [hi]

theorem up_step {w : Wea} (ho : w.Ok) (n : Int) (s : Nat) {i : Nat} (hi : i < w.es.length) (x y : Int) : ((w.up n).evz s i).go (x + n) (y + n) ↔ (w.evz s i).go x y := by
  simp only [Wea.evz, up_ev w n hi, upE_k]
  rcases ho.ev i hi with ⟨k0, k1⟩ | ⟨k0, k1⟩ | ⟨k0, k1⟩
  · have e : upE n (w.ev i) = w.ev i := by simp only [upE, k0, if_false, (show ¬ (0 : Int) = 1 by decide)]
    simp only [k0, if_true, EvZ.go, e]
    show x + n - (w.ev i).u * w.uhi ≤ y + n ∧ y + n ≤ x + n - (w.ev i).u * w.ulo ↔ _
    omega
  · have e : upE n (w.ev i) = ⟨(w.ev i).k, (w.ev i).u, (w.ev i).lo + n, (w.ev i).hi + n⟩ := by simp only [upE, k0, if_true]
    cases hb : s.testBit i
    · simp only [k0, if_false, Bool.false_eq_true, EvZ.go, (show ¬ (1 : Int) = 0 by decide), (show ¬ (1 : Int) = 2 by decide)]
      omega
    · simp only [k0, if_true, if_false, EvZ.go, e, (show ¬ (1 : Int) = 0 by decide), (show ¬ (1 : Int) = 2 by decide)]
      omega
  · have e : upE n (w.ev i) = w.ev i := by simp only [upE, k0, if_false, (show ¬ (2 : Int) = 1 by decide)]
    simp only [k0, if_true, if_false, EvZ.go, e, (show ¬ (2 : Int) = 0 by decide)]
    omega

theorem up_Tr {w : Wea} (ho : w.Ok) (n : Int) (s : Nat) (l : Nat → Int) : (w.up n).Tr s (w.up n).L (fun i => l i + n) ↔ w.Tr s w.L l := by
  constructor
  · rintro ⟨h1, h2⟩
    refine ⟨by simp only [inP, Wea.L, Wea.up] at h1 ⊢; omega, fun i hi => ?_⟩
    have := h2 i (by rw [up_len]; exact hi)
    exact (up_step ho n s hi _ _).1 this
  · rintro ⟨h1, h2⟩
    refine ⟨by simp only [inP, Wea.L, Wea.up] at h1 ⊢; omega, fun i hi => ?_⟩
    rw [up_len] at hi
    exact (up_step ho n s hi _ _).2 (h2 i hi)

theorem up_Tr' {w : Wea} (ho : w.Ok) (n : Int) (s : Nat) (l : Nat → Int) : (w.up n).Tr s (w.up n).L l ↔ w.Tr s w.L (fun i => l i - n) := by
  rw [← up_Tr ho n s]
  simp only [Int.sub_add_cancel]

theorem up_T {w : Wea} (ho : w.Ok) (n : Int) (l : Nat → Int) : (w.up n).T l ↔ w.T (fun i => l i - n) := by
  rw [← T_iff, ← T_iff, up_rd, up_Tr' ho]

theorem up_canB {w : Wea} (ho : w.Ok) {n : Int} (hx : (w.up n).Ok) (s : Nat) : (w.up n).canB s (w.up n).L = w.canB s w.L := by
  rw [Bool.eq_iff_iff, canB_iff hx s (L_ok hx), canB_iff ho s (L_ok ho)]
  exact ⟨fun ⟨l, h⟩ => ⟨_, (up_Tr' ho n s l).1 h⟩, fun ⟨l, h⟩ => ⟨_, (up_Tr ho n s l).2 h⟩⟩

theorem up_can {w : Wea} (ho : w.Ok) {n : Int} (hx : (w.up n).Ok) : (w.up n).can = w.can := by
  have := up_canB ho hx w.rd
  rw [← up_rd w n] at this
  rw [Wea.can, this, up_rd]

theorem up_bad {w : Wea} (ho : w.Ok) {n : Int} (hx : (w.up n).Ok) (t : Nat) : (w.up n).Bad t ↔ w.Bad t := by
  simp only [Wea.Bad, up_len, up_rd, up_canB ho hx]

theorem up_cs {w : Wea} (ho : w.Ok) {n : Int} (hx : (w.up n).Ok) (hc : w.can = false) : (w.up n).cs = w.cs := by
  have hcx : (w.up n).can = false := by rw [up_can ho hx]; exact hc
  exact cs_uniq hc ((up_bad ho hx _).1 (cs_bad hcx)) fun t ht => cs_least hcx ((up_bad ho hx t).2 ht)

theorem up_at {w : Wea} (ho : w.Ok) {n : Int} (hx : (w.up n).Ok) (hc : w.can = true) {i : Nat} (hi : i ≤ w.es.length) : (w.up n).at (w.up n).rd (w.up n).L i = ((w.at w.rd w.L i).1 + n, (w.at w.rd w.L i).2 + n) := by
  have h1 := atT ho hc hi
  have h2 := atT hx (by rw [up_can ho hx]; exact hc) (i := i) (by rw [up_len]; exact hi)
  refine isSp_uniq h2 ⟨by have := h1.1; simp only; omega, fun x => ?_⟩
  have := h1.2 (x - n)
  simp only [inP] at this ⊢
  constructor
  · rintro ⟨l, a, rfl⟩
    have := this.1 ⟨_, (up_T ho n l).1 a, rfl⟩
    omega
  · intro hx'
    obtain ⟨l, a, b⟩ := this.2 (by omega)
    exact ⟨fun i => l i + n, (up_T ho n _).2 (by simpa using a), by simp only [b]; omega⟩

theorem up_lost {w : Wea} (ho : w.Ok) {n : Int} (hx : (w.up n).Ok) (hc : w.can = true) : (w.up n).lostP = w.lostP := by
  have h1 := lostT (w.valid_iff.2 ho) hc
  have h2 := lostT ((w.up n).valid_iff.2 hx) (by rw [up_can ho hx]; exact hc)
  refine hull_uniq h2 (hull_cong (fun x => ?_) h1)
  rw [up_len]
  constructor
  · rintro ⟨l, a, rfl⟩
    exact ⟨fun i => l i + n, (up_T ho n _).2 (by simpa using a), by show l 0 + n - (l w.es.length + n) = _; omega⟩
  · rintro ⟨l, a, rfl⟩
    exact ⟨_, (up_T ho n l).1 a, by show l 0 - n - (l w.es.length - n) = _; omega⟩

/-- Two uses in one. -/
def Wea.join (w : Wea) : Wea := { w with es := w.es.take (w.es.length - 2) ++ [⟨0, (w.ev (w.es.length - 1)).u + (w.ev (w.es.length - 2)).u, 0, 0⟩] }

theorem join_len {w : Wea} (h : 2 ≤ w.es.length) : w.join.es.length = w.es.length - 1 := by
  simp only [Wea.join, List.length_append, List.length_take, List.length_cons, List.length_nil]
  omega

theorem join_ev {w : Wea} (h : 2 ≤ w.es.length) {i : Nat} (hi : i < w.es.length - 2) : w.join.ev i = w.ev i := by
  have : i < (w.es.take (w.es.length - 2)).length := by rw [List.length_take]; omega
  simp only [Wea.join, Wea.ev, List.getD, List.getElem?_append_left this, List.getElem?_take, hi, if_true]

theorem join_end {w : Wea} (h : 2 ≤ w.es.length) : w.join.ev (w.es.length - 2) = ⟨0, (w.ev (w.es.length - 1)).u + (w.ev (w.es.length - 2)).u, 0, 0⟩ := by
  have e : (w.es.take (w.es.length - 2)).length = w.es.length - 2 := by rw [List.length_take]; omega
  simp only [Wea.join, Wea.ev, List.getD]
  rw [List.getElem?_append_right (by rw [e]; exact Nat.le_refl _), e]
  simp

theorem join_to {w : Wea} (h : 2 ≤ w.es.length) (k1 : (w.ev (w.es.length - 1)).k = 0) (k2 : (w.ev (w.es.length - 2)).k = 0) {l : Nat → Int} (hl : w.T l) : w.join.T fun i => if i ≤ w.es.length - 2 then l i else l w.es.length := by
  refine ⟨by show inP w.L (if 0 ≤ _ then l 0 else _); rw [if_pos (Nat.zero_le _)]; exact hl.1, fun i hi => ?_⟩
  rw [join_len h] at hi
  by_cases c : i = w.es.length - 2
  · subst c
    rw [join_end h]
    have a := hl.2 (w.es.length - 2) (by omega)
    have b := hl.2 (w.es.length - 1) (by omega)
    rw [show w.es.length - 2 + 1 = w.es.length - 1 by omega] at a
    rw [show w.es.length - 1 + 1 = w.es.length by omega] at b
    simp only [Ev.go, k1, k2, if_true] at a b
    simp only [Ev.go, if_true, Nat.le_refl, show ¬ w.es.length - 2 + 1 ≤ w.es.length - 2 by omega, if_false, Int.add_mul]
    show _ - (_ * w.uhi + _ * w.uhi) ≤ _ ∧ _ ≤ _ - (_ * w.ulo + _ * w.ulo)
    omega
  · rw [join_ev h (by omega)]
    have a := hl.2 i (by omega)
    show (w.ev i).go w.U _ _
    simpa [show i ≤ w.es.length - 2 by omega, show i + 1 ≤ w.es.length - 2 by omega] using a

theorem join_of {w : Wea} (ho : w.Ok) (h : 2 ≤ w.es.length) (k1 : (w.ev (w.es.length - 1)).k = 0) (k2 : (w.ev (w.es.length - 2)).k = 0) {l : Nat → Int} (hl : w.join.T l) : ∃ m, w.T m ∧ m 0 = l 0 ∧ m w.es.length = l (w.es.length - 1) := by
  have a := hl.2 (w.es.length - 2) (by rw [join_len h]; omega)
  rw [join_end h, show w.es.length - 2 + 1 = w.es.length - 1 by omega] at a
  simp only [Ev.go, if_true, Int.add_mul] at a
  have hu := ho.use
  have e1 := ho.ev (w.es.length - 1) (by omega)
  have e2 := ho.ev (w.es.length - 2) (by omega)
  have b1 : (w.ev (w.es.length - 1)).u * w.ulo ≤ (w.ev (w.es.length - 1)).u * w.uhi := Int.mul_le_mul_of_nonneg_left (by omega) (by omega)
  have b2 : (w.ev (w.es.length - 2)).u * w.ulo ≤ (w.ev (w.es.length - 2)).u * w.uhi := Int.mul_le_mul_of_nonneg_left (by omega) (by omega)
  change l (w.es.length - 2) - ((w.ev (w.es.length - 1)).u * w.uhi + (w.ev (w.es.length - 2)).u * w.uhi) ≤ l (w.es.length - 1) ∧ l (w.es.length - 1) ≤ l (w.es.length - 2) - ((w.ev (w.es.length - 1)).u * w.ulo + (w.ev (w.es.length - 2)).u * w.ulo) at a
  obtain ⟨z, hz⟩ : ∃ z, max (l (w.es.length - 2) - (w.ev (w.es.length - 2)).u * w.uhi) (l (w.es.length - 1) + (w.ev (w.es.length - 1)).u * w.ulo) = z := ⟨_, rfl⟩
  refine ⟨fun i => if i ≤ w.es.length - 2 then l i else if i = w.es.length - 1 then z else l (w.es.length - 1), ⟨by show inP w.L (if 0 ≤ _ then l 0 else _); rw [if_pos (Nat.zero_le _)]; exact hl.1, fun i hi => ?_⟩, by simp, by simp [show ¬ w.es.length ≤ w.es.length - 2 by omega, show ¬ w.es.length = w.es.length - 1 by omega]⟩
  by_cases c : i < w.es.length - 2
  · have b := hl.2 i (by rw [join_len h]; omega)
    rw [join_ev h c] at b
    change (w.ev i).go w.U _ _ at b
    simpa [show i ≤ w.es.length - 2 by omega, show i + 1 ≤ w.es.length - 2 by omega] using b
  · by_cases d : i = w.es.length - 2
    · subst d
      simp only [Nat.le_refl, if_true, show ¬ w.es.length - 2 + 1 ≤ w.es.length - 2 by omega, if_false, show w.es.length - 2 + 1 = w.es.length - 1 by omega, Ev.go, k2]
      show _ - _ * w.uhi ≤ _ ∧ _ ≤ _ - _ * w.ulo
      omega
    · have d' : i = w.es.length - 1 := by omega
      subst d'
      simp only [show ¬ w.es.length - 1 ≤ w.es.length - 2 by omega, if_false, if_true, show ¬ w.es.length - 1 + 1 ≤ w.es.length - 2 by omega, show ¬ w.es.length - 1 + 1 = w.es.length - 1 by omega, Ev.go, k1]
      show _ - _ * w.uhi ≤ _ ∧ _ ≤ _ - _ * w.ulo
      omega

theorem join_can {w : Wea} (ho : w.Ok) (hy : w.join.Ok) (h : 2 ≤ w.es.length) (k1 : (w.ev (w.es.length - 1)).k = 0) (k2 : (w.ev (w.es.length - 2)).k = 0) : w.join.can = w.can := by
  rw [Bool.eq_iff_iff, canT hy, canT ho]
  exact ⟨fun ⟨l, hl⟩ => by obtain ⟨m, a, -⟩ := join_of ho h k1 k2 hl; exact ⟨m, a⟩, fun ⟨l, hl⟩ => ⟨_, join_to h k1 k2 hl⟩⟩

theorem join_last {w : Wea} (ho : w.Ok) (hy : w.join.Ok) (h : 2 ≤ w.es.length) (k1 : (w.ev (w.es.length - 1)).k = 0) (k2 : (w.ev (w.es.length - 2)).k = 0) (hc : w.can = true) : w.join.lastP = w.lastP := by
  have h1 := atT ho hc (Nat.le_refl w.es.length)
  have h2 := atT hy (by rw [join_can ho hy h k1 k2]; exact hc) (Nat.le_refl w.join.es.length)
  refine isSp_uniq h2 ⟨h1.1, fun x => ?_⟩
  refine Iff.trans ?_ (h1.2 x)
  rw [join_len h]
  constructor
  · rintro ⟨l, a, rfl⟩
    obtain ⟨m, b, -, c⟩ := join_of ho h k1 k2 a
    exact ⟨m, b, c⟩
  · rintro ⟨l, a, rfl⟩
    exact ⟨_, join_to h k1 k2 a, by simp only [show ¬ w.es.length - 1 ≤ w.es.length - 2 by omega, if_false]⟩

theorem join_lost {w : Wea} (ho : w.Ok) (hy : w.join.Ok) (h : 2 ≤ w.es.length) (k1 : (w.ev (w.es.length - 1)).k = 0) (k2 : (w.ev (w.es.length - 2)).k = 0) (hc : w.can = true) : w.join.lostP = w.lostP := by
  have h1 := lostT (w.valid_iff.2 ho) hc
  have h2 := lostT (w.join.valid_iff.2 hy) (by rw [join_can ho hy h k1 k2]; exact hc)
  refine hull_uniq h2 (hull_cong (fun x => ?_) h1)
  rw [join_len h]
  constructor
  · rintro ⟨l, a, rfl⟩
    exact ⟨_, join_to h k1 k2 a, by simp only [show ¬ w.es.length - 1 ≤ w.es.length - 2 by omega, if_false, Nat.zero_le, if_true]⟩
  · rintro ⟨l, a, rfl⟩
    obtain ⟨m, b, c, d⟩ := join_of ho h k1 k2 a
    exact ⟨m, b, by rw [c, d]⟩

/-- What a use bears is as much, for limits that are as much higher. -/
theorem until_eq {w x : Wea} {lim d : Int} (hu : x.uhi = w.uhi) (hl : x.lastP.1 = w.lastP.1 + d) (h1 : w.gate 0 (wi lim (-1000) 1000) = 0) (h2 : x.gate 0 (wi (lim + d) (-1000) 1000) = 0) : x.untilP (lim + d) = w.untilP lim := by
  rw [untilP_can h1, untilP_can h2, hu, hl]
  rw [show w.lastP.1 + d - (lim + d) = w.lastP.1 - lim by omega]
  by_cases c : lim ≤ w.lastP.1
  · rw [if_pos c, if_pos (by omega)]
  · rw [if_neg c, if_neg (by omega)]

end Go.Ab
/-
  A block with an event more; WearFits, walked.
-/
namespace Go.Ab
open Go.Proofs
set_option linter.unusedSimpArgs false
set_option linter.unusedVariables false
set_option maxRecDepth 100000

variable {H : Heap}

/-- A block's slice, once it has been handed back. -/
abbrev slE (es : List Ev) : AV := .sl false (es.map Ev.av)

theorem slE_at (w : Wea) (H : Heap) : WeaAt H w (slE w.es) := ⟨⟨rfl, by simp only [List.mem_map]; rintro _ ⟨x, _, rfl⟩; rfl⟩⟩

theorem law_with {w : Wea} {ve : AV} (h : WeaAt H w ve) (hl : w.es.length ≤ 1000) (e : Ev) :
    callFL cfg0 prog0 false 34 [w.av ve, e.av] H none = some ⟨.ret (.tup [(w.snoc e).av (slE (w.snoc e).es), .bool (decide ((w.es.length : Int) + 1 ≤ 8))]), H, none⟩ := by
  have s1 := h.es.scal
  have s2 := h.es.len
  have he := fun G : Heap => (h.es.app G).elems
  have he2 := evz_lt 0 w.es
  have he3 := evz_ok w.es
  have hA : ∀ G : Heap, addElem (H ++ G) 4 true (.sl true []) (w.es.map Ev.av) = some (.gsl (H ++ G).length w.es.length, (H ++ G) ++ [.grow 4 (w.es.map Ev.av)]) := by
    intro G
    simp [addElem, elemsOk, he2, he3, ltL, maxLenA]
    omega
  have hB : ∀ a b c d : AO, addElem (H ++ [a, b, c, d, .grow 4 (w.es.map Ev.av)]) 4 true (.gsl (H.length + 4) w.es.length) [.agg [I e.k, I e.u, I e.lo, I e.hi]] = some (.gsl (H.length + 4) (w.es.length + 1), H ++ [a, b, c, d, .grow 4 (w.es.map Ev.av ++ [.agg [I e.k, I e.u, I e.lo, I e.hi]])]) := by
    intro a b c d
    rw [add_gsl (xs := w.es.map Ev.av) (by rw [get_at']; rfl) (by rw [List.length_map]) rfl rfl (by simp; omega), set_at']
    rfl
  simp only [Wea.av, Ev.av]
  refine (callFL_eq fn34 rfl (by simp [Tryd.f34])).trans ?_
  simp (maxSteps := 1000000) (implicitDefEqProofs := false) (disch := first | rfl | omega | assumption) only [go_sem, ltT, ltF, leT, leF, s1, s2]
  rw [chkK_of]; rotate_left; kernel_rfl
  simp (maxSteps := 1000000) (implicitDefEqProofs := false) (disch := first | rfl | omega | assumption) only [go_sem, ltT, ltF, leT, leF, s1, s2, he, hA, hB]
  rw [chkK_of]; rotate_left; kernel_rfl
  simp (maxSteps := 1000000) (implicitDefEqProofs := false) (disch := first | rfl | omega | assumption) only [go_sem, ltT, ltF, leT, leF, s1, s2, he, hA, hB]
  simp [Wea.snoc, slE, Ev.av]

theorem rem60 {n : Int} (h : 0 ≤ n) : n.tmod 60 = n % 60 ∧ 0 ≤ n % 60 ∧ n % 60 < 60 := ⟨Int.tmod_eq_emod_of_nonneg h, Int.emod_nonneg _ (by decide), Int.emod_lt_of_pos _ (by decide)⟩

theorem same2 (x y a b : Int) : sameL [I x, I y] [I a, I b] = (decide (x = a) && decide (y = b)) := by
  simp only [sameL, AV.same, Bool.and_true]
  by_cases h1 : x = a <;> by_cases h2 : y = b <;> simp [h1, h2]

set_option maxHeartbeats 1000000 in
theorem law_WearFits {w : Wea} {ve : AV} (h : WeaAt H w ve) (n k : Int) (hn : 0 ≤ n ∧ n ≤ 65535) (hk : 0 ≤ k ∧ k ≤ 255) :
    callFL cfg0 prog0 false 8 [w.av ve, .int .u16 n, .int .u8 k] H none = some ⟨.ret (.bool true), H, none⟩ := by
  have s1 := h.es.scal
  have s2 := h.es.len
  rw [List.length_map] at s2
  have hF := fun G : Heap => law_fine (h.app G)
  obtain ⟨r1, r2, r3⟩ := rem420 hn.1
  obtain ⟨q1, q2, q3⟩ := rem60 hk.1
  have hav : w.av ve = .agg [I w.llo, I w.lhi, I w.ulo, I w.uhi, ve] := rfl
  rw [hav]
  cases hf : (!w.farB 0 && w.valid)
  · simp only [hf, Wea.av] at hF
    refine (callFL_eq fn8 rfl (by simp [Tryd.f8])).trans ?_
    simp (maxSteps := 1000000) (implicitDefEqProofs := false) (disch := first | rfl | omega | assumption) only [go_sem, ltT, ltF, leT, leF, s1, s2, hF, law_awake]
  · simp only [Bool.and_eq_true, Bool.not_eq_true'] at hf
    obtain ⟨hfar, hv⟩ := hf
    have ho := w.valid_iff.1 hv
    have h8 := ho.many
    have hl : w.es.length ≤ 1000 := by omega
    simp only [hfar, hv, Bool.not_false, Bool.and_self, Wea.av] at hF
    by_cases hz0 : (w.es.length : Int) = 0
    · have hz : ((w.es.length : Int) == 0) = true := beq_iff_eq.2 hz0
      refine (callFL_eq fn8 rfl (by simp [Tryd.f8])).trans ?_
      simp (maxSteps := 1000000) (implicitDefEqProofs := false) (disch := first | rfl | omega | assumption) only [go_sem, ltT, ltF, leT, leF, s1, s2, hF, law_awake, hz]
    have hz : ((w.es.length : Int) == 0) = false := beq_eq_false_iff_ne.2 hz0
    by_cases h88 : 8 ≤ (w.es.length : Int)
    · refine (callFL_eq fn8 rfl (by simp [Tryd.f8])).trans ?_
      simp (maxSteps := 1000000) (implicitDefEqProofs := false) (disch := first | rfl | omega | assumption) only [go_sem, ltT, ltF, leT, leF, s1, s2, hF, law_awake, hz, h88]
    obtain ⟨lo, hlo⟩ : ∃ lo, n % 420 - 60 = lo := ⟨_, rfl⟩
    obtain ⟨hi, hhi⟩ : ∃ hi, lo + k % 60 = hi := ⟨_, rfl⟩
    have hi0 : wi ((w.es.length : Int) - 1) 0 (w.es.length - 1) = true := wi_iff.2 ⟨by omega, by omega⟩
    have hp0 : spB (lo, hi) (-1000) 1000 = true := spB_iff.2 (by simp only; omega)
    have hek : (rdE (lo, hi)).ok = true := (Ev.ok_iff _).2 (.inr (.inl ⟨rfl, by simp only [rdE]; omega⟩))
    have hn8 : w.es.length < 8 := by omega
    have hoy := snoc_ok ho hn8 hek
    have hvy : (w.snoc ⟨1, 0, lo, hi⟩).valid = true := (w.snoc (rdE (lo, hi))).valid_iff.2 hoy
    have hw := fun G : Heap => law_with (h.app G) hl (rdE (lo, hi))
    have hT := fun G : Heap => we_Fits (h.app G) hl (lo, hi)
    have hA := fun G : Heap => we_After (h.app G) hl ((w.es.length : Int) - 1)
    have hA2 := fun G : Heap => we_After (slE_at (w.snoc (rdE (lo, hi))) G) (by rw [snoc_len]; omega) (w.es.length : Int)
    have hL := fun G : Heap => we_Lost (h.app G) hl
    have hL2 := fun G : Heap => we_Lost (slE_at (w.snoc (rdE (lo, hi))) G) (by rw [snoc_len]; omega)
    have hi1 : wi (w.es.length : Int) 0 (((w.snoc ⟨1, 0, lo, hi⟩).es.length : Int) - 1) = true := wi_iff.2 ⟨by omega, by rw [snoc_len]; omega⟩
    have y1 : (w.snoc ⟨1, 0, lo, hi⟩).llo = w.llo := rfl
    have y2 : (w.snoc ⟨1, 0, lo, hi⟩).lhi = w.lhi := rfl
    have y3 : (w.snoc ⟨1, 0, lo, hi⟩).ulo = w.ulo := rfl
    have y4 : (w.snoc ⟨1, 0, lo, hi⟩).uhi = w.uhi := rfl
    have hrd : rdE (lo, hi) = ⟨1, 0, lo, hi⟩ := rfl
    rcases Bool.eq_false_or_eq_true w.can with hc | hc
    rotate_left
    · have hcy : (w.snoc ⟨1, 0, lo, hi⟩).can = false := by
        show (w.snoc (rdE (lo, hi))).can = false
        rw [← Bool.not_eq_true, rd_can ho hn8 hek]
        rintro ⟨l, hl, -⟩
        rw [(canT ho).2 ⟨l, hl⟩] at hc
        cases hc
      simp only [Wea.fitsP, Wea.afterP, Wea.lostP, Wea.gate, hv, hvy, hc, hcy, hi0, hi1, hp0, if_true, if_false, Bool.false_eq_true, (show (0 : Int) ≤ 10 by decide), (show ¬ (10 : Int) = 0 by decide), Wea.av, y1, y2, y3, y4, Ev.av, hrd] at hw hT hA hA2 hL hL2
      obtain ⟨vy, hvy0, hvs⟩ : ∃ vy, slE (w.snoc ⟨1, 0, lo, hi⟩).es = vy ∧ vy.scalar = true := ⟨_, rfl, rfl⟩
      simp only [hvy0] at hw hA2 hL2
      refine (callFL_eq fn8 rfl (by simp [Tryd.f8])).trans ?_
      simp (maxSteps := 1000000) (implicitDefEqProofs := false) (disch := first | rfl | omega | assumption) only [go_sem, ltT, ltF, leT, leF, s1, s2, hF, law_awake, hz, h88, r1, q1, hlo, hhi, law_span, hT, hA, hA2, hw, hvs]
      done
    · have hle := at_le ho hc (Nat.le_refl w.es.length)
      have haf : w.at w.rd w.L (((w.es.length : Int) - 1).toNat + 1) = w.lastP := by
        rw [show ((w.es.length : Int) - 1).toNat + 1 = w.es.length by omega]; rfl
      have hab := at_bd ho (Nat.le_refl w.es.length)
      have hbo := bothP_eq w.lastP (lo, hi)
      have hcy' := rd_can' ho hc hn8 hek
      have hat := rd_at ho hc hn8 hek
      have hlo' := rd_lost hv hc hn8 hek
      have hat2 : (w.es.length : Int).toNat = w.es.length := rfl
      simp only [hrd] at hat hlo' hcy'
      change w.lastP.1 ≤ w.lastP.2 at hle
      change bd 2000000 w.lastP at hab
      simp only [bd] at hab
      obtain ⟨vy, hvy0, hvs⟩ : ∃ vy, slE (w.snoc ⟨1, 0, lo, hi⟩).es = vy ∧ vy.scalar = true := ⟨_, rfl, rfl⟩
      simp only [Wea.fitsP, Wea.afterP, Wea.gate, hv, hvy, hc, hi0, hi1, hp0, if_true, if_false, Bool.false_eq_true, (show (0 : Int) ≤ 10 by decide), (show ¬ (10 : Int) = 0 by decide), Wea.av, y1, y2, y3, y4, Ev.av, hrd, hvy0, haf, hat2] at hw hT hA hA2 hL hL2
      generalize (w.snoc ⟨1, 0, lo, hi⟩).lostP = ly at hlo' hL2
      generalize (w.snoc ⟨1, 0, lo, hi⟩).at (w.snoc ⟨1, 0, lo, hi⟩).rd (w.snoc ⟨1, 0, lo, hi⟩).L (w.es.length + 1) = ay at hat hA2
      generalize (w.snoc ⟨1, 0, lo, hi⟩).can = cy at hcy' hA2 hL2
      rw [hbo] at hT
      generalize w.lastP = q at *
      obtain ⟨a, b⟩ := q
      simp only at *
      have hmx : (if a < lo then lo else a) = max a lo := by split <;> omega
      have hmn : (if hi < b then hi else b) = min b hi := by split <;> omega
      by_cases hne : max a lo ≤ min b hi
      · have hcc := hcy'.2 hne
        have hay := hat hne
        subst hay
        simp only [hcc, hne, if_true] at hT hA2 hL2
        by_cases hB : max a lo = a ∧ min b hi = b
        · have hly := hlo' (by omega) (by omega)
          subst hly
          simp only [hB.1, hB.2, if_true] at hT hA2
          refine (callFL_eq fn8 rfl (by simp [Tryd.f8])).trans ?_
          simp (maxSteps := 1000000) (implicitDefEqProofs := false) (disch := first | rfl | omega | assumption) only [go_sem, ltT, ltF, leT, leF, s1, s2, hF, law_awake, hz, h88, r1, q1, hlo, hhi, law_span, hT, hA, hA2, hw, hvs, hL, hL2]
          done
        · have hB2 : ¬ ((max a lo, min b hi) = (a, b)) := by rw [Prod.mk.injEq]; exact hB
          have hB3 : (decide (max a lo = a) && decide (min b hi = b)) = false := by rw [← Bool.not_eq_true, Bool.and_eq_true, decide_eq_true_eq, decide_eq_true_eq]; exact hB
          simp only [hB2, if_false, hne, if_true] at hT
          refine (callFL_eq fn8 rfl (by simp [Tryd.f8])).trans ?_
          simp (maxSteps := 1000000) (implicitDefEqProofs := false) (disch := first | rfl | omega | assumption) only [go_sem, ltT, ltF, leT, leF, s1, s2, hF, law_awake, hz, h88, r1, q1, hlo, hhi, law_span, hT, hA, hA2, hw, hvs, hL, hL2, same2, hmx, hmn, hB3, hne, decide_true]
          done
      · have hcc : cy = false := by rw [← Bool.not_eq_true]; exact fun h => hne (hcy'.1 h)
        have hno : ¬ (((1048576 : Int), (-1048576 : Int)) = (a, b)) := by rw [Prod.mk.injEq]; omega
        simp only [hcc, hne, hno, if_false, Bool.false_eq_true, (show ¬ (1048576 : Int) ≤ -1048576 by decide), (show ¬ (10 : Int) = 0 by decide)] at hT hA2 hL2
        have hlt : min b hi < max a lo := by omega
        refine (callFL_eq fn8 rfl (by simp [Tryd.f8])).trans ?_
        simp (maxSteps := 1000000) (implicitDefEqProofs := false) (disch := first | rfl | omega | assumption) only [go_sem, ltT, ltF, leT, leF, s1, s2, hF, law_awake, hz, h88, r1, q1, hlo, hhi, law_span, hT, hA, hA2, hw, hvs, hL, hL2, hmx, hmn, hlt]
        done

end Go.Ab
/-
  WearLater, walked: its loops.
-/
namespace Go.Ab
open Go.Proofs
set_option linter.unusedSimpArgs false
set_option linter.unusedVariables false
set_option maxRecDepth 100000

variable {H : Heap}

theorem take_ev (l : List Ev) {j : Nat} (h : j < l.length) : l.take (j + 1) = l.take j ++ [l.getD j ev0] := by
  rw [List.take_add_one, List.getD, List.getElem?_eq_getElem h]; rfl

theorem upx_loop {w : Wea} {ve : AV} (h : WeaAt H w ve) (ho : w.Ok) (n : Int) (hn : 0 ≤ n ∧ n ≤ 40) (a : Int) (K : List Item) (R : Option Done) (hK : ∀ E : Env, E.get 2 = .int .u16 a → E.get 3 = .ptr H.length 0 → E.get 7 = I n → E.get 8 = .ptr (H.length + 1) 0 → Option.map (finishC H.length) (execL cfg0 prog0 ⟨11, none, false, H.length⟩ K ⟨E, [], H ++ [.box (.agg [I w.llo, I w.lhi, I w.ulo, I w.uhi, ve]), .box (.agg [I (w.llo + n), I (w.lhi + n), I w.ulo, I w.uhi, .gsl (H.length + 2) w.es.length]), .grow 4 ((w.up n).es.map Ev.av)], none⟩) = R)  :
    ∀ (q j : Nat), j + q = w.es.length → ∀ (G : Heap), ∀ (xs : List AV), xs = ((w.es.take j).map (upE n)).map Ev.av → ∀ E : Env, E.get 2 = .int .u16 a → E.get 3 = .ptr H.length 0 → E.get 7 = I n → E.get 8 = .ptr (H.length + 1) 0 → E.get 62 = ve → E.get 63 = I w.es.length → E.get 64 = I j →
    Option.map (finishC H.length) (execL cfg0 prog0 ⟨11, none, false, H.length⟩ (loopIt Tryd.f11 8 :: .inBlock 0 :: K) ⟨E, [], H ++ (.box (.agg [I w.llo, I w.lhi, I w.ulo, I w.uhi, ve]) :: .box (.agg [I (w.llo + n), I (w.lhi + n), I w.ulo, I w.uhi, .gsl (H.length + 2) j]) :: .grow 4 xs :: G), none⟩) = R := by
  intro q
  have h8 := ho.many
  have s1 := h.es.scal
  have t1 := h.es.ltn 3
  obtain ⟨a1, a2, a3, a4, a5⟩ := h.es.fA (d := ev0)
  induction q with
  | zero =>
    intro j hj G xs hx E g2 g3 g7 g8 g62 g63 g64
    have hk' : ¬ (j : Int) < ((w.es.length : Nat) : Int) := by omega
    have ej : j = w.es.length := by omega
    subst ej
    have hx2 : xs = (w.up n).es.map Ev.av := by rw [hx, List.take_of_length_le (Nat.le_refl _)]; rfl
    subst hx2
    have t4 := evz_lt 0 (w.up n).es
    simp only [loopIt, todoPast, todoAt, todoOf, firstReg, ↓reduceIte, Option.some.injEq, Nat.reduceEqDiff, reduceCtorEq, Tryd.f11]
    rw [execL_inLoop]
    simp (maxSteps := 1000000) (implicitDefEqProofs := false) (disch := first | rfl | omega | assumption) only [go_sem, g2, g3, g7, g8, g62, g63, g64, ltT, ltF, leT, leF, hk', s1, t1, t4]
    exact hK _ (by rfl) (by rfl) (by rfl) (by rfl)
  | succ q ih =>
    intro j hj G xs hx E g2 g3 g7 g8 g62 g63 g64
    have hk' : (j : Int) < ((w.es.length : Nat) : Int) := by omega
    have hk2 : j < w.es.length := by omega
    have hr := fun e : Ev => (show readPart e.av.cells 0 ⟨.struct [(0, 3), (1, 3), (2, 23)], 4, 32, some (.agg #[.int .i64 0, .int .i64 0, .int .i64 0, .int .i64 0])⟩ = some (.agg [I e.k, I e.u, I e.lo, I e.hi]) from rfl)
    have t4 : ltL 0 xs = true := by rw [hx]; exact evz_lt 0 _
    have hlx : xs.length = j := by rw [hx]; simp; omega
    have htk := take_ev w.es hk2
    obtain ⟨e, he⟩ : ∃ e, w.es.getD j ev0 = e := ⟨_, rfl⟩
    have hev := ho.ev j hk2
    rw [show w.ev j = e from he] at hev
    rw [he] at htk
    have hof : ∀ (o : AO) (e' : Ev), addElem (H ++ [.box (.agg [I w.llo, I w.lhi, I w.ulo, I w.uhi, ve]), .box (.agg [I (w.llo + n), I (w.lhi + n), I w.ulo, I w.uhi, .gsl (H.length + 2) j]), .grow 4 xs, o]) 4 true (.gsl (H.length + 2) j) [.agg [I e'.k, I e'.u, I e'.lo, I e'.hi]] = some (.gsl (H.length + 2) (j + 1), H ++ [.box (.agg [I w.llo, I w.lhi, I w.ulo, I w.uhi, ve]), .box (.agg [I (w.llo + n), I (w.lhi + n), I w.ulo, I w.uhi, .gsl (H.length + 2) j]), .grow 4 (xs ++ [.agg [I e'.k, I e'.u, I e'.lo, I e'.hi]]), o]) := by
      intro o e'
      rw [add_gsl (xs := xs) (by rw [get_at']; rfl) hlx rfl rfl (by simp; omega), set_at']
      rfl
    by_cases k1 : e.k = 1
    · have z1 : (e.k == 1) = true := by simp [k1]
      have hb : -1000 ≤ e.lo ∧ e.hi ≤ 1000 ∧ e.lo ≤ e.hi := by omega
      have eu : upE n e = ⟨e.k, e.u, e.lo + n, e.hi + n⟩ := by simp only [upE, k1, if_true]
      have hof' := fun o => hof o ⟨e.k, e.u, e.lo + n, e.hi + n⟩
      simp only [loopIt, todoPast, todoAt, todoOf, firstReg, ↓reduceIte, Option.some.injEq, Nat.reduceEqDiff, reduceCtorEq, Tryd.f11]
      rw [execL_inLoop]
      simp (maxSteps := 1000000) (implicitDefEqProofs := false) (disch := first | rfl | omega | assumption) only [go_sem, g2, g3, g7, g8, g62, g63, g64, ltT, ltF, leT, leF, hk', s1, t1, t4, a1, a2, a3, a4, he, hr, z1, law_span, hof']
      exact ih (j + 1) (by omega) [.box (.agg [I e.k, I e.u, I (e.lo + n), I (e.hi + n)])] _ (by rw [htk, hx]; simp [eu, Ev.av]) _ (by rfl) (by rfl) (by rfl) (by rfl) (by rfl) (by rfl) (by rfl)
    · have z1 : (e.k == 1) = false := by simp [k1]
      have eu : upE n e = e := by simp only [upE, k1, if_false]
      have hof' := fun o => hof o e
      simp only [loopIt, todoPast, todoAt, todoOf, firstReg, ↓reduceIte, Option.some.injEq, Nat.reduceEqDiff, reduceCtorEq, Tryd.f11]
      rw [execL_inLoop]
      simp (maxSteps := 1000000) (implicitDefEqProofs := false) (disch := first | rfl | omega | assumption) only [go_sem, g2, g3, g7, g8, g62, g63, g64, ltT, ltF, leT, leF, hk', s1, t1, t4, a1, a2, a3, a4, he, hr, z1, hof']
      exact ih (j + 1) (by omega) [.box (.agg [I e.k, I e.u, I e.lo, I e.hi])] _ (by rw [htk, hx]; simp [eu, Ev.av]) _ (by rfl) (by rfl) (by rfl) (by rfl) (by rfl) (by rfl) (by rfl)

theorem laterA {w : Wea} {ve : AV} (h : WeaAt H w ve) (h8 : w.es.length ≤ 8) (n : Int) (hn : 0 ≤ n ∧ n ≤ 40) (xs : List AV) (hxs : ltL 0 xs = true) (fw fx : Nat → Int × Int) (gt : Int) (hfb : ∀ i, bd 3000000 (fw i)) (hA : ∀ (i : Nat) (G : Heap), i < w.es.length → callFL cfg0 prog0 false 14 [.agg [I w.llo, I w.lhi, I w.ulo, I w.uhi, ve], I i] (H ++ G) none = some ⟨.ret (.tup [KV (fw i), I gt]), H ++ G, none⟩) (hB : ∀ (i : Nat) (o0 o1 : AO) (G : Heap), i < w.es.length → callFL cfg0 prog0 false 14 [.agg [I (w.llo + n), I (w.lhi + n), I w.ulo, I w.uhi, .gsl (H.length + 2) w.es.length], I i] (H ++ (o0 :: o1 :: .grow 4 xs :: G)) none = some ⟨.ret (.tup [KV (fx i), I gt]), H ++ (o0 :: o1 :: .grow 4 xs :: G), none⟩) (hE : gt = 0 → ∀ i, i < w.es.length → fx i = ((fw i).1 + n, (fw i).2 + n)) (a14 a16 a17 a18 : Int) (o3 o4 o5 o6 : AO) (ho3 : o3.lt (H.length + 7) = true) (ho4 : o4.lt (H.length + 7) = true) (ho5 : o5.lt (H.length + 7) = true) (ho6 : o6.lt (H.length + 7) = true) (K : List Item) (R : Option Done) (hK : ∀ E : Env, E.get 3 = .ptr H.length 0 → E.get 7 = I n → E.get 8 = .ptr (H.length + 1) 0 → E.get 11 = .ptr (H.length + 3) 0 → E.get 12 = I w.es.length → E.get 13 = .bool true → E.get 14 = I a14 → E.get 15 = .ptr (H.length + 5) 0 → E.get 16 = I a16 → E.get 17 = I a17 → E.get 18 = I a18 → Option.map (finishC H.length) (execL cfg0 prog0 ⟨11, none, false, H.length⟩ K ⟨E, [], H ++ [.box (.agg [I w.llo, I w.lhi, I w.ulo, I w.uhi, ve]), .box (.agg [I (w.llo + n), I (w.lhi + n), I w.ulo, I w.uhi, .gsl (H.length + 2) w.es.length]), .grow 4 xs, o3, o4, o5, o6], none⟩) = R)  :
    ∀ (q j : Nat), j + q = w.es.length → ∀ (G : Heap), ∀ E : Env, E.get 3 = .ptr H.length 0 → E.get 7 = I n → E.get 8 = .ptr (H.length + 1) 0 → E.get 11 = .ptr (H.length + 3) 0 → E.get 12 = I w.es.length → E.get 13 = .bool true → E.get 14 = I a14 → E.get 15 = .ptr (H.length + 5) 0 → E.get 16 = I a16 → E.get 17 = I a17 → E.get 18 = I a18 → E.get 213 = I w.es.length → E.get 214 = I j →
    Option.map (finishC H.length) (execL cfg0 prog0 ⟨11, none, false, H.length⟩ (loopIt Tryd.f11 29 :: .inBlock 2 :: K) ⟨E, [], H ++ (.box (.agg [I w.llo, I w.lhi, I w.ulo, I w.uhi, ve]) :: .box (.agg [I (w.llo + n), I (w.lhi + n), I w.ulo, I w.uhi, .gsl (H.length + 2) w.es.length]) :: .grow 4 xs :: o3 :: o4 :: o5 :: o6 :: G), none⟩) = R := by
  intro q
  have s1 := h.es.scal
  have t1 := h.es.ltn 7
  induction q with
  | zero =>
    intro j hj G E g3 g7 g8 g11 g12 g13 g14 g15 g16 g17 g18 g213 g214
    have hk' : ¬ (j : Int) < ((w.es.length : Nat) : Int) := by omega
    simp only [loopIt, todoPast, todoAt, todoOf, firstReg, ↓reduceIte, Option.some.injEq, Nat.reduceEqDiff, reduceCtorEq, Tryd.f11]
    rw [execL_inLoop]
    simp (maxSteps := 1000000) (implicitDefEqProofs := false) (disch := first | rfl | omega | assumption) only [go_sem, g3, g7, g8, g11, g12, g13, g14, g15, g16, g17, g18, g213, g214, ltT, ltF, leT, leF, hk', s1, t1, hxs, ho3, ho4, ho5, ho6]
    exact hK _ (by rfl) (by rfl) (by rfl) (by rfl) (by rfl) (by rfl) (by rfl) (by rfl) (by rfl) (by rfl) (by rfl)
  | succ q ih =>
    intro j hj G E g3 g7 g8 g11 g12 g13 g14 g15 g16 g17 g18 g213 g214
    have hk' : (j : Int) < ((w.es.length : Nat) : Int) := by omega
    have hk2 : j < w.es.length := by omega
    simp only [loopIt, todoPast, todoAt, todoOf, firstReg, ↓reduceIte, Option.some.injEq, Nat.reduceEqDiff, reduceCtorEq, Tryd.f11]
    rw [execL_inLoop]
    have hA' := fun G => hA j G hk2
    have hB' := fun o0 o1 G => hB j o0 o1 G hk2
    have hE' := fun hg => hE hg j hk2
    have hb := hfb j
    simp only [bd] at hb
    generalize fw j = p at *
    generalize fx j = r at *
    by_cases hg : gt = 0
    · have hr := hE' hg
      have hsm := same2 (p.1 + n) (p.2 + n) (p.1 + n) (p.2 + n)
      subst hg
      subst hr
      simp (maxSteps := 1000000) (implicitDefEqProofs := false) (disch := first | rfl | omega | assumption) only [go_sem, g3, g7, g8, g11, g12, g13, g14, g15, g16, g17, g18, g213, g214, ltT, ltF, leT, leF, hk', s1, t1, hxs, ho3, ho4, ho5, ho6, hA', hB']
      rw [chkK_of]; rotate_left; kernel_rfl
      simp (maxSteps := 1000000) (implicitDefEqProofs := false) (disch := first | rfl | omega | assumption) only [go_sem, g3, g7, g8, g11, g12, g13, g14, g15, g16, g17, g18, g213, g214, ltT, ltF, leT, leF, hk', s1, t1, hxs, ho3, ho4, ho5, ho6, hA', hB', law_span, hsm, decide_true, bne_self_eq_false]
      exact ih (j + 1) (by omega) [.box (KV p), .box (KV (p.1 + n, p.2 + n))] _ (by rfl) (by rfl) (by rfl) (by rfl) (by rfl) (by rfl) (by rfl) (by rfl) (by rfl) (by rfl) (by rfl) (by rfl) (by rfl)
    · have z0 : (gt == 0) = false := by simpa using hg
      simp (maxSteps := 1000000) (implicitDefEqProofs := false) (disch := first | rfl | omega | assumption) only [go_sem, g3, g7, g8, g11, g12, g13, g14, g15, g16, g17, g18, g213, g214, ltT, ltF, leT, leF, hk', s1, t1, hxs, ho3, ho4, ho5, ho6, hA', hB']
      rw [chkK_of]; rotate_left; kernel_rfl
      simp (maxSteps := 1000000) (implicitDefEqProofs := false) (disch := first | rfl | omega | assumption) only [go_sem, g3, g7, g8, g11, g12, g13, g14, g15, g16, g17, g18, g213, g214, ltT, ltF, leT, leF, hk', s1, t1, hxs, ho3, ho4, ho5, ho6, hA', hB', law_span, z0, bne_self_eq_false]
      exact ih (j + 1) (by omega) [.box (KV p), .box (KV r)] _ (by rfl) (by rfl) (by rfl) (by rfl) (by rfl) (by rfl) (by rfl) (by rfl) (by rfl) (by rfl) (by rfl) (by rfl) (by rfl)

theorem laterB {w : Wea} {ve : AV} (h : WeaAt H w ve) (h8 : w.es.length ≤ 8) (n : Int) (hn : 0 ≤ n ∧ n ≤ 40) (xs : List AV) (hxs : ltL 0 xs = true) (fw fx : Nat → Int × Int) (gt : Int) (hfb : ∀ i, bd 3000000 (fw i)) (hA : ∀ (i : Nat) (G : Heap), i < w.es.length → callFL cfg0 prog0 false 14 [.agg [I w.llo, I w.lhi, I w.ulo, I w.uhi, ve], I i] (H ++ G) none = some ⟨.ret (.tup [KV (fw i), I gt]), H ++ G, none⟩) (hB : ∀ (i : Nat) (o0 o1 : AO) (G : Heap), i < w.es.length → callFL cfg0 prog0 false 14 [.agg [I (w.llo + n), I (w.lhi + n), I w.ulo, I w.uhi, .gsl (H.length + 2) w.es.length], I i] (H ++ (o0 :: o1 :: .grow 4 xs :: G)) none = some ⟨.ret (.tup [KV (fx i), I gt]), H ++ (o0 :: o1 :: .grow 4 xs :: G), none⟩) (hE : gt = 0 → ∀ i, i < w.es.length → fx i = ((fw i).1 + n, (fw i).2 + n)) (a14 a16 a17 a18 : Int) (o3 o4 o5 : AO) (ho3 : o3.lt (H.length + 7) = true) (ho4 : o4.lt (H.length + 7) = true) (ho5 : o5.lt (H.length + 7) = true) :
    ∀ (q j : Nat), j + q = w.es.length → ∀ (G : Heap), (G = [] ∨ ∃ (p : Int × Int) (r : Heap), G = .box (KV p) :: r) → ∀ E : Env, E.get 3 = .ptr H.length 0 → E.get 7 = I n → E.get 8 = .ptr (H.length + 1) 0 → E.get 11 = .ptr (H.length + 3) 0 → E.get 12 = I w.es.length → E.get 13 = .bool false → E.get 14 = I a14 → E.get 15 = .ptr (H.length + 4) 0 → E.get 16 = I a16 → E.get 17 = I a17 → E.get 18 = I a18 → E.get 213 = I w.es.length → E.get 214 = I j →
    Option.map (finishC H.length) (execL cfg0 prog0 ⟨11, none, false, H.length⟩ (todoAt Tryd.f11 29) ⟨E, [], H ++ (.box (.agg [I w.llo, I w.lhi, I w.ulo, I w.uhi, ve]) :: .box (.agg [I (w.llo + n), I (w.lhi + n), I w.ulo, I w.uhi, .gsl (H.length + 2) w.es.length]) :: .grow 4 xs :: o3 :: o4 :: o5 :: G), none⟩) = some ⟨.ret (.bool true), H, none⟩ := by
  intro q
  have s1 := h.es.scal
  have t1 := h.es.ltn 7
  induction q with
  | zero =>
    intro j hj G hG E g3 g7 g8 g11 g12 g13 g14 g15 g16 g17 g18 g213 g214
    have hk' : ¬ (j : Int) < ((w.es.length : Nat) : Int) := by omega
    simp only [loopIt, todoPast, todoAt, todoOf, firstReg, ↓reduceIte, Option.some.injEq, Nat.reduceEqDiff, reduceCtorEq, Tryd.f11]
    rw [execL_inLoop]
    rcases hG with rfl | ⟨p6, r6, rfl⟩
    · simp (maxSteps := 1000000) (implicitDefEqProofs := false) (disch := first | rfl | omega | assumption) only [go_sem, g3, g7, g8, g11, g12, g13, g14, g15, g16, g17, g18, g213, g214, ltT, ltF, leT, leF, hk', s1, t1, hxs, ho3, ho4, ho5, law_awake]
      done
    · simp (maxSteps := 1000000) (implicitDefEqProofs := false) (disch := first | rfl | omega | assumption) only [go_sem, g3, g7, g8, g11, g12, g13, g14, g15, g16, g17, g18, g213, g214, ltT, ltF, leT, leF, hk', s1, t1, hxs, ho3, ho4, ho5, law_awake]
      done
  | succ q ih =>
    intro j hj G hG E g3 g7 g8 g11 g12 g13 g14 g15 g16 g17 g18 g213 g214
    have hk' : (j : Int) < ((w.es.length : Nat) : Int) := by omega
    have hk2 : j < w.es.length := by omega
    simp only [loopIt, todoPast, todoAt, todoOf, firstReg, ↓reduceIte, Option.some.injEq, Nat.reduceEqDiff, reduceCtorEq, Tryd.f11]
    rw [execL_inLoop]
    have hA' := fun G => hA j G hk2
    have hB' := fun o0 o1 G => hB j o0 o1 G hk2
    have hE' := fun hg => hE hg j hk2
    have hb := hfb j
    simp only [bd] at hb
    generalize fw j = p at *
    generalize fx j = r at *
    rcases hG with rfl | ⟨p6, r6, rfl⟩
    · by_cases hg : gt = 0
      · have hr := hE' hg
        have hsm := same2 (p.1 + n) (p.2 + n) (p.1 + n) (p.2 + n)
        subst hg
        subst hr
        simp (maxSteps := 1000000) (implicitDefEqProofs := false) (disch := first | rfl | omega | assumption) only [go_sem, g3, g7, g8, g11, g12, g13, g14, g15, g16, g17, g18, g213, g214, ltT, ltF, leT, leF, hk', s1, t1, hxs, ho3, ho4, ho5, hA', hB']
        rw [chkK_of]; rotate_left; kernel_rfl
        simp (maxSteps := 1000000) (implicitDefEqProofs := false) (disch := first | rfl | omega | assumption) only [go_sem, g3, g7, g8, g11, g12, g13, g14, g15, g16, g17, g18, g213, g214, ltT, ltF, leT, leF, hk', s1, t1, hxs, ho3, ho4, ho5, hA', hB', law_span, hsm, decide_true, bne_self_eq_false]
        exact ih (j + 1) (by omega) [.box (KV p), .box (KV (p.1 + n, p.2 + n))] (.inr ⟨_, _, rfl⟩) _ (by rfl) (by rfl) (by rfl) (by rfl) (by rfl) (by rfl) (by rfl) (by rfl) (by rfl) (by rfl) (by rfl) (by rfl) (by rfl)
      · have z0 : (gt == 0) = false := by simpa using hg
        simp (maxSteps := 1000000) (implicitDefEqProofs := false) (disch := first | rfl | omega | assumption) only [go_sem, g3, g7, g8, g11, g12, g13, g14, g15, g16, g17, g18, g213, g214, ltT, ltF, leT, leF, hk', s1, t1, hxs, ho3, ho4, ho5, hA', hB']
        rw [chkK_of]; rotate_left; kernel_rfl
        simp (maxSteps := 1000000) (implicitDefEqProofs := false) (disch := first | rfl | omega | assumption) only [go_sem, g3, g7, g8, g11, g12, g13, g14, g15, g16, g17, g18, g213, g214, ltT, ltF, leT, leF, hk', s1, t1, hxs, ho3, ho4, ho5, hA', hB', law_span, z0, bne_self_eq_false]
        exact ih (j + 1) (by omega) [.box (KV p), .box (KV r)] (.inr ⟨_, _, rfl⟩) _ (by rfl) (by rfl) (by rfl) (by rfl) (by rfl) (by rfl) (by rfl) (by rfl) (by rfl) (by rfl) (by rfl) (by rfl) (by rfl)
    · by_cases hg : gt = 0
      · have hr := hE' hg
        have hsm := same2 (p.1 + n) (p.2 + n) (p.1 + n) (p.2 + n)
        subst hg
        subst hr
        simp (maxSteps := 1000000) (implicitDefEqProofs := false) (disch := first | rfl | omega | assumption) only [go_sem, g3, g7, g8, g11, g12, g13, g14, g15, g16, g17, g18, g213, g214, ltT, ltF, leT, leF, hk', s1, t1, hxs, ho3, ho4, ho5, hA', hB']
        rw [chkK_of]; rotate_left; kernel_rfl
        simp (maxSteps := 1000000) (implicitDefEqProofs := false) (disch := first | rfl | omega | assumption) only [go_sem, g3, g7, g8, g11, g12, g13, g14, g15, g16, g17, g18, g213, g214, ltT, ltF, leT, leF, hk', s1, t1, hxs, ho3, ho4, ho5, hA', hB', law_span, hsm, decide_true, bne_self_eq_false]
        exact ih (j + 1) (by omega) [.box (KV p6), .box (KV p), .box (KV (p.1 + n, p.2 + n))] (.inr ⟨_, _, rfl⟩) _ (by rfl) (by rfl) (by rfl) (by rfl) (by rfl) (by rfl) (by rfl) (by rfl) (by rfl) (by rfl) (by rfl) (by rfl) (by rfl)
      · have z0 : (gt == 0) = false := by simpa using hg
        simp (maxSteps := 1000000) (implicitDefEqProofs := false) (disch := first | rfl | omega | assumption) only [go_sem, g3, g7, g8, g11, g12, g13, g14, g15, g16, g17, g18, g213, g214, ltT, ltF, leT, leF, hk', s1, t1, hxs, ho3, ho4, ho5, hA', hB']
        rw [chkK_of]; rotate_left; kernel_rfl
        simp (maxSteps := 1000000) (implicitDefEqProofs := false) (disch := first | rfl | omega | assumption) only [go_sem, g3, g7, g8, g11, g12, g13, g14, g15, g16, g17, g18, g213, g214, ltT, ltF, leT, leF, hk', s1, t1, hxs, ho3, ho4, ho5, hA', hB', law_span, z0, bne_self_eq_false]
        exact ih (j + 1) (by omega) [.box (KV p6), .box (KV p), .box (KV r)] (.inr ⟨_, _, rfl⟩) _ (by rfl) (by rfl) (by rfl) (by rfl) (by rfl) (by rfl) (by rfl) (by rfl) (by rfl) (by rfl) (by rfl) (by rfl) (by rfl)

end Go.Ab
/-
  WearLater, walked.
-/
namespace Go.Ab
open Go.Proofs
set_option linter.unusedSimpArgs false
set_option linter.unusedVariables false
set_option maxRecDepth 100000

variable {H : Heap}

theorem rem40 {n : Int} (h : 0 ≤ n) : n.tmod 40 = n % 40 ∧ 0 ≤ n % 40 ∧ n % 40 < 40 := ⟨Int.tmod_eq_emod_of_nonneg h, Int.emod_nonneg _ (by decide), Int.emod_lt_of_pos _ (by decide)⟩

theorem gate_okL {w : Wea} {d : Int} {b : Bool} (h : w.gate d b = 0) : w.valid = true ∧ d ≤ 10 ∧ b = true ∧ w.can = true := by
  simp only [Wea.gate] at h
  cases hv : w.valid <;> simp [hv] at h
  by_cases hd : d ≤ 10 <;> simp [hd] at h
  cases b <;> simp at h
  cases hc : w.can <;> simp [hc] at h
  exact ⟨rfl, hd, rfl, rfl⟩

/-- What is told of two blocks of which as many truths are. -/
theorem gate_same {w x : Wea} (hv : w.valid = true) (hx : x.valid = true) (hc : x.can = w.can) (d : Int) (b : Bool) : x.gate d b = w.gate d b := by
  simp only [Wea.gate, hv, hx, hc]

theorem up_facts {w : Wea} (hv : w.valid = true) {n : Int} (hx : (w.up n).valid = true) {lim : Int} (h1 : wi lim (-1000) 1000 = true) (h2 : wi (lim + n) (-1000) 1000 = true) :
    (∀ d b, (w.up n).gate d b = w.gate d b) ∧ (w.up n).lostP = w.lostP ∧ (w.up n).untilP (lim + n) = w.untilP lim ∧ (w.up n).clA = w.clA ∧ (w.gate 0 true = 0 → ∀ i : Nat, i < w.es.length → (w.up n).afterP i = ((w.afterP i).1 + n, (w.afterP i).2 + n)) := by
  have ho := w.valid_iff.1 hv
  have hox := (w.up n).valid_iff.1 hx
  have hc := up_can ho hox
  have hg := fun d b => gate_same hv hx hc d b
  refine ⟨hg, ?_, ?_, ?_, fun hg0 i hi => ?_⟩
  · cases c : w.can
    · have g1 : w.gate 0 true = 10 := by simp only [Wea.gate, hv, c, if_true, if_false, Bool.false_eq_true, (show (0 : Int) ≤ 10 by decide)]
      simp only [Wea.lostP, hg, g1, if_false, (show ¬ (10 : Int) = 0 by decide)]
    · exact up_lost ho hox c
  · cases c : w.can
    · have g1 : w.gate 0 true = 10 := by simp only [Wea.gate, hv, c, if_true, if_false, Bool.false_eq_true, (show (0 : Int) ≤ 10 by decide)]
      simp only [Wea.untilP, h1, h2, hg, g1, if_false, (show ¬ (10 : Int) = 0 by decide)]
    · have g1 := gate0 hv c (d := 0) (by decide) h1
      have g2 : (w.up n).gate 0 (wi (lim + n) (-1000) 1000) = 0 := by rw [hg, h2, ← h1]; exact g1
      have hl := up_at ho hox c (Nat.le_refl w.es.length)
      refine until_eq rfl ?_ g1 g2
      have e : (w.up n).lastP = (w.up n).at (w.up n).rd (w.up n).L w.es.length := by simp only [Wea.lastP, up_len]
      rw [e, hl]
      rfl
  · simp only [Wea.clA, hv, hx, hc, if_true]
    cases c : w.can
    · simp only [Bool.false_eq_true, if_false, up_cs ho hox c]
    · rfl
  · obtain ⟨-, -, -, c⟩ := gate_okL hg0
    obtain ⟨a1, -⟩ := after_ok hv c hi
    obtain ⟨a2, -⟩ := after_ok hx (by rw [hc]; exact c) (j := i) (by rw [up_len]; exact hi)
    rw [a1, a2, up_at ho hox c (by omega)]

theorem join_facts {w : Wea} (hv : w.valid = true) (hx : w.join.valid = true) (h : 2 ≤ w.es.length) (k1 : (w.ev (w.es.length - 1)).k = 0) (k2 : (w.ev (w.es.length - 2)).k = 0) (lim : Int) :
    (∀ d b, w.join.gate d b = w.gate d b) ∧ w.join.lostP = w.lostP ∧ w.join.untilP lim = w.untilP lim ∧ w.join.afterP ((w.es.length - 2 : Nat) : Int) = w.afterP ((w.es.length - 1 : Nat) : Int) := by
  have ho := w.valid_iff.1 hv
  have hox := w.join.valid_iff.1 hx
  have hc := join_can ho hox h k1 k2
  have hg := fun d b => gate_same hv hx hc d b
  have hjl := join_len h
  refine ⟨hg, ?_, ?_, ?_⟩
  · cases c : w.can
    · have g1 : w.gate 0 true = 10 := by simp only [Wea.gate, hv, c, if_true, if_false, Bool.false_eq_true, (show (0 : Int) ≤ 10 by decide)]
      simp only [Wea.lostP, hg, g1, if_false, (show ¬ (10 : Int) = 0 by decide)]
    · exact join_lost ho hox h k1 k2 c
  · by_cases g1 : w.gate 0 (wi lim (-1000) 1000) = 0
    · obtain ⟨-, -, -, c⟩ := gate_okL g1
      have := until_eq (w := w) (x := w.join) (lim := lim) (d := 0) rfl (by rw [join_last ho hox h k1 k2 c]; omega) g1 (by rw [hg, Int.add_zero]; exact g1)
      rwa [Int.add_zero] at this
    · simp only [Wea.untilP, hg, g1, if_false]
  · have i1 : wi ((w.es.length - 1 : Nat) : Int) 0 (w.es.length - 1) = true := wi_iff.2 ⟨by omega, by omega⟩
    have i2 : wi ((w.es.length - 2 : Nat) : Int) 0 (w.join.es.length - 1) = true := wi_iff.2 ⟨by omega, by rw [hjl]; omega⟩
    simp only [Wea.afterP, i1, i2, hg]
    by_cases g1 : w.gate 0 true = 0
    · obtain ⟨-, -, -, c⟩ := gate_okL g1
      have hl := join_last ho hox h k1 k2 c
      simp only [Wea.lastP, hjl] at hl
      simp only [g1, if_true, Int.toNat_natCast, show w.es.length - 2 + 1 = w.es.length - 1 by omega, show w.es.length - 1 + 1 = w.es.length by omega]
      exact hl
    · simp only [g1, if_false]

theorem wea_sl {w : Wea} {ve : AV} (h : WeaAt [] w ve) : ∃ f, ve = .sl f (w.es.map Ev.av) := by
  obtain ⟨h1, -⟩ := h.es
  cases ve <;> simp only at h1
  · exact ⟨_, by rw [h1]⟩
  · simp at h1

end Go.Ab
/-
  WearMore, walked: its loops.
-/
namespace Go.Ab
open Go.Proofs
set_option linter.unusedSimpArgs false
set_option linter.unusedVariables false
set_option maxRecDepth 100000

variable {H : Heap}

theorem law_in (p r : Int × Int) (hp : r.1 ≤ p.1 ∧ p.2 ≤ r.2) (H : Heap) : callVL cfg0 prog0 false (.func 38) [.agg [I p.1, I p.2], .agg [I r.1, I r.2]] [] H none = some ⟨.ret (.bool true), H, none⟩ := by
  have h1 := hp.1
  have h2 := hp.2
  simp only [callVL_func, List.append_nil, List.cons_append, List.nil_append]
  refine (callFL_eq fn38 rfl (by simp [Tryd.f38])).trans ?_
  simp (maxSteps := 1000000) (implicitDefEqProofs := false) (disch := first | rfl | omega | assumption) only [go_sem, ltT, ltF, leT, leF, h1, h2, decide_true]
  done

theorem par2 (n j : Nat) : ((n : Int) + (j : Int)).tmod 2 = (((n + j) % 2 : Nat) : Int) := rfl

/-- A part of an event is stored. -/
theorem nar_st {o0 o1 o2 : AO} {b n : Nat} {es : List Ev} {e : Ev} {z : Option Value} (hn : es.length = n) {j : Nat} (hj : j < n) (he : es.getD j ev0 = e) (x : Int) :
    evStore b (H ++ [o0, o1, o2, .grow 4 (es.map Ev.av)]) ⟨.int .i64, 1, 8, z⟩ (.eptr (H.length + 3) n j 2) (I x) = some (H ++ [o0, o1, o2, .grow 4 ((es.set j ⟨e.k, e.u, x, e.hi⟩).map Ev.av)]) ∧
    evStore b (H ++ [o0, o1, o2, .grow 4 (es.map Ev.av)]) ⟨.int .i64, 1, 8, z⟩ (.eptr (H.length + 3) n j 3) (I x) = some (H ++ [o0, o1, o2, .grow 4 ((es.set j ⟨e.k, e.u, e.lo, x⟩).map Ev.av)]) := by
  subst hn
  have h1 : (es.map Ev.av)[j]? = some (Ev.av e) := by rw [← he]; simp [hj]
  constructor <;> (simp only [evStore_eptr, get_at', List.getElem?_cons_succ, List.getElem?_cons_zero, List.length_map, h1]; simp [AV.lt, writePart, allScalar, AV.cells, AV.scalar, splice, AV.withCells, Ev.av, List.map_set, set_at'])

theorem nar_loop {w : Wea} (ho : w.Ok) (n p : Nat) (hn : n ≤ 255) (a : Int) (o0 o1 : AO) (K : List Item) (R : Option Done) (hK : ∀ E : Env, E.get 1 = .int .u8 n → E.get 3 = .int .u16 a → E.get 4 = .ptr H.length 0 → E.get 10 = I p → E.get 13 = .ptr (H.length + 1) 0 → E.get 14 = .ptr (H.length + 2) 0 → Option.map (finishC H.length) (execL cfg0 prog0 ⟨10, none, false, H.length⟩ K ⟨E, [], H ++ [o0, o1, .box (.agg [I w.llo, I w.lhi, I w.ulo, I w.uhi, .gsl (H.length + 3) w.es.length]), .grow 4 ((nrL w n w.es.length).map Ev.av)], none⟩) = R)  :
    ∀ (q j : Nat), j + q = w.es.length → ∀ E : Env, E.get 1 = .int .u8 n → E.get 3 = .int .u16 a → E.get 4 = .ptr H.length 0 → E.get 10 = I p → E.get 13 = .ptr (H.length + 1) 0 → E.get 14 = .ptr (H.length + 2) 0 → E.get 90 = I w.es.length → E.get 91 = I j →
    Option.map (finishC H.length) (execL cfg0 prog0 ⟨10, none, false, H.length⟩ (loopIt Tryd.f10 11 :: .inBlock 0 :: K) ⟨E, [], H ++ [o0, o1, .box (.agg [I w.llo, I w.lhi, I w.ulo, I w.uhi, .gsl (H.length + 3) w.es.length]), .grow 4 ((nrL w n j).map Ev.av)], none⟩) = R := by
  intro q
  have h8 := ho.many
  induction q with
  | zero =>
    intro j hj  E g1 g3 g4 g10 g13 g14 g90 g91
    have hk' : ¬ (j : Int) < ((w.es.length : Nat) : Int) := by omega
    have ej : j = w.es.length := by omega
    subst ej
    simp only [loopIt, todoPast, todoAt, todoOf, firstReg, ↓reduceIte, Option.some.injEq, Nat.reduceEqDiff, reduceCtorEq, Tryd.f10]
    rw [execL_inLoop]
    simp (maxSteps := 1000000) (implicitDefEqProofs := false) (disch := first | rfl | omega | assumption) only [go_sem, g1, g3, g4, g10, g13, g14, g90, g91, ltT, ltF, leT, leF, hk']
    exact hK _ (by exact g1) (by exact g3) (by exact g4) (by exact g10) (by exact g13) (by exact g14)
  | succ q ih =>
    intro j hj  E g1 g3 g4 g10 g13 g14 g90 g91
    have hk' : (j : Int) < ((w.es.length : Nat) : Int) := by omega
    have hk2 : j < w.es.length := by omega
    obtain ⟨e, he⟩ : ∃ e, w.ev j = e := ⟨_, rfl⟩
    have hev := ho.ev j hk2
    rw [he] at hev
    have hge : (nrL w n j).getD j ev0 = e := by rw [nrL_get w n j hk2, if_neg (by omega), he]
    have hl1 : ((nrL w n j).map Ev.av)[j]? = some (Ev.av e) := by rw [← hge]; simp [nrL_len, hk2]
    have hia : ∀ te : Ty, te.size = 4 → idxAddr (H ++ [o0, o1, .box (.agg [I w.llo, I w.lhi, I w.ulo, I w.uhi, .gsl (H.length + 3) w.es.length]), .grow 4 ((nrL w n j).map Ev.av)]) te (.gsl (H.length + 3) w.es.length) (j : Int) = some (.eptr (H.length + 3) w.es.length j 0) := by
      intro te ht
      simp only [idxAddr, get_at', List.getElem?_cons_succ, List.getElem?_cons_zero, List.length_map, nrL_len, ht]
      simp [hk2]
    have hld : ∀ (ty : Ty) (off : Nat), evLoad (H ++ [o0, o1, .box (.agg [I w.llo, I w.lhi, I w.ulo, I w.uhi, .gsl (H.length + 3) w.es.length]), .grow 4 ((nrL w n j).map Ev.av)]) ty (.eptr (H.length + 3) w.es.length j off) = readPart e.av.cells off ty := by
      intro ty off
      simp only [evLoad_eptr, get_at', List.getElem?_cons_succ, List.getElem?_cons_zero, List.length_map, nrL_len, hl1]
      simp
    have hst := fun (b : Nat) (z : Option Value) (x : Int) => nar_st (H := H) (o0 := o0) (o1 := o1) (o2 := .box (.agg [I w.llo, I w.lhi, I w.ulo, I w.uhi, .gsl (H.length + 3) w.es.length])) (b := b) (z := z) (nrL_len w n j) hk2 hge x
    have hs2 := fun b z x => (hst b z x).1
    have hs3 := fun b z x => (hst b z x).2
    have hr0 := (show readPart e.av.cells 0 ⟨.int .i64, 1, 8, some (.int .i64 0)⟩ = some (I e.k) from rfl)
    have hr2 := (show readPart e.av.cells 2 ⟨.int .i64, 1, 8, some (.int .i64 0)⟩ = some (I e.lo) from rfl)
    have hr3 := (show readPart e.av.cells 3 ⟨.int .i64, 1, 8, some (.int .i64 0)⟩ = some (I e.hi) from rfl)
    have hset := nrL_set w n hk2
    have hsame := nrL_same w n hk2
    rw [he] at hset hsame
    have hp2 := par2 n j
    by_cases k1 : e.k = 1
    · have z1 : (e.k == 1) = true := by simp [k1]
      by_cases c : (n + j) % 2 = 0
      · rw [c] at hp2
        have e1 : nrE n j e = ⟨e.k, e.u, mn e.hi (e.lo + 1), e.hi⟩ := by simp only [nrE, k1, c, if_true]
        rw [e1] at hset
        have ih' := ih (j + 1) (by omega)
        rw [← hset] at ih'
        simp only [mn] at ih'
        simp only [loopIt, todoPast, todoAt, todoOf, firstReg, ↓reduceIte, Option.some.injEq, Nat.reduceEqDiff, reduceCtorEq, Tryd.f10]
        rw [execL_inLoop]
        simp (maxSteps := 1000000) (implicitDefEqProofs := false) (disch := first | rfl | omega | assumption) only [go_sem, g1, g3, g4, g10, g13, g14, g90, g91, ltT, ltF, leT, leF, hk', hia, hld, hs2, hs3, hr0, hr2, hr3, z1, hp2]
        rw [chkK_of]; rotate_left; kernel_rfl
        simp (maxSteps := 1000000) (implicitDefEqProofs := false) (disch := first | rfl | omega | assumption) only [go_sem, g1, g3, g4, g10, g13, g14, g90, g91, ltT, ltF, leT, leF, hk', hia, hld, hs2, hs3, hr0, hr2, hr3, z1, hp2]
        exact ih' _ (by exact g1) (by exact g3) (by exact g4) (by exact g10) (by exact g13) (by exact g14) (by exact g90) (by rfl)
      · have c1 : (n + j) % 2 = 1 := by omega
        rw [c1] at hp2
        have e1 : nrE n j e = ⟨e.k, e.u, e.lo, mx e.lo (e.hi - 1)⟩ := by simp only [nrE, k1, c1, if_true, if_false, (show ¬ (1 : Nat) = 0 by decide)]
        rw [e1] at hset
        have ih' := ih (j + 1) (by omega)
        rw [← hset] at ih'
        simp only [mx] at ih'
        simp only [loopIt, todoPast, todoAt, todoOf, firstReg, ↓reduceIte, Option.some.injEq, Nat.reduceEqDiff, reduceCtorEq, Tryd.f10]
        rw [execL_inLoop]
        simp (maxSteps := 1000000) (implicitDefEqProofs := false) (disch := first | rfl | omega | assumption) only [go_sem, g1, g3, g4, g10, g13, g14, g90, g91, ltT, ltF, leT, leF, hk', hia, hld, hs2, hs3, hr0, hr2, hr3, z1, hp2]
        rw [chkK_of]; rotate_left; kernel_rfl
        simp (maxSteps := 1000000) (implicitDefEqProofs := false) (disch := first | rfl | omega | assumption) only [go_sem, g1, g3, g4, g10, g13, g14, g90, g91, ltT, ltF, leT, leF, hk', hia, hld, hs2, hs3, hr0, hr2, hr3, z1, hp2]
        exact ih' _ (by exact g1) (by exact g3) (by exact g4) (by exact g10) (by exact g13) (by exact g14) (by exact g90) (by rfl)
    · have z1 : (e.k == 1) = false := by simp [k1]
      have e1 : nrE n j e = e := by simp only [nrE, k1, if_false]
      have ih' := ih (j + 1) (by omega)
      rw [hsame e1] at ih'
      simp only [loopIt, todoPast, todoAt, todoOf, firstReg, ↓reduceIte, Option.some.injEq, Nat.reduceEqDiff, reduceCtorEq, Tryd.f10]
      rw [execL_inLoop]
      simp (maxSteps := 1000000) (implicitDefEqProofs := false) (disch := first | rfl | omega | assumption) only [go_sem, g1, g3, g4, g10, g13, g14, g90, g91, ltT, ltF, leT, leF, hk', hia, hld, hr0, z1]
      exact ih' _ (by exact g1) (by exact g3) (by exact g4) (by exact g10) (by exact g13) (by exact g14) (by exact g90) (by rfl)

theorem same4 (a b c d : Int) : sameL [I a, I b, I c, I d] [I a, I b, I c, I d] = true := by simp [sameL, AV.same]

theorem moreD {w : Wea} {ve : AV} (h : WeaAt H w ve) (h8 : w.es.length ≤ 8) (GG : Heap) :
    ∀ (q j : Nat), j + q = w.es.length → ∀ E : Env, E.get 4 = .ptr H.length 0 → E.get 17 = .sl false (w.es.map Ev.av) → E.get 315 = I w.es.length → E.get 316 = I j →
    Option.map (finishC H.length) (execL cfg0 prog0 ⟨10, none, false, H.length⟩ (todoAt Tryd.f10 48) ⟨E, [], H ++ (.box (.agg [I w.llo, I w.lhi, I w.ulo, I w.uhi, ve]) :: GG), none⟩) = some ⟨.ret (.bool true), H, none⟩ := by
  intro q
  have s1 := h.es.scal
  obtain ⟨a1, a2, a3, a4, a5⟩ := h.es.fA (d := ev0)
  have hS : ∀ G : Heap, SlOk (H ++ G) 4 (.sl false (w.es.map Ev.av)) (w.es.map Ev.av) := fun G => ⟨rfl, by simp [Ev.av, AV.cells]⟩
  have b1 := fun G : Heap => ((hS G).fA (d := ev0)).2.1
  have b2 := fun G : Heap => ((hS G).fA (d := ev0)).2.2.2.1
  induction q with
  | zero =>
    intro j hj  E g4 g17 g315 g316
    have hk' : ¬ (j : Int) < ((w.es.length : Nat) : Int) := by omega
    simp only [loopIt, todoPast, todoAt, todoOf, firstReg, ↓reduceIte, Option.some.injEq, Nat.reduceEqDiff, reduceCtorEq, Tryd.f10]
    rw [execL_inLoop]
    simp (maxSteps := 1000000) (implicitDefEqProofs := false) (disch := first | rfl | omega | assumption) only [go_sem, g4, g17, g315, g316, ltT, ltF, leT, leF, hk', s1, law_awake]
    done
  | succ q ih =>
    intro j hj  E g4 g17 g315 g316
    have hk' : (j : Int) < ((w.es.length : Nat) : Int) := by omega
    have hk2 : j < w.es.length := by omega
    simp only [loopIt, todoPast, todoAt, todoOf, firstReg, ↓reduceIte, Option.some.injEq, Nat.reduceEqDiff, reduceCtorEq, Tryd.f10]
    rw [execL_inLoop]
    have hr := fun e : Ev => (show readPart e.av.cells 0 ⟨.struct [(0, 3), (1, 3), (2, 23)], 4, 32, some (.agg #[.int .i64 0, .int .i64 0, .int .i64 0, .int .i64 0])⟩ = some (.agg [I e.k, I e.u, I e.lo, I e.hi]) from rfl)
    simp (maxSteps := 1000000) (implicitDefEqProofs := false) (disch := first | rfl | omega | assumption) only [go_sem, g4, g17, g315, g316, ltT, ltF, leT, leF, hk', s1, a1, a2, a3, a4, b1, b2, hr, same4]
    rw [chkK_of]; rotate_left; kernel_rfl
    simp (maxSteps := 1000000) (implicitDefEqProofs := false) (disch := first | rfl | omega | assumption) only [go_sem, g4, g17, g315, g316, ltT, ltF, leT, leF, hk', s1, a1, a2, a3, a4, b1, b2, hr, same4, bne_self_eq_false]
    exact ih (j + 1) (by omega) _ (by exact g4) (by exact g17) (by exact g315) (by rfl)

end Go.Ab
