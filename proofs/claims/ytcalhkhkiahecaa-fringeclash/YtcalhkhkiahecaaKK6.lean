/-
  FringeLengths: the plain part.
-/
import Derived.Test.YtcalhkhkiahecaaKK5
namespace Go.Ab
open Go.Proofs
set_option linter.unusedSimpArgs false
set_option linter.unusedVariables false
set_option maxRecDepth 100000
set_option maxHeartbeats 2000000

variable {H : Heap}


/-- Spans that do not meet. -/
def Gap (p q : Int × Int) : Prop := p.2 + 1 < q.1

def inP (x : Int) (p : Int × Int) : Bool := decide (p.1 ≤ x) && decide (x ≤ p.2)

end Go.Ab
/-
  FringeLengths: the readings are right, the spans, the law.
-/
namespace Go.Ab
open Go.Proofs
set_option linter.unusedSimpArgs false
set_option linter.unusedVariables false
set_option maxRecDepth 100000
set_option maxHeartbeats 2000000

variable {H : Heap}


theorem near_fold (w : Int) : ∀ (xs : List Int) (m : Int), (∀ x ∈ xs, m < x) → xs.Pairwise (· < ·) → (xs.foldl (nearS w) m = m ∨ xs.foldl (nearS w) m ∈ xs) ∧ ∀ x, x = m ∨ x ∈ xs → apw w (xs.foldl (nearS w) m) < apw w x ∨ (apw w (xs.foldl (nearS w) m) = apw w x ∧ xs.foldl (nearS w) m ≤ x)
  | [], m, _, _ => ⟨Or.inl rfl, fun x hx => hx.elim (fun e => Or.inr (by subst e; exact ⟨rfl, Int.le_refl _⟩)) (fun h => by cases h)⟩
  | y :: r, m, h1, h2 => by
    obtain ⟨h3, h4⟩ := List.pairwise_cons.1 h2
    have hmy := h1 y List.mem_cons_self
    simp only [List.foldl_cons]
    by_cases hc : apw w y - apw w m < 0
    · have e : nearS w m y = y := by simp only [nearS, if_pos hc]
      rw [e]
      obtain ⟨i1, i2⟩ := near_fold w r y h3 h4
      refine ⟨Or.inr (i1.elim (fun i1 => by rw [i1]; exact List.mem_cons_self) (fun i1 => List.mem_cons_of_mem _ i1)), fun x hx => ?_⟩
      rcases hx with rfl | hx
      · have := i2 y (Or.inl rfl); omega
      · rcases List.mem_cons.1 hx with rfl | hx
        · exact i2 x (Or.inl rfl)
        · exact i2 x (Or.inr hx)
    · have e : nearS w m y = m := by simp only [nearS, if_neg hc]
      rw [e]
      obtain ⟨i1, i2⟩ := near_fold w r m (fun x hx => h1 x (List.mem_cons_of_mem _ hx)) h4
      refine ⟨i1.elim Or.inl (fun i1 => Or.inr (List.mem_cons_of_mem _ i1)), fun x hx => ?_⟩
      rcases hx with rfl | hx
      · exact i2 x (Or.inl rfl)
      · rcases List.mem_cons.1 hx with rfl | hx
        · have := i2 m (Or.inl rfl); omega
        · exact i2 x (Or.inr hx)

theorem near_best {w : Int} {xs : List Int} (h : xs.Pairwise (· < ·)) (h0 : 0 < xs.length) : nearL w xs ∈ xs ∧ ∀ x ∈ xs, apw w (nearL w xs) < apw w x ∨ (apw w (nearL w xs) = apw w x ∧ nearL w xs ≤ x) := by
  cases xs with
  | nil => simp at h0
  | cons m r =>
    obtain ⟨h3, h4⟩ := List.pairwise_cons.1 h
    obtain ⟨i1, i2⟩ := near_fold w r m h3 h4
    have e : nearL w (m :: r) = r.foldl (nearS w) m := rfl
    rw [e]
    refine ⟨i1.elim (fun i1 => by rw [i1]; exact List.mem_cons_self) (fun i1 => List.mem_cons_of_mem _ i1), fun x hx => i2 x (List.mem_cons.1 hx)⟩

end Go.Ab
/-
  FringeTrue: the plain part.
-/
namespace Go.Ab
open Go.Proofs
set_option linter.unusedSimpArgs false
set_option linter.unusedVariables false
set_option maxRecDepth 100000
set_option maxHeartbeats 2000000

variable {H : Heap}


/-! ### The first set of all, by how many there are in it -/

theorem set_first {n : Nat} {b : Nat → Bool} {x : Nat} (h : firstF b (setL n) 0 (setL n).length = some x) : x < 2 ^ n ∧ b x = true ∧ ∀ y, y < 2 ^ n → b y = true → pop x < pop y ∨ (pop x = pop y ∧ x ≤ y) := by
  obtain ⟨i, h1, h2, h3, h4⟩ := (findF_some _ _ _ _).1 h
  rw [setL_len] at h2
  split at h3
  · rename_i hb
    have hx : (setL n).getD i 0 = x := by simpa using h3
    rw [hx] at hb
    refine ⟨firstF_lt (setL_lt n) h, hb, fun y hy hby => ?_⟩
    obtain ⟨k, k1, k2⟩ := setL_has hy
    have k2' : (setL n).getD k 0 = y := k2
    by_cases e : k < i
    · have := h4 k (by omega) e
      rw [if_pos (by rw [k2']; exact hby)] at this
      cases this
    · by_cases e2 : k = i
      · subst e2
        rw [hx] at k2'
        subst k2'
        exact Or.inr ⟨rfl, Nat.le_refl _⟩
      · have := (setL_srt n).1 i k (by omega) (by omega) (by omega)
        simp only [lx, popK, id] at this
        have e1 : gt (setL n) i = x := hx
        rw [e1, k2] at this
        omega
  · cases h3

theorem set_none {n : Nat} {b : Nat → Bool} (h : firstF b (setL n) 0 (setL n).length = none) : ∀ y, y < 2 ^ n → b y = false := by
  intro y hy
  obtain ⟨k, k1, k2⟩ := setL_has hy
  have := (findF_none _ _ _).1 h k (by omega) (by rw [setL_len]; omega)
  rw [show (setL n).getD k 0 = y from k2] at this
  cases hb : b y
  · rfl
  · rw [hb] at this; cases this

theorem pop_zero : pop 0 = 0 := popF_zero 20

theorem popF_pos : ∀ (m x : Nat), 0 < x → x < 2 ^ m → 0 < popF m x
  | 0, x, h0, h1 => by simp at h1; omega
  | m + 1, x, h0, h1 => by
    simp only [popF]
    by_cases e : x % 2 = 0
    · have h2 : (2 : Nat) ^ (m + 1) = 2 * 2 ^ m := by rw [Nat.pow_succ]; omega
      have := popF_pos m (x / 2) (by omega) (by omega)
      omega
    · omega

theorem pop_pos {x : Nat} (h0 : 0 < x) (h : x < 2 ^ 20) : 0 < pop x := popF_pos 20 x h0 h

theorem set_zero {n : Nat} {b : Nat → Bool} (hn : n ≤ 10) (hb : b 0 = true) : firstF b (setL n) 0 (setL n).length = some 0 := by
  have hp := Nat.two_pow_pos n
  have hp2 : (2 : Nat) ^ n ≤ 2 ^ 20 := Nat.pow_le_pow_right (by omega) (by omega)
  cases h : firstF b (setL n) 0 (setL n).length with
  | none => rw [set_none h 0 hp] at hb; cases hb
  | some x =>
    obtain ⟨h1, h2, h3⟩ := set_first h
    have h4 := h3 0 hp hb
    rw [pop_zero] at h4
    by_cases e : x = 0
    · rw [e]
    · have := pop_pos (x := x) (by omega) (by omega)
      omega

theorem dedup_lenI : ∀ zs : List Int, (dedupI zs).length ≤ zs.length
  | [] => Nat.le_refl _
  | [_] => Nat.le_refl _
  | x :: y :: r => by
    have := dedup_lenI (y :: r)
    simp only [dedupI]
    split <;> simp only [List.length_cons] at this ⊢ <;> omega

/-! ### A truth -/

/-- All readings are right of a length. -/
structure Tru (f : Frg) (L : Int) : Prop where
  ok : f.Ok
  len : f.lo ≤ L ∧ L ≤ f.hi
  rd : ∀ i, i < f.rs.length → rgt (f.w (f.r i).c.toNat) (f.r i).lo (f.r i).hi L = true

theorem Tru.right {f : Frg} {L : Int} (h : Tru f L) (s : Nat) : f.right s L = true := by
  simp only [Frg.right, Frg.rt, Bool.not_eq_true', anyF_false]
  intro i _ hi
  rw [h.rd i (by omega)]
  simp

theorem Tru.mem {f : Frg} {L : Int} (h : Tru f L) (s : Nat) : L ∈ f.lens s := (mem_lens h.ok s L).2 ⟨h.len, h.right s⟩

theorem Tru.can {f : Frg} {L : Int} (h : Tru f L) (s : Nat) : f.can s = true := by
  simp only [Frg.can, Bool.not_eq_true', List.isEmpty_eq_false_iff]
  intro e
  have := h.mem s
  rw [e] at this
  cases this

theorem Tru.pos {f : Frg} {L : Int} (h : Tru f L) : (f.lens f.all).isEmpty = false := by
  have := h.can f.all
  simpa [Frg.can] using this

theorem Tru.near {f : Frg} {L : Int} (h : Tru f L) : f.near L = (L, 0) := by
  have hlen := h.ok.len
  have hL := h.len
  have kw : wi L 0 2000 = true := by simp [wi]; omega
  have hpos : 0 < (f.lens f.all).length := List.length_pos_of_mem (h.mem f.all)
  obtain ⟨m1, m2⟩ := near_best (w := L) (lens_up f f.all) hpos
  have h2 := m2 L (h.mem f.all)
  have ha : ∀ x, apw L x = 0 ∨ 0 < apw L x := fun x => by simp only [apw]; split <;> omega
  have h0 : apw L L = 0 := by simp only [apw]; split <;> omega
  have he : nearL L (f.lens f.all) = L := by
    generalize nearL L (f.lens f.all) = x at *
    simp only [apw] at h2 h0
    revert h2
    split <;> split <;> intro h2 <;> omega
  simp only [Frg.near, f.valid_iff.2 h.ok, if_true, kw, h.pos, Bool.false_eq_true, if_false, he]

theorem Tru.wrong {f : Frg} {L : Int} (h : Tru f L) : f.wrong = (0, 0, 0) := by
  have h6 := h.ok.reads
  have := set_zero (n := f.rs.length) (b := fun s => f.can (diffN f.all s)) (by omega) (h.can _)
  simp only [Frg.wrong, f.valid_iff.2 h.ok, if_true, this, Option.getD_some, pop_zero]
  rfl

theorem Tru.clash {f : Frg} {L : Int} (h : Tru f L) : f.clash = (0, 4) := by
  simp only [Frg.clash, f.valid_iff.2 h.ok, if_true]
  cases hc : firstF (fun s => !f.can s) (setL f.rs.length) 0 (setL f.rs.length).length with
  | none => rfl
  | some x =>
    have := (set_first hc).2.1
    rw [h.can x] at this
    cases this

theorem Tru.whole {f : Frg} {L : Int} (h : Tru f L) {c : Nat} (hc : c < f.ws.length) : ∃ xs, f.whole c = (xs, 0) ∧ L / f.w c ∈ xs ∧ xs.length ≤ 401 := by
  have hw := h.ok.wave c hc
  have hwi : wi (c : Int) 0 ((f.ws.length : Int) - 1) = true := by simp [wi]; omega
  obtain ⟨h1, h2⟩ := allW_fold (w := f.w c) (by omega) (f.lens f.all) [] (lens_up f f.all) List.Pairwise.nil (by simp)
  have he := whole_all (w := f.w c) (by omega) (lens_up f f.all)
  refine ⟨wholeL (f.cnt c), by simp only [Frg.whole, f.valid_iff.2 h.ok, if_true, hwi, h.pos, Bool.false_eq_true, if_false, Int.toNat_natCast], ?_, ?_⟩
  · simp only [Frg.cnt]
    rw [he, allW]
    exact (h2 _).2 (Or.inr ⟨L, h.mem _, rfl⟩)
  · have hb := cnt_bd h.ok c
    have hd := dedup_lenI (((f.cnt c).map (fun p => p.1.1)).mergeSort fun x y => decide (x ≤ y))
    rw [List.length_mergeSort, List.length_map] at hd
    simp only [wholeL]
    omega

theorem Tru.parts {f : Frg} {L : Int} (h : Tru f L) {c : Nat} (hc : c < f.ws.length) : ∃ s : Nat, f.parts c = ((s : Int), 0) ∧ s.testBit (ptZ (f.w c) L).toNat = true ∧ s < 2 ^ 20 := by
  have hw := h.ok.wave c hc
  have hwi : wi (c : Int) 0 ((f.ws.length : Int) - 1) = true := by simp [wi]; omega
  refine ⟨allP (f.w c) (f.lens f.all), ?_, ?_, ?_⟩
  · simp only [Frg.parts, f.valid_iff.2 h.ok, if_true, hwi, h.pos, Bool.false_eq_true, if_false, Int.toNat_natCast, Frg.cnt, parts_all]
  · simp only [allP, orG_bit, Bool.or_eq_true, List.any_eq_true, decide_eq_true_eq]
    exact Or.inr ⟨L, h.mem _, rfl⟩
  · exact ofold_lt (by omega) _ _ (by decide)

/-- The readings leave no more lengths in the part that is the truth's than are told. -/
theorem Tru.ask {f : Frg} {L : Int} (h : Tru f L) : ∃ b : Nat, f.ask = ((b : Int), f.most b, 0) ∧ b < f.ws.length ∧ 1 ≤ f.most b ∧ f.most b ≤ (f.lens f.all).length ∧ 1 ≤ f.lenP b (ptZ (f.w b) L).toNat ∧ ((f.lenP b (ptZ (f.w b) L).toNat : Nat) : Int) ≤ f.most b := by
  have hm := h.ok.many
  obtain ⟨b, k1, k2, k3, k4⟩ := ask_best (f := f) (by omega)
  have hw := h.ok.wave b k2
  have hb := ptZ_bd (w := f.w b) (n := L) (by omega)
  have hge : ∀ (q j : Nat) (a : Int), a ≤ mGo f b j q a ∧ ∀ i, j ≤ i → i < j + q → ((f.lenP b i : Nat) : Int) ≤ mGo f b j q a := by
    intro q
    induction q with
    | zero => exact fun j a => ⟨Int.le_refl _, fun i h1 h2 => by omega⟩
    | succ q ih =>
      intro j a
      obtain ⟨i1, i2⟩ := ih (j + 1) (mx2 a (f.lenP b j : Nat))
      have hx : a ≤ mx2 a (f.lenP b j : Nat) ∧ ((f.lenP b j : Nat) : Int) ≤ mx2 a (f.lenP b j : Nat) := by simp only [mx2]; split <;> omega
      simp only [mGo]
      refine ⟨by omega, fun i h1 h2 => ?_⟩
      by_cases e : i = j
      · subst e; omega
      · exact i2 i (by omega) (by omega)
  have hle : ∀ (q j : Nat) (a B : Int), a ≤ B → (∀ i, ((f.lenP b i : Nat) : Int) ≤ B) → mGo f b j q a ≤ B := by
    intro q
    induction q with
    | zero => exact fun j a B h1 _ => h1
    | succ q ih => exact fun j a B h1 h2 => ih (j + 1) _ B (by have := h2 j; simp only [mx2]; split <;> omega) h2
  have g1 := (hge 20 0 0).2 (ptZ (f.w b) L).toNat (by omega) (by omega)
  have g2 := hle 20 0 0 (f.lens f.all).length (by omega) (fun i => by
    have : f.lenP b i ≤ (f.lens f.all).length := List.length_filter_le _ _
    omega)
  rw [mGo_most] at g1 g2
  have g3 : 1 ≤ f.lenP b (ptZ (f.w b) L).toNat := by
    have : L ∈ (f.lens f.all).filter fun n => decide (ptZ (f.w b) n = ((ptZ (f.w b) L).toNat : Int)) := by
      rw [List.mem_filter]
      refine ⟨h.mem _, by rw [decide_eq_true_eq]; omega⟩
    exact List.length_pos_of_mem this
  refine ⟨b, ?_, k2, by omega, g2, g3, g1⟩
  simp only [Frg.ask, f.valid_iff.2 h.ok, if_true, h.pos, Bool.false_eq_true, if_false]
  rw [k1, k3]

/-! ### The fringe that is made -/

def mdK (us : List Int) : Nat := (drawN us 1 4).toNat + 1
def mdW (us : List Int) (i : Nat) : Int := 2 + drawN us (2 + (i : Int)) 59
def mdL (us : List Int) : Int := drawN us ((mdK us : Int) + 2) 2001
def mdLo (us : List Int) : Int := if 0 < mdL us - drawN us ((mdK us : Int) + 3) 200 then mdL us - drawN us ((mdK us : Int) + 3) 200 else 0
def mdHi (us : List Int) : Int := if mdL us + drawN us ((mdK us : Int) + 4) 200 < 2000 then mdL us + drawN us ((mdK us : Int) + 4) 200 else 2000
def mdM (us : List Int) : Nat := (drawN us ((mdK us : Int) + 5) 7).toNat
def mdC (us : List Int) (i : Nat) : Int := drawN us ((mdK us : Int) + 6 + 3 * (i : Int)) (mdK us : Int)
def mdO (us : List Int) (i : Nat) : Int := drawN us ((mdK us : Int) + 7 + 3 * (i : Int)) 4
def mdD (us : List Int) (i : Nat) : Int := drawN us ((mdK us : Int) + 8 + 3 * (i : Int)) 4
def mdA (us : List Int) (i : Nat) : Int := (ptZ (mdW us (mdC us i).toNat) (mdL us) - mdO us i + 20) % 20
def mdR (us : List Int) (i : Nat) : Rd := ⟨mdC us i, mdA us i, mdA us i + mdO us i + mdD us i⟩
def mdWs (us : List Int) (k : Nat) : List Int := (List.range k).map (mdW us)
def mdRs (us : List Int) (k : Nat) : List Rd := (List.range k).map (mdR us)
def mdF (us : List Int) : Frg := ⟨mdWs us (mdK us), mdLo us, mdHi us, mdRs us (mdM us)⟩

end Go.Ab
/-
  FringeClash: the plain part.
-/
namespace Go.Ab
open Go.Proofs
set_option linter.unusedSimpArgs false
set_option linter.unusedVariables false
set_option maxRecDepth 100000
set_option maxHeartbeats 2000000

variable {H : Heap}


theorem right_iff {f : Frg} {s : Nat} {n : Int} : f.right s n = true ↔ ∀ i, i < f.rs.length → s.testBit i = true → rgt (f.w (f.r i).c.toNat) (f.r i).lo (f.r i).hi n = true := by
  simp only [Frg.right, Frg.rt, Bool.not_eq_true', anyF_false]
  constructor
  · intro h i hi hb
    have := h i (by omega) (by omega)
    rw [hb] at this
    simpa using this
  · intro h i _ hi
    cases hb : s.testBit i
    · rfl
    · rw [h i (by omega) hb]; rfl

theorem lensF_congr {f g : Frg} {s t : Nat} (h : ∀ n, g.right t n = f.right s n) : ∀ (q : Nat) (n : Int), g.lensF t n q = f.lensF s n q
  | 0, n => rfl
  | q + 1, n => by simp only [Frg.lensF, h, lensF_congr h q]

theorem lens_congr {f g : Frg} {s t : Nat} (h : ∀ n, g.right t n = f.right s n) (h1 : g.lo = f.lo) (h2 : g.hi = f.hi) : g.lens t = f.lens s := by
  simp only [Frg.lens, h1, h2]
  exact lensF_congr h _ _

theorem can_mono {f : Frg} (ho : f.Ok) {s t : Nat} (h : ∀ i, i < f.rs.length → t.testBit i = true → s.testBit i = true) (hc : f.can s = true) : f.can t = true := by
  simp only [Frg.can, Bool.not_eq_true', List.isEmpty_eq_false_iff] at hc ⊢
  obtain ⟨x, hx⟩ := List.exists_mem_of_ne_nil _ hc
  have h1 := (mem_lens ho s x).1 hx
  have h2 : x ∈ f.lens t := (mem_lens ho t x).2 ⟨h1.1, right_iff.2 fun i hi hb => right_iff.1 h1.2 i hi (h i hi hb)⟩
  intro e
  rw [e] at h2
  cases h2

theorem can_zero {f : Frg} (ho : f.Ok) : f.can 0 = true := by
  have hl := ho.len
  have h2 : f.lo ∈ f.lens 0 := (mem_lens ho 0 f.lo).2 ⟨by omega, right_iff.2 fun i hi hb => by simp at hb⟩
  simp only [Frg.can, Bool.not_eq_true', List.isEmpty_eq_false_iff]
  intro e
  rw [e] at h2
  cases h2

theorem all_is (f : Frg) : f.all = 2 ^ f.rs.length - 1 := rfl

theorem all_bit3 {f : Frg} {i : Nat} (h : i < f.rs.length) : f.all.testBit i = true := all_bit2 h

theorem wrong_is {f : Frg} (ho : f.Ok) : ∃ out : Nat, f.wrong = ((pop out : Int), (out : Int), 0) ∧ out < 2 ^ f.rs.length ∧ f.can (diffN f.all out) = true ∧ ∀ y, y < 2 ^ f.rs.length → f.can (diffN f.all y) = true → pop out < pop y ∨ (pop out = pop y ∧ out ≤ y) := by
  have hp := Nat.two_pow_pos f.rs.length
  simp only [Frg.wrong, f.valid_iff.2 ho, if_true]
  cases h : firstF (fun s => f.can (diffN f.all s)) (setL f.rs.length) 0 (setL f.rs.length).length with
  | none =>
    have := set_none h f.all (by simp only [all_is]; omega)
    have e : diffN f.all f.all = 0 := by simp [diffN]
    rw [e, can_zero ho] at this
    cases this
  | some x =>
    obtain ⟨h1, h2, h3⟩ := set_first h
    exact ⟨x, rfl, h1, h2, h3⟩

theorem clash_ok {f : Frg} (ho : f.Ok) (hc : f.can f.all = true) : f.clash = (0, 4) := by
  simp only [Frg.clash, f.valid_iff.2 ho, if_true]
  cases h : firstF (fun s => !f.can s) (setL f.rs.length) 0 (setL f.rs.length).length with
  | none => rfl
  | some x =>
    have := (set_first h).2.1
    rw [can_mono ho (s := f.all) (t := x) (fun i hi _ => all_bit3 hi) hc] at this
    cases this

theorem clash_is {f : Frg} (ho : f.Ok) (hc : f.can f.all = false) : ∃ s : Nat, f.clash = ((s : Int), 0) ∧ s < 2 ^ f.rs.length ∧ 0 < s ∧ f.can s = false ∧ ∀ y, y < 2 ^ f.rs.length → f.can y = false → pop s < pop y ∨ (pop s = pop y ∧ s ≤ y) := by
  have hp := Nat.two_pow_pos f.rs.length
  simp only [Frg.clash, f.valid_iff.2 ho, if_true]
  cases h : firstF (fun s => !f.can s) (setL f.rs.length) 0 (setL f.rs.length).length with
  | none =>
    have := set_none h f.all (by simp only [all_is]; omega)
    rw [hc] at this
    cases this
  | some x =>
    obtain ⟨h1, h2, h3⟩ := set_first h
    have h2' : f.can x = false := by simpa using h2
    refine ⟨x, rfl, h1, ?_, h2', fun y hy hcy => h3 y hy (by simp [hcy])⟩
    rcases Nat.eq_zero_or_pos x with e | e
    · rw [e, can_zero ho] at h2'; cases h2'
    · exact e

theorem pop_del : ∀ x < 64, ∀ i < 6, x.testBit i = true → pop (diffN x (2 ^ i)) < pop x := by decide +kernel

/-- The least set that clashes: without any one of its readings it does not, and it meets what must be wrong. -/
theorem clash_min {f : Frg} (ho : f.Ok) {s : Nat} (h1 : s < 2 ^ f.rs.length) (h4 : ∀ y, y < 2 ^ f.rs.length → f.can y = false → pop s < pop y ∨ (pop s = pop y ∧ s ≤ y)) {i : Nat} (hi : i < f.rs.length) (hb : s.testBit i = true) : f.can (diffN s (2 ^ i)) = true := by
  have h6 := ho.reads
  have h2 : (2 : Nat) ^ f.rs.length ≤ 2 ^ 6 := Nat.pow_le_pow_right (by omega) h6
  have hd := pop_del s (by omega) i (by omega) hb
  have hlt : diffN s (2 ^ i) < 2 ^ f.rs.length := diffN_lt h1
  cases hc : f.can (diffN s (2 ^ i))
  · have := h4 _ hlt hc; omega
  · rfl

theorem clash_meet {f : Frg} (ho : f.Ok) {s o : Nat} (h1 : s < 2 ^ f.rs.length) (hc : f.can s = false) (ho2 : f.can (diffN f.all o) = true) : s &&& o ≠ 0 := by
  intro e
  rw [can_mono ho (s := diffN f.all o) (t := s) (fun i hi hb => by
    rw [diffN_bit, all_bit3 hi]
    have : (s &&& o).testBit i = false := by rw [e]; simp
    rw [Nat.testBit_and, hb] at this
    simpa using this) ho2] at hc
  cases hc

/-! ### A fringe with the readings of a set alone -/

def Frg.subR (f : Frg) (s j : Nat) : List Rd := ((List.range j).filter fun i => s.testBit i).map f.r
def Frg.sub (f : Frg) (s : Nat) : Frg := { f with rs := f.subR s f.rs.length }

theorem subR_succ (f : Frg) (s j : Nat) : f.subR s (j + 1) = if s.testBit j then f.subR s j ++ [f.r j] else f.subR s j := by
  simp only [Frg.subR, List.range_succ, List.filter_append, List.map_append]
  cases h : s.testBit j
  · simp [h]
  · simp [h]

theorem subR_len (f : Frg) (s j : Nat) : (f.subR s j).length ≤ j := by
  simp only [Frg.subR, List.length_map]
  have := List.length_filter_le (fun i => s.testBit i) (List.range j)
  rw [List.length_range] at this
  exact this

theorem mem_subR {f : Frg} {s j : Nat} {r : Rd} : r ∈ f.subR s j ↔ ∃ i, i < j ∧ s.testBit i = true ∧ f.r i = r := by
  simp only [Frg.subR, List.mem_map, List.mem_filter, List.mem_range, and_assoc]

theorem sub_at {f : Frg} {s i : Nat} (h : i < (f.sub s).rs.length) : ∃ k, k < f.rs.length ∧ s.testBit k = true ∧ (f.sub s).r i = f.r k := by
  have hm : (f.sub s).r i ∈ f.subR s f.rs.length := by
    simp only [Frg.r, List.getD_eq_getElem?_getD, List.getElem?_eq_getElem h, Option.getD_some]
    exact List.getElem_mem h
  obtain ⟨k, k1, k2, k3⟩ := mem_subR.1 hm
  exact ⟨k, k1, k2, k3.symm⟩

theorem sub_ok {f : Frg} (ho : f.Ok) (s : Nat) : (f.sub s).Ok := by
  refine ⟨ho.many, Nat.le_trans (subR_len f s f.rs.length) ho.reads, ho.wave, ho.len, fun i hi => ?_⟩
  obtain ⟨k, k1, _, k3⟩ := sub_at hi
  rw [k3]
  exact ho.rd k k1

theorem sub_right {f : Frg} (s : Nat) (n : Int) : (f.sub s).right (f.sub s).all n = f.right s n := by
  rw [Bool.eq_iff_iff, right_iff, right_iff]
  constructor
  · intro h i hi hb
    have hm : f.r i ∈ (f.sub s).rs := mem_subR.2 ⟨i, hi, hb, rfl⟩
    obtain ⟨k, hk, e⟩ := List.getElem_of_mem hm
    have := h k hk (all_bit3 hk)
    have er : (f.sub s).r k = f.r i := by simp only [Frg.r, List.getD_eq_getElem?_getD, List.getElem?_eq_getElem hk, Option.getD_some]; exact e
    rw [er] at this
    exact this
  · intro h i hi _
    obtain ⟨k, k1, k2, k3⟩ := sub_at hi
    rw [k3]
    exact h k k1 k2

theorem sub_count {f : Frg} (ho : f.Ok) (s : Nat) : (f.sub s).count = (((f.lens s).length : Int), 0) := by
  simp only [Frg.count, (f.sub s).valid_iff.2 (sub_ok ho s), if_true]
  rw [lens_congr (f := f) (g := f.sub s) (s := s) (t := (f.sub s).all) (sub_right s) rfl rfl]

theorem can_len (f : Frg) (s : Nat) : (((f.lens s).length : Int) == 0) = !f.can s := by
  simp only [Frg.can, Bool.not_not]
  cases f.lens s with
  | nil => rfl
  | cons x r => simp; omega

end Go.Ab
/-
  FringeClash, walked.
-/
namespace Go.Ab
open Go.Proofs
set_option linter.unusedSimpArgs false
set_option linter.unusedVariables false
set_option maxRecDepth 100000
set_option maxHeartbeats 2000000

variable {H : Heap}


theorem size_loop (r : Nat) :
    ∀ (q j : Nat), j + q = 20 → ∀ (s n : Nat), s < 2 ^ q → n ≤ j → n + popF q s = r → ∀ E : Env, E.get 0 = I s → E.get 3 = I n →
    Option.map (finishC H.length) (execL cfg0 prog0 ⟨33, none, false, H.length⟩ (todoAt Try.f33 2) ⟨E, [], H, none⟩) = some ⟨.ret (I r), H, none⟩ := by
  intro q
  skip
  induction q with
  | zero =>
    intro j hj s n hs hn hr E g0 g3
    have hk' : ¬ (j : Int) < ((20 : Nat) : Int) := by omega
    have es : s = 0 := by simpa using hs
    subst es
    simp only [popF, Nat.add_zero] at hr
    subst hr
    simp only [loopIt, todoPast, todoAt, todoOf, firstReg, ↓reduceIte, Option.some.injEq, Nat.reduceEqDiff, reduceCtorEq, Try.f33]
    rw [execL_inLoop]
    simp (maxSteps := 1000000) (implicitDefEqProofs := false) (disch := first | rfl | omega | assumption) only [go_sem, g0, g3, ltT, ltF, leT, leF, hk']
    done
  | succ q ih =>
    intro j hj s n hs hn hr E g0 g3
    have hk' : (j : Int) < ((20 : Nat) : Int) := by omega
    have hk2 : j < 20 := by omega
    simp only [popF] at hr
    by_cases h0 : s = 0
    · subst h0
      rw [popF_zero] at hr
      have e : n = r := by omega
      subst e
      simp only [loopIt, todoPast, todoAt, todoOf, firstReg, ↓reduceIte, Option.some.injEq, Nat.reduceEqDiff, reduceCtorEq, Try.f33]
      rw [execL_inLoop]
      simp (maxSteps := 1000000) (implicitDefEqProofs := false) (disch := first | rfl | omega | assumption) only [go_sem, g0, g3, ltT, ltF, leT, leF, hk']
      done
    · have hp : (0 : Int) < (s : Int) := by omega
      have e1 : ((s : Nat) : Int).tdiv 2 = ((s / 2 : Nat) : Int) := rfl
      have e2 : ((s : Nat) : Int).tmod 2 = ((s % 2 : Nat) : Int) := rfl
      have hb : (2 : Nat) ^ (q + 1) ≤ 2 ^ 20 := Nat.pow_le_pow_right (by omega) (by omega)
      have e3 : IntKind.i64.wrap ((n : Int) + ((s % 2 : Nat) : Int)) = ((n + s % 2 : Nat) : Int) := by rw [w64 (by omega) (by omega)]; omega
      have e4 : IntKind.i64.wrap ((s / 2 : Nat) : Int) = ((s / 2 : Nat) : Int) := w64 (by omega) (by omega)
      simp only [loopIt, todoPast, todoAt, todoOf, firstReg, ↓reduceIte, Option.some.injEq, Nat.reduceEqDiff, reduceCtorEq, Try.f33]
      rw [execL_inLoop]
      simp (maxSteps := 1000000) (implicitDefEqProofs := false) (disch := first | rfl | omega | assumption) only [go_sem, g0, g3, ltT, ltF, leT, leF, hk', hp, e1, e2, e3, e4]
      exact ih (j + 1) (by omega) (s / 2) (n + s % 2) (by rw [Nat.pow_succ] at hs; omega) (by omega) (by omega) _ (by rfl) (by rfl)

theorem rf_Size {s : Nat} (hs : s < 2 ^ 20) (H : Heap) : callFL cfg0 prog0 false 33 [I s] H none = some ⟨.ret (I (pop s)), H, none⟩ := by
  have h1 := size_loop (H := H) (pop s) 20 0 (by omega) s 0 hs (by omega) (by simp [pop])
  refine (callFL_eq fn33 rfl (by simp [Try.f33])).trans ?_
  simp (maxSteps := 1000000) (implicitDefEqProofs := false) (disch := first | rfl | omega | assumption) only [go_sem, ltT, ltF, leT, leF]
  exact h1 _ (by rfl) (by rfl)

theorem SlOk.sealn {sz : Nat} {v : AV} {xs : List AV} (h : SlOk H sz v xs) (A : Heap) (k : Nat) : sealG A (H.length + k) v = v := by
  have := (h.app (List.replicate k AO.dead)).seal A
  simpa using this

theorem cl_loop {f : Frg} {vw vr : AV} (ho : f.Ok) (hf : FrAt H f vw vr) (s : Nat) (hs : s < 64) :
    ∀ (q j : Nat), j + q = f.rs.length → ∀ (xs : List Rd), xs = f.subR s j → ∀ (G : Heap), ∀ E : Env, E.get 0 = I s → E.get 4 = .ptr H.length 0 → E.get 12 = vr → E.get 13 = I f.rs.length → E.get 14 = I j →
    Option.map (finishC H.length) (execL cfg0 prog0 ⟨32, none, false, H.length⟩ (todoAt Try.f32 4) ⟨E, [], H ++ (.box (.agg [vw, I f.lo, I f.hi, .gsl (H.length + 1) xs.length]) :: .grow 3 (xs.map Rd.av) :: G), none⟩) = some ⟨.ret (.bool (!f.can s)), H, none⟩ := by
  intro q
  obtain ⟨a1, a2, a3, a4, a5⟩ := hf.rs.fF (d := rd0)
  have s1 := hf.ws.scal
  have s2 := hf.rs.scal
  have t1 := hf.ws.ltn 2
  have t2 := hf.rs.ltn 2
  have t3 := hf.ws.ltn 1
  have h6 := ho.reads
  have hlt := fun (N : Nat) (l : List Rd) => ltL_map (f := Rd.av) (N := N) (fun _ => rfl) l
  induction q with
  | zero =>
    intro j hj xs hx G E g0 g4 g12 g13 g14
    have hk' : ¬ (j : Int) < ((f.rs.length : Nat) : Int) := by omega
    have ej : j = f.rs.length := by omega
    subst ej
    subst hx
    simp only [loopIt, todoPast, todoAt, todoOf, firstReg, ↓reduceIte, Option.some.injEq, Nat.reduceEqDiff, reduceCtorEq, Try.f32]
    rw [execL_inLoop]
    have hat : FrAt (H ++ [.box (.agg [vw, I f.lo, I f.hi, .sl false ((f.subR s f.rs.length).map Rd.av)])]) (f.sub s) vw (.sl false ((f.subR s f.rs.length).map Rd.av)) := ⟨hf.ws.app _, ⟨rfl, fun x hx => by obtain ⟨i, _, rfl⟩ := List.mem_map.1 hx; rfl⟩⟩
    have hC := fr_Count hat (by have := (sub_ok ho s).many; have := (sub_ok ho s).reads; omega)
    rw [sub_count ho s] at hC
    have hC2 : callFL cfg0 prog0 false 14 [.agg [vw, I f.lo, I f.hi, .sl false ((f.subR s f.rs.length).map Rd.av)]] (H ++ [.box (.agg [vw, I f.lo, I f.hi, .sl false ((f.subR s f.rs.length).map Rd.av)])]) none = some ⟨.ret (.tup [I (f.lens s).length, I 0]), _, none⟩ := hC
    have hcl := can_len f s
    simp (maxSteps := 1000000) (implicitDefEqProofs := false) (disch := first | rfl | omega | assumption) only [go_sem, g0, g4, g12, g13, g14, ltT, ltF, leT, leF, hk', s1, s2, t1, t2, t3, hf.ws.sealn, hlt, hC2, hcl]
    done
  | succ q ih =>
    intro j hj xs hx G E g0 g4 g12 g13 g14
    have hk' : (j : Int) < ((f.rs.length : Nat) : Int) := by omega
    have hk2 : j < f.rs.length := by omega
    obtain ⟨x, hxe⟩ : ∃ x, f.rs.getD j rd0 = x := ⟨_, rfl⟩
    have hrd := fun x : Rd => (show readPart x.av.cells 0 ⟨.struct [(0, 3), (1, 29)], 3, 24, some (.agg #[.int .i64 0, .int .i64 0, .int .i64 0])⟩ = some (.agg [I x.c, I x.lo, I x.hi]) from rfl)
    have hsucc := subR_succ f s j
    rw [← hx, show f.r j = x from hxe] at hsucc
    have hsh := shrN6 (s := s) (j := j) (by omega)
    have hand := bitI (s := s) (j := j) (by omega)
    have hone := and_one (s := s) (j := j)
    have z : ¬ (j : Int) < 0 := by omega
    have hlx : xs.length ≤ j := by rw [hx]; exact subR_len f s j
    have hadd : addElem (H ++ [.box (.agg [vw, I f.lo, I f.hi, .gsl (H.length + 1) xs.length]), .grow 3 (xs.map Rd.av), .box (.agg [I x.c, I x.lo, I x.hi])]) 3 true (.gsl (H.length + 1) xs.length) [.agg [I x.c, I x.lo, I x.hi]] = some (.gsl (H.length + 1) (xs.length + 1), H ++ [.box (.agg [vw, I f.lo, I f.hi, .gsl (H.length + 1) xs.length]), .grow 3 ((xs ++ [x]).map Rd.av), .box (.agg [I x.c, I x.lo, I x.hi])]) := by
      rw [add_gsl (xs := xs.map Rd.av) (by rw [get_at']; rfl) (by rw [List.length_map]) rfl rfl (by simp; omega), set_at', List.map_append]
      rfl
    cases hb : s.testBit j
    · rw [hb] at hone hsucc
      have key := ih (j + 1) (by omega) xs (by simpa using hsucc.symm) [.box (.agg [I x.c, I x.lo, I x.hi])]
      simp only [loopIt, todoPast, todoAt, todoOf, firstReg, ↓reduceIte, Option.some.injEq, Nat.reduceEqDiff, reduceCtorEq, Try.f32]
      rw [execL_inLoop]
      simp (maxSteps := 1000000) (implicitDefEqProofs := false) (disch := first | rfl | omega | assumption) only [go_sem, g0, g4, g12, g13, g14, ltT, ltF, leT, leF, hk', s1, s2, t1, t2, hlt, a1, a2, a3, a4, hxe, hrd, hsh, hand, hone, z]
      exact key _ (by rfl) (by rfl) (by rfl) (by rfl) (by rfl)
    · rw [hb] at hone hsucc
      have key := ih (j + 1) (by omega) (xs ++ [x]) (by simpa using hsucc.symm) [.box (.agg [I x.c, I x.lo, I x.hi])]
      rw [List.length_append] at key
      simp only [loopIt, todoPast, todoAt, todoOf, firstReg, ↓reduceIte, Option.some.injEq, Nat.reduceEqDiff, reduceCtorEq, Try.f32]
      rw [execL_inLoop]
      simp (maxSteps := 1000000) (implicitDefEqProofs := false) (disch := first | rfl | omega | assumption) only [go_sem, g0, g4, g12, g13, g14, ltT, ltF, leT, leF, hk', s1, s2, t1, t2, hlt, a1, a2, a3, a4, hxe, hrd, hsh, hand, hone, z, hadd]
      exact key _ (by rfl) (by rfl) (by rfl) (by rfl) (by rfl)

theorem law_clash1 {f : Frg} {vw vr : AV} (ho : f.Ok) (hf : FrAt H f vw vr) {s : Nat} (hs : s < 64) {p : Nat} (hp : H[p]? = some (.box (.agg [vw, I f.lo, I f.hi, vr]))) :
    callFL cfg0 prog0 false 32 [I s, .ptr p 0] H none = some ⟨.ret (.bool (!f.can s)), H, none⟩ := by
  have hlp : p < H.length := (List.getElem?_eq_some_iff.1 hp).1
  have s1 := hf.ws.scal
  have s2 := hf.rs.scal
  have t1 := hf.ws.ltn 1
  have t2 := hf.rs.ltn 1
  have l2 := hf.rs.len
  rw [List.length_map] at l2
  have hp' : ∀ G : Heap, (H ++ G)[p]? = some (.box (.agg [vw, I f.lo, I f.hi, vr])) := fun G => by rw [List.getElem?_append_left hlp]; exact hp
  have h := cl_loop ho hf s hs f.rs.length 0 (by omega) [] rfl []
  simp only [List.length_nil, List.map_nil] at h
  refine (callFL_eq fn32 rfl (by simp [Try.f32])).trans ?_
  simp (maxSteps := 1000000) (implicitDefEqProofs := false) (disch := first | rfl | omega | assumption) only [go_sem, ltT, ltF, leT, leF, hp, hp', s1, s2, t1, t2, hf.ws.sealn, hf.rs.sealn, l2]
  exact h _ (by rfl) (by rfl) (by rfl) (by rfl) (by rfl)

end Go.Ab
/-
  FringeClash.
-/
namespace Go.Ab
open Go.Proofs
set_option linter.unusedSimpArgs false
set_option linter.unusedVariables false
set_option maxRecDepth 100000
set_option maxHeartbeats 2000000

variable {H : Heap}


theorem cx_loop {f : Frg} {vw vr : AV} (ho : f.Ok) (hf : FrAt H f vw vr) (s own : Nat) (hs : s < 64) (hd : ∀ i, i < f.rs.length → s.testBit i = true → f.can (diffN s (2 ^ i)) = true) (K : List Item) (R : Option Done) (hK : ∀ E : Env, E.get 5 = I s → E.get 10 = .func (.func 32) [] [.ptr H.length 0] → E.get 12 = .func (.func 33) [] [] → E.get 13 = I own → Option.map (finishC H.length) (execL cfg0 prog0 ⟨9, none, false, H.length⟩ K ⟨E, [], H ++ [.box (.agg [vw, I f.lo, I f.hi, vr])], none⟩) = R)  :
    ∀ (q j : Nat), j + q = f.rs.length → ∀ E : Env, E.get 5 = I s → E.get 10 = .func (.func 32) [] [.ptr H.length 0] → E.get 12 = .func (.func 33) [] [] → E.get 13 = I own → E.get 165 = I f.rs.length → E.get 166 = I j →
    Option.map (finishC H.length) (execL cfg0 prog0 ⟨9, none, false, H.length⟩ (loopIt Try.f9 19 :: .inBlock 0 :: K) ⟨E, [], H ++ [.box (.agg [vw, I f.lo, I f.hi, vr])], none⟩) = R := by
  intro q
  have s1 := hf.ws.scal
  have s2 := hf.rs.scal
  have h6 := ho.reads
  induction q with
  | zero =>
    intro j hj  E g5 g10 g12 g13 g165 g166
    have hk' : ¬ (j : Int) < ((f.rs.length : Nat) : Int) := by omega
    simp only [loopIt, todoPast, todoAt, todoOf, firstReg, ↓reduceIte, Option.some.injEq, Nat.reduceEqDiff, reduceCtorEq, Try.f9]
    rw [execL_inLoop]
    simp (maxSteps := 1000000) (implicitDefEqProofs := false) (disch := first | rfl | omega | assumption) only [go_sem, g5, g10, g12, g13, g165, g166, ltT, ltF, leT, leF, hk']
    exact hK _ (by exact g5) (by exact g10) (by exact g12) (by exact g13)
  | succ q ih =>
    intro j hj  E g5 g10 g12 g13 g165 g166
    have hk' : (j : Int) < ((f.rs.length : Nat) : Int) := by omega
    have hk2 : j < f.rs.length := by omega
    have hsh := shrN6 (s := s) (j := j) (by omega)
    have hand := bitI (s := s) (j := j) (by omega)
    have hone := and_one (s := s) (j := j)
    have z : ¬ (j : Int) < 0 := by omega
    have h2j : (2 : Nat) ^ j < 2 ^ 6 := Nat.pow_lt_pow_right (by omega) (by omega)
    have hl := shlI (k := j) (by omega)
    have hn := bitsNotI (a := s) (b := 2 ^ j) (by omega) (by omega)
    have hdl : diffN s (2 ^ j) < 2 ^ 6 := diffN_lt hs
    have hC := law_clash1 (H := H ++ [.box (.agg [vw, I f.lo, I f.hi, vr])]) ho (hf.app _) (s := diffN s (2 ^ j)) hdl (p := H.length) (by simp)
    cases hb : s.testBit j
    · rw [hb] at hone
      simp only [loopIt, todoPast, todoAt, todoOf, firstReg, ↓reduceIte, Option.some.injEq, Nat.reduceEqDiff, reduceCtorEq, Try.f9]
      rw [execL_inLoop]
      simp (maxSteps := 1000000) (implicitDefEqProofs := false) (disch := first | rfl | omega | assumption) only [go_sem, g5, g10, g12, g13, g165, g166, ltT, ltF, leT, leF, hk', s1, s2, hsh, hand, hone, z]
      exact ih (j + 1) (by omega) _ (by exact g5) (by exact g10) (by exact g12) (by exact g13) (by exact g165) (by rfl)
    · rw [hb] at hone
      rw [hd j hk2 hb] at hC
      simp only [loopIt, todoPast, todoAt, todoOf, firstReg, ↓reduceIte, Option.some.injEq, Nat.reduceEqDiff, reduceCtorEq, Try.f9]
      rw [execL_inLoop]
      simp (maxSteps := 1000000) (implicitDefEqProofs := false) (disch := first | rfl | omega | assumption) only [go_sem, g5, g10, g12, g13, g165, g166, ltT, ltF, leT, leF, hk', s1, s2, hsh, hand, hone, z, hl, hn, hC]
      exact ih (j + 1) (by omega) _ (by exact g5) (by exact g10) (by exact g12) (by exact g13) (by exact g165) (by rfl)

theorem law_FringeClash {f : Frg} {vw vr : AV} (hf : FrAt H f vw vr) (n1 : Int) (w1 : 0 ≤ n1 ∧ n1 ≤ 255) :
    callFL cfg0 prog0 false 9 [.agg [vw, I f.lo, I f.hi, vr], .int .u8 n1] H none = some ⟨.ret (.bool true), H, none⟩ := by
  have s1 := hf.ws.scal
  have s2 := hf.rs.scal
  have l1 := hf.ws.len
  have l2 := hf.rs.len
  rw [List.length_map] at l1 l2
  have hk' : True := trivial
  have hL := law_long (hf.app [.box (.agg [vw, I f.lo, I f.hi, vr])])
  have hA := fun G : Heap => law_alive G
  by_cases hlg : 40 < f.ws.length ∨ 40 < f.rs.length
  · rw [decide_eq_true hlg] at hL
    refine (callFL_eq fn9 rfl (by simp [Try.f9])).trans ?_
    simp (maxSteps := 1000000) (implicitDefEqProofs := false) (disch := first | rfl | omega | assumption) only [go_sem, ltT, ltF, leT, leF, s1, s2, hL, hA]
    done
  rw [decide_eq_false hlg] at hL
  have hl : f.ws.length ≤ 1000 ∧ f.rs.length ≤ 1000 := by omega
  have hF := rf_Fringe (hf.app [.box (.agg [vw, I f.lo, I f.hi, vr])]) hl
  have hX := fr_Clash (hf.app [.box (.agg [vw, I f.lo, I f.hi, vr])]) hl
  have hW := fr_Wrong (hf.app [.box (.agg [vw, I f.lo, I f.hi, vr])]) hl
  have hii : ∀ x : Int, (x == x) = true := fun x => by simp
  have hbb : ∀ x : Bool, (x == x) = true := fun x => by cases x <;> rfl
  cases hv : f.valid
  · simp only [hv, Frg.clash, Frg.wrong, Bool.false_eq_true, if_false] at hF hX hW
    refine (callFL_eq fn9 rfl (by simp [Try.f9])).trans ?_
    simp (maxSteps := 1000000) (implicitDefEqProofs := false) (disch := first | rfl | omega | assumption) only [go_sem, ltT, ltF, leT, leF, s1, s2, hL, hA, hF, hX, hW]
    done
  have ho := f.valid_iff.1 hv
  rw [hv] at hF
  have h6 := ho.reads
  have hp2 : (2 : Nat) ^ f.rs.length ≤ 2 ^ 6 := Nat.pow_le_pow_right (by omega) h6
  have hp0 := Nat.two_pow_pos f.rs.length
  have hal := all_is f
  obtain ⟨o, o1, o2, o3, o4⟩ := wrong_is ho
  obtain ⟨b, hb⟩ : ∃ b : Nat, n1 = b := ⟨n1.toNat, by omega⟩
  subst hb
  have z1 : ¬ ((f.rs.length : Nat) : Int) < 0 := by omega
  have hsl := shlI (k := f.rs.length) (by omega)
  have e1 : ((2 ^ f.rs.length : Nat) : Int) - 1 = ((f.all : Nat) : Int) := by omega
  have hw := w64 (n := ((b : Nat) : Int)) (by omega) (by omega)
  have hown := bitsAndI (a := b) (b := f.all) (by omega) (by omega)
  have hol : b &&& f.all ≤ f.all := Nat.and_le_right
  generalize b &&& f.all = own at hown hol
  have hnot := fun x : Nat => fun hx : x < 64 => bitsNotI (a := f.all) (b := x) (by omega) (by omega)
  have hn1 := hnot o (by omega)
  have hn2 := hnot own (by omega)
  have hdl : ∀ x, diffN f.all x < 2 ^ 6 := fun x => diffN_lt (by omega)
  have hC := fun (x : Nat) (hx : x < 64) => law_clash1 (H := H ++ [.box (.agg [vw, I f.lo, I f.hi, vr])]) ho (hf.app _) (s := x) hx (p := H.length) (by simp)
  have hC1 := hC (diffN f.all o) (hdl o)
  have hC2 := hC (diffN f.all own) (hdl own)
  have hC3 := hC f.all (by omega)
  have hC4 := hC own (by omega)
  have hS1 := fun G : Heap => rf_Size (s := o) (by omega) G
  have hS2 := fun G : Heap => rf_Size (s := own) (by omega) G
  rw [o3] at hC1
  have hob : ¬ (f.all : Int) < (o : Int) := by omega
  have h4own := o4 own (by omega)
  have h40 := o4 0 (by omega)
  have e00 : diffN f.all 0 = f.all := by simp [diffN]
  rw [e00, pop_zero] at h40
  rw [o1] at hW
  cases hca : f.can f.all
  · obtain ⟨s, c1, c2, c3, c4, c5⟩ := clash_is ho hca
    rw [c1] at hX
    rw [hca] at hC3
    have hopos : 0 < o := by
      rcases Nat.eq_zero_or_pos o with e | e
      · rw [e, e00, hca] at o3; cases o3
      · exact e
    have hpp := pop_pos hopos (by omega)
    have hz1 : (((pop o : Nat) : Int) == 0) = false := by simp; omega
    have hC5 := hC s (by omega)
    rw [c4] at hC5
    have hS3 := fun G : Heap => rf_Size (s := s) (by omega) G
    have hmeet := clash_meet ho c2 c4 o3
    have hand := bitsAndI (a := s) (b := o) (by omega) (by omega)
    have hz2 : (((s &&& o : Nat) : Int) == 0) = false := by simp; omega
    have c5own := c5 own (by omega)
    have hxl := cx_loop ho hf s own (by omega) (fun i hi hb => clash_min ho c2 c5 hi hb)
    generalize hpo : pop o = po at *
    generalize hps : pop s = ps at *
    generalize hpw : pop own = pw at *
    have hpol : po ≤ 20 := by rw [← hpo]; exact popF_le 20 o
    have hg1 : ∀ (hh : f.can (diffN f.all own) = true), ¬ (pw : Int) < po := fun hh => by have := h4own hh; omega
    have fin : ∀ E : Env, E.get 5 = I s → E.get 10 = .func (.func 32) [] [.ptr H.length 0] → E.get 12 = .func (.func 33) [] [] → E.get 13 = I own → Option.map (finishC H.length) (execL cfg0 prog0 ⟨9, none, false, H.length⟩ (todoPast Try.f9 19) ⟨E, [], H ++ [.box (.agg [vw, I f.lo, I f.hi, vr])], none⟩) = some ⟨.ret (.bool true), H, none⟩ := by
      intro E g5 g10 g12 g13
      cases hco : f.can own
      · rw [hco] at hC4
        have h5 := c5own hco
        by_cases hlt : (ps : Int) < pw
        · skip
          simp only [loopIt, todoPast, todoAt, todoOf, firstReg, ↓reduceIte, Option.some.injEq, Nat.reduceEqDiff, reduceCtorEq, Try.f9]
          simp (maxSteps := 1000000) (implicitDefEqProofs := false) (disch := first | rfl | omega | assumption) only [go_sem, g5, g10, g12, g13, ltT, ltF, leT, leF, hk', s1, s2, hC4, hS2, hS3, hlt, hA]
          done
        · have he : (pw : Int) = ps := by omega
          have hge : (s : Int) ≤ own := by omega
          rw [he] at hS2
          have hno : ¬ (ps : Int) < ps := by omega
          simp only [loopIt, todoPast, todoAt, todoOf, firstReg, ↓reduceIte, Option.some.injEq, Nat.reduceEqDiff, reduceCtorEq, Try.f9]
          simp (maxSteps := 1000000) (implicitDefEqProofs := false) (disch := first | rfl | omega | assumption) only [go_sem, g5, g10, g12, g13, ltT, ltF, leT, leF, hk', s1, s2, hC4, hS2, hS3, hno, hii, hge, hA]
          done
      · rw [hco] at hC4
        simp only [loopIt, todoPast, todoAt, todoOf, firstReg, ↓reduceIte, Option.some.injEq, Nat.reduceEqDiff, reduceCtorEq, Try.f9]
        simp (maxSteps := 1000000) (implicitDefEqProofs := false) (disch := first | rfl | omega | assumption) only [go_sem, g5, g10, g12, g13, ltT, ltF, leT, leF, hk', s1, s2, hC4, hA]
        done
    have hxl2 := hxl _ _ fin f.rs.length 0 (by omega)
    have hs1 : ¬ (s : Int) < 1 := by omega
    have hs2 : ¬ (f.all : Int) < (s : Int) := by omega
    cases hcd : f.can (diffN f.all own)
    · rw [hcd] at hC2
      refine (callFL_eq fn9 rfl (by simp [Try.f9])).trans ?_
      simp (maxSteps := 1000000) (implicitDefEqProofs := false) (disch := first | rfl | omega | assumption) only [go_sem, ltT, ltF, leT, leF, s1, s2, l2, hL, hF, hX, hW, z1, hsl, e1, hw, hown, hob, hS1, hii, hn1, hC1, hz1, hC3, hn2, hC2, hs1, hs2, hC5, hand, hz2]
      exact hxl2 _ (by rfl) (by rfl) (by rfl) (by rfl) (by rfl) (by rfl)
    · rw [hcd] at hC2
      have hg := hg1 hcd
      have h4 := h4own hcd
      by_cases he : (pw : Int) = po
      · rw [he] at hS2
        have hno : ¬ (po : Int) < po := by omega
        have hno2 : ¬ (own : Int) < (o : Int) := by omega
        refine (callFL_eq fn9 rfl (by simp [Try.f9])).trans ?_
        simp (maxSteps := 1000000) (implicitDefEqProofs := false) (disch := first | rfl | omega | assumption) only [go_sem, ltT, ltF, leT, leF, s1, s2, l2, hL, hF, hX, hW, z1, hsl, e1, hw, hown, hob, hS1, hii, hn1, hC1, hz1, hC3, hn2, hC2, hS2, hno, hno2, hs1, hs2, hC5, hand, hz2]
        exact hxl2 _ (by rfl) (by rfl) (by rfl) (by rfl) (by rfl) (by rfl)
      · have he2 : ((pw : Int) == (po : Int)) = false := by simp; omega
        refine (callFL_eq fn9 rfl (by simp [Try.f9])).trans ?_
        simp (maxSteps := 1000000) (implicitDefEqProofs := false) (disch := first | rfl | omega | assumption) only [go_sem, ltT, ltF, leT, leF, s1, s2, l2, hL, hF, hX, hW, z1, hsl, e1, hw, hown, hob, hS1, hii, hn1, hC1, hz1, hC3, hn2, hC2, hS2, hg, he2, hs1, hs2, hC5, hand, hz2]
        exact hxl2 _ (by rfl) (by rfl) (by rfl) (by rfl) (by rfl) (by rfl)
  · have hX2 : f.clash = (0, 4) := clash_ok ho hca
    rw [hX2] at hX
    rw [hca] at hC3
    have ho0 : o = 0 := by have := h40 hca; omega
    subst ho0
    rw [pop_zero] at hS1 hW h4own
    rw [e00] at hn1
    have hw0 : ((0 : Nat) : Int) = 0 := rfl
    simp only [hw0] at hn1 hS1 hW hob
    have hnb : ¬ (f.all : Int) < 0 := by omega
    cases hcd : f.can (diffN f.all own)
    · rw [hcd] at hC2
      refine (callFL_eq fn9 rfl (by simp [Try.f9])).trans ?_
      simp (maxSteps := 1000000) (implicitDefEqProofs := false) (disch := first | rfl | omega | assumption) only [go_sem, ltT, ltF, leT, leF, s1, s2, l2, hL, hF, hX, hW, z1, hsl, e1, hw, hown, hnb, hS1, hii, hn1, hC3, hn2, hC2, hA]
      done
    · rw [hcd] at hC2
      have hp1 : ¬ ((pop own : Nat) : Int) < 0 := by omega
      have hp3 : ¬ ((own : Nat) : Int) < 0 := by omega
      cases hz : (((pop own : Nat) : Int) == 0)
      · skip
        refine (callFL_eq fn9 rfl (by simp [Try.f9])).trans ?_
        simp (maxSteps := 1000000) (implicitDefEqProofs := false) (disch := first | rfl | omega | assumption) only [go_sem, ltT, ltF, leT, leF, s1, s2, l2, hL, hF, hX, hW, z1, hsl, e1, hw, hown, hnb, hS1, hii, hn1, hC3, hn2, hC2, hS2, hp1, hz, hA]
        done
      · skip
        refine (callFL_eq fn9 rfl (by simp [Try.f9])).trans ?_
        simp (maxSteps := 1000000) (implicitDefEqProofs := false) (disch := first | rfl | omega | assumption) only [go_sem, ltT, ltF, leT, leF, s1, s2, l2, hL, hF, hX, hW, z1, hsl, e1, hw, hown, hnb, hS1, hii, hn1, hC3, hn2, hC2, hS2, hp1, hz, hp3, hA]
        done

end Go.Ab
