/-
  FringeTrue: numbers drawn.
-/
import Derived.Test.YtcalhkhkiahecaaKK5
namespace Go.Ab
open Go.Proofs
set_option linter.unusedSimpArgs false
set_option linter.unusedVariables false
set_option maxRecDepth 100000
set_option maxHeartbeats 2000000

variable {H : Heap}


/-- What is drawn, the at-th time. -/
def drawN (us : List Int) (at1 n : Int) : Int := if us.length = 0 then at1 % n else (us.getD (at1 % (us.length : Int)).toNat 0 + 61 * at1) % n

abbrev B16 (n : Int) : AV := .int .u16 n

end Go.Ab
/-
  FringeLengths: the plain part.
-/
namespace Go.Ab
open Go.Proofs
set_option linter.unusedSimpArgs false
set_option linter.unusedVariables false
set_option maxRecDepth 100000
set_option maxHeartbeats 2000000

variable {H : Heap}


/-- Spans that do not meet. -/
def Gap (p q : Int × Int) : Prop := p.2 + 1 < q.1

def inP (x : Int) (p : Int × Int) : Bool := decide (p.1 ≤ x) && decide (x ≤ p.2)

end Go.Ab
/-
  FringeLengths: the readings are right, the spans, the law.
-/
namespace Go.Ab
open Go.Proofs
set_option linter.unusedSimpArgs false
set_option linter.unusedVariables false
set_option maxRecDepth 100000
set_option maxHeartbeats 2000000

variable {H : Heap}


theorem near_fold (w : Int) : ∀ (xs : List Int) (m : Int), (∀ x ∈ xs, m < x) → xs.Pairwise (· < ·) → (xs.foldl (nearS w) m = m ∨ xs.foldl (nearS w) m ∈ xs) ∧ ∀ x, x = m ∨ x ∈ xs → apw w (xs.foldl (nearS w) m) < apw w x ∨ (apw w (xs.foldl (nearS w) m) = apw w x ∧ xs.foldl (nearS w) m ≤ x)
  | [], m, _, _ => ⟨Or.inl rfl, fun x hx => hx.elim (fun e => Or.inr (by subst e; exact ⟨rfl, Int.le_refl _⟩)) (fun h => by cases h)⟩
  | y :: r, m, h1, h2 => by
    obtain ⟨h3, h4⟩ := List.pairwise_cons.1 h2
    have hmy := h1 y List.mem_cons_self
    simp only [List.foldl_cons]
    by_cases hc : apw w y - apw w m < 0
    · have e : nearS w m y = y := by simp only [nearS, if_pos hc]
      rw [e]
      obtain ⟨i1, i2⟩ := near_fold w r y h3 h4
      refine ⟨Or.inr (i1.elim (fun i1 => by rw [i1]; exact List.mem_cons_self) (fun i1 => List.mem_cons_of_mem _ i1)), fun x hx => ?_⟩
      rcases hx with rfl | hx
      · have := i2 y (Or.inl rfl); omega
      · rcases List.mem_cons.1 hx with rfl | hx
        · exact i2 x (Or.inl rfl)
        · exact i2 x (Or.inr hx)
    · have e : nearS w m y = m := by simp only [nearS, if_neg hc]
      rw [e]
      obtain ⟨i1, i2⟩ := near_fold w r m (fun x hx => h1 x (List.mem_cons_of_mem _ hx)) h4
      refine ⟨i1.elim Or.inl (fun i1 => Or.inr (List.mem_cons_of_mem _ i1)), fun x hx => ?_⟩
      rcases hx with rfl | hx
      · exact i2 x (Or.inl rfl)
      · rcases List.mem_cons.1 hx with rfl | hx
        · have := i2 m (Or.inl rfl); omega
        · exact i2 x (Or.inr hx)

theorem near_best {w : Int} {xs : List Int} (h : xs.Pairwise (· < ·)) (h0 : 0 < xs.length) : nearL w xs ∈ xs ∧ ∀ x ∈ xs, apw w (nearL w xs) < apw w x ∨ (apw w (nearL w xs) = apw w x ∧ nearL w xs ≤ x) := by
  cases xs with
  | nil => simp at h0
  | cons m r =>
    obtain ⟨h3, h4⟩ := List.pairwise_cons.1 h
    obtain ⟨i1, i2⟩ := near_fold w r m h3 h4
    have e : nearL w (m :: r) = r.foldl (nearS w) m := rfl
    rw [e]
    refine ⟨i1.elim (fun i1 => by rw [i1]; exact List.mem_cons_self) (fun i1 => List.mem_cons_of_mem _ i1), fun x hx => i2 x (List.mem_cons.1 hx)⟩

end Go.Ab
/-
  FringeTrue: the plain part.
-/
namespace Go.Ab
open Go.Proofs
set_option linter.unusedSimpArgs false
set_option linter.unusedVariables false
set_option maxRecDepth 100000
set_option maxHeartbeats 2000000

variable {H : Heap}


/-! ### The first set of all, by how many there are in it -/

theorem set_first {n : Nat} {b : Nat → Bool} {x : Nat} (h : firstF b (setL n) 0 (setL n).length = some x) : x < 2 ^ n ∧ b x = true ∧ ∀ y, y < 2 ^ n → b y = true → pop x < pop y ∨ (pop x = pop y ∧ x ≤ y) := by
  obtain ⟨i, h1, h2, h3, h4⟩ := (findF_some _ _ _ _).1 h
  rw [setL_len] at h2
  split at h3
  · rename_i hb
    have hx : (setL n).getD i 0 = x := by simpa using h3
    rw [hx] at hb
    refine ⟨firstF_lt (setL_lt n) h, hb, fun y hy hby => ?_⟩
    obtain ⟨k, k1, k2⟩ := setL_has hy
    have k2' : (setL n).getD k 0 = y := k2
    by_cases e : k < i
    · have := h4 k (by omega) e
      rw [if_pos (by rw [k2']; exact hby)] at this
      cases this
    · by_cases e2 : k = i
      · subst e2
        rw [hx] at k2'
        subst k2'
        exact Or.inr ⟨rfl, Nat.le_refl _⟩
      · have := (setL_srt n).1 i k (by omega) (by omega) (by omega)
        simp only [lx, popK, id] at this
        have e1 : gt (setL n) i = x := hx
        rw [e1, k2] at this
        omega
  · cases h3

theorem set_none {n : Nat} {b : Nat → Bool} (h : firstF b (setL n) 0 (setL n).length = none) : ∀ y, y < 2 ^ n → b y = false := by
  intro y hy
  obtain ⟨k, k1, k2⟩ := setL_has hy
  have := (findF_none _ _ _).1 h k (by omega) (by rw [setL_len]; omega)
  rw [show (setL n).getD k 0 = y from k2] at this
  cases hb : b y
  · rfl
  · rw [hb] at this; cases this

theorem pop_zero : pop 0 = 0 := popF_zero 20

theorem popF_pos : ∀ (m x : Nat), 0 < x → x < 2 ^ m → 0 < popF m x
  | 0, x, h0, h1 => by simp at h1; omega
  | m + 1, x, h0, h1 => by
    simp only [popF]
    by_cases e : x % 2 = 0
    · have h2 : (2 : Nat) ^ (m + 1) = 2 * 2 ^ m := by rw [Nat.pow_succ]; omega
      have := popF_pos m (x / 2) (by omega) (by omega)
      omega
    · omega

theorem pop_pos {x : Nat} (h0 : 0 < x) (h : x < 2 ^ 20) : 0 < pop x := popF_pos 20 x h0 h

theorem set_zero {n : Nat} {b : Nat → Bool} (hn : n ≤ 10) (hb : b 0 = true) : firstF b (setL n) 0 (setL n).length = some 0 := by
  have hp := Nat.two_pow_pos n
  have hp2 : (2 : Nat) ^ n ≤ 2 ^ 20 := Nat.pow_le_pow_right (by omega) (by omega)
  cases h : firstF b (setL n) 0 (setL n).length with
  | none => rw [set_none h 0 hp] at hb; cases hb
  | some x =>
    obtain ⟨h1, h2, h3⟩ := set_first h
    have h4 := h3 0 hp hb
    rw [pop_zero] at h4
    by_cases e : x = 0
    · rw [e]
    · have := pop_pos (x := x) (by omega) (by omega)
      omega

theorem dedup_lenI : ∀ zs : List Int, (dedupI zs).length ≤ zs.length
  | [] => Nat.le_refl _
  | [_] => Nat.le_refl _
  | x :: y :: r => by
    have := dedup_lenI (y :: r)
    simp only [dedupI]
    split <;> simp only [List.length_cons] at this ⊢ <;> omega

/-! ### A truth -/

/-- All readings are right of a length. -/
structure Tru (f : Frg) (L : Int) : Prop where
  ok : f.Ok
  len : f.lo ≤ L ∧ L ≤ f.hi
  rd : ∀ i, i < f.rs.length → rgt (f.w (f.r i).c.toNat) (f.r i).lo (f.r i).hi L = true

theorem Tru.right {f : Frg} {L : Int} (h : Tru f L) (s : Nat) : f.right s L = true := by
  simp only [Frg.right, Frg.rt, Bool.not_eq_true', anyF_false]
  intro i _ hi
  rw [h.rd i (by omega)]
  simp

theorem Tru.mem {f : Frg} {L : Int} (h : Tru f L) (s : Nat) : L ∈ f.lens s := (mem_lens h.ok s L).2 ⟨h.len, h.right s⟩

theorem Tru.can {f : Frg} {L : Int} (h : Tru f L) (s : Nat) : f.can s = true := by
  simp only [Frg.can, Bool.not_eq_true', List.isEmpty_eq_false_iff]
  intro e
  have := h.mem s
  rw [e] at this
  cases this

theorem Tru.pos {f : Frg} {L : Int} (h : Tru f L) : (f.lens f.all).isEmpty = false := by
  have := h.can f.all
  simpa [Frg.can] using this

theorem Tru.near {f : Frg} {L : Int} (h : Tru f L) : f.near L = (L, 0) := by
  have hlen := h.ok.len
  have hL := h.len
  have kw : wi L 0 2000 = true := by simp [wi]; omega
  have hpos : 0 < (f.lens f.all).length := List.length_pos_of_mem (h.mem f.all)
  obtain ⟨m1, m2⟩ := near_best (w := L) (lens_up f f.all) hpos
  have h2 := m2 L (h.mem f.all)
  have ha : ∀ x, apw L x = 0 ∨ 0 < apw L x := fun x => by simp only [apw]; split <;> omega
  have h0 : apw L L = 0 := by simp only [apw]; split <;> omega
  have he : nearL L (f.lens f.all) = L := by
    generalize nearL L (f.lens f.all) = x at *
    simp only [apw] at h2 h0
    revert h2
    split <;> split <;> intro h2 <;> omega
  simp only [Frg.near, f.valid_iff.2 h.ok, if_true, kw, h.pos, Bool.false_eq_true, if_false, he]

theorem Tru.wrong {f : Frg} {L : Int} (h : Tru f L) : f.wrong = (0, 0, 0) := by
  have h6 := h.ok.reads
  have := set_zero (n := f.rs.length) (b := fun s => f.can (diffN f.all s)) (by omega) (h.can _)
  simp only [Frg.wrong, f.valid_iff.2 h.ok, if_true, this, Option.getD_some, pop_zero]
  rfl

theorem Tru.clash {f : Frg} {L : Int} (h : Tru f L) : f.clash = (0, 4) := by
  simp only [Frg.clash, f.valid_iff.2 h.ok, if_true]
  cases hc : firstF (fun s => !f.can s) (setL f.rs.length) 0 (setL f.rs.length).length with
  | none => rfl
  | some x =>
    have := (set_first hc).2.1
    rw [h.can x] at this
    cases this

theorem Tru.whole {f : Frg} {L : Int} (h : Tru f L) {c : Nat} (hc : c < f.ws.length) : ∃ xs, f.whole c = (xs, 0) ∧ L / f.w c ∈ xs ∧ xs.length ≤ 401 := by
  have hw := h.ok.wave c hc
  have hwi : wi (c : Int) 0 ((f.ws.length : Int) - 1) = true := by simp [wi]; omega
  obtain ⟨h1, h2⟩ := allW_fold (w := f.w c) (by omega) (f.lens f.all) [] (lens_up f f.all) List.Pairwise.nil (by simp)
  have he := whole_all (w := f.w c) (by omega) (lens_up f f.all)
  refine ⟨wholeL (f.cnt c), by simp only [Frg.whole, f.valid_iff.2 h.ok, if_true, hwi, h.pos, Bool.false_eq_true, if_false, Int.toNat_natCast], ?_, ?_⟩
  · simp only [Frg.cnt]
    rw [he, allW]
    exact (h2 _).2 (Or.inr ⟨L, h.mem _, rfl⟩)
  · have hb := cnt_bd h.ok c
    have hd := dedup_lenI (((f.cnt c).map (fun p => p.1.1)).mergeSort fun x y => decide (x ≤ y))
    rw [List.length_mergeSort, List.length_map] at hd
    simp only [wholeL]
    omega

theorem Tru.parts {f : Frg} {L : Int} (h : Tru f L) {c : Nat} (hc : c < f.ws.length) : ∃ s : Nat, f.parts c = ((s : Int), 0) ∧ s.testBit (ptZ (f.w c) L).toNat = true ∧ s < 2 ^ 20 := by
  have hw := h.ok.wave c hc
  have hwi : wi (c : Int) 0 ((f.ws.length : Int) - 1) = true := by simp [wi]; omega
  refine ⟨allP (f.w c) (f.lens f.all), ?_, ?_, ?_⟩
  · simp only [Frg.parts, f.valid_iff.2 h.ok, if_true, hwi, h.pos, Bool.false_eq_true, if_false, Int.toNat_natCast, Frg.cnt, parts_all]
  · simp only [allP, orG_bit, Bool.or_eq_true, List.any_eq_true, decide_eq_true_eq]
    exact Or.inr ⟨L, h.mem _, rfl⟩
  · exact ofold_lt (by omega) _ _ (by decide)

/-- The readings leave no more lengths in the part that is the truth's than are told. -/
theorem Tru.ask {f : Frg} {L : Int} (h : Tru f L) : ∃ b : Nat, f.ask = ((b : Int), f.most b, 0) ∧ b < f.ws.length ∧ 1 ≤ f.most b ∧ f.most b ≤ (f.lens f.all).length ∧ 1 ≤ f.lenP b (ptZ (f.w b) L).toNat ∧ ((f.lenP b (ptZ (f.w b) L).toNat : Nat) : Int) ≤ f.most b := by
  have hm := h.ok.many
  obtain ⟨b, k1, k2, k3, k4⟩ := ask_best (f := f) (by omega)
  have hw := h.ok.wave b k2
  have hb := ptZ_bd (w := f.w b) (n := L) (by omega)
  have hge : ∀ (q j : Nat) (a : Int), a ≤ mGo f b j q a ∧ ∀ i, j ≤ i → i < j + q → ((f.lenP b i : Nat) : Int) ≤ mGo f b j q a := by
    intro q
    induction q with
    | zero => exact fun j a => ⟨Int.le_refl _, fun i h1 h2 => by omega⟩
    | succ q ih =>
      intro j a
      obtain ⟨i1, i2⟩ := ih (j + 1) (mx2 a (f.lenP b j : Nat))
      have hx : a ≤ mx2 a (f.lenP b j : Nat) ∧ ((f.lenP b j : Nat) : Int) ≤ mx2 a (f.lenP b j : Nat) := by simp only [mx2]; split <;> omega
      simp only [mGo]
      refine ⟨by omega, fun i h1 h2 => ?_⟩
      by_cases e : i = j
      · subst e; omega
      · exact i2 i (by omega) (by omega)
  have hle : ∀ (q j : Nat) (a B : Int), a ≤ B → (∀ i, ((f.lenP b i : Nat) : Int) ≤ B) → mGo f b j q a ≤ B := by
    intro q
    induction q with
    | zero => exact fun j a B h1 _ => h1
    | succ q ih => exact fun j a B h1 h2 => ih (j + 1) _ B (by have := h2 j; simp only [mx2]; split <;> omega) h2
  have g1 := (hge 20 0 0).2 (ptZ (f.w b) L).toNat (by omega) (by omega)
  have g2 := hle 20 0 0 (f.lens f.all).length (by omega) (fun i => by
    have : f.lenP b i ≤ (f.lens f.all).length := List.length_filter_le _ _
    omega)
  rw [mGo_most] at g1 g2
  have g3 : 1 ≤ f.lenP b (ptZ (f.w b) L).toNat := by
    have : L ∈ (f.lens f.all).filter fun n => decide (ptZ (f.w b) n = ((ptZ (f.w b) L).toNat : Int)) := by
      rw [List.mem_filter]
      refine ⟨h.mem _, by rw [decide_eq_true_eq]; omega⟩
    exact List.length_pos_of_mem this
  refine ⟨b, ?_, k2, by omega, g2, g3, g1⟩
  simp only [Frg.ask, f.valid_iff.2 h.ok, if_true, h.pos, Bool.false_eq_true, if_false]
  rw [k1, k3]

/-! ### The fringe that is made -/

def mdK (us : List Int) : Nat := (drawN us 1 4).toNat + 1
def mdW (us : List Int) (i : Nat) : Int := 2 + drawN us (2 + (i : Int)) 59
def mdL (us : List Int) : Int := drawN us ((mdK us : Int) + 2) 2001
def mdLo (us : List Int) : Int := if 0 < mdL us - drawN us ((mdK us : Int) + 3) 200 then mdL us - drawN us ((mdK us : Int) + 3) 200 else 0
def mdHi (us : List Int) : Int := if mdL us + drawN us ((mdK us : Int) + 4) 200 < 2000 then mdL us + drawN us ((mdK us : Int) + 4) 200 else 2000
def mdM (us : List Int) : Nat := (drawN us ((mdK us : Int) + 5) 7).toNat
def mdC (us : List Int) (i : Nat) : Int := drawN us ((mdK us : Int) + 6 + 3 * (i : Int)) (mdK us : Int)
def mdO (us : List Int) (i : Nat) : Int := drawN us ((mdK us : Int) + 7 + 3 * (i : Int)) 4
def mdD (us : List Int) (i : Nat) : Int := drawN us ((mdK us : Int) + 8 + 3 * (i : Int)) 4
def mdA (us : List Int) (i : Nat) : Int := (ptZ (mdW us (mdC us i).toNat) (mdL us) - mdO us i + 20) % 20
def mdR (us : List Int) (i : Nat) : Rd := ⟨mdC us i, mdA us i, mdA us i + mdO us i + mdD us i⟩
def mdWs (us : List Int) (k : Nat) : List Int := (List.range k).map (mdW us)
def mdRs (us : List Int) (k : Nat) : List Rd := (List.range k).map (mdR us)
def mdF (us : List Int) : Frg := ⟨mdWs us (mdK us), mdLo us, mdHi us, mdRs us (mdM us)⟩

end Go.Ab
/-
  FringeClash: the plain part.
-/
namespace Go.Ab
open Go.Proofs
set_option linter.unusedSimpArgs false
set_option linter.unusedVariables false
set_option maxRecDepth 100000
set_option maxHeartbeats 2000000

variable {H : Heap}


theorem right_iff {f : Frg} {s : Nat} {n : Int} : f.right s n = true ↔ ∀ i, i < f.rs.length → s.testBit i = true → rgt (f.w (f.r i).c.toNat) (f.r i).lo (f.r i).hi n = true := by
  simp only [Frg.right, Frg.rt, Bool.not_eq_true', anyF_false]
  constructor
  · intro h i hi hb
    have := h i (by omega) (by omega)
    rw [hb] at this
    simpa using this
  · intro h i _ hi
    cases hb : s.testBit i
    · rfl
    · rw [h i (by omega) hb]; rfl

theorem lensF_congr {f g : Frg} {s t : Nat} (h : ∀ n, g.right t n = f.right s n) : ∀ (q : Nat) (n : Int), g.lensF t n q = f.lensF s n q
  | 0, n => rfl
  | q + 1, n => by simp only [Frg.lensF, h, lensF_congr h q]

theorem lens_congr {f g : Frg} {s t : Nat} (h : ∀ n, g.right t n = f.right s n) (h1 : g.lo = f.lo) (h2 : g.hi = f.hi) : g.lens t = f.lens s := by
  simp only [Frg.lens, h1, h2]
  exact lensF_congr h _ _

theorem can_zero {f : Frg} (ho : f.Ok) : f.can 0 = true := by
  have hl := ho.len
  have h2 : f.lo ∈ f.lens 0 := (mem_lens ho 0 f.lo).2 ⟨by omega, right_iff.2 fun i hi hb => by simp at hb⟩
  simp only [Frg.can, Bool.not_eq_true', List.isEmpty_eq_false_iff]
  intro e
  rw [e] at h2
  cases h2

theorem all_is (f : Frg) : f.all = 2 ^ f.rs.length - 1 := rfl

theorem all_bit3 {f : Frg} {i : Nat} (h : i < f.rs.length) : f.all.testBit i = true := all_bit2 h

theorem wrong_is {f : Frg} (ho : f.Ok) : ∃ out : Nat, f.wrong = ((pop out : Int), (out : Int), 0) ∧ out < 2 ^ f.rs.length ∧ f.can (diffN f.all out) = true ∧ ∀ y, y < 2 ^ f.rs.length → f.can (diffN f.all y) = true → pop out < pop y ∨ (pop out = pop y ∧ out ≤ y) := by
  have hp := Nat.two_pow_pos f.rs.length
  simp only [Frg.wrong, f.valid_iff.2 ho, if_true]
  cases h : firstF (fun s => f.can (diffN f.all s)) (setL f.rs.length) 0 (setL f.rs.length).length with
  | none =>
    have := set_none h f.all (by simp only [all_is]; omega)
    have e : diffN f.all f.all = 0 := by simp [diffN]
    rw [e, can_zero ho] at this
    cases this
  | some x =>
    obtain ⟨h1, h2, h3⟩ := set_first h
    exact ⟨x, rfl, h1, h2, h3⟩

/-! ### A fringe with the readings of a set alone -/

def Frg.subR (f : Frg) (s j : Nat) : List Rd := ((List.range j).filter fun i => s.testBit i).map f.r
def Frg.sub (f : Frg) (s : Nat) : Frg := { f with rs := f.subR s f.rs.length }

end Go.Ab
/-
  FringeMore: the plain part.
-/
namespace Go.Ab
open Go.Proofs
set_option linter.unusedSimpArgs false
set_option linter.unusedVariables false
set_option maxRecDepth 100000
set_option maxHeartbeats 400000

variable {H : Heap}


theorem nodup_len {α : Type} [DecidableEq α] : ∀ {a b : List α}, a.Nodup → a ⊆ b → a.length ≤ b.length
  | [], b, _, _ => Nat.zero_le _
  | x :: r, b, h, hs => by
    rw [List.nodup_cons] at h
    have hx : x ∈ b := hs (List.mem_cons_self ..)
    have h1 := nodup_len (a := r) (b := b.erase x) h.2 (fun y hy => (List.mem_erase_of_ne (fun e => h.1 (by rw [← e]; exact hy))).2 (hs (List.mem_cons_of_mem _ hy)))
    rw [List.length_erase_of_mem hx] at h1
    have := List.length_pos_of_mem hx
    simp only [List.length_cons]
    omega

theorem up_len {a b : List Int} (h : a.Pairwise (· < ·)) (hs : a ⊆ b) : a.length ≤ b.length := nodup_len (h.imp fun h => by omega) hs

/-- The parts of fewer lengths are among those of more. -/
theorem allP_sub {w : Int} {xs ys : List Int} (h : xs ⊆ ys) : diffN (allP w xs) (allP w ys) = 0 := by
  apply Nat.eq_of_testBit_eq
  intro k
  rw [diffN_bit, Nat.zero_testBit]
  cases hx : (allP w xs).testBit k
  · rfl
  · have : (allP w ys).testBit k = true := by
      simp only [allP, orG_bit, Nat.zero_testBit, Bool.false_or, List.any_eq_true, decide_eq_true_eq] at hx ⊢
      obtain ⟨x, h1, h2⟩ := hx
      exact ⟨x, h h1, h2⟩
    rw [this]; rfl

/-! ### What is told of a fringe, in numbers -/

theorem count_is {f : Frg} (ho : f.Ok) : f.count = ((((f.lens f.all).length : Nat) : Int), 0) := by simp only [Frg.count, f.valid_iff.2 ho, if_true]

theorem parts_is {f : Frg} (ho : f.Ok) {c : Nat} (hc : c < f.ws.length) : f.parts c = if (f.lens f.all).isEmpty then (0, 10) else (((allP (f.w c) (f.lens f.all) : Nat) : Int), 0) := by
  have hwi : wi (c : Int) 0 ((f.ws.length : Int) - 1) = true := by simp [wi]; omega
  simp only [Frg.parts, f.valid_iff.2 ho, if_true, hwi, Int.toNat_natCast, Frg.cnt, parts_all]

/-- What is told of g is no less exact than what is told of f. -/
structure Fine (f g : Frg) (c : Nat) (one : Bool) : Prop where
  cnt : (g.lens g.all).length ≤ (f.lens f.all).length
  pts : diffN (allP (g.w c) (g.lens g.all)) (allP (f.w c) (f.lens f.all)) = 0
  wr : ∀ o o' : Nat, f.wrong = ((pop o : Int), (o : Int), 0) → g.wrong = ((pop o' : Int), (o' : Int), 0) → pop o ≤ pop o' ∧ (one = true → pop o' ≤ pop o + 1)

theorem wrong_le {f g : Frg} (ho : f.Ok) (hg : g.Ok) (φ : Nat → Nat) (e : Nat) (h : ∀ s, s < 2 ^ g.rs.length → g.can (diffN g.all s) = true → φ s < 2 ^ f.rs.length ∧ f.can (diffN f.all (φ s)) = true ∧ pop (φ s) ≤ pop s + e) {o o' : Nat} (h1 : f.wrong = ((pop o : Int), (o : Int), 0)) (h2 : g.wrong = ((pop o' : Int), (o' : Int), 0)) : pop o ≤ pop o' + e := by
  obtain ⟨a, a1, a2, a3, a4⟩ := wrong_is ho
  obtain ⟨b, b1, b2, b3, b4⟩ := wrong_is hg
  rw [a1] at h1
  rw [b1] at h2
  simp only [Prod.mk.injEq] at h1 h2
  have e1 : a = o := by omega
  have e2 : b = o' := by omega
  subst e1
  subst e2
  obtain ⟨k1, k2, k3⟩ := h b b2 b3
  have := a4 _ k1 k2
  omega

theorem sub_fine {f g : Frg} (ho : f.Ok) (hg : g.Ok) (hw : g.ws = f.ws) (hn : g.rs.length = f.rs.length) (h1 : f.lo ≤ g.lo) (h2 : g.hi ≤ f.hi) (h3 : ∀ i n, i < f.rs.length → rgt (g.w (g.r i).c.toNat) (g.r i).lo (g.r i).hi n = true → rgt (f.w (f.r i).c.toNat) (f.r i).lo (f.r i).hi n = true) (c : Nat) : Fine f g c false := by
  have hs : ∀ s, g.lens s ⊆ f.lens s := by
    intro s x hx
    have k := (mem_lens hg s x).1 hx
    exact (mem_lens ho s x).2 ⟨by omega, right_iff.2 fun i hi hb => h3 i x hi (right_iff.1 k.2 i (by omega) hb)⟩
  have hall : g.all = f.all := by rw [all_is, all_is, hn]
  have hs2 : g.lens g.all ⊆ f.lens f.all := by rw [hall]; exact hs f.all
  refine ⟨up_len (lens_up g g.all) hs2, by rw [show g.w c = f.w c by simp only [Frg.w, hw]]; exact allP_sub hs2, fun o o' k1 k2 => ⟨?_, fun h => by cases h⟩⟩
  have hcan : ∀ s, g.can (diffN g.all s) = true → f.can (diffN f.all s) = true := by
    intro s hc
    rw [hall] at hc
    simp only [Frg.can, Bool.not_eq_true', List.isEmpty_eq_false_iff] at hc ⊢
    obtain ⟨x, hx⟩ := List.exists_mem_of_ne_nil _ hc
    intro e
    have := hs _ hx
    rw [e] at this
    cases this
  have hle := wrong_le ho hg (fun s => s) 0 (fun s hs3 hc => ⟨by rw [← hn]; exact hs3, hcan s hc, Nat.le_add_right _ _⟩) k1 k2
  omega

/-! ### A narrower reading, a narrower Length -/

def narD (r : Rd) : Rd := ⟨r.c, r.lo, if r.lo < r.hi - 1 then r.hi - 1 else r.lo⟩
def Frg.nar (f : Frg) (k : Nat) : Frg := { f with rs := f.rs.set k (narD (f.r k)) }
def Frg.cut (f : Frg) (d : Int) : Frg := { f with lo := if f.lo + 1 + d < f.hi then f.lo + 1 + d else f.hi }

theorem nar_at (f : Frg) (k i : Nat) (hi : i < f.rs.length) : (f.nar k).r i = if i = k then narD (f.r i) else f.r i := by
  by_cases e : i = k
  · subst e
    rw [if_pos rfl]
    simp only [Frg.r, Frg.nar, List.getD_eq_getElem?_getD, List.getElem?_set_self hi, Option.getD_some]
  · rw [if_neg e]
    simp only [Frg.r, Frg.nar, List.getD_eq_getElem?_getD, List.getElem?_set_ne (fun h => e h.symm)]

theorem rgt_mono {w lo hi hi' n : Int} (h : hi' ≤ hi) (hr : rgt w lo hi' n = true) : rgt w lo hi n = true := by
  simp only [rgt, wi, Bool.or_eq_true, Bool.and_eq_true, decide_eq_true_eq] at hr ⊢
  omega

theorem nar_fine {f : Frg} (ho : f.Ok) (k : Nat) (hg : (f.nar k).Ok) (c : Nat) : Fine f (f.nar k) c false := by
  refine sub_fine ho hg rfl (by simp [Frg.nar]) (Int.le_refl _) (Int.le_refl _) (fun i n hi h => ?_) c
  have hr := ho.rd i hi
  rw [nar_at f k i hi] at h
  split at h
  · exact rgt_mono (w := f.w (f.r i).c.toNat) (lo := (f.r i).lo) (hi' := if (f.r i).lo < (f.r i).hi - 1 then (f.r i).hi - 1 else (f.r i).lo) (by split <;> omega) h
  · exact h

theorem cut_fine {f : Frg} (ho : f.Ok) {d : Int} (hd : 0 ≤ d) (hg : (f.cut d).Ok) (c : Nat) : Fine f (f.cut d) c false := by
  have hl := ho.len
  exact sub_fine ho hg rfl rfl (by simp only [Frg.cut]; split <;> omega) (Int.le_refl _) (fun i n hi h => h) c

/-! ### A reading more -/

def Frg.more (f : Frg) (x : Rd) : Frg := { f with rs := f.rs ++ [x] }

theorem more_at (f : Frg) (x : Rd) {i : Nat} (hi : i < f.rs.length) : (f.more x).r i = f.r i := by simp only [Frg.r, Frg.more, List.getD_eq_getElem?_getD, List.getElem?_append_left hi]
theorem more_len (f : Frg) (x : Rd) : (f.more x).rs.length = f.rs.length + 1 := by simp [Frg.more]

theorem pop_mod : ∀ n < 6, ∀ s < 64, pop (s % 2 ^ n) ≤ pop s := by decide +kernel
theorem pop_add : ∀ n < 6, ∀ s < 2 ^ n, pop (s ||| 2 ^ n) ≤ pop s + 1 := by decide +kernel

theorem more_fine {f : Frg} (ho : f.Ok) (x : Rd) (hg : (f.more x).Ok) (c : Nat) : Fine f (f.more x) c true := by
  have hll := more_len f x
  have h6 := hg.reads
  rw [hll] at h6
  have hp2 : (2 : Nat) ^ f.rs.length ≤ 2 ^ 5 := Nat.pow_le_pow_right (by omega) (by omega)
  have hp3 : (2 : Nat) ^ (f.rs.length + 1) = 2 * 2 ^ f.rs.length := by rw [Nat.pow_succ]; omega
  have hp0 := Nat.two_pow_pos f.rs.length
  have hsub : ∀ s, (f.more x).lens s ⊆ f.lens s := by
    intro s n hn
    have k := (mem_lens hg s n).1 hn
    refine (mem_lens ho s n).2 ⟨k.1, right_iff.2 fun i hi hb => ?_⟩
    have := right_iff.1 k.2 i (by rw [hll]; omega) hb
    rw [more_at f x hi] at this
    exact this
  have hcong : ∀ s t, (∀ i, i < f.rs.length → s.testBit i = t.testBit i) → f.lens s = f.lens t := fun s t h => lens_congr (fun n => by
    rw [Bool.eq_iff_iff, right_iff, right_iff]
    exact ⟨fun k i hi hb => k i hi (by rw [h i hi]; exact hb), fun k i hi hb => k i hi (by rw [← h i hi]; exact hb)⟩) rfl rfl
  have hs2 : (f.more x).lens (f.more x).all ⊆ f.lens f.all := by
    rw [hcong f.all (f.more x).all (fun i hi => by rw [all_bit3 hi, all_bit3 (by rw [hll]; omega)])]
    exact hsub _
  refine ⟨up_len (lens_up _ _) hs2, allP_sub hs2, fun o o' k1 k2 => ⟨?_, fun _ => ?_⟩⟩
  · have hcan : ∀ s, (f.more x).can (diffN (f.more x).all s) = true → f.can (diffN f.all (s % 2 ^ f.rs.length)) = true := by
      intro s hc
      have e : f.lens (diffN f.all (s % 2 ^ f.rs.length)) = f.lens (diffN (f.more x).all s) := hcong _ _ (fun i hi => by
        rw [diffN_bit, diffN_bit, all_bit3 hi, all_bit3 (by rw [hll]; omega), Nat.testBit_mod_two_pow]
        simp [hi])
      simp only [Frg.can, Bool.not_eq_true', List.isEmpty_eq_false_iff] at hc ⊢
      obtain ⟨y, hy⟩ := List.exists_mem_of_ne_nil _ hc
      have := hsub _ hy
      rw [e]
      intro h
      rw [h] at this
      cases this
    have hle := wrong_le ho hg (fun s => s % 2 ^ f.rs.length) 0 (fun s hs3 hc => ⟨Nat.mod_lt _ hp0, hcan s hc, Nat.le_trans (pop_mod f.rs.length (by omega) s (by rw [hll] at hs3; omega)) (Nat.le_add_right _ _)⟩) k1 k2
    omega
  · have hcan : ∀ s, f.can (diffN f.all s) = true → (f.more x).can (diffN (f.more x).all (s ||| 2 ^ f.rs.length)) = true := by
      intro s hc
      simp only [Frg.can, Bool.not_eq_true', List.isEmpty_eq_false_iff] at hc ⊢
      obtain ⟨y, hy⟩ := List.exists_mem_of_ne_nil _ hc
      have k := (mem_lens ho _ y).1 hy
      have : y ∈ (f.more x).lens (diffN (f.more x).all (s ||| 2 ^ f.rs.length)) := by
        refine (mem_lens hg _ y).2 ⟨k.1, right_iff.2 fun i hi hb => ?_⟩
        rw [diffN_bit, Nat.testBit_or, Nat.testBit_two_pow] at hb
        by_cases e : i = f.rs.length
        · subst e; simp at hb
        · rw [hll] at hi
          have hi2 : i < f.rs.length := by omega
          rw [more_at f x hi2]
          refine right_iff.1 k.2 i hi2 ?_
          rw [diffN_bit, all_bit3 hi2]
          rw [all_bit3 (by rw [hll]; omega)] at hb
          revert hb
          cases s.testBit i <;> simp
      intro h
      rw [h] at this
      cases this
    exact wrong_le hg ho (fun s => s ||| 2 ^ f.rs.length) 1 (fun s hs3 hc => ⟨by
      rw [hll]
      exact Nat.or_lt_two_pow (by omega) (by omega), hcan s hc, pop_add f.rs.length (by omega) s hs3⟩) k2 k1

/-! ### In another order -/

def Frg.rvR (f : Frg) (r : Rd) : Rd := ⟨(f.ws.length : Int) - 1 - r.c, r.lo, r.hi⟩
def Frg.rev (f : Frg) : Frg := ⟨f.ws.reverse, f.lo, f.hi, f.rs.reverse.map f.rvR⟩

theorem rev_w (f : Frg) {i : Nat} (hi : i < f.ws.length) : f.rev.w i = f.w (f.ws.length - 1 - i) := by
  have h1 : i < f.ws.reverse.length := by simpa using hi
  have h2 : f.ws.length - 1 - i < f.ws.length := by omega
  simp only [Frg.w, Frg.rev, List.getD_eq_getElem?_getD, List.getElem?_eq_getElem h1, List.getElem?_eq_getElem h2, Option.getD_some, List.getElem_reverse]

theorem rev_r (f : Frg) {i : Nat} (hi : i < f.rs.length) : f.rev.r i = f.rvR (f.r (f.rs.length - 1 - i)) := by
  have h1 : i < (f.rs.reverse.map f.rvR).length := by simpa using hi
  have h2 : f.rs.length - 1 - i < f.rs.length := by omega
  simp only [Frg.r, Frg.rev, List.getD_eq_getElem?_getD, List.getElem?_eq_getElem h1, List.getElem?_eq_getElem h2, Option.getD_some, List.getElem_map, List.getElem_reverse]

theorem rev_wl (f : Frg) : f.rev.ws.length = f.ws.length := by simp [Frg.rev]
theorem rev_rl (f : Frg) : f.rev.rs.length = f.rs.length := by simp [Frg.rev]

theorem rev_ok {f : Frg} (ho : f.Ok) : f.rev.Ok := by
  refine ⟨by rw [rev_wl]; exact ho.many, by rw [rev_rl]; exact ho.reads, fun i hi => ?_, ho.len, fun i hi => ?_⟩
  · rw [rev_wl] at hi
    rw [rev_w f hi]
    exact ho.wave _ (by omega)
  · rw [rev_rl] at hi
    rw [rev_r f hi, rev_wl]
    have := ho.rd (f.rs.length - 1 - i) (by omega)
    simp only [Frg.rvR]
    omega

theorem rev_rgt {f : Frg} (ho : f.Ok) {i : Nat} (hi : i < f.rs.length) (n : Int) : rgt (f.rev.w (f.rev.r i).c.toNat) (f.rev.r i).lo (f.rev.r i).hi n = rgt (f.w (f.r (f.rs.length - 1 - i)).c.toNat) (f.r (f.rs.length - 1 - i)).lo (f.r (f.rs.length - 1 - i)).hi n := by
  have hr := ho.rd (f.rs.length - 1 - i) (by omega)
  rw [rev_r f hi]
  simp only [Frg.rvR]
  rw [rev_w f (by omega)]
  rw [show f.ws.length - 1 - ((f.ws.length : Int) - 1 - (f.r (f.rs.length - 1 - i)).c).toNat = (f.r (f.rs.length - 1 - i)).c.toNat by omega]

def revN (n s : Nat) : Nat := maskN (fun i => s.testBit (n - 1 - i)) n
theorem revN_bit (n s i : Nat) (hi : i < n) : (revN n s).testBit i = s.testBit (n - 1 - i) := by simp [revN, maskN_bit, hi]
theorem pop_rev : ∀ n < 7, ∀ s < 2 ^ n, pop (revN n s) ≤ pop s := by decide +kernel

theorem rev_lens {f : Frg} (ho : f.Ok) {s t : Nat} (h : ∀ i, i < f.rs.length → t.testBit i = s.testBit (f.rs.length - 1 - i)) : f.rev.lens t = f.lens s := lens_congr (fun n => by
  rw [Bool.eq_iff_iff, right_iff, right_iff]
  constructor
  · intro k i hi hb
    have := k (f.rs.length - 1 - i) (by rw [rev_rl]; omega) (by rw [h _ (by omega), show f.rs.length - 1 - (f.rs.length - 1 - i) = i by omega]; exact hb)
    rw [rev_rgt ho (by omega), show f.rs.length - 1 - (f.rs.length - 1 - i) = i by omega] at this
    exact this
  · intro k i hi hb
    rw [rev_rl] at hi
    rw [rev_rgt ho hi]
    exact k _ (by omega) (by rw [← h i hi]; exact hb)) rfl rfl

theorem rev_all {f : Frg} (ho : f.Ok) : f.rev.lens f.rev.all = f.lens f.all := rev_lens ho (fun i hi => by
  rw [all_bit3 (by rw [rev_rl]; exact hi), all_bit3 (by omega)])

theorem rev_count {f : Frg} (ho : f.Ok) : f.rev.count = f.count := by rw [count_is ho, count_is (rev_ok ho), rev_all ho]

theorem rev_parts {f : Frg} (ho : f.Ok) {c : Nat} (hc : c < f.ws.length) : f.rev.parts ((f.ws.length - 1 - c : Nat) : Int) = f.parts c := by
  rw [parts_is ho hc, parts_is (rev_ok ho) (by rw [rev_wl]; omega), rev_all ho, rev_w f (by omega), show f.ws.length - 1 - (f.ws.length - 1 - c) = c by omega]

theorem rev_wrong {f : Frg} (ho : f.Ok) {o o' : Nat} (h1 : f.wrong = ((pop o : Int), (o : Int), 0)) (h2 : f.rev.wrong = ((pop o' : Int), (o' : Int), 0)) : pop o' = pop o := by
  have h6 := ho.reads
  have hrl := rev_rl f
  have key : ∀ s, s < 2 ^ f.rs.length → f.rev.lens (diffN f.rev.all s) = f.lens (diffN f.all (revN f.rs.length s)) := fun s hs => rev_lens ho (fun i hi => by
    rw [diffN_bit, diffN_bit, all_bit3 (by rw [hrl]; exact hi), all_bit3 (by omega), revN_bit _ _ _ (by omega), show f.rs.length - 1 - (f.rs.length - 1 - i) = i by omega])
  have key2 : ∀ s, s < 2 ^ f.rs.length → f.rev.lens (diffN f.rev.all (revN f.rs.length s)) = f.lens (diffN f.all s) := fun s hs => rev_lens ho (fun i hi => by
    rw [diffN_bit, diffN_bit, all_bit3 (by rw [hrl]; exact hi), all_bit3 (by omega), revN_bit _ _ _ (by omega)])
  have hlt : ∀ s, revN f.rs.length s < 2 ^ f.rs.length := fun s => maskN_lt _ _
  have a := wrong_le ho (rev_ok ho) (revN f.rs.length) 0 (fun s hs hc => ⟨hlt s, by
    rw [hrl] at hs
    simp only [Frg.can] at hc ⊢
    rw [key s hs] at hc
    exact hc, by
    rw [hrl] at hs
    exact Nat.le_trans (pop_rev f.rs.length (by omega) s hs) (Nat.le_add_right _ _)⟩) h1 h2
  have b := wrong_le (rev_ok ho) ho (revN f.rs.length) 0 (fun s hs hc => ⟨by rw [hrl]; exact hlt s, by
    simp only [Frg.can] at hc ⊢
    rw [key2 s hs]
    exact hc, by
    exact Nat.le_trans (pop_rev f.rs.length (by omega) s hs) (Nat.le_add_right _ _)⟩) h2 h1
  omega

theorem lcm_swap (n a b : Nat) : Nat.lcm (Nat.lcm n a) b = Nat.lcm (Nat.lcm n b) a := by rw [Nat.lcm_assoc, Nat.lcm_comm a b, ← Nat.lcm_assoc]

theorem rev_period {f : Frg} (ho : f.Ok) : f.rev.period = f.period := by
  have hp : f.ws.reverse.Perm f.ws := List.reverse_perm _
  have e : f.rev.ws = f.ws.reverse := rfl
  simp only [Frg.period, f.valid_iff.2 ho, f.rev.valid_iff.2 (rev_ok ho), if_true, e, lcmL]
  rw [List.Perm.foldl_eq' hp (fun x _ y _ z => lcm_swap z x.toNat y.toNat)]

end Go.Ab
/-
  FringeClash, walked.
-/
namespace Go.Ab
open Go.Proofs
set_option linter.unusedSimpArgs false
set_option linter.unusedVariables false
set_option maxRecDepth 100000
set_option maxHeartbeats 2000000

variable {H : Heap}


theorem SlOk.sealn {sz : Nat} {v : AV} {xs : List AV} (h : SlOk H sz v xs) (A : Heap) (k : Nat) : sealG A (H.length + k) v = v := by
  have := (h.app (List.replicate k AO.dead)).seal A
  simpa using this

end Go.Ab
