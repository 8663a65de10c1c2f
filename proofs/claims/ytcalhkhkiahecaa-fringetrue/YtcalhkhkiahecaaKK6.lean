/-
  Slices of small numbers that are handed in, as the evaluator takes them.
-/
import Derived.Test.YtcalhkhkiahecaaKK1
import Derived.Test.YtcalhkhkiahecaaKK5
namespace Go.Ab
set_option linter.unusedSimpArgs false
set_option linter.unusedVariables false
set_option maxRecDepth 100000
open Go.Proofs Go.ChangeShapes Go.RowKit Go.WideShapes

theorem sh48 : shOf prog0 8 48 = some (.sl false (.int .u16)) := by kernel_rfl

theorem list_ofP {α : Type} {p : α → Prop} {f : α → AV} : ∀ {es : List AV}, (∀ x ∈ es, ∃ a, p a ∧ x = f a) → ∃ l : List α, es = l.map f ∧ ∀ a ∈ l, p a
  | [], _ => ⟨[], rfl, by simp⟩
  | x :: r, h => by
    obtain ⟨a, ha, rfl⟩ := h x (List.mem_cons_self ..)
    obtain ⟨l, rfl, hl⟩ := list_ofP fun y hy => h y (List.mem_cons_of_mem _ hy)
    refine ⟨a :: l, rfl, fun b hb => ?_⟩
    rcases List.mem_cons.1 hb with rfl | hb
    · exact ha
    · exact hl b hb

theorem len_of {T : Type} {enc : TypeId × Value → T} {W : World} {t e : TypeId} {v : Value} {d : DataW T} {ps : List MemPlace} {f : Bool} {es : List AV} (hu : prog0.underlying t = some (.slice e)) (h1 : Rel (Cx.start W) (.sl f es) v) (hd : DataW.Trod enc prog0 W 0 (fun _ => true) true t v d ps) : es.length ≤ 9223372036854775807 := by
  rw [Rel] at h1
  obtain ⟨a, cap, rfl, ⟨-, hc⟩, -, hy⟩ := h1
  obtain ⟨m, hm⟩ := hd
  cases m with
  | zero => simp [DataW.trod] at hm
  | succ m =>
    cases a with
    | none =>
      rcases hy with hy | ⟨b, o, sz, ys, hy, -⟩
      · have := congrArg List.length hy
        simp at this
        simp [this]
      · cases hy
    | some a =>
      simp only [DataW.trod, Value.cells, hu] at hm
      split at hm
      · rename_i h
        have : maxLen = 9223372036854775807 := rfl
        omega
      · cases hm

theorem arg_u16s {T : Type} {enc : TypeId × Value → T} {W : World} {r : Reach} {b0 : Nat} {v : Value} {d : DataW T} {ps : List MemPlace} (hval : Value.okWide prog0 W r b0 48 v) (hd : DataW.Trod enc prog0 W 0 (fun _ => true) true 48 v d ps) :
    ∃ (fl : Bool) (us : List Int), Rel (Cx.start W) (.sl fl (us.map B16)) v ∧ (us.length ≤ 9223372036854775807 ∧ ∀ i, i < us.length → 0 ≤ us.getD i 0 ∧ us.getD i 0 ≤ 65535) := by
  obtain ⟨f, es, h1, h2⟩ := arg_sl Try.underlying48 sh48 hval hd
  obtain ⟨ws, rfl, hw⟩ := list_ofP (p := fun n : Int => 0 ≤ n ∧ n ≤ 65535) (f := B16) (es := es) fun x hx => by
    obtain ⟨_, ⟨n, rfl, hn⟩, rfl⟩ := h2 x hx
    exact ⟨n, bounds_u16 hn, rfl⟩
  have hl := len_of Try.underlying48 h1 hd
  rw [List.length_map] at hl
  exact ⟨f, ws, h1, ⟨hl, fun i hi => hw _ (by simp [hi])⟩⟩

end Go.Ab
/-
  FringeLengths: the plain part.
-/
namespace Go.Ab
open Go.Proofs
set_option linter.unusedSimpArgs false
set_option linter.unusedVariables false
set_option maxRecDepth 100000
set_option maxHeartbeats 2000000

variable {H : Heap}


/-- Spans that do not meet. -/
def Gap (p q : Int × Int) : Prop := p.2 + 1 < q.1

def inP (x : Int) (p : Int × Int) : Bool := decide (p.1 ≤ x) && decide (x ≤ p.2)

theorem any_spans (xs : List Int) (x : Int) : (spans xs).any (inP x) = decide (x ∈ xs) := by
  rw [Bool.eq_iff_iff]
  simp only [List.any_eq_true, inP, Bool.and_eq_true, decide_eq_true_eq]
  conv => rhs; rw [← (flat_spans xs).1]
  rw [mem_flatS]

end Go.Ab
/-
  FringeLengths: the readings are right, the spans, the law.
-/
namespace Go.Ab
open Go.Proofs
set_option linter.unusedSimpArgs false
set_option linter.unusedVariables false
set_option maxRecDepth 100000
set_option maxHeartbeats 2000000

variable {H : Heap}


theorem near_fold (w : Int) : ∀ (xs : List Int) (m : Int), (∀ x ∈ xs, m < x) → xs.Pairwise (· < ·) → (xs.foldl (nearS w) m = m ∨ xs.foldl (nearS w) m ∈ xs) ∧ ∀ x, x = m ∨ x ∈ xs → apw w (xs.foldl (nearS w) m) < apw w x ∨ (apw w (xs.foldl (nearS w) m) = apw w x ∧ xs.foldl (nearS w) m ≤ x)
  | [], m, _, _ => ⟨Or.inl rfl, fun x hx => hx.elim (fun e => Or.inr (by subst e; exact ⟨rfl, Int.le_refl _⟩)) (fun h => by cases h)⟩
  | y :: r, m, h1, h2 => by
    obtain ⟨h3, h4⟩ := List.pairwise_cons.1 h2
    have hmy := h1 y List.mem_cons_self
    simp only [List.foldl_cons]
    by_cases hc : apw w y - apw w m < 0
    · have e : nearS w m y = y := by simp only [nearS, if_pos hc]
      rw [e]
      obtain ⟨i1, i2⟩ := near_fold w r y h3 h4
      refine ⟨Or.inr (i1.elim (fun i1 => by rw [i1]; exact List.mem_cons_self) (fun i1 => List.mem_cons_of_mem _ i1)), fun x hx => ?_⟩
      rcases hx with rfl | hx
      · have := i2 y (Or.inl rfl); omega
      · rcases List.mem_cons.1 hx with rfl | hx
        · exact i2 x (Or.inl rfl)
        · exact i2 x (Or.inr hx)
    · have e : nearS w m y = m := by simp only [nearS, if_neg hc]
      rw [e]
      obtain ⟨i1, i2⟩ := near_fold w r m (fun x hx => h1 x (List.mem_cons_of_mem _ hx)) h4
      refine ⟨i1.elim Or.inl (fun i1 => Or.inr (List.mem_cons_of_mem _ i1)), fun x hx => ?_⟩
      rcases hx with rfl | hx
      · exact i2 x (Or.inl rfl)
      · rcases List.mem_cons.1 hx with rfl | hx
        · have := i2 m (Or.inl rfl); omega
        · exact i2 x (Or.inr hx)

theorem near_best {w : Int} {xs : List Int} (h : xs.Pairwise (· < ·)) (h0 : 0 < xs.length) : nearL w xs ∈ xs ∧ ∀ x ∈ xs, apw w (nearL w xs) < apw w x ∨ (apw w (nearL w xs) = apw w x ∧ nearL w xs ≤ x) := by
  cases xs with
  | nil => simp at h0
  | cons m r =>
    obtain ⟨h3, h4⟩ := List.pairwise_cons.1 h
    obtain ⟨i1, i2⟩ := near_fold w r m h3 h4
    have e : nearL w (m :: r) = r.foldl (nearS w) m := rfl
    rw [e]
    refine ⟨i1.elim (fun i1 => by rw [i1]; exact List.mem_cons_self) (fun i1 => List.mem_cons_of_mem _ i1), fun x hx => i2 x (List.mem_cons.1 hx)⟩

end Go.Ab
/-
  FringeTrue: the plain part.
-/
namespace Go.Ab
open Go.Proofs
set_option linter.unusedSimpArgs false
set_option linter.unusedVariables false
set_option maxRecDepth 100000
set_option maxHeartbeats 2000000

variable {H : Heap}


/-! ### The first set of all, by how many there are in it -/

theorem set_first {n : Nat} {b : Nat → Bool} {x : Nat} (h : firstF b (setL n) 0 (setL n).length = some x) : x < 2 ^ n ∧ b x = true ∧ ∀ y, y < 2 ^ n → b y = true → pop x < pop y ∨ (pop x = pop y ∧ x ≤ y) := by
  obtain ⟨i, h1, h2, h3, h4⟩ := (findF_some _ _ _ _).1 h
  rw [setL_len] at h2
  split at h3
  · rename_i hb
    have hx : (setL n).getD i 0 = x := by simpa using h3
    rw [hx] at hb
    refine ⟨firstF_lt (setL_lt n) h, hb, fun y hy hby => ?_⟩
    obtain ⟨k, k1, k2⟩ := setL_has hy
    have k2' : (setL n).getD k 0 = y := k2
    by_cases e : k < i
    · have := h4 k (by omega) e
      rw [if_pos (by rw [k2']; exact hby)] at this
      cases this
    · by_cases e2 : k = i
      · subst e2
        rw [hx] at k2'
        subst k2'
        exact Or.inr ⟨rfl, Nat.le_refl _⟩
      · have := (setL_srt n).1 i k (by omega) (by omega) (by omega)
        simp only [lx, popK, id] at this
        have e1 : gt (setL n) i = x := hx
        rw [e1, k2] at this
        omega
  · cases h3

theorem set_none {n : Nat} {b : Nat → Bool} (h : firstF b (setL n) 0 (setL n).length = none) : ∀ y, y < 2 ^ n → b y = false := by
  intro y hy
  obtain ⟨k, k1, k2⟩ := setL_has hy
  have := (findF_none _ _ _).1 h k (by omega) (by rw [setL_len]; omega)
  rw [show (setL n).getD k 0 = y from k2] at this
  cases hb : b y
  · rfl
  · rw [hb] at this; cases this

theorem pop_zero : pop 0 = 0 := popF_zero 20

theorem popF_pos : ∀ (m x : Nat), 0 < x → x < 2 ^ m → 0 < popF m x
  | 0, x, h0, h1 => by simp at h1; omega
  | m + 1, x, h0, h1 => by
    simp only [popF]
    by_cases e : x % 2 = 0
    · have h2 : (2 : Nat) ^ (m + 1) = 2 * 2 ^ m := by rw [Nat.pow_succ]; omega
      have := popF_pos m (x / 2) (by omega) (by omega)
      omega
    · omega

theorem pop_pos {x : Nat} (h0 : 0 < x) (h : x < 2 ^ 20) : 0 < pop x := popF_pos 20 x h0 h

theorem set_zero {n : Nat} {b : Nat → Bool} (hn : n ≤ 10) (hb : b 0 = true) : firstF b (setL n) 0 (setL n).length = some 0 := by
  have hp := Nat.two_pow_pos n
  have hp2 : (2 : Nat) ^ n ≤ 2 ^ 20 := Nat.pow_le_pow_right (by omega) (by omega)
  cases h : firstF b (setL n) 0 (setL n).length with
  | none => rw [set_none h 0 hp] at hb; cases hb
  | some x =>
    obtain ⟨h1, h2, h3⟩ := set_first h
    have h4 := h3 0 hp hb
    rw [pop_zero] at h4
    by_cases e : x = 0
    · rw [e]
    · have := pop_pos (x := x) (by omega) (by omega)
      omega

theorem dedup_lenI : ∀ zs : List Int, (dedupI zs).length ≤ zs.length
  | [] => Nat.le_refl _
  | [_] => Nat.le_refl _
  | x :: y :: r => by
    have := dedup_lenI (y :: r)
    simp only [dedupI]
    split <;> simp only [List.length_cons] at this ⊢ <;> omega

/-! ### A truth -/

/-- All readings are right of a length. -/
structure Tru (f : Frg) (L : Int) : Prop where
  ok : f.Ok
  len : f.lo ≤ L ∧ L ≤ f.hi
  rd : ∀ i, i < f.rs.length → rgt (f.w (f.r i).c.toNat) (f.r i).lo (f.r i).hi L = true

theorem Tru.right {f : Frg} {L : Int} (h : Tru f L) (s : Nat) : f.right s L = true := by
  simp only [Frg.right, Frg.rt, Bool.not_eq_true', anyF_false]
  intro i _ hi
  rw [h.rd i (by omega)]
  simp

theorem Tru.mem {f : Frg} {L : Int} (h : Tru f L) (s : Nat) : L ∈ f.lens s := (mem_lens h.ok s L).2 ⟨h.len, h.right s⟩

theorem Tru.can {f : Frg} {L : Int} (h : Tru f L) (s : Nat) : f.can s = true := by
  simp only [Frg.can, Bool.not_eq_true', List.isEmpty_eq_false_iff]
  intro e
  have := h.mem s
  rw [e] at this
  cases this

theorem Tru.pos {f : Frg} {L : Int} (h : Tru f L) : (f.lens f.all).isEmpty = false := by
  have := h.can f.all
  simpa [Frg.can] using this

theorem Tru.near {f : Frg} {L : Int} (h : Tru f L) : f.near L = (L, 0) := by
  have hlen := h.ok.len
  have hL := h.len
  have kw : wi L 0 2000 = true := by simp [wi]; omega
  have hpos : 0 < (f.lens f.all).length := List.length_pos_of_mem (h.mem f.all)
  obtain ⟨m1, m2⟩ := near_best (w := L) (lens_up f f.all) hpos
  have h2 := m2 L (h.mem f.all)
  have ha : ∀ x, apw L x = 0 ∨ 0 < apw L x := fun x => by simp only [apw]; split <;> omega
  have h0 : apw L L = 0 := by simp only [apw]; split <;> omega
  have he : nearL L (f.lens f.all) = L := by
    generalize nearL L (f.lens f.all) = x at *
    simp only [apw] at h2 h0
    revert h2
    split <;> split <;> intro h2 <;> omega
  simp only [Frg.near, f.valid_iff.2 h.ok, if_true, kw, h.pos, Bool.false_eq_true, if_false, he]

theorem Tru.wrong {f : Frg} {L : Int} (h : Tru f L) : f.wrong = (0, 0, 0) := by
  have h6 := h.ok.reads
  have := set_zero (n := f.rs.length) (b := fun s => f.can (diffN f.all s)) (by omega) (h.can _)
  simp only [Frg.wrong, f.valid_iff.2 h.ok, if_true, this, Option.getD_some, pop_zero]
  rfl

theorem Tru.clash {f : Frg} {L : Int} (h : Tru f L) : f.clash = (0, 4) := by
  simp only [Frg.clash, f.valid_iff.2 h.ok, if_true]
  cases hc : firstF (fun s => !f.can s) (setL f.rs.length) 0 (setL f.rs.length).length with
  | none => rfl
  | some x =>
    have := (set_first hc).2.1
    rw [h.can x] at this
    cases this

theorem Tru.whole {f : Frg} {L : Int} (h : Tru f L) {c : Nat} (hc : c < f.ws.length) : ∃ xs, f.whole c = (xs, 0) ∧ L / f.w c ∈ xs ∧ xs.length ≤ 401 := by
  have hw := h.ok.wave c hc
  have hwi : wi (c : Int) 0 ((f.ws.length : Int) - 1) = true := by simp [wi]; omega
  obtain ⟨h1, h2⟩ := allW_fold (w := f.w c) (by omega) (f.lens f.all) [] (lens_up f f.all) List.Pairwise.nil (by simp)
  have he := whole_all (w := f.w c) (by omega) (lens_up f f.all)
  refine ⟨wholeL (f.cnt c), by simp only [Frg.whole, f.valid_iff.2 h.ok, if_true, hwi, h.pos, Bool.false_eq_true, if_false, Int.toNat_natCast], ?_, ?_⟩
  · simp only [Frg.cnt]
    rw [he, allW]
    exact (h2 _).2 (Or.inr ⟨L, h.mem _, rfl⟩)
  · have hb := cnt_bd h.ok c
    have hd := dedup_lenI (((f.cnt c).map (fun p => p.1.1)).mergeSort fun x y => decide (x ≤ y))
    rw [List.length_mergeSort, List.length_map] at hd
    simp only [wholeL]
    omega

theorem Tru.parts {f : Frg} {L : Int} (h : Tru f L) {c : Nat} (hc : c < f.ws.length) : ∃ s : Nat, f.parts c = ((s : Int), 0) ∧ s.testBit (ptZ (f.w c) L).toNat = true ∧ s < 2 ^ 20 := by
  have hw := h.ok.wave c hc
  have hwi : wi (c : Int) 0 ((f.ws.length : Int) - 1) = true := by simp [wi]; omega
  refine ⟨allP (f.w c) (f.lens f.all), ?_, ?_, ?_⟩
  · simp only [Frg.parts, f.valid_iff.2 h.ok, if_true, hwi, h.pos, Bool.false_eq_true, if_false, Int.toNat_natCast, Frg.cnt, parts_all]
  · simp only [allP, orG_bit, Bool.or_eq_true, List.any_eq_true, decide_eq_true_eq]
    exact Or.inr ⟨L, h.mem _, rfl⟩
  · exact ofold_lt (by omega) _ _ (by decide)

/-- The readings leave no more lengths in the part that is the truth's than are told. -/
theorem Tru.ask {f : Frg} {L : Int} (h : Tru f L) : ∃ b : Nat, f.ask = ((b : Int), f.most b, 0) ∧ b < f.ws.length ∧ 1 ≤ f.most b ∧ f.most b ≤ (f.lens f.all).length ∧ 1 ≤ f.lenP b (ptZ (f.w b) L).toNat ∧ ((f.lenP b (ptZ (f.w b) L).toNat : Nat) : Int) ≤ f.most b := by
  have hm := h.ok.many
  obtain ⟨b, k1, k2, k3, k4⟩ := ask_best (f := f) (by omega)
  have hw := h.ok.wave b k2
  have hb := ptZ_bd (w := f.w b) (n := L) (by omega)
  have hge : ∀ (q j : Nat) (a : Int), a ≤ mGo f b j q a ∧ ∀ i, j ≤ i → i < j + q → ((f.lenP b i : Nat) : Int) ≤ mGo f b j q a := by
    intro q
    induction q with
    | zero => exact fun j a => ⟨Int.le_refl _, fun i h1 h2 => by omega⟩
    | succ q ih =>
      intro j a
      obtain ⟨i1, i2⟩ := ih (j + 1) (mx2 a (f.lenP b j : Nat))
      have hx : a ≤ mx2 a (f.lenP b j : Nat) ∧ ((f.lenP b j : Nat) : Int) ≤ mx2 a (f.lenP b j : Nat) := by simp only [mx2]; split <;> omega
      simp only [mGo]
      refine ⟨by omega, fun i h1 h2 => ?_⟩
      by_cases e : i = j
      · subst e; omega
      · exact i2 i (by omega) (by omega)
  have hle : ∀ (q j : Nat) (a B : Int), a ≤ B → (∀ i, ((f.lenP b i : Nat) : Int) ≤ B) → mGo f b j q a ≤ B := by
    intro q
    induction q with
    | zero => exact fun j a B h1 _ => h1
    | succ q ih => exact fun j a B h1 h2 => ih (j + 1) _ B (by have := h2 j; simp only [mx2]; split <;> omega) h2
  have g1 := (hge 20 0 0).2 (ptZ (f.w b) L).toNat (by omega) (by omega)
  have g2 := hle 20 0 0 (f.lens f.all).length (by omega) (fun i => by
    have : f.lenP b i ≤ (f.lens f.all).length := List.length_filter_le _ _
    omega)
  rw [mGo_most] at g1 g2
  have g3 : 1 ≤ f.lenP b (ptZ (f.w b) L).toNat := by
    have : L ∈ (f.lens f.all).filter fun n => decide (ptZ (f.w b) n = ((ptZ (f.w b) L).toNat : Int)) := by
      rw [List.mem_filter]
      refine ⟨h.mem _, by rw [decide_eq_true_eq]; omega⟩
    exact List.length_pos_of_mem this
  refine ⟨b, ?_, k2, by omega, g2, g3, g1⟩
  simp only [Frg.ask, f.valid_iff.2 h.ok, if_true, h.pos, Bool.false_eq_true, if_false]
  rw [k1, k3]

/-! ### The fringe that is made -/

def mdK (us : List Int) : Nat := (drawN us 1 4).toNat + 1
def mdW (us : List Int) (i : Nat) : Int := 2 + drawN us (2 + (i : Int)) 59
def mdL (us : List Int) : Int := drawN us ((mdK us : Int) + 2) 2001
def mdLo (us : List Int) : Int := if 0 < mdL us - drawN us ((mdK us : Int) + 3) 200 then mdL us - drawN us ((mdK us : Int) + 3) 200 else 0
def mdHi (us : List Int) : Int := if mdL us + drawN us ((mdK us : Int) + 4) 200 < 2000 then mdL us + drawN us ((mdK us : Int) + 4) 200 else 2000
def mdM (us : List Int) : Nat := (drawN us ((mdK us : Int) + 5) 7).toNat
def mdC (us : List Int) (i : Nat) : Int := drawN us ((mdK us : Int) + 6 + 3 * (i : Int)) (mdK us : Int)
def mdO (us : List Int) (i : Nat) : Int := drawN us ((mdK us : Int) + 7 + 3 * (i : Int)) 4
def mdD (us : List Int) (i : Nat) : Int := drawN us ((mdK us : Int) + 8 + 3 * (i : Int)) 4
def mdA (us : List Int) (i : Nat) : Int := (ptZ (mdW us (mdC us i).toNat) (mdL us) - mdO us i + 20) % 20
def mdR (us : List Int) (i : Nat) : Rd := ⟨mdC us i, mdA us i, mdA us i + mdO us i + mdD us i⟩
def mdWs (us : List Int) (k : Nat) : List Int := (List.range k).map (mdW us)
def mdRs (us : List Int) (k : Nat) : List Rd := (List.range k).map (mdR us)
def mdF (us : List Int) : Frg := ⟨mdWs us (mdK us), mdLo us, mdHi us, mdRs us (mdM us)⟩

theorem mdK_bd (us : List Int) : 1 ≤ mdK us ∧ mdK us ≤ 4 := by
  have := draw_bd (us := us) (at1 := 1) (n := 4) (by omega)
  simp only [mdK]; omega
theorem mdM_bd (us : List Int) : mdM us ≤ 6 := by
  have := draw_bd (us := us) (at1 := (mdK us : Int) + 5) (n := 7) (by omega)
  simp only [mdM]; omega
theorem mdW_bd (us : List Int) (i : Nat) : 2 ≤ mdW us i ∧ mdW us i ≤ 60 := by
  have := draw_bd (us := us) (at1 := 2 + (i : Int)) (n := 59) (by omega)
  simp only [mdW]; omega
theorem mdL_bd (us : List Int) : 0 ≤ mdL us ∧ mdL us ≤ 2000 := by
  have := draw_bd (us := us) (at1 := (mdK us : Int) + 2) (n := 2001) (by omega)
  simp only [mdL]; omega
theorem mdC_bd (us : List Int) (i : Nat) : 0 ≤ mdC us i ∧ mdC us i < mdK us := by
  have hk := mdK_bd us
  exact draw_bd (us := us) (at1 := (mdK us : Int) + 6 + 3 * (i : Int)) (n := (mdK us : Int)) (by omega)
theorem mdO_bd (us : List Int) (i : Nat) : 0 ≤ mdO us i ∧ mdO us i < 4 := draw_bd (by omega)
theorem mdD_bd (us : List Int) (i : Nat) : 0 ≤ mdD us i ∧ mdD us i < 4 := draw_bd (by omega)
theorem mdLo_bd (us : List Int) : 0 ≤ mdLo us ∧ mdLo us ≤ mdL us ∧ mdL us - 199 ≤ mdLo us := by
  have := draw_bd (us := us) (at1 := (mdK us : Int) + 3) (n := 200) (by omega)
  have hl := mdL_bd us
  simp only [mdLo]; split <;> omega
theorem mdHi_bd (us : List Int) : mdHi us ≤ 2000 ∧ mdL us ≤ mdHi us ∧ mdHi us ≤ mdL us + 199 := by
  have := draw_bd (us := us) (at1 := (mdK us : Int) + 4) (n := 200) (by omega)
  have hl := mdL_bd us
  simp only [mdHi]; split <;> omega

theorem mdWs_len (us : List Int) (k : Nat) : (mdWs us k).length = k := by simp [mdWs]
theorem mdRs_len (us : List Int) (k : Nat) : (mdRs us k).length = k := by simp [mdRs]
theorem mdWs_at (us : List Int) {k i : Nat} (h : i < k) : (mdWs us k).getD i 0 = mdW us i := by simp [mdWs, h]
theorem mdRs_at (us : List Int) {k i : Nat} (h : i < k) : (mdRs us k).getD i rd0 = mdR us i := by simp [mdRs, h]
theorem mdWs_succ (us : List Int) (k : Nat) : mdWs us (k + 1) = mdWs us k ++ [mdW us k] := by simp [mdWs, List.range_succ]
theorem mdRs_succ (us : List Int) (k : Nat) : mdRs us (k + 1) = mdRs us k ++ [mdR us k] := by simp [mdRs, List.range_succ]

theorem mdR_bd (us : List Int) (i : Nat) : 0 ≤ mdA us i ∧ mdA us i ≤ 19 ∧ mdA us i ≤ mdA us i + mdO us i + mdD us i ∧ mdA us i + mdO us i + mdD us i ≤ mdA us i + 6 := by
  have h1 := mdO_bd us i
  have h2 := mdD_bd us i
  simp only [mdA]; omega

theorem md_tru (us : List Int) : Tru (mdF us) (mdL us) := by
  have hk := mdK_bd us
  have hm := mdM_bd us
  have hlo := mdLo_bd us
  have hhi := mdHi_bd us
  have hL := mdL_bd us
  refine ⟨⟨by simp only [mdF, mdWs_len]; omega, by simp only [mdF, mdRs_len]; omega, fun i hi => ?_, by simp only [mdF]; omega, fun i hi => ?_⟩, by simp only [mdF]; omega, fun i hi => ?_⟩
  · simp only [mdF, mdWs_len] at hi
    simp only [Frg.w, mdF, mdWs_at us hi]
    exact mdW_bd us i
  · simp only [mdF, mdRs_len] at hi
    have h1 := mdR_bd us i
    have h2 := mdC_bd us i
    simp only [Frg.r, mdF, mdRs_at us hi, mdR, mdWs_len]
    omega
  · simp only [mdF, mdRs_len] at hi
    have h2 := mdC_bd us i
    have hO := mdO_bd us i
    have hD := mdD_bd us i
    have hw := mdW_bd us (mdC us i).toNat
    simp only [Frg.r, Frg.w, mdF, mdRs_at us hi, mdR]
    rw [mdWs_at us (by omega)]
    have hp := ptZ_bd (w := mdW us (mdC us i).toNat) (n := mdL us) (by omega)
    have ea : mdA us i = (ptZ (mdW us (mdC us i).toNat) (mdL us) - mdO us i + 20) % 20 := rfl
    simp only [rgt, wi, Bool.or_eq_true, Bool.and_eq_true, decide_eq_true_eq]
    generalize ptZ (mdW us (mdC us i).toNat) (mdL us) = p at *
    omega

end Go.Ab
/-
  FringeTrue: the fringe that is made, walked.
-/
namespace Go.Ab
open Go.Proofs
set_option linter.unusedSimpArgs false
set_option linter.unusedVariables false
set_option maxRecDepth 100000
set_option maxHeartbeats 2000000

variable {H : Heap}


/-- Numbers can be drawn: the counter lies at p1, the numbers at p2. -/
structure DrawAt (H : Heap) (us : List Int) (p1 p2 : Nat) : Prop where
  l1 : p1 < H.length
  l2 : p2 < H.length
  ne : p1 ≠ p2
  by_ : ∃ fl, H[p2]? = some (.box (.sl fl (us.map B16)))
  bd : ∀ i, i < us.length → 0 ≤ us.getD i 0 ∧ us.getD i 0 ≤ 65535
  len : us.length ≤ 9223372036854775807

theorem DrawAt.step {us : List Int} {p1 p2 : Nat} (h : DrawAt H us p1 p2) {a a' n x : Int} (ha : 0 ≤ a ∧ a ≤ 1000) (ha' : a' = a + 1) (hn : 0 < n ∧ n ≤ 3000) (hx : x = drawN us a' n) (G : Heap) :
    callFL cfg0 prog0 false 70 [I n, .ptr p1 0, .ptr p2 0] (H.set p1 (.box (I a)) ++ G) none = some ⟨.ret (I x), H.set p1 (.box (I a')) ++ G, none⟩ := by
  obtain ⟨fl, hby⟩ := h.by_
  have l1 := h.l1
  have l2 := h.l2
  have e1 : (H.set p1 (.box (I a)) ++ G)[p1]? = some (.box (I a)) := by rw [List.getElem?_append_left (by simpa using l1), List.getElem?_set_self l1]
  have e2 : (H.set p1 (.box (I a)) ++ G)[p2]? = some (.box (.sl fl (us.map B16))) := by rw [List.getElem?_append_left (by simpa using l2), List.getElem?_set_ne h.ne]; exact hby
  have := law_draw h.bd h.len ha e1 e2 h.ne hn
  rw [this, hx, ha', List.set_append_left _ _ (by simpa using l1), List.set_set]

theorem DrawAt.fst {us : List Int} {p1 p2 : Nat} (h : DrawAt H us p1 p2) (h0 : H[p1]? = some (.box (I 0))) : H.set p1 (.box (I 0)) = H := set_self h0

theorem md_ws {us : List Int} {p1 p2 : Nat} (hD : DrawAt H us p1 p2) (K : List Item) (R : Option Done) (hK : ∀ E : Env, E.get 0 = .func (.func 70) [] [.ptr p1 0, .ptr p2 0] → E.get 2 = .ptr H.length 0 → E.get 3 = I 0 → Option.map (finishC H.length) (execL cfg0 prog0 ⟨23, none, false, H.length⟩ K ⟨E, [], H.set p1 (.box (I (1 + (mdK us : Int)))) ++ [.box (.agg [.gsl (H.length + 1) (mdK us), I 0, I 0, .gsl (H.length + 2) 0]), .grow 1 ((mdWs us (mdK us)).map I), .grow 3 []], none⟩) = R)  :
    ∀ (q j : Nat), j + q = mdK us → ∀ (a : Int), a = 1 + (j : Int) → ∀ E : Env, E.get 0 = .func (.func 70) [] [.ptr p1 0, .ptr p2 0] → E.get 2 = .ptr H.length 0 → E.get 3 = I 0 → E.get 11 = I (mdK us) → E.get 12 = I j →
    Option.map (finishC H.length) (execL cfg0 prog0 ⟨23, none, false, H.length⟩ (loopIt Try.f23 2 :: .inBlock 0 :: K) ⟨E, [], H.set p1 (.box (I a)) ++ [.box (.agg [.gsl (H.length + 1) j, I 0, I 0, .gsl (H.length + 2) 0]), .grow 1 ((mdWs us j).map I), .grow 3 []], none⟩) = R := by
  intro q
  have hK4 := mdK_bd us
  induction q with
  | zero =>
    intro j hj a ha E g0 g2 g3 g11 g12
    have hk' : ¬ (j : Int) < ((mdK us : Nat) : Int) := by omega
    have ej : j = mdK us := by omega
    subst ha
    rw [ej]
    simp only [loopIt, todoPast, todoAt, todoOf, firstReg, ↓reduceIte, Option.some.injEq, Nat.reduceEqDiff, reduceCtorEq, Try.f23]
    rw [execL_inLoop]
    simp (maxSteps := 1000000) (implicitDefEqProofs := false) (disch := first | rfl | omega | assumption) only [go_sem, g0, g2, g3, g11, g12, ltT, ltF, leT, leF, hk']
    exact hK _ (by exact g0) (by exact g2) (by exact g3)
  | succ q ih =>
    intro j hj a ha E g0 g2 g3 g11 g12
    have hk' : (j : Int) < ((mdK us : Nat) : Int) := by omega
    have hk2 : j < mdK us := by omega
    obtain ⟨x, hx⟩ : ∃ x, x = drawN us (a + 1) 59 := ⟨_, rfl⟩
    obtain ⟨a', ha'⟩ : ∃ a', a' = a + 1 := ⟨_, rfl⟩
    have hbx := draw_bd (us := us) (at1 := a + 1) (n := 59) (by omega)
    rw [← hx] at hbx
    have hd := fun G => hD.step (a := a) (a' := a') (n := 59) (x := x) (by omega) ha' (by omega) (by rw [ha', hx]) G
    have hws : mdWs us (j + 1) = mdWs us j ++ [2 + x] := by
      rw [mdWs_succ, hx, mdW, ha, show 1 + (j : Int) + 1 = 2 + (j : Int) by omega]
    have key := ih (j + 1) (by omega) a' (by omega)
    rw [hws] at key
    have hl := mdWs_len us j
    have hadd : addElem (H.set p1 (.box (I a')) ++ [.box (.agg [.gsl (H.length + 1) j, I 0, I 0, .gsl (H.length + 2) 0]), .grow 1 ((mdWs us j).map I), .grow 3 []]) 1 false (.gsl (H.length + 1) j) [I (2 + x)] = some (.gsl (H.length + 1) (j + 1), H.set p1 (.box (I a')) ++ [.box (.agg [.gsl (H.length + 1) j, I 0, I 0, .gsl (H.length + 2) 0]), .grow 1 ((mdWs us j ++ [2 + x]).map I), .grow 3 []]) := by
      rw [add_gsl (xs := (mdWs us j).map I) (by rw [get_atS']; rfl) (by rw [List.length_map, hl]) rfl rfl (by simp; omega), set_atS', List.map_append]
      rfl
    simp only [loopIt, todoPast, todoAt, todoOf, firstReg, ↓reduceIte, Option.some.injEq, Nat.reduceEqDiff, reduceCtorEq, Try.f23]
    rw [execL_inLoop]
    simp (maxSteps := 1000000) (implicitDefEqProofs := false) (disch := first | rfl | omega | assumption) only [go_sem, g0, g2, g3, g11, g12, ltT, ltF, leT, leF, hk', hd, hadd]
    rw [chkK_of]; rotate_left; kernel_rfl
    simp (maxSteps := 1000000) (implicitDefEqProofs := false) (disch := first | rfl | omega | assumption) only [go_sem, g0, g2, g3, g11, g12, ltT, ltF, leT, leF, hk', hd, hadd]
    exact key _ (by exact g0) (by exact g2) (by exact g3) (by exact g11) (by rfl)

theorem md_rds {us : List Int} {p1 p2 : Nat} (hD : DrawAt H us p1 p2) :
    ∀ (q j : Nat), j + q = mdM us → ∀ (a : Int), a = (mdK us : Int) + 5 + 3 * (j : Int) → ∀ E : Env, E.get 0 = .func (.func 70) [] [.ptr p1 0, .ptr p2 0] → E.get 2 = .ptr H.length 0 → E.get 3 = I (mdL us) → E.get 39 = I (mdM us) → E.get 40 = I j →
    Option.map (finishC H.length) (execL cfg0 prog0 ⟨23, none, false, H.length⟩ (todoAt Try.f23 9) ⟨E, [], H.set p1 (.box (I a)) ++ [.box (.agg [.gsl (H.length + 1) (mdK us), I (mdLo us), I (mdHi us), .gsl (H.length + 2) j]), .grow 1 ((mdWs us (mdK us)).map I), .grow 3 ((mdRs us j).map Rd.av)], none⟩) = some ⟨.ret (.tup [.agg [.sl false ((mdWs us (mdK us)).map I), I (mdLo us), I (mdHi us), .sl false ((mdRs us (mdM us)).map Rd.av)], I (mdL us)]), H.set p1 (.box (I ((mdK us : Int) + 5 + 3 * (mdM us : Int)))), none⟩ := by
  intro q
  have hK4 := mdK_bd us
  have hM6 := mdM_bd us
  have hLb := mdL_bd us
  have hltI := fun (N : Nat) (l : List Int) => ltI (N := N) l
  have hlt := fun (N : Nat) (l : List Rd) => ltL_map (f := Rd.av) (N := N) (fun _ => rfl) l
  induction q with
  | zero =>
    intro j hj a ha E g0 g2 g3 g39 g40
    have hk' : ¬ (j : Int) < ((mdM us : Nat) : Int) := by omega
    have ej : j = mdM us := by omega
    subst ha
    rw [ej]
    simp only [loopIt, todoPast, todoAt, todoOf, firstReg, ↓reduceIte, Option.some.injEq, Nat.reduceEqDiff, reduceCtorEq, Try.f23]
    rw [execL_inLoop]
    have hl1 := mdWs_len us (mdK us)
    have hl2 := mdRs_len us (mdM us)
    simp (maxSteps := 1000000) (implicitDefEqProofs := false) (disch := first | rfl | omega | assumption) only [go_sem, g0, g2, g3, g39, g40, ltT, ltF, leT, leF, hk', hltI, hlt, hl1, hl2]
    done
  | succ q ih =>
    intro j hj a ha E g0 g2 g3 g39 g40
    have hk' : (j : Int) < ((mdM us : Nat) : Int) := by omega
    have hk2 : j < mdM us := by omega
    have hc0 := mdC_bd us j
    have hof := mdO_bd us j
    have hdf := mdD_bd us j
    have hbd := mdR_bd us j
    have hwb := mdW_bd us (mdC us j).toNat
    have hd1 := fun G => hD.step (a := a) (a' := a + 1) (n := (mdK us : Int)) (x := mdC us j) (by omega) rfl (by omega) (by simp only [mdC, ha]; congr 1; omega) G
    have hd2 := fun G => hD.step (a := a + 1) (a' := a + 2) (n := 4) (x := mdO us j) (by omega) (by omega) (by omega) (by simp only [mdO, ha]; congr 1; omega) G
    have hd3 := fun G => hD.step (a := a + 2) (a' := a + 3) (n := 4) (x := mdD us j) (by omega) (by omega) (by omega) (by simp only [mdD, ha]; congr 1; omega) G
    have hP := fun G : Heap => law_part (w := mdW us (mdC us j).toNat) (n := mdL us) hwb hLb G
    have hpz := ptZ_bd (w := mdW us (mdC us j).toNat) (n := mdL us) (by omega)
    have hat : (mdWs us (mdK us)).getD (mdC us j).toNat 0 = mdW us (mdC us j).toNat := mdWs_at us (by omega)
    have hrs := mdRs_succ us j
    have key := ih (j + 1) (by omega) (a + 3) (by omega)
    rw [hrs] at key
    simp only [mdR] at key
    have ea : (ptZ (mdW us (mdC us j).toNat) (mdL us) - mdO us j + 20).tmod 20 = mdA us j := by
      rw [Int.tmod_eq_emod_of_nonneg (by omega)]; rfl
    have hl1 := mdWs_len us (mdK us)
    have hl2 := mdRs_len us j
    have hia : ∀ (te : Ty) (o : AO) (b : Int), te.size = 1 → idxAddr (H.set p1 (.box (I b)) ++ [o, .grow 1 ((mdWs us (mdK us)).map I), .grow 3 ((mdRs us j).map Rd.av)]) te (.gsl (H.length + 1) (mdK us)) (mdC us j) = some (.eptr (H.length + 1) (mdK us) (mdC us j).toNat 0) := by
      intro te o b ht
      simp only [idxAddr, get_atS', List.getElem?_cons_succ, List.getElem?_cons_zero, List.length_map, hl1, ht]
      simp [hc0]
    have hld : ∀ (ty : Ty) (o : AO) (b : Int), evLoad (H.set p1 (.box (I b)) ++ [o, .grow 1 ((mdWs us (mdK us)).map I), .grow 3 ((mdRs us j).map Rd.av)]) ty (.eptr (H.length + 1) (mdK us) (mdC us j).toNat 0) = readPart (I (mdW us (mdC us j).toNat)).cells 0 ty := by
      intro ty o b
      have hget : ((mdWs us (mdK us)).map I)[(mdC us j).toNat]? = some (I (mdW us (mdC us j).toNat)) := by
        rw [List.getElem?_map, ← hat, List.getElem?_eq_getElem (by rw [hl1]; omega)]
        simp [List.getD_eq_getElem?_getD, List.getElem?_eq_getElem (show (mdC us j).toNat < (mdWs us (mdK us)).length by rw [hl1]; omega)]
      simp only [evLoad_eptr, get_atS', List.getElem?_cons_succ, List.getElem?_cons_zero, List.length_map, hl1, hget]
      simp
    have hadd : ∀ (o : AO) (x y z b : Int), addElem (H.set p1 (.box (I b)) ++ [o, .grow 1 ((mdWs us (mdK us)).map I), .grow 3 ((mdRs us j).map Rd.av)]) 3 true (.gsl (H.length + 2) j) [.agg [I x, I y, I z]] = some (.gsl (H.length + 2) (j + 1), H.set p1 (.box (I b)) ++ [o, .grow 1 ((mdWs us (mdK us)).map I), .grow 3 ((mdRs us j ++ [(⟨x, y, z⟩ : Rd)]).map Rd.av)]) := by
      intro o x y z b
      rw [add_gsl (xs := (mdRs us j).map Rd.av) (by rw [get_atS']; rfl) (by rw [List.length_map, hl2]) rfl rfl (by simp; omega), set_atS', List.map_append]
      rfl
    generalize mdA us j = A at *
    generalize mdO us j = O at *
    generalize mdD us j = D at *
    generalize mdC us j = C at *
    generalize ptZ (mdW us C.toNat) (mdL us) = P at *
    simp only [loopIt, todoPast, todoAt, todoOf, firstReg, ↓reduceIte, Option.some.injEq, Nat.reduceEqDiff, reduceCtorEq, Try.f23]
    rw [execL_inLoop]
    simp (maxSteps := 1000000) (implicitDefEqProofs := false) (disch := first | rfl | omega | assumption) only [go_sem, g0, g2, g3, g39, g40, ltT, ltF, leT, leF, hk', hd1, hd2, hP, hia, hld, hl1, ea]
    rw [chkK_of]; rotate_left; kernel_rfl
    simp (maxSteps := 1000000) (implicitDefEqProofs := false) (disch := first | rfl | omega | assumption) only [go_sem, g0, g2, g3, g39, g40, ltT, ltF, leT, leF, hk', hd3, hadd, law_read]
    exact key _ (by exact g0) (by exact g2) (by exact g3) (by exact g39) (by rfl)

theorem law_made {us : List Int} {p1 p2 : Nat} (hD : DrawAt H us p1 p2) (h0 : H[p1]? = some (.box (I 0))) :
    callFL cfg0 prog0 false 23 [.func (.func 70) [] [.ptr p1 0, .ptr p2 0]] H none = some ⟨.ret (.tup [.agg [.sl false ((mdF us).ws.map I), I (mdF us).lo, I (mdF us).hi, .sl false ((mdF us).rs.map Rd.av)], I (mdL us)]), H.set p1 (.box (I ((mdK us : Int) + 5 + 3 * (mdM us : Int)))), none⟩ := by
  have l1 := hD.l1
  have l2 := hD.l2
  have hK4 := mdK_bd us
  have hM6 := mdM_bd us
  have hLb := mdL_bd us
  have hlo := mdLo_bd us
  have hhi := mdHi_bd us
  have hs := hD.fst h0
  have d1 := fun G => hD.step (a := 0) (a' := 1) (n := 4) (by omega) (by omega) (by omega) rfl G
  have d2 := fun G => hD.step (a := 1 + (mdK us : Int)) (a' := (mdK us : Int) + 2) (n := 2001) (x := mdL us) (by omega) (by omega) (by omega) rfl G
  have b3 := draw_bd (us := us) (at1 := (mdK us : Int) + 3) (n := 200) (by omega)
  have b4 := draw_bd (us := us) (at1 := (mdK us : Int) + 4) (n := 200) (by omega)
  have b5 := draw_bd (us := us) (at1 := (mdK us : Int) + 5) (n := 7) (by omega)
  have b1 := draw_bd (us := us) (at1 := 1) (n := 4) (by omega)
  have d3 := fun G => hD.step (a := (mdK us : Int) + 2) (a' := (mdK us : Int) + 3) (n := 200) (by omega) (by omega) (by omega) rfl G
  have d4 := fun G => hD.step (a := (mdK us : Int) + 3) (a' := (mdK us : Int) + 4) (n := 200) (by omega) (by omega) (by omega) rfl G
  have d5 := fun G => hD.step (a := (mdK us : Int) + 4) (a' := (mdK us : Int) + 5) (n := 7) (by omega) (by omega) (by omega) rfl G
  have ek : 1 + drawN us 1 4 = (mdK us : Int) := by simp only [mdK]; omega
  have em : drawN us ((mdK us : Int) + 5) 7 = (mdM us : Int) := by simp only [mdM]; omega
  have elo : mdLo us = if 0 < mdL us - drawN us ((mdK us : Int) + 3) 200 then mdL us - drawN us ((mdK us : Int) + 3) 200 else 0 := rfl
  have ehi : mdHi us = if mdL us + drawN us ((mdK us : Int) + 4) 200 < 2000 then mdL us + drawN us ((mdK us : Int) + 4) 200 else 2000 := rfl
  have h2 := md_rds (H := H) hD (mdM us) 0 (by omega) ((mdK us : Int) + 5) (by omega)
  have w0 : mdWs us 0 = [] := rfl
  have r0 : mdRs us 0 = [] := rfl
  rw [r0, elo, ehi] at h2
  rw [hs] at d1
  generalize drawN us 1 4 = x1 at *
  generalize drawN us ((mdK us : Int) + 3) 200 = x3 at *
  generalize drawN us ((mdK us : Int) + 4) 200 = x4 at *
  generalize drawN us ((mdK us : Int) + 5) 7 = x5 at *
  simp only [mdF]
  rw [elo, ehi]
  have hk' : True := trivial
  refine (callFL_eq fn23 rfl (by simp [Try.f23])).trans ?_
  simp (maxSteps := 1000000) (implicitDefEqProofs := false) (disch := first | rfl | omega | assumption) only [go_sem, ltT, ltF, leT, leF, d1, ek]
  refine md_ws (H := H) hD _ _ (fun E g0 g2 g3 => ?_) (mdK us) 0 (by omega) 1 (by omega) _ (by rfl) (by rfl) (by rfl) (by rfl) (by rfl)
  simp (maxSteps := 1000000) (implicitDefEqProofs := false) (disch := first | rfl | omega | assumption) only [go_sem, g0, g2, g3, ltT, ltF, leT, leF, hk', d2, d3, d4, d5, em, law_span]
  exact h2 _ (by exact g0) (by exact g2) (by rfl) (by rfl) (by rfl)

end Go.Ab
/-
  FringeTrue.
-/
namespace Go.Ab
open Go.Proofs
set_option linter.unusedSimpArgs false
set_option linter.unusedVariables false
set_option maxRecDepth 100000
set_option maxHeartbeats 2000000

variable {H : Heap}


theorem law_draws {us : List Int} {fl : Bool} : callFL cfg0 prog0 false 24 [.sl fl (us.map B16)] H none = some ⟨.ret (.func (.func 70) [] [.ptr (H.length + 1) 0, .ptr H.length 0]), H ++ [.box (.sl fl (us.map B16)), .box (I 0)], none⟩ := by
  refine (callFL_keep fn24 rfl (by simp [Try.f24])).trans ?_
  simp (maxSteps := 1000000) (implicitDefEqProofs := false) (disch := first | rfl | omega | assumption) only [go_sem, ltT, ltF, leT, leF]
  done

theorem tr_sp {f : Frg} {vw vr : AV} (hf : FrAt H f vw vr) {b1 b2 : AO} (hb1 : b1.lt (H.length + 3) = true) (hb2 : b2.lt (H.length + 3) = true) (L n7 : Int) (fl : Bool) (ps : List (Int × Int)) (hpl : ps.length ≤ 1000) (K : List Item) (R : Option Done) (hK : ∀ E : Env, E.get 3 = .ptr (H.length + 2) 0 → E.get 4 = I L → E.get 7 = I n7 → E.get 16 = .bool true → Option.map (finishC H.length) (execL cfg0 prog0 ⟨4, none, false, H.length⟩ K ⟨E, [], H ++ [b1, b2, .box (.agg [vw, I f.lo, I f.hi, vr])], none⟩) = R)  :
    ∀ (q j : Nat), j + q = ps.length → ∀ (b : Bool), ∀ (G : Heap), (b || (ps.drop j).any (inP L)) = true → ∀ E : Env, E.get 3 = .ptr (H.length + 2) 0 → E.get 4 = I L → E.get 7 = I n7 → E.get 16 = .bool b → E.get 105 = .sl fl (ps.map spA) → E.get 106 = I ps.length → E.get 107 = I j →
    Option.map (finishC H.length) (execL cfg0 prog0 ⟨4, none, false, H.length⟩ (loopIt Try.f4 11 :: .inBlock 0 :: K) ⟨E, [], H ++ (b1 :: b2 :: .box (.agg [vw, I f.lo, I f.hi, vr]) :: G), none⟩) = R := by
  intro q
  have s1 := hf.ws.scal
  have s2 := hf.rs.scal
  have t1 := hf.ws.ltn 3
  have t2 := hf.rs.ltn 3
  have hlp := fun N => spLt ps N
  obtain ⟨a1, a2, a3, a4, a5⟩ := (slS (H := H) fl ps).fF (d := (0, 0))
  induction q with
  | zero =>
    intro j hj b G hb E g3 g4 g7 g16 g105 g106 g107
    have hk' : ¬ (j : Int) < ((ps.length : Nat) : Int) := by omega
    rw [List.drop_of_length_le (by omega)] at hb
    have hbt : b = true := by simpa using hb
    subst hbt
    simp only [loopIt, todoPast, todoAt, todoOf, firstReg, ↓reduceIte, Option.some.injEq, Nat.reduceEqDiff, reduceCtorEq, Try.f4]
    rw [execL_inLoop]
    simp (maxSteps := 1000000) (implicitDefEqProofs := false) (disch := first | rfl | omega | assumption) only [go_sem, g3, g4, g7, g16, g105, g106, g107, ltT, ltF, leT, leF, hk', s1, s2, t1, t2, hb1, hb2, hlp]
    exact hK _ (by rfl) (by rfl) (by rfl) (by rfl)
  | succ q ih =>
    intro j hj b G hb E g3 g4 g7 g16 g105 g106 g107
    have hk' : (j : Int) < ((ps.length : Nat) : Int) := by omega
    have hk2 : j < ps.length := by omega
    have hd : ps.drop j = ps.getD j (0, 0) :: ps.drop (j + 1) := by rw [List.drop_eq_getElem_cons hk2]; simp [hk2]
    obtain ⟨⟨x, y⟩, en⟩ : ∃ p, ps.getD j (0, 0) = p := ⟨_, rfl⟩
    rw [en] at hd
    rw [hd, List.any_cons] at hb
    have hi : inP L (x, y) = (decide (x ≤ L) && decide (L ≤ y)) := rfl
    rw [hi] at hb
    have hav : readPart (spA (x, y)).cells 0 ⟨.struct [(0, 3), (1, 3)], 2, 16, some (.agg #[.int .i64 0, .int .i64 0])⟩ = some (.agg [I x, I y]) := rfl
    cases b
    · by_cases c1 : x ≤ L
      · by_cases c2 : L ≤ y
        · have key := ih (j + 1) (by omega) true [.box (.agg [I x, I y])] (by simp)
          simp only [loopIt, todoPast, todoAt, todoOf, firstReg, ↓reduceIte, Option.some.injEq, Nat.reduceEqDiff, reduceCtorEq, Try.f4]
          rw [execL_inLoop]
          simp (maxSteps := 1000000) (implicitDefEqProofs := false) (disch := first | rfl | omega | assumption) only [go_sem, g3, g4, g7, g16, g105, g106, g107, ltT, ltF, leT, leF, hk', s1, s2, t1, t2, hb1, hb2, hlp, a1, a2, a3, a4, en, hav, c1, c2]
          exact key _ (by rfl) (by rfl) (by rfl) (by rfl) (by rfl) (by rfl) (by rfl)
        · have key := ih (j + 1) (by omega) false [.box (.agg [I x, I y])] (by simpa [c1, c2] using hb)
          simp only [loopIt, todoPast, todoAt, todoOf, firstReg, ↓reduceIte, Option.some.injEq, Nat.reduceEqDiff, reduceCtorEq, Try.f4]
          rw [execL_inLoop]
          simp (maxSteps := 1000000) (implicitDefEqProofs := false) (disch := first | rfl | omega | assumption) only [go_sem, g3, g4, g7, g16, g105, g106, g107, ltT, ltF, leT, leF, hk', s1, s2, t1, t2, hb1, hb2, hlp, a1, a2, a3, a4, en, hav, c1, c2]
          exact key _ (by rfl) (by rfl) (by rfl) (by rfl) (by rfl) (by rfl) (by rfl)
      · have key := ih (j + 1) (by omega) false [.box (.agg [I x, I y])] (by simpa [c1] using hb)
        simp only [loopIt, todoPast, todoAt, todoOf, firstReg, ↓reduceIte, Option.some.injEq, Nat.reduceEqDiff, reduceCtorEq, Try.f4]
        rw [execL_inLoop]
        simp (maxSteps := 1000000) (implicitDefEqProofs := false) (disch := first | rfl | omega | assumption) only [go_sem, g3, g4, g7, g16, g105, g106, g107, ltT, ltF, leT, leF, hk', s1, s2, t1, t2, hb1, hb2, hlp, a1, a2, a3, a4, en, hav, c1]
        exact key _ (by rfl) (by rfl) (by rfl) (by rfl) (by rfl) (by rfl) (by rfl)
    · have key := ih (j + 1) (by omega) true [.box (.agg [I x, I y])] (by simp)
      simp only [loopIt, todoPast, todoAt, todoOf, firstReg, ↓reduceIte, Option.some.injEq, Nat.reduceEqDiff, reduceCtorEq, Try.f4]
      rw [execL_inLoop]
      simp (maxSteps := 1000000) (implicitDefEqProofs := false) (disch := first | rfl | omega | assumption) only [go_sem, g3, g4, g7, g16, g105, g106, g107, ltT, ltF, leT, leF, hk', s1, s2, t1, t2, hb1, hb2, hlp, a1, a2, a3, a4, en, hav]
      exact key _ (by rfl) (by rfl) (by rfl) (by rfl) (by rfl) (by rfl) (by rfl)

theorem tr_in {f : Frg} {vw vr : AV} (hf : FrAt H f vw vr) {b1 b2 : AO} (L n7 a : Int) (j0 : Nat) (fl : Bool) (xs : List Int) (hxl : xs.length ≤ 1000) (K : List Item) (R : Option Done) (hK : ∀ E : Env, E.get 3 = .ptr (H.length + 2) 0 → E.get 4 = I L → E.get 7 = I n7 → E.get 128 = vw → E.get 129 = I f.ws.length → E.get 130 = I j0 → E.get 28 = .bool true → Option.map (finishC H.length) (execL cfg0 prog0 ⟨4, none, false, H.length⟩ K ⟨E, [], H ++ [b1, b2, .box (.agg [vw, I f.lo, I f.hi, vr])], none⟩) = R)  :
    ∀ (q j : Nat), j + q = xs.length → ∀ (b : Bool), (b || (xs.drop j).any fun x => decide (x = a)) = true → ∀ E : Env, E.get 3 = .ptr (H.length + 2) 0 → E.get 4 = I L → E.get 7 = I n7 → E.get 128 = vw → E.get 129 = I f.ws.length → E.get 130 = I j0 → E.get 21 = I a → E.get 28 = .bool b → E.get 191 = .sl fl (xs.map I) → E.get 192 = I xs.length → E.get 193 = I j →
    Option.map (finishC H.length) (execL cfg0 prog0 ⟨4, none, false, H.length⟩ (loopIt Try.f4 27 :: .inBlock 4 :: K) ⟨E, [], H ++ [b1, b2, .box (.agg [vw, I f.lo, I f.hi, vr])], none⟩) = R := by
  intro q
  obtain ⟨a1, a2, a3, a4, a5⟩ := (slI (H := H) fl xs).fF (d := 0)
  induction q with
  | zero =>
    intro j hj b hb E g3 g4 g7 g128 g129 g130 g21 g28 g191 g192 g193
    have hk' : ¬ (j : Int) < ((xs.length : Nat) : Int) := by omega
    rw [List.drop_of_length_le (by omega)] at hb
    have hbt : b = true := by simpa using hb
    subst hbt
    simp only [loopIt, todoPast, todoAt, todoOf, firstReg, ↓reduceIte, Option.some.injEq, Nat.reduceEqDiff, reduceCtorEq, Try.f4]
    rw [execL_inLoop]
    simp (maxSteps := 1000000) (implicitDefEqProofs := false) (disch := first | rfl | omega | assumption) only [go_sem, g3, g4, g7, g128, g129, g130, g21, g28, g191, g192, g193, ltT, ltF, leT, leF, hk']
    exact hK _ (by exact g3) (by exact g4) (by exact g7) (by exact g128) (by exact g129) (by exact g130) (by exact g28)
  | succ q ih =>
    intro j hj b hb E g3 g4 g7 g128 g129 g130 g21 g28 g191 g192 g193
    have hk' : (j : Int) < ((xs.length : Nat) : Int) := by omega
    have hk2 : j < xs.length := by omega
    have hd : xs.drop j = xs.getD j 0 :: xs.drop (j + 1) := by rw [List.drop_eq_getElem_cons hk2]; simp [hk2]
    obtain ⟨x, en⟩ : ∃ x, xs.getD j 0 = x := ⟨_, rfl⟩
    rw [en] at hd
    rw [hd, List.any_cons] at hb
    cases b
    · by_cases c1 : x = a
      · have hbe : (x == a) = true := by simp [c1]
        simp only [loopIt, todoPast, todoAt, todoOf, firstReg, ↓reduceIte, Option.some.injEq, Nat.reduceEqDiff, reduceCtorEq, Try.f4]
        rw [execL_inLoop]
        simp (maxSteps := 1000000) (implicitDefEqProofs := false) (disch := first | rfl | omega | assumption) only [go_sem, g3, g4, g7, g128, g129, g130, g21, g28, g191, g192, g193, ltT, ltF, leT, leF, hk', a1, a2, a3, a4, en, hbe]
        exact ih (j + 1) (by omega) true (by simp) _ (by exact g3) (by exact g4) (by exact g7) (by exact g128) (by exact g129) (by exact g130) (by exact g21) (by rfl) (by exact g191) (by exact g192) (by rfl)
      · have hbe : (x == a) = false := by simp [c1]
        simp only [loopIt, todoPast, todoAt, todoOf, firstReg, ↓reduceIte, Option.some.injEq, Nat.reduceEqDiff, reduceCtorEq, Try.f4]
        rw [execL_inLoop]
        simp (maxSteps := 1000000) (implicitDefEqProofs := false) (disch := first | rfl | omega | assumption) only [go_sem, g3, g4, g7, g128, g129, g130, g21, g28, g191, g192, g193, ltT, ltF, leT, leF, hk', a1, a2, a3, a4, en, hbe]
        exact ih (j + 1) (by omega) false (by simpa [c1] using hb) _ (by exact g3) (by exact g4) (by exact g7) (by exact g128) (by exact g129) (by exact g130) (by exact g21) (by rfl) (by exact g191) (by exact g192) (by rfl)
    · skip
      simp only [loopIt, todoPast, todoAt, todoOf, firstReg, ↓reduceIte, Option.some.injEq, Nat.reduceEqDiff, reduceCtorEq, Try.f4]
      rw [execL_inLoop]
      simp (maxSteps := 1000000) (implicitDefEqProofs := false) (disch := first | rfl | omega | assumption) only [go_sem, g3, g4, g7, g128, g129, g130, g21, g28, g191, g192, g193, ltT, ltF, leT, leF, hk', a1, a2, a3, a4, en]
      exact ih (j + 1) (by omega) true (by simp) _ (by exact g3) (by exact g4) (by exact g7) (by exact g128) (by exact g129) (by exact g130) (by exact g21) (by rfl) (by exact g191) (by exact g192) (by rfl)

theorem tr_ws {f : Frg} {vw vr : AV} {L : Int} (T : Tru f L) (hf : FrAt H f vw vr) {b1 b2 : AO} (n7 : Int) (K : List Item) (R : Option Done) (hK : ∀ E : Env, E.get 3 = .ptr (H.length + 2) 0 → E.get 4 = I L → E.get 7 = I n7 → Option.map (finishC H.length) (execL cfg0 prog0 ⟨4, none, false, H.length⟩ K ⟨E, [], H ++ [b1, b2, .box (.agg [vw, I f.lo, I f.hi, vr])], none⟩) = R)  :
    ∀ (q j : Nat), j + q = f.ws.length → ∀ E : Env, E.get 3 = .ptr (H.length + 2) 0 → E.get 4 = I L → E.get 7 = I n7 → E.get 128 = vw → E.get 129 = I f.ws.length → E.get 130 = I j →
    Option.map (finishC H.length) (execL cfg0 prog0 ⟨4, none, false, H.length⟩ (loopIt Try.f4 18 :: .inBlock 2 :: K) ⟨E, [], H ++ [b1, b2, .box (.agg [vw, I f.lo, I f.hi, vr])], none⟩) = R := by
  intro q
  have s1 := hf.ws.scal
  have s2 := hf.rs.scal
  obtain ⟨a1, a2, a3, a4, a5⟩ := hf.ws.fF (d := 0)
  have ho := T.ok
  have hv : f.valid = true := f.valid_iff.2 ho
  have hl : f.ws.length ≤ 1000 ∧ f.rs.length ≤ 1000 := by have := ho.many; have := ho.reads; omega
  have hlen := ho.len
  have hLb := T.len
  induction q with
  | zero =>
    intro j hj  E g3 g4 g7 g128 g129 g130
    have hk' : ¬ (j : Int) < ((f.ws.length : Nat) : Int) := by omega
    simp only [loopIt, todoPast, todoAt, todoOf, firstReg, ↓reduceIte, Option.some.injEq, Nat.reduceEqDiff, reduceCtorEq, Try.f4]
    rw [execL_inLoop]
    simp (maxSteps := 1000000) (implicitDefEqProofs := false) (disch := first | rfl | omega | assumption) only [go_sem, g3, g4, g7, g128, g129, g130, ltT, ltF, leT, leF, hk']
    exact hK _ (by exact g3) (by exact g4) (by exact g7)
  | succ q ih =>
    intro j hj  E g3 g4 g7 g128 g129 g130
    have hk' : (j : Int) < ((f.ws.length : Nat) : Int) := by omega
    have hk2 : j < f.ws.length := by omega
    have hw := ho.wave j hk2
    have hpz := ptZ_bd (w := f.w j) (n := L) (by omega)
    have hP := fr_Part (hf.app [b1, b2, .box (.agg [vw, I f.lo, I f.hi, vr])]) hl L j
    have k1 : wi L 0 2000 = true := by simp [wi]; omega
    have k2 : wi (j : Int) 0 ((f.ws.length : Int) - 1) = true := by simp [wi]; omega
    simp only [hv, if_true, k1, k2, Bool.and_self, Int.toNat_natCast] at hP
    obtain ⟨xs, x1, x2, x3⟩ := T.whole hk2
    obtain ⟨s, p1, p2, p3⟩ := T.parts hk2
    have hW := fr_Whole (hf.app [b1, b2, .box (.agg [vw, I f.lo, I f.hi, vr])]) hl j
    have hS := fr_Parts (hf.app [b1, b2, .box (.agg [vw, I f.lo, I f.hi, vr])]) hl j
    rw [x1] at hW
    rw [p1] at hS
    have hpt := fun G : Heap => law_part (w := f.w j) (n := L) hw (by omega) G
    have hq : L.tdiv (f.w j) = L / f.w j := Int.tdiv_eq_ediv_of_nonneg (by omega)
    have z : ¬ f.w j = 0 := by omega
    have hwe : f.ws.getD j 0 = f.w j := rfl
    have hin := tr_in (H := H) hf (b1 := b1) (b2 := b2) L n7 (L / f.w j) j false xs (by omega)
    have hqb : 0 ≤ L / f.w j ∧ L / f.w j ≤ 2000 := ⟨Int.ediv_nonneg (by omega) (by omega), by have := Int.ediv_le_self (f.w j) (show 0 ≤ L by omega); omega⟩
    have hany : (false || (xs.drop 0).any fun x => decide (x = L / f.w j)) = true := by
      simp only [List.drop_zero, Bool.false_or, List.any_eq_true, decide_eq_true_eq]
      exact ⟨_, x2, rfl⟩
    obtain ⟨P, hPe⟩ : ∃ P : Nat, ptZ (f.w j) L = P := ⟨(ptZ (f.w j) L).toNat, by omega⟩
    rw [hPe, Int.toNat_natCast] at p2
    simp only [hPe] at hP hpt
    have hsh := shrN (s := s) (j := P) (by omega)
    have hbit := bitI (s := s) (j := P) (by omega)
    have hone := and_one (s := s) (j := P)
    rw [p2] at hone
    have hne : (((s / 2 ^ P &&& 1 : Nat) : Int) != 1) = false := by rw [bne, hone]; rfl
    have h20 : (s : Int).fdiv (2 ^ min 20 64) = 0 := by
      have := shrN (s := s) (j := 20) (by omega)
      rw [this, Nat.div_eq_of_lt p3]; rfl
    have zP : ¬ ((P : Nat) : Int) < 0 := by omega
    have hnn : ∀ x : Int, (x != x) = false := fun x => by simp
    have hii : ∀ x : Int, (x == x) = true := fun x => by simp
    have hxl : (xs.map I).length = xs.length := List.length_map _
    have h00 : (!decide ((0 : Int) = 0)) = false := rfl
    generalize L / f.w j = qq at *
    simp only [loopIt, todoPast, todoAt, todoOf, firstReg, ↓reduceIte, Option.some.injEq, Nat.reduceEqDiff, reduceCtorEq, Try.f4]
    rw [execL_inLoop]
    simp (maxSteps := 1000000) (implicitDefEqProofs := false) (disch := first | rfl | omega | assumption) only [go_sem, g3, g4, g7, g128, g129, g130, ltT, ltF, leT, leF, hk', s1, s2, a1, a2, a3, a4, hwe, hP, hW, hS, hq, z, hpt, hsh, hbit, hne, hone, h20, zP, hnn, hii, hxl, h00]
    refine hin _ _ (fun E g3 g4 g7 g128 g129 g130 g28 => ?_) xs.length 0 (by omega) false hany _ (by exact g3) (by exact g4) (by exact g7) (by exact g128) (by exact g129) (by exact g130) (by rfl) (by rfl) (by rfl) (by rfl) (by rfl)
    simp (maxSteps := 1000000) (implicitDefEqProofs := false) (disch := first | rfl | omega | assumption) only [go_sem, g3, g4, g7, g128, g129, g130, g28, ltT, ltF, leT, leF, hk']
    exact ih (j + 1) (by omega) _ (by exact g3) (by exact g4) (by exact g7) (by exact g128) (by exact g129) (by rfl)

theorem law_FringeTrue {us : List Int} {fl : Bool} (hb : ∀ i, i < us.length → 0 ≤ us.getD i 0 ∧ us.getD i 0 ≤ 65535) (hlen : us.length ≤ 9223372036854775807) :
    callFL cfg0 prog0 false 4 [.sl fl (us.map B16)] H none = some ⟨.ret (.bool true), H, none⟩ := by
  have hk' : True := trivial
  have hD : DrawAt (H ++ [.box (.sl fl (us.map B16)), .box (I 0)]) us (H.length + 1) H.length := ⟨by simp, by simp, by omega, ⟨fl, by simp⟩, hb, hlen⟩
  have hM := law_made hD (by simp)
  have T := md_tru us
  have hdr := law_draws (H := H) (us := us) (fl := fl)
  obtain ⟨b1, hb1⟩ : ∃ b1, b1 = AO.box (.sl fl (us.map B16)) := ⟨_, rfl⟩
  have lb1 : b1.lt (H.length + 3) = true := by
    have h : ∀ N, ltL N (us.map B16) = true := fun N => ltL_map (f := B16) (fun _ => rfl) us
    rw [hb1]
    simp only [AO.lt, AV.lt, h]
  generalize mdF us = f at *
  generalize mdL us = L at *
  generalize (mdK us : Int) + 5 + 3 * (mdM us : Int) = nn at *
  rw [← hb1] at hdr hM
  obtain ⟨vw, hvw⟩ : ∃ vw, vw = AV.sl false (f.ws.map I) := ⟨_, rfl⟩
  obtain ⟨vr, hvr⟩ : ∃ vr, vr = AV.sl false (f.rs.map Rd.av) := ⟨_, rfl⟩
  have hf : FrAt H f vw vr := by
    rw [hvw, hvr]
    exact ⟨slI false f.ws, ⟨rfl, fun x hx => by obtain ⟨i, _, rfl⟩ := List.mem_map.1 hx; rfl⟩⟩
  rw [← hvw, ← hvr] at hM
  obtain ⟨b2, hb2⟩ : ∃ b2, b2 = AO.box (I nn) := ⟨_, rfl⟩
  have lb2 : b2.lt (H.length + 3) = true := by rw [hb2]; rfl
  have hset : (H ++ [b1, .box (I 0)]).set (H.length + 1) (.box (I nn)) = H ++ [b1, b2] := by rw [set_at', hb2]; rfl
  rw [hset] at hM
  have s1 := hf.ws.scal
  have s2 := hf.rs.scal
  have l1 := hf.ws.len
  have l2 := hf.rs.len
  rw [List.length_map] at l1 l2
  have ho := T.ok
  have hv : f.valid = true := f.valid_iff.2 ho
  have hl : f.ws.length ≤ 1000 ∧ f.rs.length ≤ 1000 := by have := ho.many; have := ho.reads; omega
  have hfb := ho.len
  have hLb := T.len
  have hA := fun G : Heap => law_alive G
  have hL := fr_Lengths (hf.app [b1, b2, .box (.agg [vw, I f.lo, I f.hi, vr])]) hl
  have hC := fr_Count (hf.app [b1, b2, .box (.agg [vw, I f.lo, I f.hi, vr])]) hl
  have hN := fr_Near (hf.app [b1, b2, .box (.agg [vw, I f.lo, I f.hi, vr])]) hl L
  have hW := fr_Wrong (hf.app [b1, b2, .box (.agg [vw, I f.lo, I f.hi, vr])]) hl
  have hX := fr_Clash (hf.app [b1, b2, .box (.agg [vw, I f.lo, I f.hi, vr])]) hl
  have hQ := fr_Ask (hf.app [b1, b2, .box (.agg [vw, I f.lo, I f.hi, vr])]) hl
  obtain ⟨b, q1, q2, q3, q4, q5, q6⟩ := T.ask
  simp only [hv, T.pos, Bool.false_eq_true, if_false, if_true] at hL
  rw [show f.count = (((f.lens f.all).length : Int), 0) by simp only [Frg.count, hv, if_true]] at hC
  rw [T.near] at hN
  rw [T.wrong] at hW
  rw [T.clash] at hX
  rw [q1] at hQ
  have hsl : ((spans (f.lens f.all)).map spA).length = (spans (f.lens f.all)).length := List.length_map _
  have hany : (false || ((spans (f.lens f.all)).drop 0).any (inP L)) = true := by rw [List.drop_zero, any_spans, decide_eq_true (T.mem _)]; rfl
  have g1 := tr_sp hf lb1 lb2 L ((f.lens f.all).length : Nat) false (spans (f.lens f.all)) (by have := (spans_bd ho f.all).2; omega)
  have g2 := tr_ws T hf (b1 := b1) (b2 := b2) ((f.lens f.all).length : Nat)
  have hnp : ¬ (((f.lens f.all).length : Nat) : Int) < 1 := by omega
  have hnn : ∀ x : Int, (x != x) = false := fun x => by simp
  have hii : ∀ x : Int, (x == x) = true := fun x => by simp
  have hwb := ho.wave b q2
  have hpz := ptZ_bd (w := f.w b) (n := L) (by omega)
  have hpt := fun G : Heap => law_part (w := f.w b) (n := L) hwb (by omega) G
  have hwe : f.ws.getD b 0 = f.w b := rfl
  obtain ⟨a1, a2, a3, a4, a5⟩ := hf.ws.fF (d := 0)
  have hb0 : ¬ ((b : Nat) : Int) < 0 := by omega
  have hbl : ¬ ((f.ws.length : Nat) : Int) ≤ (b : Int) := by omega
  obtain ⟨P, hPe⟩ : ∃ P : Nat, ptZ (f.w b) L = P := ⟨(ptZ (f.w b) L).toNat, by omega⟩
  simp only [hPe, Int.toNat_natCast] at hpt q5 q6
  have c1 : (1 : Int) ≤ f.most b := q3
  have c2 : f.most b ≤ ((f.lens f.all).length : Nat) := q4
  by_cases h6 : f.rs.length = 6
  · have e6 : (((f.rs.length : Nat) : Int) == 6) = true := by rw [h6]; rfl
    generalize f.most b = mb at *
    generalize f.lens f.all = xs at *
    refine (callFL_eq fn4 rfl (by simp [Try.f4])).trans ?_
    simp (maxSteps := 1000000) (implicitDefEqProofs := false) (disch := first | rfl | omega | assumption) only [go_sem, ltT, ltF, leT, leF, hdr, hM, s1, s2, hL, hC, hN, hW, hX, hnn, hnp, hsl]
    refine g1 _ _ (fun E g3 g4 g7 g16 => ?_) (spans xs).length 0 (by omega) false [] hany _ (by rfl) (by rfl) (by rfl) (by rfl) (by rfl) (by rfl) (by rfl)
    simp (maxSteps := 1000000) (implicitDefEqProofs := false) (disch := first | rfl | omega | assumption) only [go_sem, g3, g4, g7, g16, ltT, ltF, leT, leF, hk', s1, s2, l1]
    refine g2 _ _ (fun E g3 g4 g7 => ?_) f.ws.length 0 (by omega) _ (by exact g3) (by exact g4) (by exact g7) (by rfl) (by rfl) (by rfl)
    simp (maxSteps := 1000000) (implicitDefEqProofs := false) (disch := first | rfl | omega | assumption) only [go_sem, g3, g4, g7, ltT, ltF, leT, leF, hk', s1, s2, l1, l2, hQ, hb0, hbl, hnn, a1, a2, a3, a4, hwe, hpt, e6, c1, c2, hA]
    done
  · have e6 : (((f.rs.length : Nat) : Int) == 6) = false := by simp; omega
    have h5 : f.rs.length ≤ 5 := by have := ho.reads; omega
    have hWi := law_with (hf.app [b1, b2, .box (.agg [vw, I f.lo, I f.hi, vr])]) (by omega) (⟨(b : Int), (P : Int), (P : Int)⟩ : Rd)
    have hat : FrAt (H ++ [b1, b2, .box (.agg [vw, I f.lo, I f.hi, vr])]) (plusR f b P) vw (.sl false ((f.rs ++ [(⟨(b : Int), (P : Int), (P : Int)⟩ : Rd)]).map Rd.av)) := ⟨hf.ws.app _, ⟨rfl, fun x hx => by obtain ⟨i, _, rfl⟩ := List.mem_map.1 hx; rfl⟩⟩
    have hC3 := fr_Count hat (by have := ho.many; have e : (plusR f b P).rs.length = f.rs.length + 1 := (by simp [plusR]); have e2 : (plusR f b P).ws.length = f.ws.length := rfl; omega)
    rw [plus_count ho h5 q2 (by omega)] at hC3
    have hC2 : callFL cfg0 prog0 false 14 [.agg [vw, I f.lo, I f.hi, .sl false ((f.rs ++ [(⟨(b : Int), (P : Int), (P : Int)⟩ : Rd)]).map Rd.av)]] (H ++ [b1, b2, .box (.agg [vw, I f.lo, I f.hi, vr])]) none = some ⟨.ret (.tup [I (f.lenP b P : Nat), I 0]), H ++ [b1, b2, .box (.agg [vw, I f.lo, I f.hi, vr])], none⟩ := hC3
    simp only at hWi
    have c3 : (1 : Int) ≤ ((f.lenP b P : Nat) : Int) := by omega
    generalize f.lenP b P = lp at *
    generalize f.most b = mb at *
    generalize f.lens f.all = xs at *
    refine (callFL_eq fn4 rfl (by simp [Try.f4])).trans ?_
    simp (maxSteps := 1000000) (implicitDefEqProofs := false) (disch := first | rfl | omega | assumption) only [go_sem, ltT, ltF, leT, leF, hdr, hM, s1, s2, hL, hC, hN, hW, hX, hnn, hnp, hsl]
    refine g1 _ _ (fun E g3 g4 g7 g16 => ?_) (spans xs).length 0 (by omega) false [] hany _ (by rfl) (by rfl) (by rfl) (by rfl) (by rfl) (by rfl) (by rfl)
    simp (maxSteps := 1000000) (implicitDefEqProofs := false) (disch := first | rfl | omega | assumption) only [go_sem, g3, g4, g7, g16, ltT, ltF, leT, leF, hk', s1, s2, l1]
    refine g2 _ _ (fun E g3 g4 g7 => ?_) f.ws.length 0 (by omega) _ (by exact g3) (by exact g4) (by exact g7) (by rfl) (by rfl) (by rfl)
    simp (maxSteps := 1000000) (implicitDefEqProofs := false) (disch := first | rfl | omega | assumption) only [go_sem, g3, g4, g7, ltT, ltF, leT, leF, hk', s1, s2, l1, l2, hQ, hb0, hbl, hnn, a1, a2, a3, a4, hwe, hpt, e6]
    rw [chkK_of]; rotate_left; kernel_rfl
    simp (maxSteps := 1000000) (implicitDefEqProofs := false) (disch := first | rfl | omega | assumption) only [go_sem, g3, g4, g7, ltT, ltF, leT, leF, hk', s1, s2, law_read, hWi, hC2, c1, c2, c3, q6, hii, hA]
    done

end Go.Ab
