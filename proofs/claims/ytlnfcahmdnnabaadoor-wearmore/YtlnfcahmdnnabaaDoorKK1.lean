/-
  A block that is handed in, and a slice of small numbers, as the evaluator takes them; what a package variable reads as.
-/
import Derived.Test.YtlnfcahmdnnabaaDoorKK0
import Derived.Test.YtlnfcahmdnnabaaDoorRows
import Derived.OpenShut
namespace Go.Ab
set_option linter.unusedSimpArgs false
set_option linter.unusedVariables false
set_option maxRecDepth 100000
open Go.Proofs Go.ChangeShapes Go.RowKit Go.WideShapes

def shSpan : Sh := .cons (.int .i64) (.cons (.int .i64) .unit)
def shEvt : Sh := .cons (.int .i64) (.cons (.int .i64) (.cons shSpan .unit))
def shWea : Sh := .cons shSpan (.cons shSpan (.cons (.sl true shEvt) .unit))

theorem sh_span {l : List AV} (h : Shaped shSpan l) : ∃ a b, l = [I a, I b] := by
  obtain ⟨_, _, rfl, ⟨a, rfl, _⟩, _, _, rfl, ⟨b, rfl, _⟩, rfl⟩ := h
  exact ⟨a, b, rfl⟩

theorem sh_evt {l : List AV} (h : Shaped shEvt l) : ∃ b : Ev, AV.agg l = b.av := by
  obtain ⟨_, _, rfl, ⟨a, rfl, _⟩, _, _, rfl, ⟨b, rfl, _⟩, _, _, rfl, h3, rfl⟩ := h
  obtain ⟨e, f, rfl⟩ := sh_span h3
  exact ⟨⟨a, b, e, f⟩, rfl⟩

/-- Elements, each of a kind, are a list of that kind, of which all has been told. -/
theorem list_ofP {α : Type} {p : α → Prop} {f : α → AV} : ∀ {es : List AV}, (∀ x ∈ es, ∃ a, p a ∧ x = f a) → ∃ l : List α, es = l.map f ∧ ∀ a ∈ l, p a
  | [], _ => ⟨[], rfl, by simp⟩
  | x :: r, h => by
    obtain ⟨a, ha, rfl⟩ := h x (List.mem_cons_self ..)
    obtain ⟨l, rfl, hl⟩ := list_ofP fun y hy => h y (List.mem_cons_of_mem _ hy)
    refine ⟨a :: l, rfl, fun b hb => ?_⟩
    rcases List.mem_cons.1 hb with rfl | hb
    · exact ha
    · exact hl b hb

theorem sh_wea {l : List AV} (h : Shaped shWea l) : ∃ (w : Wea) (ve : AV), l = [I w.llo, I w.lhi, I w.ulo, I w.uhi, ve] ∧ WeaAt [] w ve := by
  obtain ⟨_, _, rfl, h1, _, _, rfl, h2, _, _, rfl, ⟨f, es, rfl, h3⟩, rfl⟩ := h
  obtain ⟨a, b, rfl⟩ := sh_span h1
  obtain ⟨c, d, rfl⟩ := sh_span h2
  obtain ⟨evs, rfl, -⟩ := list_ofP (p := fun _ => True) (f := Ev.av) (es := es) fun x hx => by
    obtain ⟨cs, hc, rfl⟩ := h3 x hx
    obtain ⟨b, hb⟩ := sh_evt hc
    exact ⟨b, trivial, by simp only [pack, if_true]; exact hb⟩
  exact ⟨⟨a, b, c, d, evs⟩, .sl f (evs.map Ev.av), rfl, ⟨⟨rfl, by simp only [List.mem_map]; rintro _ ⟨x, _, rfl⟩; rfl⟩⟩⟩

theorem sh26 : shOf prog0 8 26 = some shWea := by kernel_rfl
theorem sh45 : shOf prog0 8 45 = some (.sl false (.int .u8)) := by kernel_rfl
theorem laid0 : laidOutB prog0 = true := by kernel_rfl

theorem arg_wea {T : Type} {enc : TypeId × Value → T} {W : World} {r : Reach} {b0 : Nat} {v : Value} {d : DataW T} {ps : List MemPlace} (hval : Value.okWide prog0 W r b0 26 v) (hd : DataW.Trod enc prog0 W 0 (fun _ => true) true 26 v d ps) :
    ∃ (w : Wea) (ve : AV), Rel (Cx.start W) (w.av ve) v ∧ WeaAt [] w ve := by
  obtain ⟨avs, h1, h2⟩ := arg_agg Tryd.underlying26 sh26 hval hd
  obtain ⟨w, ve, rfl, h3⟩ := sh_wea h2
  exact ⟨w, ve, h1, h3⟩

theorem arg_u8s {T : Type} {enc : TypeId × Value → T} {W : World} {r : Reach} {b0 : Nat} {v : Value} {d : DataW T} {ps : List MemPlace} (hval : Value.okWide prog0 W r b0 45 v) (hd : DataW.Trod enc prog0 W 0 (fun _ => true) true 45 v d ps) :
    ∃ (va : AV) (ws : List Int), Rel (Cx.start W) va v ∧ SlOk [] 1 va (ws.map fun n => .int .u8 n) ∧ ws.length ≤ 9223372036854775807 ∧ ∀ i, i < ws.length → 0 ≤ ws.getD i 0 ∧ ws.getD i 0 ≤ 255 := by
  obtain ⟨f, es, h1, h2⟩ := arg_sl Tryd.underlying45 sh45 hval hd
  obtain ⟨ws, rfl, hw⟩ := list_ofP (p := fun n : Int => 0 ≤ n ∧ n ≤ 255) (f := fun n => AV.int .u8 n) (es := es) fun x hx => by
    obtain ⟨_, ⟨n, rfl, hn⟩, rfl⟩ := h2 x hx
    exact ⟨n, bounds_u8 hn, rfl⟩
  refine ⟨_, ws, h1, ⟨rfl, by simp only [List.mem_map]; rintro _ ⟨x, _, rfl⟩; rfl⟩, ?_, fun i hi => hw _ (by simp [hi])⟩
  rw [Rel] at h1
  obtain ⟨a, cap, rfl, ⟨-, hc⟩, -, hy⟩ := h1
  obtain ⟨m, hm⟩ := hd
  rw [List.length_map] at hc hm
  cases m with
  | zero => simp [DataW.trod] at hm
  | succ m =>
    cases a with
    | none =>
      rcases hy with hy | ⟨b, o, sz, ys, hy, -⟩
      · have := congrArg List.length hy
        simp at this
        simp [this]
      · cases hy
    | some a =>
      simp only [DataW.trod, Value.cells, Tryd.underlying45] at hm
      split at hm
      · rename_i h
        have : maxLen = 9223372036854775807 := rfl
        omega
      · cases hm

theorem gVar : Tryd.prog.globalNamed "blockworks/wear.none" = some 0 := by kernel_rfl
theorem gVarType : (Tryd.prog.globals[0]?).map (·.type) = some 74 := by kernel_rfl

theorem cells74 : Tryd.prog.cellsOf 74 = 2 := by kernel_rfl
theorem cells23 : Tryd.prog.cellsOf 23 = 2 := by kernel_rfl
theorem cells3 : Tryd.prog.cellsOf 3 = 1 := by kernel_rfl

theorem glob_of_laid {W : World} (h : laidMet Tryd.prog [("blockworks/wear.none", Go.Proofs.YtlnfcahmdnnabaaDoor.Rows.laid_blockworks_wear_none)] W) : GlobOk (Cx.start W) := by
  obtain ⟨ps, ⟨g, t, cs, fuel, p, q, hg, ht, hvar, hd, _, _⟩, -, -⟩ := h
  obtain rfl := Option.some.inj (gVar.symm.trans hg)
  obtain rfl := Option.some.inj (gVarType.symm.trans ht)
  have hcs : cs = #[.int .i64 1048576, .int .i64 (-1048576)] := by
    obtain ⟨l⟩ := cs
    cases fuel with
    | zero => simp [DataW.trod] at hd
    | succ fuel =>
      simp only [DataW.trod, Tryd.underlying74, cells74] at hd
      split at hd
      · rename_i hl
        obtain ⟨c0, c1, rfl⟩ : ∃ c0 c1, l = [c0, c1] := by
          match l, hl with
          | [a, b], _ => exact ⟨a, b, rfl⟩
        simp only [List.mapM_cons, List.mapM_nil, Option.map_eq_some_iff, Option.bind_eq_bind, Option.bind_eq_some_iff, Option.pure_def, Option.some.injEq] at hd
        obtain ⟨xs, ⟨y0, h0, _, rfl, rfl⟩, hx⟩ := hd
        simp only [cells23, List.drop_zero] at h0
        cases fuel with
        | zero => simp [DataW.trod] at h0
        | succ fuel =>
          have e : List.take 2 [c0, c1] = [c0, c1] := rfl
          simp only [e, DataW.trod, Tryd.underlying23, cells23, cells3, List.length_cons, List.length_nil, Nat.zero_add, Nat.reduceAdd, if_true, List.mapM_cons, List.mapM_nil, Option.map_eq_some_iff, Option.bind_eq_bind, Option.bind_eq_some_iff, Option.pure_def, Option.some.injEq, List.drop_zero, List.drop_succ_cons, List.take_succ_cons, List.take_zero, List.take_nil] at h0
          obtain ⟨ys, ⟨z0, k0, _, ⟨z1, k1, _, rfl, rfl⟩, rfl⟩, rfl⟩ := h0
          obtain ⟨n0, e0, rfl, _⟩ := DataW.trod_int Tryd.underlying3 k0
          obtain ⟨n1, e1, rfl, _⟩ := DataW.trod_int Tryd.underlying3 k1
          simp [Go.Proofs.YtlnfcahmdnnabaaDoor.Rows.laid_blockworks_wear_none] at hx e0 e1
          obtain ⟨⟨rfl, rfl⟩, _⟩ := hx
          rw [e0, e1]
      · cases hd
  subst hcs
  intro g v hm
  simp only [globL, List.mem_cons, List.not_mem_nil, or_false, Prod.mk.injEq] at hm
  obtain ⟨rfl, rfl⟩ := hm
  have hlt : 0 < W.heap.size := by
    simp only [World.var?, gVar, Option.bind_some] at hvar
    by_cases h0 : 0 < W.heap.size
    · exact h0
    · rw [Array.getElem?_eq_none (by omega)] at hvar
      cases hvar
  rw [Rel]
  refine ⟨⟨rfl, rfl⟩, 0, 0, .agg #[.int .i64 1048576, .int .i64 (-1048576)], rfl, hlt, ?_, ?_, ?_⟩
  · rintro ⟨l, hl⟩
    cases hl
  · rw [Rel]
    exact ⟨_, rfl, by simp [RelL, Rel]⟩
  · intro k hk
    have := World.var?_cell gVar hvar k
    rw [show (0 : Nat) + k = k by omega]
    have h2 : W.cell? ⟨0, k, none⟩ = [Value.int .i64 1048576, Value.int .i64 (-1048576)][k]? := by simpa [Value.cells] using this
    exact h2

end Go.Ab
/-
  Bits: sets as numbers.
-/
namespace Go.Ab
open Go.Proofs
set_option linter.unusedSimpArgs false
set_option linter.unusedVariables false
set_option maxRecDepth 100000

variable {H : Heap}

abbrev U (n : Nat) : AV := .int .u64 (n : Int)

theorem wrapU {n : Nat} (h : n < 18446744073709551616) : IntKind.u64.wrap (n : Int) = n := by
  simp only [IntKind.wrap, IntKind.bits, IntKind.signed]
  have e : (2 : Int) ^ 64 = 18446744073709551616 := by decide
  simp only [e, Bool.false_and]
  simp
  omega

theorem ofIntN {n : Nat} (hn : n < 2 ^ 63) : (BitVec.ofInt 64 (n : Int)).toNat = n := by
  rw [BitVec.ofInt_natCast, BitVec.toNat_ofNat, Nat.mod_eq_of_lt (by omega)]

theorem bitsOr {a b : Nat} (ha : a < 2 ^ 63) (hb : b < 2 ^ 63) : bitsOp .or .u64 (a : Int) (b : Int) = some ((a ||| b : Nat) : Int) := by
  have h := Nat.or_lt_two_pow ha hb
  show some (IntKind.u64.wrap (((BitVec.ofInt 64 (a : Int) ||| BitVec.ofInt 64 (b : Int)) : BitVec 64).toNat : Int)) = _
  rw [BitVec.toNat_or, ofIntN ha, ofIntN hb, wrapU (by omega)]

theorem bitsOrI {a b : Nat} (ha : a < 2 ^ 63) (hb : b < 2 ^ 63) : bitsOp .or .i64 (a : Int) (b : Int) = some ((a ||| b : Nat) : Int) := by
  have h := Nat.or_lt_two_pow ha hb
  show some (IntKind.i64.wrap (((BitVec.ofInt 64 (a : Int) ||| BitVec.ofInt 64 (b : Int)) : BitVec 64).toNat : Int)) = _
  rw [BitVec.toNat_or, ofIntN ha, ofIntN hb, w64 (by omega) (by omega)]

theorem bitsAnd {a b : Nat} (ha : a < 2 ^ 63) (hb : b < 2 ^ 63) : bitsOp .and .u64 (a : Int) (b : Int) = some ((a &&& b : Nat) : Int) := by
  have h : a &&& b ≤ a := Nat.and_le_left
  show some (IntKind.u64.wrap (((BitVec.ofInt 64 (a : Int) &&& BitVec.ofInt 64 (b : Int)) : BitVec 64).toNat : Int)) = _
  rw [BitVec.toNat_and, ofIntN ha, ofIntN hb, wrapU (by omega)]

theorem bitsAndI {a b : Nat} (ha : a < 2 ^ 63) (hb : b < 2 ^ 63) : bitsOp .and .i64 (a : Int) (b : Int) = some ((a &&& b : Nat) : Int) := by
  have h : a &&& b ≤ a := Nat.and_le_left
  show some (IntKind.i64.wrap (((BitVec.ofInt 64 (a : Int) &&& BitVec.ofInt 64 (b : Int)) : BitVec 64).toNat : Int)) = _
  rw [BitVec.toNat_and, ofIntN ha, ofIntN hb, w64 (by omega) (by omega)]

/-- A set without another one. -/
def diffN (a b : Nat) : Nat := a ^^^ (a &&& b)

theorem diffN_bit (a b i : Nat) : (diffN a b).testBit i = (a.testBit i && !b.testBit i) := by
  simp only [diffN, Nat.testBit_xor, Nat.testBit_and]
  cases a.testBit i <;> cases b.testBit i <;> rfl

theorem andNotV (x y : BitVec 64) : x &&& ~~~y = x ^^^ (x &&& y) := by
  ext i h
  simp
  cases x[i] <;> cases y[i] <;> rfl

theorem diffN_lt {a b n : Nat} (h : a < 2 ^ n) : diffN a b < 2 ^ n := Nat.xor_lt_two_pow h (Nat.lt_of_le_of_lt Nat.and_le_left h)

theorem bitsNot {a b : Nat} (ha : a < 2 ^ 63) (hb : b < 2 ^ 63) : bitsOp .andNot .u64 (a : Int) (b : Int) = some ((diffN a b : Nat) : Int) := by
  have h := diffN_lt (b := b) ha
  show some (IntKind.u64.wrap (((BitVec.ofInt 64 (a : Int) &&& ~~~BitVec.ofInt 64 (b : Int)) : BitVec 64).toNat : Int)) = _
  rw [andNotV, BitVec.toNat_xor, BitVec.toNat_and, ofIntN ha, ofIntN hb]
  exact congrArg some (wrapU (by simp only [diffN] at h; omega))

theorem bitsNotI {a b : Nat} (ha : a < 2 ^ 63) (hb : b < 2 ^ 63) : bitsOp .andNot .i64 (a : Int) (b : Int) = some ((diffN a b : Nat) : Int) := by
  have h := diffN_lt (b := b) ha
  show some (IntKind.i64.wrap (((BitVec.ofInt 64 (a : Int) &&& ~~~BitVec.ofInt 64 (b : Int)) : BitVec 64).toNat : Int)) = _
  rw [andNotV, BitVec.toNat_xor, BitVec.toNat_and, ofIntN ha, ofIntN hb]
  exact congrArg some (w64 (by omega) (by simp only [diffN] at h; omega))

theorem two_pow_lt {k n : Nat} (h : k < n) : 2 ^ k < 2 ^ n := Nat.pow_lt_pow_right (by omega) h

theorem shlU {k : Nat} (hk : k ≤ 60) : IntKind.u64.wrap (1 * 2 ^ (min k 64)) = ((2 ^ k : Nat) : Int) := by
  have h := two_pow_lt (show k < 61 by omega)
  rw [Nat.min_eq_left (by omega), Int.one_mul, show (2 : Int) ^ k = ((2 ^ k : Nat) : Int) by rw [Int.natCast_pow]; rfl]
  exact wrapU (by omega)

theorem shlI {k : Nat} (hk : k ≤ 60) : IntKind.i64.wrap (1 * 2 ^ (min k 64)) = ((2 ^ k : Nat) : Int) := by
  have h := two_pow_lt (show k < 61 by omega)
  rw [Nat.min_eq_left (by omega), Int.one_mul, show (2 : Int) ^ k = ((2 ^ k : Nat) : Int) by rw [Int.natCast_pow]; rfl]
  generalize (2 : Nat) ^ k = m at h ⊢
  exact w64 (by omega) (by omega)

theorem fdivN (x k : Nat) : (x : Int).fdiv (k : Int) = ((x / k : Nat) : Int) := by rw [Int.fdiv_eq_ediv_of_nonneg _ (Int.natCast_nonneg _)]; rfl

theorem shrN {s j : Nat} (hj : j ≤ 60) : (s : Int).fdiv (2 ^ min j 64) = ((s / 2 ^ j : Nat) : Int) := by
  rw [← fdivN, Nat.min_eq_left (by omega), Int.natCast_pow]
  rfl

theorem and_one {s j : Nat} : (((s / 2 ^ j &&& 1 : Nat) : Int) == 1) = s.testBit j := by
  rw [Nat.and_one_is_mod, Nat.testBit_eq_decide_div_mod_eq]
  have : s / 2 ^ j % 2 = 0 ∨ s / 2 ^ j % 2 = 1 := by omega
  rcases this with h | h <;> rw [h] <;> rfl

theorem and_zero {s j : Nat} : (((s / 2 ^ j &&& 1 : Nat) : Int) == 0) = !s.testBit j := by
  rw [Nat.and_one_is_mod, Nat.testBit_eq_decide_div_mod_eq]
  have : s / 2 ^ j % 2 = 0 ∨ s / 2 ^ j % 2 = 1 := by omega
  rcases this with h | h <;> rw [h] <;> rfl

theorem div_lt {s j n : Nat} (h : s < n) : s / 2 ^ j < n := Nat.lt_of_le_of_lt (Nat.div_le_self _ _) h

/-- A bit that is looked at: of an unsigned number, of a signed one. -/
theorem bitU {s j : Nat} (hs : s < 2 ^ 60) : bitsOp .and .u64 ((s / 2 ^ j : Nat) : Int) 1 = some ((s / 2 ^ j &&& 1 : Nat) : Int) :=
  bitsAnd (b := 1) (div_lt (by omega)) (by decide)
theorem bitI {s j : Nat} (hs : s < 2 ^ 60) : bitsOp .and .i64 ((s / 2 ^ j : Nat) : Int) 1 = some ((s / 2 ^ j &&& 1 : Nat) : Int) :=
  bitsAndI (b := 1) (div_lt (by omega)) (by decide)

/-- The set of the numbers below n that f holds of. -/
def maskN (f : Nat → Bool) : Nat → Nat
  | 0 => 0
  | n + 1 => maskN f n ||| (if f n then 2 ^ n else 0)

theorem maskN_lt (f : Nat → Bool) : ∀ n, maskN f n < 2 ^ n
  | 0 => by simp [maskN]
  | n + 1 => by
    have h1 := maskN_lt f n
    have h2 : (2 : Nat) ^ n < 2 ^ (n + 1) := Nat.pow_lt_pow_right (by omega) (by omega)
    simp only [maskN]
    apply Nat.or_lt_two_pow (by omega)
    split <;> omega

theorem maskN_bit (f : Nat → Bool) (i : Nat) : ∀ n, (maskN f n).testBit i = (decide (i < n) && f i)
  | 0 => by simp [maskN]
  | n + 1 => by
    simp only [maskN, Nat.testBit_or, maskN_bit f i n]
    rcases Nat.lt_trichotomy i n with h | h | h
    · have e : (2 ^ n).testBit i = false := by rw [Nat.testBit_two_pow]; simp; omega
      split <;> simp [e, h, Nat.lt_succ_of_lt h]
    · subst h
      cases hf : f i <;> simp
    · have e : (2 ^ n).testBit i = false := by rw [Nat.testBit_two_pow]; simp; omega
      have e2 : ¬ i < n + 1 := by omega
      have e3 : ¬ i < n := by omega
      split <;> simp [e, e2, e3]

end Go.Ab
/-
  Events of a block, one after the other.
-/
namespace Go.Ab
open Go.Proofs
set_option linter.unusedSimpArgs false
set_option linter.unusedVariables false
set_option maxRecDepth 100000

variable {H : Heap}

/-- A block that is looked at. -/
structure BlAt (H : Heap) (l lo lm : Nat) (w : Wea) : Prop where
  box : H[l]? = some (.box (.agg [I w.llo, I w.lhi, I w.ulo, I w.uhi, .gsl lo w.es.length, .map lm]))
  own : SlOk H 4 (.gsl lo w.es.length) (w.es.map Ev.av)

/-- Bounds that a valid block keeps. -/
structure Wea.Ok (w : Wea) : Prop where
  len : 0 ≤ w.llo ∧ w.llo ≤ w.lhi ∧ w.lhi ≤ 300 ∧ w.lhi - w.llo ≤ 20
  use : 0 ≤ w.ulo ∧ w.ulo ≤ w.uhi ∧ w.uhi ≤ 3
  many : w.es.length ≤ 8
  ev : ∀ i, i < w.es.length → ((w.ev i).k = 0 ∧ 0 ≤ (w.ev i).u ∧ (w.ev i).u ≤ 20) ∨ ((w.ev i).k = 1 ∧ -1000 ≤ (w.ev i).lo ∧ (w.ev i).lo ≤ (w.ev i).hi ∧ (w.ev i).hi ≤ 1000) ∨ ((w.ev i).k = 2 ∧ 0 ≤ (w.ev i).lo ∧ (w.ev i).lo ≤ (w.ev i).hi ∧ (w.ev i).hi ≤ 10)

theorem Ev.ok_iff (e : Ev) : e.ok = true ↔ (e.k = 0 ∧ 0 ≤ e.u ∧ e.u ≤ 20) ∨ (e.k = 1 ∧ -1000 ≤ e.lo ∧ e.lo ≤ e.hi ∧ e.hi ≤ 1000) ∨ (e.k = 2 ∧ 0 ≤ e.lo ∧ e.lo ≤ e.hi ∧ e.hi ≤ 10) := by
  simp only [Ev.ok]
  by_cases h0 : e.k = 0
  · rw [if_pos h0, wi_iff]; omega
  · rw [if_neg h0]
    by_cases h1 : e.k = 1
    · rw [if_pos h1, spB_iff]; simp only; omega
    · rw [if_neg h1]
      by_cases h2 : e.k = 2
      · rw [if_pos h2, spB_iff]; simp only; omega
      · rw [if_neg h2]; simp; omega

theorem Wea.valid_iff (w : Wea) : w.valid = true ↔ w.Ok := by
  simp only [Wea.valid, Wea.good, Bool.and_eq_true, Bool.not_eq_true', anyF_false, spB_iff, decide_eq_true_eq, Bool.not_eq_false', Ev.ok_iff]
  constructor
  · rintro ⟨h1, h2, h3, h4, h5⟩
    exact ⟨by omega, by omega, by omega, fun i hi => h5 i (by omega) (by omega)⟩
  · rintro ⟨h1, h2, h3, h4⟩
    exact ⟨by omega, by omega, by omega, by omega, fun i _ hi => h4 i (by omega)⟩

/-- An event, as far as it is looked at. -/
def Wea.evz (w : Wea) (r i : Nat) : EvZ :=
  if (w.ev i).k = 0 then .takes ((w.ev i).u * w.ulo) ((w.ev i).u * w.uhi) else if (w.ev i).k = 2 then .takes (w.ev i).lo (w.ev i).hi else if r.testBit i then .read (w.ev i).lo (w.ev i).hi else .nothing

theorem mul_bd {a b m n : Int} (ha : 0 ≤ a ∧ a ≤ m) (hb : 0 ≤ b ∧ b ≤ n) : 0 ≤ a * b ∧ a * b ≤ m * n := by
  refine ⟨Int.mul_nonneg ha.1 hb.1, ?_⟩
  calc a * b ≤ m * b := Int.mul_le_mul_of_nonneg_right ha.2 hb.1
    _ ≤ m * n := Int.mul_le_mul_of_nonneg_left hb.2 (by omega)

theorem we_of {l lo lm : Nat} {w : Wea} (h : BlAt H l lo lm w) (ho : w.Ok) {r i : Nat} (hr : r < 256) (hi : i < w.es.length) :
    callFL cfg0 prog0 false 91 [.ptr l 0, I i, U r] H none = some ⟨.ret (w.evz r i).av, H, none⟩ := by
  obtain ⟨a1, a2, a3, a4, a5⟩ := h.own.fA (d := ev0)
  have hl : l < H.length := (List.getElem?_eq_some_iff.1 h.box).1
  have hb' := h.box
  have h8 := ho.many
  have hu := ho.use
  simp only [Wea.evz]
  refine (callFL_eq fn91 rfl (by simp [Tryd.f91])).trans ?_
  rcases ho.ev i hi with ⟨k0, k1⟩ | ⟨k0, k1⟩ | ⟨k0, k1⟩
  · have b1 := mul_bd k1 (show 0 ≤ w.ulo ∧ w.ulo ≤ 3 by omega)
    have b2 := mul_bd k1 (show 0 ≤ w.uhi ∧ w.uhi ≤ 3 by omega)
    simp only [Wea.ev] at k0 k1 b1 b2
    simp (maxSteps := 1000000) (implicitDefEqProofs := false) (disch := first | rfl | omega | assumption) only [go_sem, ltT, ltF, leT, leF, get_lt hl, hb', a1, a2, a3, a4, a5, k0, Ev.av]
    rw [chkK_of]; rotate_left; kernel_rfl
    simp (maxSteps := 1000000) (implicitDefEqProofs := false) (disch := first | rfl | omega | assumption) only [go_sem, ltT, ltF, leT, leF, get_lt hl, hb', a1, a2, a3, a4, a5, k0, Ev.av, EvZ.av]
  · simp only [Wea.ev] at k0 k1
    have e1 := shrN (s := r) (j := i) (by omega)
    have e2 := bitU (s := r) (j := i) (by omega)
    have e3 := and_zero (s := r) (j := i)
    have z : ¬ (i : Int) < 0 := by omega
    have e0 : r / 2 ^ i < 256 := div_lt hr
    have e4 := wrapU (n := r / 2 ^ i) (by omega)
    cases hb : r.testBit i
    · simp (maxSteps := 1000000) (implicitDefEqProofs := false) (disch := first | rfl | omega | assumption) only [go_sem, ltT, ltF, leT, leF, get_lt hl, hb', a1, a2, a3, a4, a5, k0, Ev.av, e1, e2, e3, e4, hb, z, EvZ.av]
    · simp (maxSteps := 1000000) (implicitDefEqProofs := false) (disch := first | rfl | omega | assumption) only [go_sem, ltT, ltF, leT, leF, get_lt hl, hb', a1, a2, a3, a4, a5, k0, Ev.av, e1, e2, e3, e4, hb, z, EvZ.av]
  · simp only [Wea.ev] at k0 k1
    simp (maxSteps := 1000000) (implicitDefEqProofs := false) (disch := first | rfl | omega | assumption) only [go_sem, ltT, ltF, leT, leF, get_lt hl, hb', a1, a2, a3, a4, a5, k0, Ev.av, EvZ.av]

/-- Who listens to events: its heaps, by how many it has heard. -/
structure HearsE (w : Wea) (r : Nat) (back : Bool) (l lo lm p1 p2 p3 n y : Nat) (Hr : Nat → Heap) : Prop where
  lr : ∀ m, (Hr m).length = n
  b1 : ∀ m, (Hr m)[p1]? = some (.box (.ptr l 0))
  b2 : ∀ m, (Hr m)[p2]? = some (.box (.bool back))
  b3 : ∀ m, (Hr m)[p3]? = some (.box (U r))
  bl : ∀ m, BlAt (Hr m) l lo lm w
  y : ∀ m, m < w.es.length → callVL cfg0 prog0 false (.yield y) [I (if back then w.es.length - 1 - m else m : Nat), (w.evz r (if back then w.es.length - 1 - m else m)).av] [] (Hr m) none = some ⟨.ret (.bool true), Hr (m + 1), none⟩

theorem events_l1 {w : Wea} (ho : w.Ok) {r : Nat} (hr : r < 256) {back : Bool} {l lo lm p1 p2 p3 n y : Nat} {Hr : Nat → Heap} (hh : HearsE w r back l lo lm p1 p2 p3 n y Hr) :
    ∀ (q j : Nat), j + q = w.es.length → ∀ E : Env, E.get 0 = .func (.yield y) [] [] → E.get 1 = .ptr p1 0 → E.get 2 = .ptr p2 0 → E.get 3 = .ptr p3 0 → E.get 11 = I w.es.length → E.get 12 = I j →
    Option.map (finishC n) (execL cfg0 prog0 ⟨90, none, false, n⟩ (todoAt Tryd.f90 1) ⟨E, [], Hr j, none⟩) = some ⟨.ret (.tup []), Hr w.es.length, none⟩ := by
  intro q
  have h8 := ho.many
  have tr : ∀ st, (Hr st).take n = Hr st := fun st => List.take_of_length_le (by rw [hh.lr]; exact Nat.le_refl _)
  induction q with
  | zero =>
    intro j hj  E g0 g1 g2 g3 g11 g12
    have hk' : ¬ (j : Int) < ((w.es.length : Nat) : Int) := by omega
    have ej : j = w.es.length := by omega
    subst ej
    simp only [loopIt, todoPast, todoAt, todoOf, firstReg, ↓reduceIte, Option.some.injEq, Nat.reduceEqDiff, reduceCtorEq, Tryd.f90]
    rw [execL_inLoop]
    simp (maxSteps := 1000000) (implicitDefEqProofs := false) (disch := first | rfl | omega | assumption) only [go_sem, g0, g1, g2, g3, g11, g12, ltT, ltF, leT, leF, hk', tr]
  | succ q ih =>
    intro j hj  E g0 g1 g2 g3 g11 g12
    have hk' : (j : Int) < ((w.es.length : Nat) : Int) := by omega
    have hk2 : j < w.es.length := by omega
    have hb := (hh.bl j).box
    have hy := hh.y j hk2
    cases back with
    | false =>
      have hof := we_of (hh.bl j) ho hr hk2
      simp only [Bool.false_eq_true, if_false] at hy
      simp only [loopIt, todoPast, todoAt, todoOf, firstReg, ↓reduceIte, Option.some.injEq, Nat.reduceEqDiff, reduceCtorEq, Tryd.f90]
      rw [execL_inLoop]
      simp (maxSteps := 1000000) (implicitDefEqProofs := false) (disch := first | rfl | omega | assumption) only [go_sem, g0, g1, g2, g3, g11, g12, ltT, ltF, leT, leF, hk', hh.b1, hh.b2, hh.b3, hb, hof, hy]
      exact ih (j + 1) (by omega) _ (by exact g0) (by exact g1) (by exact g2) (by exact g3) (by exact g11) (by rfl)
    | true =>
      have hof := we_of (hh.bl j) ho hr (i := w.es.length - 1 - j) (by omega)
      have ej : (w.es.length : Int) - 1 - (j : Int) = ((w.es.length - 1 - j : Nat) : Int) := by omega
      simp only [if_true] at hy
      simp only [loopIt, todoPast, todoAt, todoOf, firstReg, ↓reduceIte, Option.some.injEq, Nat.reduceEqDiff, reduceCtorEq, Tryd.f90]
      rw [execL_inLoop]
      simp (maxSteps := 1000000) (implicitDefEqProofs := false) (disch := first | rfl | omega | assumption) only [go_sem, g0, g1, g2, g3, g11, g12, ltT, ltF, leT, leF, hk', hh.b1, hh.b2, hh.b3, hb, hof, hy, ej]
      exact ih (j + 1) (by omega) _ (by exact g0) (by exact g1) (by exact g2) (by exact g3) (by exact g11) (by rfl)

theorem events_it {w : Wea} (ho : w.Ok) {r : Nat} (hr : r < 256) {back : Bool} {l lo lm p1 p2 p3 n y : Nat} {Hr : Nat → Heap} (hh : HearsE w r back l lo lm p1 p2 p3 n y Hr) :
    callFL cfg0 prog0 false 90 [.func (.yield y) [] [], .ptr p1 0, .ptr p2 0, .ptr p3 0] (Hr 0) none = some ⟨.ret (.tup []), Hr w.es.length, none⟩ := by
  have h1 := events_l1 ho hr hh w.es.length 0 (by omega)
  have hl := hh.lr 0
  have hb := (hh.bl 0).box
  refine (callFL_eq fn90 rfl (by simp [Tryd.f90])).trans ?_
  simp (maxSteps := 1000000) (implicitDefEqProofs := false) (disch := first | rfl | omega | assumption) only [go_sem, ltT, ltF, leT, leF, hh.b1, hb, hl]
  exact h1 _ (by rfl) (by rfl) (by rfl) (by rfl) (by rfl) (by rfl)

theorem we_events {l r : Nat} (back : Bool) (H : Heap) : callFL cfg0 prog0 false 83 [.ptr l 0, U r, .bool back] H none = some ⟨.ret (.func (.func 90) [] [.ptr H.length 0, .ptr (H.length + 2) 0, .ptr (H.length + 1) 0]), H ++ [.box (.ptr l 0), .box (U r), .box (.bool back)], none⟩ := by
  refine (callFL_eq fn83 rfl (by simp [Tryd.f83])).trans ?_
  simp (maxSteps := 1000000) (implicitDefEqProofs := false) (disch := first | rfl | omega | assumption) only [go_sem, ltT, ltF, leT, leF]

end Go.Ab
/-
  What is known at first, and after each event: plain.
-/
namespace Go.Ab
open Go.Proofs
set_option linter.unusedSimpArgs false
set_option linter.unusedVariables false
set_option maxRecDepth 100000

variable {H : Heap}

/-- What is known, forward. -/
def Wea.fwd (w : Wea) (r : Nat) (q : Int × Int) : Nat → Int × Int
  | 0 => q
  | i + 1 => (w.evz r i).aft (w.fwd r q i)

/-- What is known, back from the end. -/
def Wea.bk (w : Wea) (r : Nat) (q : Int × Int) : Nat → Int × Int
  | 0 => w.fwd r q w.es.length
  | m + 1 => bothP (w.fwd r q (w.es.length - 1 - m)) ((w.evz r (w.es.length - 1 - m)).bef (w.bk r q m))

/-- What is known at first, and after each event. -/
def Wea.at (w : Wea) (r : Nat) (q : Int × Int) (i : Nat) : Int × Int := if i ≤ w.es.length then w.bk r q (w.es.length - i) else (0, 0)

/-- Pairs as cells. -/
def pc (f : Nat → Int × Int) : Nat → Nat → List AV
  | _, 0 => []
  | j, q + 1 => I (f j).1 :: I (f j).2 :: pc f (j + 1) q

theorem pc_len (f : Nat → Int × Int) : ∀ q j, (pc f j q).length = 2 * q
  | 0, _ => rfl
  | q + 1, j => by simp only [pc, List.length_cons, pc_len f q]; omega

theorem pc_congr {f g : Nat → Int × Int} : ∀ q j, (∀ i, j ≤ i → i < j + q → f i = g i) → pc f j q = pc g j q
  | 0, _, _ => rfl
  | q + 1, j, h => by rw [pc, pc, h j (by omega) (by omega), pc_congr q (j + 1) (fun i h1 h2 => h i (by omega) (by omega))]

theorem pc_read (f : Nat → Int × Int) : ∀ (q j i : Nat), i < q → ((pc f j q).drop (2 * i)).take 2 = [I (f (j + i)).1, I (f (j + i)).2]
  | 0, _, _, h => by omega
  | q + 1, j, 0, _ => rfl
  | q + 1, j, i + 1, h => by
    rw [show 2 * (i + 1) = 2 * i + 1 + 1 by omega, pc, List.drop_succ_cons, List.drop_succ_cons, pc_read f q (j + 1) i (by omega), show j + 1 + i = j + (i + 1) by omega]

theorem pc_write (f : Nat → Int × Int) (p : Int × Int) : ∀ (q j i : Nat), i < q → (pc f j q).take (2 * i) ++ ([I p.1, I p.2] ++ (pc f j q).drop (2 * i + 2)) = pc (fun k => if k = j + i then p else f k) j q
  | 0, _, _, h => by omega
  | q + 1, j, 0, _ => by
    simp only [pc, Nat.mul_zero, Nat.zero_add, List.take_zero, List.nil_append, Nat.add_zero, if_true, List.drop_succ_cons, List.drop_zero, List.cons_append]
    rw [pc_congr q (j + 1) (fun i h1 h2 => if_neg (by omega))]
  | q + 1, j, i + 1, h => by
    have ih := pc_write f p q (j + 1) i (by omega)
    rw [show 2 * (i + 1) = 2 * i + 1 + 1 by omega, pc, List.take_succ_cons, List.take_succ_cons, show 2 * i + 1 + 1 + 2 = (2 * i + 2) + 1 + 1 by omega, List.drop_succ_cons, List.drop_succ_cons, List.cons_append, List.cons_append, ih]
    simp only [pc, if_neg (show ¬ j = j + (i + 1) by omega), show j + 1 + i = j + (i + 1) by omega]

/-- Numbers that are not too great. -/
def bd (K : Int) (p : Int × Int) : Prop := -K ≤ p.1 ∧ p.1 ≤ K ∧ -K ≤ p.2 ∧ p.2 ≤ K

theorem bothP_bd {K : Int} (hK : 1048576 ≤ K) {p q : Int × Int} (hp : bd K p) (hq : bd K q) : bd K (bothP p q) := by
  simp only [bd] at hp hq
  have h1 : -K ≤ mx p.1 q.1 ∧ mx p.1 q.1 ≤ K := by simp only [mx]; split <;> omega
  have h2 : -K ≤ mn p.2 q.2 ∧ mn p.2 q.2 ≤ K := by simp only [mn]; split <;> omega
  simp only [bothP]
  split
  · exact ⟨h1.1, h1.2, h2.1, h2.2⟩
  · simp only [bd]; omega

theorem Wea.evz_cases {w : Wea} (ho : w.Ok) (r : Nat) {i : Nat} (hi : i < w.es.length) : (∃ lo hi, w.evz r i = .takes lo hi ∧ 0 ≤ lo ∧ lo ≤ hi ∧ hi ≤ 60) ∨ (∃ lo hi, w.evz r i = .read lo hi ∧ -1000 ≤ lo ∧ lo ≤ hi ∧ hi ≤ 1000) ∨ w.evz r i = .nothing := by
  have hu := ho.use
  simp only [Wea.evz]
  rcases ho.ev i hi with ⟨k0, k1⟩ | ⟨k0, k1⟩ | ⟨k0, k1⟩
  · have b1 := mul_bd k1 (show 0 ≤ w.ulo ∧ w.ulo ≤ 3 by omega)
    have b2 := mul_bd k1 (show 0 ≤ w.uhi ∧ w.uhi ≤ 3 by omega)
    have b3 : (w.ev i).u * w.ulo ≤ (w.ev i).u * w.uhi := Int.mul_le_mul_of_nonneg_left (by omega) (by omega)
    rw [if_pos k0]
    exact .inl ⟨_, _, rfl, by omega, by omega, by omega⟩
  · rw [if_neg (by omega), if_neg (by omega)]
    split
    · exact .inr (.inl ⟨_, _, rfl, by omega, by omega, by omega⟩)
    · exact .inr (.inr rfl)
  · rw [if_neg (by omega), if_pos k0]
    exact .inl ⟨_, _, rfl, by omega, by omega, by omega⟩

theorem aft_bd {w : Wea} (ho : w.Ok) {r i : Nat} (hi : i < w.es.length) {K : Int} (hK : 1048576 ≤ K) {p : Int × Int} (hp : bd K p) : bd (K + 60) ((w.evz r i).aft p) := by
  rcases w.evz_cases ho r hi with ⟨lo, h, e, h1, h2, h3⟩ | ⟨lo, h, e, h1, h2, h3⟩ | e
  · rw [e]; simp only [EvZ.aft, bd] at hp ⊢; omega
  · rw [e]
    simp only [EvZ.aft]
    have := bothP_bd hK hp (q := (lo, h)) (by simp only [bd]; omega)
    simp only [bd] at this ⊢; omega
  · rw [e]; simp only [EvZ.aft, bd] at hp ⊢; omega

theorem bef_bd {w : Wea} (ho : w.Ok) {r i : Nat} (hi : i < w.es.length) {K : Int} (hK : 1048576 ≤ K) {p : Int × Int} (hp : bd K p) : bd (K + 60) ((w.evz r i).bef p) := by
  rcases w.evz_cases ho r hi with ⟨lo, h, e, h1, h2, h3⟩ | ⟨lo, h, e, h1, h2, h3⟩ | e
  · rw [e]; simp only [EvZ.bef, bd] at hp ⊢; omega
  · rw [e]
    simp only [EvZ.bef]
    have := bothP_bd hK hp (q := (lo, h)) (by simp only [bd]; omega)
    simp only [bd] at this ⊢; omega
  · rw [e]; simp only [EvZ.bef, bd] at hp ⊢; omega

theorem bd_mono {K L : Int} (h : K ≤ L) {p : Int × Int} (hp : bd K p) : bd L p := by simp only [bd] at *; omega

theorem fwd_bd {w : Wea} (ho : w.Ok) (r : Nat) {q : Int × Int} (hq : bd 1048576 q) : ∀ i, i ≤ w.es.length → bd (1048576 + 60 * i) (w.fwd r q i)
  | 0, _ => by simpa [Wea.fwd] using hq
  | i + 1, h => by
    have := aft_bd (r := r) ho (i := i) (by omega) (K := 1048576 + 60 * i) (by omega) (fwd_bd ho r hq i (by omega))
    rw [Wea.fwd]
    exact bd_mono (by omega) this

theorem bk_bd {w : Wea} (ho : w.Ok) (r : Nat) {q : Int × Int} (hq : bd 1048576 q) : ∀ m, m ≤ w.es.length → bd (1048576 + 480 + 60 * m) (w.bk r q m)
  | 0, _ => bd_mono (by have := ho.many; omega) (fwd_bd ho r hq w.es.length (Nat.le_refl _))
  | m + 1, h => by
    have h8 := ho.many
    have h1 := bef_bd (r := r) ho (i := w.es.length - 1 - m) (by omega) (K := 1048576 + 480 + 60 * m) (by omega) (bk_bd ho r hq m (by omega))
    have h2 := fwd_bd ho r hq (w.es.length - 1 - m) (by omega)
    rw [Wea.bk]
    exact bothP_bd (by omega) (bd_mono (by omega) h2) (bd_mono (by omega) h1)

theorem bd_ok {K : Int} (hK : K ≤ 8000000) {p : Int × Int} (hp : bd K p) : (-8000000 ≤ p.1 ∧ p.1 ≤ 8000000) ∧ (-8000000 ≤ p.2 ∧ p.2 ≤ 8000000) := by simp only [bd] at hp; omega

/-! ### The calls through an event -/

theorem callVL_methodOfI {C : Cfg} {P : Program} {dfd : Bool} {name : String} {t t' : TypeId} {ty : Ty} {v : AV} {rest cap : List AV} {H : Heap} {pan : Option (AV × Bool)} (h : C.ty t = some ty) (hi : ty.d = .iface) : callVL C P dfd (.methodOf t name) (.iface t' v :: rest) cap H pan = match C.meth t' name with
    | some g => callFL C P dfd g (v :: rest) H pan
    | none => none := by
  split
  · rename_i e
    refine unS mCallV fun n => ?_
    simp only [callV, h, hi, e]
  · rename_i e
    refine unN mCallV fun n => ?_
    simp only [callV, h, hi, e]

theorem mOf {t' : TypeId} {v : AV} {rest : List AV} {H : Heap} : callVL cfg0 prog0 false (.methodOf 125 "blockworks/wear.before") (.iface t' v :: rest) [] H none = match cfg0.meth t' "blockworks/wear.before" with
    | some g => callFL cfg0 prog0 false g (v :: rest) H none
    | none => none := callVL_methodOfI ty125 rfl

/-- An event's own methods. -/
theorem evz_call {w : Wea} (ho : w.Ok) {r i : Nat} (hi : i < w.es.length) : ∃ (t : TypeId) (v : AV) (g h : FuncId), (w.evz r i).av = .iface t v ∧ cfg0.meth t "blockworks/wear.after" = some g ∧ cfg0.meth t "blockworks/wear.before" = some h ∧
    (∀ (K : Int) (p : Int × Int) (G : Heap), K ≤ 8000000 → bd K p → callFL cfg0 prog0 false g [v, KV p] G none = some ⟨.ret (KV ((w.evz r i).aft p)), G, none⟩) ∧
    (∀ (K : Int) (p : Int × Int) (G : Heap), K ≤ 8000000 → bd K p → callFL cfg0 prog0 false h [v, KV p] G none = some ⟨.ret (KV ((w.evz r i).bef p)), G, none⟩) := by
  rcases w.evz_cases ho r hi with ⟨lo, h, e, h1, h2, h3⟩ | ⟨lo, h, e, h1, h2, h3⟩ | e
  · rw [e]
    refine ⟨143, .agg [I lo, I h], 112, 113, rfl, rfl, rfl, fun K p G hK hp => ?_, fun K p G hK hp => ?_⟩
    · obtain ⟨b1, b2⟩ := bd_ok hK hp
      exact ev_t_aft p.1 p.2 lo h b1 b2 (by omega) (by omega) G
    · obtain ⟨b1, b2⟩ := bd_ok hK hp
      exact ev_t_bef p.1 p.2 lo h b1 b2 (by omega) (by omega) G
  · rw [e]
    exact ⟨147, .agg [I lo, I h], 118, 119, rfl, rfl, rfl, fun K p G hK hp => ev_r_aft p.1 p.2 lo h G, fun K p G hK hp => ev_r_bef p.1 p.2 lo h G⟩
  · rw [e]
    exact ⟨145, .agg [], 116, 117, rfl, rfl, rfl, fun K p G hK hp => ev_n_aft p.1 p.2 G, fun K p G hK hp => ev_n_bef p.1 p.2 G⟩

end Go.Ab
/-
  What is known at first, and after each event: walked.
-/
namespace Go.Ab
open Go.Proofs
set_option linter.unusedSimpArgs false
set_option linter.unusedVariables false
set_option maxRecDepth 100000

variable {H : Heap}

def qkey (r : Nat) (q : Int × Int) : AV := .agg [U r, I q.1, I q.2]
def Wea.logV (w : Wea) (r : Nat) (q : Int × Int) : AV := .agg (pc (w.at r q) 0 9)

/-- What has been known by then, forward. -/
def Wea.fA (w : Wea) (r : Nat) (q : Int × Int) (m i : Nat) : Int × Int := if i ≤ m then w.fwd r q i else (0, 0)

theorem fA_step (w : Wea) (r : Nat) (q : Int × Int) {m : Nat} (hm : m < 8) : pc (fun k => if k = 0 + (m + 1) then (w.evz r m).aft (w.fwd r q m) else w.fA r q m k) 0 9 = pc (w.fA r q (m + 1)) 0 9 := by
  refine pc_congr _ _ (fun i _ _ => ?_)
  simp only [Wea.fA]
  by_cases h : i = 0 + (m + 1)
  · rw [if_pos h, if_pos (by omega), h, Nat.zero_add]; rfl
  · rw [if_neg h]
    by_cases h2 : i ≤ m
    · rw [if_pos h2, if_pos (by omega)]
    · rw [if_neg h2, if_neg (by omega)]

theorem fwd_hears {l lo lm : Nat} {w : Wea} (h : BlAt H l lo lm w) (ho : w.Ok) {r : Nat} (hr : r < 256) {q : Int × Int} (hq : bd 1048576 q) (o1 o2 o3 : AO) (E : Env) (g7 : E.get 7 = .ptr (H.length + 3) 0) :
    HearsE w r false l lo lm (H.length + 4) (H.length + 6) (H.length + 5) (H.length + 9) (H.length + 8)
      (fun m => H ++ [o1, o2, o3, .box (.agg (pc (w.fA r q m) 0 9)), .box (.ptr l 0), .box (U r), .box (.bool false), .dfr, .loop (loopRec Tryd.f48 48 0 E (H.length + 7))]) := by
  refine ⟨fun m => by simp, fun m => by rw [get_at']; rfl, fun m => by rw [get_at']; rfl, fun m => by rw [get_at']; rfl, fun m => ⟨by rw [get_lt (List.getElem?_eq_some_iff.1 h.box).1]; exact h.box, h.own.app _⟩, fun m hm => ?_⟩
  have h8 := ho.many
  have hbd := fwd_bd ho r hq m (by omega)
  obtain ⟨tv, vv, fg, fh, hav, hme, -, hev', -⟩ := evz_call ho (r := r) hm
  have hev := fun G => hev' (1048576 + 60 * m) (w.fwd r q m) G (by omega) hbd
  have hrd := pc_read (w.fA r q m) 9 0 m (by omega)
  have hwr := pc_write (w.fA r q m) ((w.evz r m).aft (w.fwd r q m)) 9 0 (m + 1) (by omega)
  have hfm : w.fA r q m (0 + m) = w.fwd r q m := by rw [Nat.zero_add]; simp [Wea.fA]
  rw [fA_step w r q (by omega)] at hwr
  rw [hfm] at hrd
  have hpl : (pc (w.fA r q m) 0 9).length = 18 := pc_len (w.fA r q m) 9 0
  rw [Nat.mul_comm] at hrd
  rw [Nat.mul_comm] at hwr
  simp only [List.cons_append, List.nil_append] at hwr
  have e1 : ((m : Int) + 1).toNat = m + 1 := by omega
  have b1 : m * 2 ≤ 16 := by omega
  have b2 : (m + 1) * 2 ≤ 16 := by omega
  simp only [Bool.false_eq_true, if_false, hav]
  simp (maxSteps := 1000000) (implicitDefEqProofs := false) (disch := first | rfl | omega | assumption) only [go_sem, ltT, ltF, leT, leF, loopRec, rangesOf, List.nil_append, List.append_nil, List.cons_append, List.getElem?_cons_zero, List.getElem?_cons_succ, Tryd.f48, g7]
  rw [chkK_of]; rotate_left; kernel_rfl
  simp (maxSteps := 1000000) (implicitDefEqProofs := false) (disch := first | rfl | omega | assumption) only [go_sem, ltT, ltF, leT, leF, loopRec, rangesOf, List.nil_append, List.append_nil, List.cons_append, List.getElem?_cons_zero, List.getElem?_cons_succ, Tryd.f48, g7, hrd, hwr, hpl, hev, hme, e1, b1, b2]

/-- What has been known by then, back from the end. -/
def Wea.fB (w : Wea) (r : Nat) (q : Int × Int) (m i : Nat) : Int × Int := if i ≤ w.es.length then (if i + m < w.es.length then w.fwd r q i else w.bk r q (w.es.length - i)) else (0, 0)

theorem fB_zero (w : Wea) (r : Nat) (q : Int × Int) : pc (w.fB r q 0) 0 9 = pc (w.fA r q w.es.length) 0 9 := by
  refine pc_congr _ _ (fun i _ _ => ?_)
  simp only [Wea.fA, Wea.fB]
  by_cases h : i ≤ w.es.length
  · rw [if_pos h, if_pos h]
    by_cases h2 : i < w.es.length
    · rw [if_pos (by omega)]
    · rw [if_neg (by omega), show i = w.es.length by omega, Nat.sub_self]; rfl
  · rw [if_neg h, if_neg h]

theorem fB_last (w : Wea) (r : Nat) (q : Int × Int) : pc (w.fB r q w.es.length) 0 9 = pc (w.at r q) 0 9 := by
  refine pc_congr _ _ (fun i _ _ => ?_)
  simp only [Wea.at, Wea.fB]
  by_cases h : i ≤ w.es.length
  · rw [if_pos h, if_pos h, if_neg (by omega)]
  · rw [if_neg h, if_neg h]

theorem fB_step (w : Wea) (r : Nat) (q : Int × Int) {m : Nat} (hm : m < w.es.length) : pc (fun k => if k = 0 + (w.es.length - 1 - m) then w.bk r q (m + 1) else w.fB r q m k) 0 9 = pc (w.fB r q (m + 1)) 0 9 := by
  refine pc_congr _ _ (fun i _ _ => ?_)
  simp only [Wea.fB]
  by_cases h : i = 0 + (w.es.length - 1 - m)
  · rw [if_pos h, if_pos (by omega), if_neg (by omega), show w.es.length - i = m + 1 by omega]
  · rw [if_neg h]
    by_cases h2 : i ≤ w.es.length
    · rw [if_pos h2, if_pos h2]
      by_cases h3 : i + (m + 1) < w.es.length
      · rw [if_pos (by omega), if_pos h3]
      · rw [if_neg (by omega), if_neg h3]
    · rw [if_neg h2, if_neg h2]

theorem bwd_hears {l lo lm : Nat} {w : Wea} (h : BlAt H l lo lm w) (ho : w.Ok) {r : Nat} (hr : r < 256) {q : Int × Int} (hq : bd 1048576 q) (o1 o2 o3 o5 o6 o7 o8 o9 : AO) (E : Env) (g7 : E.get 7 = .ptr (H.length + 3) 0) (g10 : E.get 10 = .ptr (H.length + 9) 0) :
    HearsE w r true l lo lm (H.length + 10) (H.length + 12) (H.length + 11) (H.length + 15) (H.length + 14)
      (fun m => H ++ [o1, o2, o3, .box (.agg (pc (w.fB r q m) 0 9)), o5, o6, o7, o8, o9, .box (.func (.methodOf 125 "blockworks/wear.before") [] []), .box (.ptr l 0), .box (U r), .box (.bool true), .dfr, .loop (loopRec Tryd.f48 48 1 E (H.length + 13))]) := by
  refine ⟨fun m => by simp, fun m => by rw [get_at']; rfl, fun m => by rw [get_at']; rfl, fun m => by rw [get_at']; rfl, fun m => ⟨by rw [get_lt (List.getElem?_eq_some_iff.1 h.box).1]; exact h.box, h.own.app _⟩, fun m hm => ?_⟩
  have h8 := ho.many
  have hbd := bk_bd ho r hq m (by omega)
  obtain ⟨tv, vv, fg, fh, hav, -, hme, -, hev'⟩ := evz_call ho (r := r) (i := w.es.length - 1 - m) (by omega)
  have hev := fun G => hev' (1048576 + 480 + 60 * m) (w.bk r q m) G (by omega) hbd
  have hrd := pc_read (w.fB r q m) 9 0 (w.es.length - 1 - m) (by omega)
  have hrd2 := pc_read (w.fB r q m) 9 0 (w.es.length - 1 - m + 1) (by omega)
  have hwr := pc_write (w.fB r q m) (w.bk r q (m + 1)) 9 0 (w.es.length - 1 - m) (by omega)
  have hbo := fun G => we_both (w.fwd r q (w.es.length - 1 - m)).1 (w.fwd r q (w.es.length - 1 - m)).2 ((w.evz r (w.es.length - 1 - m)).bef (w.bk r q m)).1 ((w.evz r (w.es.length - 1 - m)).bef (w.bk r q m)).2 G
  have hbk : bothP (w.fwd r q (w.es.length - 1 - m)) ((w.evz r (w.es.length - 1 - m)).bef (w.bk r q m)) = w.bk r q (m + 1) := rfl
  simp only [Prod.eta, hbk] at hbo
  have hf1 : w.fB r q m (0 + (w.es.length - 1 - m)) = w.fwd r q (w.es.length - 1 - m) := by
    rw [Nat.zero_add]; simp only [Wea.fB]; rw [if_pos (by omega), if_pos (by omega)]
  have hf2 : w.fB r q m (0 + (w.es.length - 1 - m + 1)) = w.bk r q m := by
    rw [Nat.zero_add]; simp only [Wea.fB]; rw [if_pos (by omega), if_neg (by omega)]
    congr 1
    omega
  rw [fB_step w r q hm] at hwr
  rw [hf1] at hrd
  rw [hf2] at hrd2
  have hpl : (pc (w.fB r q m) 0 9).length = 18 := pc_len (w.fB r q m) 9 0
  rw [Nat.mul_comm] at hrd hrd2 hwr
  simp only [List.cons_append, List.nil_append] at hwr
  simp only [if_true]
  have hi : w.es.length - 1 - m < 8 := by omega
  clear hf1 hf2 hbk
  rw [hav]
  generalize w.es.length - 1 - m = i at *
  have e1 : ((i : Int) + 1).toNat = i + 1 := by omega
  have b1 : i * 2 ≤ 16 := by omega
  have b2 : (i + 1) * 2 ≤ 16 := by omega
  simp (maxSteps := 1000000) (implicitDefEqProofs := false) (disch := first | rfl | omega | assumption) only [go_sem, ltT, ltF, leT, leF, loopRec, rangesOf, List.nil_append, List.append_nil, List.cons_append, List.getElem?_cons_zero, List.getElem?_cons_succ, Tryd.f48, g7, g10]
  rw [chkK_of]; rotate_left; kernel_rfl
  simp (maxSteps := 1000000) (implicitDefEqProofs := false) (disch := first | rfl | omega | assumption) only [go_sem, ltT, ltF, leT, leF, loopRec, rangesOf, List.nil_append, List.append_nil, List.cons_append, List.getElem?_cons_zero, List.getElem?_cons_succ, Tryd.f48, g7, g10, hrd, hrd2, hwr, hpl, hev, hme, mOf, hbo, e1, b1, b2]

theorem fA_zero (w : Wea) (r : Nat) (q : Int × Int) : pc (w.fA r q 0) 0 9 = [I q.1, I q.2, I 0, I 0, I 0, I 0, I 0, I 0, I 0, I 0, I 0, I 0, I 0, I 0, I 0, I 0, I 0, I 0] := rfl

theorem pc_scal (f : Nat → Int × Int) : ∀ q j, allScalar (pc f j q) = true
  | 0, _ => rfl
  | q + 1, j => by simp only [pc, allScalar, pc_scal f q, I, AV.scalar, Bool.and_self]

theorem pc_lt (f : Nat → Int × Int) (N : Nat) : ∀ q j, ltL N (pc f j q) = true
  | 0, _ => rfl
  | q + 1, j => by simp only [pc, ltL, pc_lt f N q, I, AV.lt, Bool.and_self]

theorem pc_seal (f : Nat → Int × Int) (G : Heap) (N : Nat) : ∀ q j, (pc f j q).map (sealG G N) = pc f j q
  | 0, _ => rfl
  | q + 1, j => by simp only [pc, List.map_cons, pc_seal f G N q, sealG_int]

theorem follow_miss {l lo lm : Nat} {w : Wea} (h : BlAt H l lo lm w) (ho : w.Ok) {r : Nat} (hr : r < 256) {q : Int × Int} (hq : bd 1048576 q) {es : List (AV × AV)} (hm : H[lm]? = some (.map 88 es)) (he : lookupM (.agg [U r, I q.1, I q.2]) es = none) :
    callFL cfg0 prog0 false 48 [.ptr l 0, qkey r q] H none = some ⟨.ret (w.logV r q), H.set lm (.map 88 (putM (qkey r q) (w.logV r q) es)), none⟩ := by
  have hl : l < H.length := (List.getElem?_eq_some_iff.1 h.box).1
  have hlm : lm < H.length := (List.getElem?_eq_some_iff.1 hm).1
  have hb := h.box
  have hev := fun (back : Bool) (G : Heap) => we_events (l := l) (r := r) back G
  have hI1 := fun (o1 o2 o3 : AO) (E : List (Nat × AV)) (g7 : Env.get E 7 = .ptr (H.length + 3) 0) => events_it ho hr (fwd_hears h ho hr hq o1 o2 o3 E g7)
  have hI2 := fun (o1 o2 o3 o5 o6 o7 o8 o9 : AO) (E : List (Nat × AV)) (g7 : Env.get E 7 = .ptr (H.length + 3) 0) (g10 : Env.get E 10 = .ptr (H.length + 9) 0) => events_it ho hr (bwd_hears h ho hr hq o1 o2 o3 o5 o6 o7 o8 o9 E g7 g10)
  simp only [loopRec, rangesOf, List.nil_append, List.append_nil, List.cons_append, List.getElem?_cons_zero, List.getElem?_cons_succ, Tryd.f48, fA_zero] at hI1
  simp only [loopRec, rangesOf, List.nil_append, List.append_nil, List.cons_append, List.getElem?_cons_zero, List.getElem?_cons_succ, Tryd.f48, fB_zero, fB_last] at hI2
  have hpl : (pc (w.at r q) 0 9).length = 18 := pc_len (w.at r q) 9 0
  have htk : List.take 18 (pc (w.at r q) 0 9) = pc (w.at r q) 0 9 := List.take_of_length_le (by rw [hpl]; exact Nat.le_refl _)
  have hps := pc_scal (w.at r q) 9 0
  have hpt := fun N => pc_lt (w.at r q) N 9 0
  simp only [qkey, Wea.logV]
  refine (callFL_eq fn48 rfl (by simp [Tryd.f48])).trans ?_
  simp (maxSteps := 1000000) (implicitDefEqProofs := false) (disch := first | rfl | omega | assumption) only [go_sem, ltT, ltF, leT, leF, get_lt hl, get_lt hlm, hb, hm]
  rw [chkK_of]; rotate_left; kernel_rfl
  simp (maxSteps := 1000000) (implicitDefEqProofs := false) (disch := first | rfl | omega | assumption) only [go_sem, ltT, ltF, leT, leF, get_lt hl, get_lt hlm, hb, hm, he]
  simp (maxSteps := 1000000) (implicitDefEqProofs := false) (disch := first | rfl | omega | assumption) only [go_sem, ltT, ltF, leT, leF, hev]
  rw [hI1 _ _ _ _ (by rfl)]
  simp (maxSteps := 1000000) (implicitDefEqProofs := false) (disch := first | rfl | omega | assumption) only [go_sem, ltT, ltF, leT, leF, hev]
  rw [hI2 _ _ _ _ _ _ _ _ _ (by rfl) (by rfl)]
  simp (maxSteps := 1000000) (implicitDefEqProofs := false) (disch := first | rfl | omega | assumption) only [go_sem, ltT, ltF, leT, leF, get_lt hl, get_lt hlm, hb, hm, hpl, htk, hps, hpt]
  rw [chkK_of]; rotate_left; kernel_rfl
  simp (maxSteps := 1000000) (implicitDefEqProofs := false) (disch := first | rfl | omega | assumption) only [go_sem, ltT, ltF, leT, leF, get_lt hl, get_lt hlm, set_lt hlm, hb, hm, hpl, htk, hps, hpt, pc_seal, List.length_set]

theorem follow_hit {l lo lm : Nat} {w : Wea} (h : BlAt H l lo lm w) {r : Nat} {q : Int × Int} {es : List (AV × AV)} (hm : H[lm]? = some (.map 88 es)) (he : lookupM (.agg [U r, I q.1, I q.2]) es = some (.agg (pc (w.at r q) 0 9))) :
    callFL cfg0 prog0 false 48 [.ptr l 0, qkey r q] H none = some ⟨.ret (w.logV r q), H, none⟩ := by
  have hl : l < H.length := (List.getElem?_eq_some_iff.1 h.box).1
  have hlm : lm < H.length := (List.getElem?_eq_some_iff.1 hm).1
  have hb := h.box
  have hpl : (pc (w.at r q) 0 9).length = 18 := pc_len (w.at r q) 9 0
  have htk : List.take 18 (pc (w.at r q) 0 9) = pc (w.at r q) 0 9 := List.take_of_length_le (by rw [hpl]; exact Nat.le_refl _)
  have hps := pc_scal (w.at r q) 9 0
  have hpt := fun N => pc_lt (w.at r q) N 9 0
  simp only [qkey, Wea.logV]
  refine (callFL_eq fn48 rfl (by simp [Tryd.f48])).trans ?_
  simp (maxSteps := 1000000) (implicitDefEqProofs := false) (disch := first | rfl | omega | assumption) only [go_sem, ltT, ltF, leT, leF, get_lt hl, get_lt hlm, hb, hm]
  rw [chkK_of]; rotate_left; kernel_rfl
  simp (maxSteps := 1000000) (implicitDefEqProofs := false) (disch := first | rfl | omega | assumption) only [go_sem, ltT, ltF, leT, leF, get_lt hl, get_lt hlm, hb, hm, he, hpl, htk, hps, hpt, pc_seal]

theorem lookup_put (k v k' : AV) : ∀ es : List (AV × AV), lookupM k' (putM k v es) = if k'.same k then some v else lookupM k' es
  | [] => by simp [putM, lookupM]
  | (k1, v1) :: r => by
    by_cases h : k.same k1
    · have := same_eq _ _ h
      subst this
      simp only [putM, h, if_true, lookupM]
      split <;> simp_all
    · simp only [putM, h, lookupM]
      by_cases h2 : k'.same k1
      · have := same_eq _ _ h2
        subst this
        have h3 : k'.same k = false := by
          cases h4 : k'.same k with
          | false => rfl
          | true =>
            have := same_eq _ _ h4
            subst this
            exact absurd (AV.same_refl _) h
        simp [h3, AV.same_refl, lookupM]
      · simp [h2, lookup_put k v k' r, lookupM]

theorem qkey_same (r s : Nat) (p q : Int × Int) : (qkey r p).same (qkey s q) = true ↔ r = s ∧ p = q := by
  constructor
  · intro h
    have := same_eq _ _ h
    simp only [qkey, I, AV.agg.injEq, List.cons.injEq, AV.int.injEq, true_and, and_true, Int.natCast_inj] at this
    exact ⟨this.1, Prod.ext this.2.1 this.2.2⟩
  · rintro ⟨rfl, rfl⟩; exact AV.same_refl _

/-- What is kept is what is known. -/
def GoodM (w : Wea) (es : List (AV × AV)) : Prop := ∀ r q v, lookupM (qkey r q) es = some v → v = w.logV r q

theorem GoodM.nil (w : Wea) : GoodM w [] := fun _ _ _ h => by cases h

def Wea.folM (w : Wea) (r : Nat) (q : Int × Int) (es : List (AV × AV)) : List (AV × AV) := match lookupM (qkey r q) es with
  | some _ => es
  | none => putM (qkey r q) (w.logV r q) es

theorem GoodM.fol {w : Wea} {es : List (AV × AV)} (h : GoodM w es) (r : Nat) (q : Int × Int) : GoodM w (w.folM r q es) := by
  unfold Wea.folM
  split
  · exact h
  · intro s p v hv
    rw [lookup_put] at hv
    by_cases hs : (qkey s p).same (qkey r q) = true
    · rw [if_pos hs] at hv
      obtain ⟨rfl, rfl⟩ := (qkey_same _ _ _ _).1 hs
      injection hv with hv
      exact hv.symm
    · rw [if_neg hs] at hv
      exact h s p v hv

theorem we_follow {l lo lm : Nat} {w : Wea} (h : BlAt H l lo lm w) (ho : w.Ok) {r : Nat} (hr : r < 256) {q : Int × Int} (hq : bd 1048576 q) {es : List (AV × AV)} (hm : H[lm]? = some (.map 88 es)) (hg : GoodM w es) :
    callFL cfg0 prog0 false 48 [.ptr l 0, qkey r q] H none = some ⟨.ret (w.logV r q), H.set lm (.map 88 (w.folM r q es)), none⟩ := by
  cases he : lookupM (qkey r q) es with
  | none =>
    rw [follow_miss h ho hr hq hm he]
    simp only [Wea.folM, he]
  | some v =>
    have hv := hg r q v he
    subst hv
    rw [follow_hit h hm he]
    simp only [Wea.folM, he, set_self hm]

end Go.Ab
/-
  All readings; whether there is a truth; what is told.
-/
namespace Go.Ab
open Go.Proofs
set_option linter.unusedSimpArgs false
set_option linter.unusedVariables false
set_option maxRecDepth 100000

variable {H : Heap}

theorem BlAt.app {l lo lm : Nat} {w : Wea} (h : BlAt H l lo lm w) (G : Heap) : BlAt (H ++ G) l lo lm w :=
  ⟨by rw [get_lt (List.getElem?_eq_some_iff.1 h.box).1]; exact h.box, h.own.app G⟩

theorem BlAt.upd {l lo lm : Nat} {w : Wea} (h : BlAt H l lo lm w) {es : List (AV × AV)} (hm : H[lm]? = some (.map 88 es)) (es' : List (AV × AV)) : BlAt (H.set lm (.map 88 es')) l lo lm w := by
  have h1 : lm ≠ l := by rintro rfl; rw [h.box] at hm; cases hm
  have h2 : lm ≠ lo := by
    rintro rfl
    have := h.own.1
    simp only at this
    rw [hm] at this
    cases this.1
  refine ⟨by rw [List.getElem?_set_ne h1]; exact h.box, ?_, h.own.2⟩
  have := h.own.1
  simp only at this ⊢
  rw [List.getElem?_set_ne h2]; exact this

theorem BlAt.lt {l lo lm : Nat} {w : Wea} (h : BlAt H l lo lm w) : lo < H.length := by
  have := h.own.1
  simp only at this
  exact (List.getElem?_eq_some_iff.1 this.1).1

/-- The set of all readings. -/
def Wea.rd (w : Wea) : Nat := maskN (fun i => decide ((w.ev i).k = 1)) w.es.length

theorem reads_loop {l lo lm : Nat} {w : Wea} (h : BlAt H l lo lm w) (ho : w.Ok) :
    ∀ (q j : Nat), j + q = w.es.length → ∀ (G : Heap), ∀ E : Env, E.get 2 = U (maskN (fun i => decide ((w.ev i).k = 1)) j) → E.get 9 = .gsl lo w.es.length → E.get 10 = I w.es.length → E.get 11 = I j →
    Option.map (finishC H.length) (execL cfg0 prog0 ⟨49, none, false, H.length⟩ (todoAt Tryd.f49 2) ⟨E, [], H ++ G, none⟩) = some ⟨.ret (U w.rd), H, none⟩ := by
  intro q
  have h8 := ho.many
  have hlo := h.lt
  obtain ⟨a1, a2, a3, a4, a5⟩ := h.own.fA (d := ev0)
  induction q with
  | zero =>
    intro j hj G E g2 g9 g10 g11
    have hk' : ¬ (j : Int) < ((w.es.length : Nat) : Int) := by omega
    have ej : j = w.es.length := by omega
    subst ej
    simp only [loopIt, todoPast, todoAt, todoOf, firstReg, ↓reduceIte, Option.some.injEq, Nat.reduceEqDiff, reduceCtorEq, Tryd.f49]
    rw [execL_inLoop]
    simp (maxSteps := 1000000) (implicitDefEqProofs := false) (disch := first | rfl | omega | assumption) only [go_sem, g2, g9, g10, g11, ltT, ltF, leT, leF, hk', hlo, Wea.rd]
  | succ q ih =>
    intro j hj G E g2 g9 g10 g11
    have hk' : (j : Int) < ((w.es.length : Nat) : Int) := by omega
    have hk2 : j < w.es.length := by omega
    have hlt := maskN_lt (fun i => decide ((w.ev i).k = 1)) j
    have hp := two_pow_lt (show j < 60 by omega)
    have bo := bitsOr (a := maskN (fun i => decide ((w.ev i).k = 1)) j) (b := 2 ^ j) (by omega) (by omega)
    have sh := shlU (k := j) (by omega)
    have z : ¬ (j : Int) < 0 := by omega
    have hr : ∀ f : Ev, readPart f.av.cells 0 ⟨.struct [(0, 3), (1, 3), (2, 23)], 4, 32, some (.agg #[.int .i64 0, .int .i64 0, .int .i64 0, .int .i64 0])⟩ = some f.av := fun _ => rfl
    simp only [loopIt, todoPast, todoAt, todoOf, firstReg, ↓reduceIte, Option.some.injEq, Nat.reduceEqDiff, reduceCtorEq, Tryd.f49]
    rw [execL_inLoop]
    by_cases hc : (w.ev j).k = 1
    · have em : maskN (fun i => decide ((w.ev i).k = 1)) (j + 1) = maskN (fun i => decide ((w.ev i).k = 1)) j ||| 2 ^ j := by simp only [maskN, hc, decide_true, if_true]
      simp (maxSteps := 1000000) (implicitDefEqProofs := false) (disch := first | rfl | omega | assumption) only [go_sem, g2, g9, g10, g11, ltT, ltF, leT, leF, hk', hlo, a1, a2, a3, a4, hr, Ev.av, hc, z, sh, bo]
      exact ih (j + 1) (by omega) _ _ (by rw [em]; rfl) (by rfl) (by rfl) (by rfl)
    · have em : maskN (fun i => decide ((w.ev i).k = 1)) (j + 1) = maskN (fun i => decide ((w.ev i).k = 1)) j := by simp only [maskN, hc, decide_false, Bool.false_eq_true, if_false, Nat.or_zero]
      have hc' : ((w.ev j).k == 1) = false := by simpa using hc
      simp (maxSteps := 1000000) (implicitDefEqProofs := false) (disch := first | rfl | omega | assumption) only [go_sem, g2, g9, g10, g11, ltT, ltF, leT, leF, hk', hlo, a1, a2, a3, a4, hr, Ev.av, hc', z, sh, bo]
      exact ih (j + 1) (by omega) _ _ (by rw [em]; rfl) (by rfl) (by rfl) (by rfl)

theorem we_reads {l lo lm : Nat} {w : Wea} (h : BlAt H l lo lm w) (ho : w.Ok) : callFL cfg0 prog0 false 49 [.ptr l 0] H none = some ⟨.ret (U w.rd), H, none⟩ := by
  have hb := h.box
  have h1 := reads_loop h ho w.es.length 0 (by omega) []
  rw [List.append_nil] at h1
  refine (callFL_eq fn49 rfl (by simp [Tryd.f49])).trans ?_
  simp (maxSteps := 1000000) (implicitDefEqProofs := false) (disch := first | rfl | omega | assumption) only [go_sem, ltT, ltF, leT, leF, hb]
  exact h1 _ (by rfl) (by rfl) (by rfl) (by rfl)

theorem rd_lt {w : Wea} (ho : w.Ok) : w.rd < 256 := by
  have h1 := maskN_lt (fun i => decide ((w.ev i).k = 1)) w.es.length
  have h2 : (2 : Nat) ^ w.es.length ≤ 2 ^ 8 := Nat.pow_le_pow_right (by omega) ho.many
  simp only [Wea.rd]
  omega

abbrev Wea.L (w : Wea) : Int × Int := (w.llo, w.lhi)

theorem we_plain {l lo lm : Nat} {w : Wea} (h : BlAt H l lo lm w) (ho : w.Ok) : callFL cfg0 prog0 false 67 [.ptr l 0] H none = some ⟨.ret (qkey w.rd w.L), H, none⟩ := by
  have hl : l < H.length := (List.getElem?_eq_some_iff.1 h.box).1
  have hb := h.box
  have hR := fun G => we_reads (h.app G) ho
  simp only [qkey, Wea.L]
  refine (callFL_eq fn67 rfl (by simp [Tryd.f67])).trans ?_
  simp (maxSteps := 1000000) (implicitDefEqProofs := false) (disch := first | rfl | omega | assumption) only [go_sem, ltT, ltF, leT, leF, get_lt hl, hb, hR]
  rw [chkK_of]; rotate_left; kernel_rfl
  simp (maxSteps := 1000000) (implicitDefEqProofs := false) (disch := first | rfl | omega | assumption) only [go_sem, ltT, ltF, leT, leF, get_lt hl, hb, hR]

def Wea.canB (w : Wea) (r : Nat) (q : Int × Int) : Bool := decide ((w.at r q 0).1 ≤ (w.at r q 0).2)

theorem we_can {l lo lm : Nat} {w : Wea} (h : BlAt H l lo lm w) (ho : w.Ok) {r : Nat} (hr : r < 256) {q : Int × Int} (hq : bd 1048576 q) {es : List (AV × AV)} (hm : H[lm]? = some (.map 88 es)) (hg : GoodM w es) :
    callFL cfg0 prog0 false 66 [.ptr l 0, qkey r q] H none = some ⟨.ret (.bool (w.canB r q)), H.set lm (.map 88 (w.folM r q es)), none⟩ := by
  have hlm : lm < H.length := (List.getElem?_eq_some_iff.1 hm).1
  have hF := fun G => we_follow (h.app G) ho hr hq (by rw [get_lt hlm]; exact hm) hg
  have e1 : List.take 2 (pc (w.at r q) 0 9) = [I (w.at r q 0).1, I (w.at r q 0).2] := rfl
  have hpl : (pc (w.at r q) 0 9).length = 18 := pc_len (w.at r q) 9 0
  simp only [qkey, Wea.logV, Wea.canB] at hF ⊢
  refine (callFL_eq fn66 rfl (by simp [Tryd.f66])).trans ?_
  simp (maxSteps := 1000000) (implicitDefEqProofs := false) (disch := first | rfl | omega | assumption) only [go_sem, hF, set_lt hlm, we_some, e1, hpl]

end Go.Ab
/-
  What is told; the answers after an event, of limits, and of a reading.
-/
namespace Go.Ab
open Go.Proofs
set_option linter.unusedSimpArgs false
set_option linter.unusedVariables false
set_option maxRecDepth 100000

variable {H : Heap}

theorem folM_idem (w : Wea) (r : Nat) (q : Int × Int) (es : List (AV × AV)) : w.folM r q (w.folM r q es) = w.folM r q es := by
  cases he : lookupM (qkey r q) es with
  | some v =>
    have h1 : w.folM r q es = es := by simp only [Wea.folM, he]
    rw [h1, h1]
  | none =>
    have h1 : w.folM r q es = putM (qkey r q) (w.logV r q) es := by simp only [Wea.folM, he]
    have h2 : lookupM (qkey r q) (w.folM r q es) = some (w.logV r q) := by rw [h1, lookup_put, if_pos (AV.same_refl _)]
    generalize w.folM r q es = fs at *
    simp only [Wea.folM, h2]

theorem L_bd {w : Wea} (ho : w.Ok) : bd 1048576 w.L := by
  have := ho.len
  simp only [bd]; omega

/-- Whether there is a truth. -/
abbrev Wea.can (w : Wea) : Bool := w.canB w.rd w.L

theorem we_told {l lo lm : Nat} {w : Wea} (h : BlAt H l lo lm w) (ho : w.Ok) {es : List (AV × AV)} (hm : H[lm]? = some (.map 88 es)) (hg : GoodM w es) :
    callFL cfg0 prog0 false 44 [.ptr l 0] H none = some ⟨if w.can then .ret (w.logV w.rd w.L) else .pan (.iface 117 (I 10)), H.set lm (.map 88 (w.folM w.rd w.L es)), none⟩ := by
  have hlm : lm < H.length := (List.getElem?_eq_some_iff.1 hm).1
  have hlm2 : ∀ o, lm < (H.set lm o).length := fun o => by rw [List.length_set]; exact hlm
  have hP := fun G => we_plain (h.app G) ho
  have hP2 := fun G => we_plain ((h.upd hm (w.folM w.rd w.L es)).app G) ho
  have hC := fun G => we_can (h.app G) ho (rd_lt ho) (L_bd ho) (by rw [get_lt hlm]; exact hm) hg
  have hF := fun G => we_follow ((h.upd hm (w.folM w.rd w.L es)).app G) ho (rd_lt ho) (L_bd ho) (es := w.folM w.rd w.L es) (by rw [get_lt (hlm2 _), List.getElem?_set_self hlm]) (hg.fol _ _)
  have hpl : (pc (w.at w.rd w.L) 0 9).length = 18 := pc_len _ 9 0
  have htk : List.take 18 (pc (w.at w.rd w.L) 0 9) = pc (w.at w.rd w.L) 0 9 := List.take_of_length_le (by rw [hpl]; exact Nat.le_refl _)
  have hps := pc_scal (w.at w.rd w.L) 9 0
  have hpt := fun N => pc_lt (w.at w.rd w.L) N 9 0
  simp only [folM_idem] at hF
  simp only [qkey, Wea.logV, Wea.can] at hP hP2 hC hF ⊢
  refine (callFL_eq fn44 rfl (by simp [Tryd.f44])).trans ?_
  rcases Bool.eq_false_or_eq_true (w.canB w.rd w.L) with hc | hc
  rotate_left
  · simp only [hc, if_true, Bool.false_eq_true, if_false] at hC ⊢
    simp (maxSteps := 1000000) (implicitDefEqProofs := false) (disch := first | rfl | omega | assumption) only [go_sem, hP, hC, set_lt hlm, we_ask, List.length_set]
  · simp only [hc, if_true, Bool.false_eq_true, if_false] at hC ⊢
    simp (maxSteps := 1000000) (implicitDefEqProofs := false) (disch := first | rfl | omega | assumption) only [go_sem, hP, hP2, hC, hF, set_lt hlm, set_lt (hlm2 _), we_ask, List.length_set, hpl, htk, hps, hpt, pc_seal]

theorem pc_read2 (f : Nat → Int × Int) {i : Nat} (h : i < 9) : List.take 2 (List.drop (i * 2) (pc f 0 9)) = [I (f i).1, I (f i).2] := by
  rw [Nat.mul_comm, pc_read f 9 0 i h, Nat.zero_add]

theorem we_last {l lo lm : Nat} {w : Wea} (h : BlAt H l lo lm w) (ho : w.Ok) {es : List (AV × AV)} (hm : H[lm]? = some (.map 88 es)) (hg : GoodM w es) :
    callFL cfg0 prog0 false 56 [.ptr l 0] H none = some ⟨if w.can then .ret (KV (w.at w.rd w.L w.es.length)) else .pan (.iface 117 (I 10)), H.set lm (.map 88 (w.folM w.rd w.L es)), none⟩ := by
  have h8 := ho.many
  have hl : l < H.length := (List.getElem?_eq_some_iff.1 h.box).1
  have hlm : lm < H.length := (List.getElem?_eq_some_iff.1 hm).1
  have hlm2 : ∀ o, lm < (H.set lm o).length := fun o => by rw [List.length_set]; exact hlm
  have hl2 : ∀ o, l < (H.set lm o).length := fun o => by rw [List.length_set]; exact hl
  have hb := h.box
  have hb2 := (h.upd hm (w.folM w.rd w.L es)).box
  have hT := fun G => we_told (h.app G) ho (by rw [get_lt hlm]; exact hm) hg
  have hpl : (pc (w.at w.rd w.L) 0 9).length = 18 := pc_len _ 9 0
  have hrd := pc_read2 (w.at w.rd w.L) (i := w.es.length) (by omega)
  have b1 : w.es.length * 2 ≤ 16 := by omega
  simp only [Wea.logV] at hT
  refine (callFL_eq fn56 rfl (by simp [Tryd.f56])).trans ?_
  rcases Bool.eq_false_or_eq_true w.can with hc | hc
  rotate_left
  · simp only [hc, if_true, Bool.false_eq_true, if_false] at hT ⊢
    simp (maxSteps := 1000000) (implicitDefEqProofs := false) (disch := first | rfl | omega | assumption) only [go_sem, ltT, ltF, leT, leF]
    rw [chkK_of]; rotate_left; kernel_rfl
    simp (maxSteps := 1000000) (implicitDefEqProofs := false) (disch := first | rfl | omega | assumption) only [go_sem, ltT, ltF, leT, leF, hT, set_lt hlm, get_lt hl, hb, List.length_set]
  · simp only [hc, if_true, Bool.false_eq_true, if_false] at hT ⊢
    simp (maxSteps := 1000000) (implicitDefEqProofs := false) (disch := first | rfl | omega | assumption) only [go_sem, ltT, ltF, leT, leF]
    rw [chkK_of]; rotate_left; kernel_rfl
    simp (maxSteps := 1000000) (implicitDefEqProofs := false) (disch := first | rfl | omega | assumption) only [go_sem, ltT, ltF, leT, leF, hT, set_lt hlm, get_lt hl, hb, get_lt (hl2 _), hb2, hpl, hrd, b1, List.length_set]
  done

end Go.Ab
