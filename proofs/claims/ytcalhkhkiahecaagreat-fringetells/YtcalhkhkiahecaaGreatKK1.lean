/-
  Plain helpers of fringe and the reference.
-/
import Derived.Test.YtcalhkhkiahecaaGreatKK0
import Derived.ProofKit
import Derived.OpenShut
namespace Go.Ab
open Go.Proofs
set_option linter.unusedSimpArgs false
set_option linter.unusedVariables false
set_option maxRecDepth 100000
set_option maxHeartbeats 2000000

variable {H : Heap}

/-- Is a number from one to another one? -/
def wi (n lo hi : Int) : Bool := decide (lo ≤ n) && decide (n ≤ hi)

theorem fr_within (n lo hi : Int) (H : Heap) : callFL cfg0 prog0 false 83 [I n, I lo, I hi] H none = some ⟨.ret (.bool (wi n lo hi)), H, none⟩ := by
  refine (callFL_eq fn83 rfl (by simp [Tryz.f83])).trans ?_
  by_cases h1 : lo ≤ n <;> simp (implicitDefEqProofs := false) only [go_sem, h1, wi]

theorem fr_isLength (n : Int) (H : Heap) : callFL cfg0 prog0 false 36 [I n] H none = some ⟨.ret (.bool (wi n 0 2000)), H, none⟩ := by
  refine (callFL_eq fn36 rfl (by simp [Tryz.f36])).trans ?_
  simp (implicitDefEqProofs := false) only [go_sem, fr_within]

/-- The part of a fringe that a length leaves. -/
def ptZ (w n : Int) : Int := 20 * (n % w) / w

theorem ptZ_bd {w n : Int} (hw : 1 ≤ w) : 0 ≤ ptZ w n ∧ ptZ w n < 20 := by
  have h1 := Int.emod_nonneg n (show w ≠ 0 by omega)
  have h2 := Int.emod_lt_of_pos n (show 0 < w by omega)
  refine ⟨Int.ediv_nonneg (by omega) (by omega), Int.ediv_lt_of_lt_mul (by omega) (by omega)⟩

theorem fr_of (w n : Int) (hw : 1 ≤ w ∧ w ≤ 60) (hn : 0 ≤ n ∧ n ≤ 2000) (H : Heap) : callFL cfg0 prog0 false 39 [I w, I n] H none = some ⟨.ret (.agg [I (n / w), I (ptZ w n)]), H, none⟩ := by
  have h1 := Int.emod_nonneg n (show w ≠ 0 by omega)
  have h2 := Int.emod_lt_of_pos n (show 0 < w by omega)
  have z : ¬ w = 0 := by omega
  have t1 : n.tdiv w = n / w := Int.tdiv_eq_ediv_of_nonneg hn.1
  have t2 : n.tmod w = n % w := Int.tmod_eq_emod_of_nonneg hn.1
  have t3 : (20 * (n % w)).tdiv w = ptZ w n := Int.tdiv_eq_ediv_of_nonneg (by omega)
  have b1 := ptZ_bd (w := w) (n := n) (by omega)
  have b2 : 0 ≤ n / w := Int.ediv_nonneg hn.1 (by omega)
  have b3 : n / w ≤ n := Int.ediv_le_self _ hn.1
  have c1 : IntKind.i64.wrap (n / w) = n / w := w64 (by omega) (by omega)
  have c2 : IntKind.i64.wrap (20 * (n % w)) = 20 * (n % w) := w64 (by omega) (by omega)
  have c3 : IntKind.i64.wrap (ptZ w n) = ptZ w n := w64 (by omega) (by omega)
  refine (callFL_eq fn39 rfl (by simp [Tryz.f39])).trans ?_
  simp (implicitDefEqProofs := false) only [go_sem]
  rw [chkK_of]; rotate_left; kernel_rfl
  simp (implicitDefEqProofs := false) only [go_sem, z, t1, t2, t3, c1, c2, c3]

theorem fr_must (b : Bool) (e : Int) (H : Heap) : callFL cfg0 prog0 false 82 [.bool b, I e] H none = some ⟨if b then .ret (.tup []) else .pan (.iface 98 (.agg [I e])), H, none⟩ := by
  refine (callFL_eq fn82 rfl (by simp [Tryz.f82])).trans ?_
  cases b <;> simp (implicitDefEqProofs := false) only [go_sem]

theorem fr_stopn (l : Nat) (H : Heap) : callFL cfg0 prog0 false 33 [.nilIface, .ptr l 0] H none = some ⟨.ret (.tup []), H, none⟩ := by
  refine (callFL_eq fn33 rfl (by simp [Tryz.f33])).trans ?_
  simp (implicitDefEqProofs := false) only [go_sem]

theorem fr_stops (l : Nat) (x e : Int) (H : Heap) (h : H[l]? = some (.box (I x))) : callFL cfg0 prog0 false 33 [.iface 98 (.agg [I e]), .ptr l 0] H none = some ⟨.ret (.tup []), H.set l (.box (I e)), none⟩ := by
  have hl : l < H.length := (List.getElem?_eq_some_iff.1 h).1
  refine (callFL_eq fn33 rfl (by simp [Tryz.f33])).trans ?_
  simp (implicitDefEqProofs := false) only [go_sem, get_lt hl, set_lt hl, h]

theorem fr_defn (l : Nat) (H : Heap) : callFL cfg0 prog0 true 32 [.ptr l 0] H none = some ⟨.ret (.tup []), H, none⟩ := by
  refine (callFL_eq fn32 rfl (by simp [Tryz.f32])).trans ?_
  simp (implicitDefEqProofs := false) only [go_sem, fr_stopn]

theorem fr_defs (l : Nat) (e x : Int) (H : Heap) (h : H[l]? = some (.box (I x))) : callFL cfg0 prog0 true 32 [.ptr l 0] H (some (.iface 98 (.agg [I e]), false)) = some ⟨.ret (.tup []), H.set l (.box (I e)), some (.iface 98 (.agg [I e]), true)⟩ := by
  refine (callFL_eq fn32 rfl (by simp [Tryz.f32])).trans ?_
  simp (implicitDefEqProofs := false) only [go_sem, fr_stops l x e H h]

theorem scal_cells {x : AV} (hx : x.scalar = true) : x.cells = [x] := by cases x <;> first | rfl | cases hx

theorem ltI {N : Nat} (l : List Int) : ltL N (l.map I) = true := ltL_map (fun _ => rfl) l

theorem SlOk.fF {α : Type} {f : α → AV} {d : α} {sz : Nat} {v : AV} {xs : List α} (h : SlOk H sz v (xs.map f)) :
   (∀ (G : Heap) (te : Ty) (k : Int), te.size = sz → (0 ≤ k ∧ k < xs.length) → idxAddr (H ++ G) te v k = some (elA v k 0)) ∧
   (∀ (te : Ty) (k : Int), te.size = sz → (0 ≤ k ∧ k < xs.length) → idxAddr H te v k = some (elA v k 0)) ∧
   (∀ (G : Heap) (te : Ty) (k : Int) (off : Nat), (0 ≤ k ∧ k < xs.length) → evLoad (H ++ G) te (elA v k off) = readPart (f (xs.getD k.toNat d)).cells off te) ∧
   (∀ (te : Ty) (k : Int) (off : Nat), (0 ≤ k ∧ k < xs.length) → evLoad H te (elA v k off) = readPart (f (xs.getD k.toNat d)).cells off te) ∧
   (∀ (k : Int) (off o : Nat), addOff (elA v k off) o = some (elA v k (off + o))) := by
  have key : ∀ k : Int, (0 ≤ k ∧ k < xs.length) → (xs.map f)[k.toNat]? = some (f (xs.getD k.toNat d)) := by
    intro k hk
    have : k.toNat < xs.length := by omega
    simp [this]
  refine ⟨fun G te k hs hk => ?_, fun te k hs hk => ?_, fun G te k off hk => ?_, fun te k off hk => ?_, fun k off o => addOff_elA h⟩
  · exact (h.at hk.1 (key k hk)).2.2.2.1 G te hs
  · exact (h.at hk.1 (key k hk)).1 te hs
  · rw [(h.at hk.1 (key k hk)).2.2.2.2 G off te]
  · rw [(h.at hk.1 (key k hk)).2.1 off te]

end Go.Ab
/-
  Fringes: what is valid; open.
-/
namespace Go.Ab
open Go.Proofs
set_option linter.unusedSimpArgs false
set_option linter.unusedVariables false
set_option maxRecDepth 100000
set_option maxHeartbeats 1000000

variable {H : Heap}

theorem SlOk.seal {sz : Nat} {v : AV} {xs : List AV} (h : SlOk H sz v xs) (A : Heap) : sealG A H.length v = v := by
  have hl := h.lt0
  obtain ⟨h1, _⟩ := h
  cases v <;> simp only at h1
  · rfl
  · simp only [AV.lt, decide_eq_true_eq] at hl
    simp only [sealG, if_pos hl]

structure Rd where
  c : Int
  lo : Int
  hi : Int

def Rd.av (r : Rd) : AV := .agg [I r.c, I r.lo, I r.hi]
def rd0 : Rd := ⟨0, 0, 0⟩

/-- A fringe. -/
structure Frg where
  ws : List Int
  lo : Int
  hi : Int
  rs : List Rd

def Frg.av (f : Frg) (vw vr : AV) : AV := .agg [vw, I f.lo, I f.hi, vr]
abbrev Frg.w (f : Frg) (i : Nat) : Int := f.ws.getD i 0
abbrev Frg.r (f : Frg) (i : Nat) : Rd := f.rs.getD i rd0

structure FrAt (H : Heap) (f : Frg) (vw vr : AV) : Prop where
  ws : SlOk H 1 vw (f.ws.map I)
  rs : SlOk H 3 vr (f.rs.map Rd.av)

theorem FrAt.app {f : Frg} {vw vr : AV} (h : FrAt H f vw vr) (G : Heap) : FrAt (H ++ G) f vw vr := ⟨h.ws.app G, h.rs.app G⟩


/-- Whether a reading is one. -/
def Frg.rdOk (f : Frg) (r : Rd) : Bool := wi r.c 0 ((f.ws.length : Int) - 1) && (wi r.lo 0 19 && (decide (r.lo ≤ r.hi) && decide (r.hi ≤ r.lo + 19)))
def Frg.wsOk (f : Frg) (j q : Nat) : Bool := !anyF (fun i => !wi (f.w i) 2 60) j q
def Frg.rsOk (f : Frg) (j q : Nat) : Bool := !anyF (fun i => !f.rdOk (f.r i)) j q
def Frg.lenOk (f : Frg) : Bool := decide (0 ≤ f.lo) && (decide (f.lo ≤ f.hi) && (decide (f.hi ≤ 2000) && decide (f.hi - f.lo ≤ 400)))

/-- A fringe is valid. -/
def Frg.valid (f : Frg) : Bool := (wi f.ws.length 1 4 && decide ((f.rs.length : Int) ≤ 6)) && (f.wsOk 0 f.ws.length && (f.lenOk && f.rsOk 0 f.rs.length))

structure Frg.Ok (f : Frg) : Prop where
  many : 1 ≤ f.ws.length ∧ f.ws.length ≤ 4
  reads : f.rs.length ≤ 6
  wave : ∀ i, i < f.ws.length → 2 ≤ f.w i ∧ f.w i ≤ 60
  len : 0 ≤ f.lo ∧ f.lo ≤ f.hi ∧ f.hi ≤ 2000 ∧ f.hi - f.lo ≤ 400
  rd : ∀ i, i < f.rs.length → 0 ≤ (f.r i).c ∧ (f.r i).c < f.ws.length ∧ 0 ≤ (f.r i).lo ∧ (f.r i).lo ≤ 19 ∧ (f.r i).lo ≤ (f.r i).hi ∧ (f.r i).hi ≤ (f.r i).lo + 19

theorem Frg.valid_iff (f : Frg) : f.valid = true ↔ f.Ok := by
  have wi_iff : ∀ {n lo hi : Int}, wi n lo hi = true ↔ lo ≤ n ∧ n ≤ hi := by intro n lo hi; simp [wi]
  simp only [Frg.valid, Frg.wsOk, Frg.rsOk, Frg.lenOk, Frg.rdOk, Bool.and_eq_true, decide_eq_true_eq, Bool.not_eq_true', anyF_false, Bool.not_eq_false', wi_iff]
  constructor
  · rintro ⟨⟨a1, a2⟩, b, ⟨c1, c2, c3, c4⟩, d⟩
    refine ⟨by omega, by omega, fun i hi => b i (by omega) (by omega), ⟨c1, c2, c3, c4⟩, fun i hi => ?_⟩
    have := d i (by omega) (by omega)
    omega
  · rintro ⟨a, b, c, d, e⟩
    refine ⟨⟨by omega, by omega⟩, fun i _ hi => c i (by omega), ⟨by omega, by omega, by omega, by omega⟩, fun i _ hi => ?_⟩
    have := e i (by omega)
    omega

theorem fr_isColour {f : Frg} {vw vr : AV} (h : FrAt H f vw vr) (hl : f.ws.length ≤ 1000) (n : Int) : callFL cfg0 prog0 false 37 [f.av vw vr, I n] H none = some ⟨.ret (.bool (wi n 0 ((f.ws.length : Int) - 1))), H, none⟩ := by
  have s1 := h.ws.scal
  have s2 := h.rs.scal
  have hln := fun G : Heap => (h.ws.app G).len
  have hl2 := h.ws.len
  rw [List.length_map] at hl2
  simp only [Frg.av]
  refine (callFL_eq fn37 rfl (by simp [Tryz.f37])).trans ?_
  simp (maxSteps := 1000000) (implicitDefEqProofs := false) (disch := first | rfl | omega | assumption) only [go_sem, ltT, ltF, leT, leF, s1, s2, hl2, fr_within]

theorem fr_wave {f : Frg} {vw vr : AV} (h : FrAt H f vw vr) (n : Nat) (hn : n < f.ws.length) : callFL cfg0 prog0 false 38 [f.av vw vr, I n] H none = some ⟨.ret (I (f.w n)), H, none⟩ := by
  have s1 := h.ws.scal
  have s2 := h.rs.scal
  obtain ⟨a1, a2, a3, a4, a5⟩ := h.ws.fF (d := 0)
  simp only [Frg.av]
  refine (callFL_eq fn38 rfl (by simp [Tryz.f38])).trans ?_
  simp (maxSteps := 1000000) (implicitDefEqProofs := false) (disch := first | rfl | omega | assumption) only [go_sem, ltT, ltF, leT, leF, s1, s2, a1, a2, a3, a4]

theorem fr_every {f : Frg} {vw vr : AV} (h : FrAt H f vw vr) (hl : f.rs.length ≤ 6) : callFL cfg0 prog0 false 50 [f.av vw vr] H none = some ⟨.ret (.int .u64 ((2 ^ f.rs.length - 1 : Nat) : Int)), H, none⟩ := by
  have s1 := h.ws.scal
  have s2 := h.rs.scal
  have hl2 := h.rs.len
  rw [List.length_map] at hl2
  have e : ∀ n : Nat, n ≤ 6 → IntKind.u64.wrap (1 * 2 ^ (min n 64)) = ((2 ^ n : Nat) : Int) ∧ IntKind.u64.wrap (((2 ^ n : Nat) : Int) - 1) = ((2 ^ n - 1 : Nat) : Int) := by decide
  obtain ⟨e1, e2⟩ := e _ hl
  have z : ¬ (f.rs.length : Int) < 0 := by omega
  simp only [Frg.av]
  refine (callFL_eq fn50 rfl (by simp [Tryz.f50])).trans ?_
  simp (maxSteps := 1000000) (implicitDefEqProofs := false) (disch := first | rfl | omega | assumption) only [go_sem, s1, s2, hl2, z, Int.toNat_natCast, e1, e2]

theorem fr_always (v : AV) (hv : elemOk 4 true v = true) (H : Heap) : callFL cfg0 prog0 false 45 [v] H none = some ⟨.ret (.bool true), H, none⟩ := by
  refine (callFL_eq fn45 rfl (by simp [Tryz.f45])).trans ?_
  simp (maxSteps := 1000000) (implicitDefEqProofs := false) (disch := first | rfl | omega | assumption) only [go_sem, ltT, ltF, leT, leF, hv]

theorem frw_loop {f : Frg} {vw vr : AV} (h : FrAt H f vw vr) (hl : f.ws.length ≤ 1000) (fn : Fn) (cap : List AV) (r : Bool) (K : List Item) (R : Option Done) (hK : r = true → ∀ E : Env, E.get 1 = .func fn [] cap → E.get 2 = .ptr H.length 0 → E.get 4 = .ptr (H.length + 1) 0 → E.get 5 = .ptr (H.length + 2) 0 → Option.map (finishC H.length) (execL cfg0 prog0 ⟨34, none, false, H.length⟩ K ⟨E, [], H ++ [.box (.agg [vw, I f.lo, I f.hi, vr]), .box (.agg [.sl true [], I 0, I 0, .sl true []]), .box (.agg [vw, I f.lo, I f.hi, vr])], none⟩) = R) (e1 : r = false → R = some ⟨.pan (.iface 98 (.agg [I 1])), H, none⟩) :
    ∀ (q j : Nat), j + q = f.ws.length → f.wsOk j q = r → ∀ E : Env, E.get 1 = .func fn [] cap → E.get 2 = .ptr H.length 0 → E.get 4 = .ptr (H.length + 1) 0 → E.get 5 = .ptr (H.length + 2) 0 → E.get 24 = vw → E.get 25 = I f.ws.length → E.get 26 = I j →
    Option.map (finishC H.length) (execL cfg0 prog0 ⟨34, none, false, H.length⟩ (loopIt Tryz.f34 4 :: .inBlock 0 :: K) ⟨E, [], H ++ [.box (.agg [vw, I f.lo, I f.hi, vr]), .box (.agg [.sl true [], I 0, I 0, .sl true []]), .box (.agg [vw, I f.lo, I f.hi, vr])], none⟩) = R := by
  intro q
  obtain ⟨a1, a2, a3, a4, a5⟩ := h.ws.fF (d := 0)
  induction q with
  | zero =>
    intro j hj hr E g1 g2 g4 g5 g24 g25 g26
    have hk' : ¬ (j : Int) < ((f.ws.length : Nat) : Int) := by omega
    have hr1 : r = true := by rw [← hr]; rfl
    simp only [loopIt, todoPast, todoAt, todoOf, firstReg, ↓reduceIte, Option.some.injEq, Nat.reduceEqDiff, reduceCtorEq, Tryz.f34]
    rw [execL_inLoop]
    simp (maxSteps := 1000000) (implicitDefEqProofs := false) (disch := first | rfl | omega | assumption) only [go_sem, g1, g2, g4, g5, g24, g25, g26, ltT, ltF, leT, leF, hk']
    exact hK hr1 _ (by exact g1) (by exact g2) (by exact g4) (by exact g5)
  | succ q ih =>
    intro j hj hr E g1 g2 g4 g5 g24 g25 g26
    have hk' : (j : Int) < ((f.ws.length : Nat) : Int) := by omega
    have hk2 : j < f.ws.length := by omega
    have hu : f.wsOk j (q + 1) = (wi (f.w j) 2 60 && f.wsOk (j + 1) q) := by
      simp only [Frg.wsOk, anyF]
      cases wi (f.w j) 2 60 <;> simp
    rw [hu] at hr
    have hw : f.ws.getD j 0 = f.w j := rfl
    cases hc : wi (f.w j) 2 60
    · rw [hc, Bool.false_and] at hr
      rw [e1 hr.symm]
      simp only [loopIt, todoPast, todoAt, todoOf, firstReg, ↓reduceIte, Option.some.injEq, Nat.reduceEqDiff, reduceCtorEq, Tryz.f34]
      rw [execL_inLoop]
      simp (maxSteps := 1000000) (implicitDefEqProofs := false) (disch := first | rfl | omega | assumption) only [go_sem, g1, g2, g4, g5, g24, g25, g26, ltT, ltF, leT, leF, hk', a1, a2, a3, a4, hw, fr_within, fr_must, hc]
      done
    · rw [hc, Bool.true_and] at hr
      simp only [loopIt, todoPast, todoAt, todoOf, firstReg, ↓reduceIte, Option.some.injEq, Nat.reduceEqDiff, reduceCtorEq, Tryz.f34]
      rw [execL_inLoop]
      simp (maxSteps := 1000000) (implicitDefEqProofs := false) (disch := first | rfl | omega | assumption) only [go_sem, g1, g2, g4, g5, g24, g25, g26, ltT, ltF, leT, leF, hk', a1, a2, a3, a4, hw, fr_within, fr_must, hc]
      exact ih (j + 1) (by omega) hr _ (by exact g1) (by exact g2) (by exact g4) (by exact g5) (by exact g24) (by exact g25) (by rfl)

theorem frr_loop {f : Frg} {vw vr : AV} (h : FrAt H f vw vr) (hl : f.ws.length ≤ 1000 ∧ f.rs.length ≤ 1000) (fn : Fn) (cap : List AV) (hf : (AV.func fn [] cap).lt H.length = true) (r : Bool) (K : List Item) (R : Option Done) (hK : r = true → ∀ E : Env, E.get 1 = .func fn [] cap → E.get 4 = .ptr (H.length + 1) 0 → E.get 5 = .ptr (H.length + 2) 0 → Option.map (finishC H.length) (execL cfg0 prog0 ⟨34, none, false, H.length⟩ K ⟨E, [], H ++ [.box (.agg [vw, I f.lo, I f.hi, vr]), .box (.agg [.sl true [], I 0, I 0, .sl true []]), .box (.agg [vw, I f.lo, I f.hi, vr])], none⟩) = R) (e1 : r = false → R = some ⟨.pan (.iface 98 (.agg [I 1])), H, none⟩) :
    ∀ (q j : Nat), j + q = f.rs.length → ∀ (G : Heap), f.rsOk j q = r → ∀ E : Env, E.get 1 = .func fn [] cap → E.get 4 = .ptr (H.length + 1) 0 → E.get 5 = .ptr (H.length + 2) 0 → E.get 65 = vr → E.get 66 = I f.rs.length → E.get 67 = I j →
    Option.map (finishC H.length) (execL cfg0 prog0 ⟨34, none, false, H.length⟩ (loopIt Tryz.f34 10 :: .inBlock 2 :: K) ⟨E, [], H ++ (.box (.agg [vw, I f.lo, I f.hi, vr]) :: .box (.agg [.sl true [], I 0, I 0, .sl true []]) :: .box (.agg [vw, I f.lo, I f.hi, vr]) :: G), none⟩) = R := by
  intro q
  obtain ⟨a1, a2, a3, a4, a5⟩ := h.rs.fF (d := rd0)
  have s1 := h.ws.scal
  have s2 := h.rs.scal
  have t1 := h.ws.ltn 3
  have t2 := h.rs.ltn 3
  have hf3 : (fnLt (H.length + 3) fn && ltL (H.length + 3) cap) = true := by
    have := lt_mono (M := H.length + 3) (by omega) _ hf
    simpa [AV.lt, ltL] using this
  induction q with
  | zero =>
    intro j hj G hr E g1 g4 g5 g65 g66 g67
    have hk' : ¬ (j : Int) < ((f.rs.length : Nat) : Int) := by omega
    have hr1 : r = true := by rw [← hr]; rfl
    simp only [loopIt, todoPast, todoAt, todoOf, firstReg, ↓reduceIte, Option.some.injEq, Nat.reduceEqDiff, reduceCtorEq, Tryz.f34]
    rw [execL_inLoop]
    simp (maxSteps := 1000000) (implicitDefEqProofs := false) (disch := first | rfl | omega | assumption) only [go_sem, g1, g4, g5, g65, g66, g67, ltT, ltF, leT, leF, hk', s1, s2, t1, t2, hf3]
    exact hK hr1 _ (by rfl) (by rfl) (by rfl)
  | succ q ih =>
    intro j hj G hr E g1 g4 g5 g65 g66 g67
    have hk' : (j : Int) < ((f.rs.length : Nat) : Int) := by omega
    have hk2 : j < f.rs.length := by omega
    have hu : f.rsOk j (q + 1) = (f.rdOk (f.r j) && f.rsOk (j + 1) q) := by
      simp only [Frg.rsOk, anyF]
      cases f.rdOk (f.r j) <;> simp
    rw [hu] at hr
    obtain ⟨x, hx⟩ : ∃ x, f.rs.getD j rd0 = x := ⟨_, rfl⟩
    rw [show f.r j = x from hx] at hr
    have hrd := fun x : Rd => (show readPart x.av.cells 0 ⟨.struct [(0, 3), (1, 24)], 3, 24, some (.agg #[.int .i64 0, .int .i64 0, .int .i64 0])⟩ = some (.agg [I x.c, I x.lo, I x.hi]) from rfl)
    have hC := fun G : Heap => fr_isColour (h.app G) hl.1 x.c
    simp only [Frg.av] at hC
    have hok : f.rdOk x = (wi x.c 0 ((f.ws.length : Int) - 1) && (wi x.lo 0 19 && (decide (x.lo ≤ x.hi) && decide (x.hi ≤ x.lo + 19)))) := rfl
    have e20 : x.lo + 20 - 1 = x.lo + 19 := by omega
    cases hc1 : wi x.c 0 ((f.ws.length : Int) - 1)
    · rw [hok, hc1, Bool.false_and, Bool.false_and] at hr
      rw [e1 hr.symm]
      simp only [loopIt, todoPast, todoAt, todoOf, firstReg, ↓reduceIte, Option.some.injEq, Nat.reduceEqDiff, reduceCtorEq, Tryz.f34]
      rw [execL_inLoop]
      simp (maxSteps := 1000000) (implicitDefEqProofs := false) (disch := first | rfl | omega | assumption) only [go_sem, g1, g4, g5, g65, g66, g67, ltT, ltF, leT, leF, hk', s1, s2, t1, t2, hf3, a1, a2, a3, a4, hx, hrd, hC, fr_within, fr_must, hc1]
      done
    · cases hc2 : wi x.lo 0 19
      · rw [hok, hc1, hc2, Bool.false_and, Bool.and_false, Bool.false_and] at hr
        rw [e1 hr.symm]
        simp only [loopIt, todoPast, todoAt, todoOf, firstReg, ↓reduceIte, Option.some.injEq, Nat.reduceEqDiff, reduceCtorEq, Tryz.f34]
        rw [execL_inLoop]
        simp (maxSteps := 1000000) (implicitDefEqProofs := false) (disch := first | rfl | omega | assumption) only [go_sem, g1, g4, g5, g65, g66, g67, ltT, ltF, leT, leF, hk', s1, s2, t1, t2, hf3, a1, a2, a3, a4, hx, hrd, hC, fr_within, fr_must, hc1, hc2]
        done
      · have hlb : 0 ≤ x.lo ∧ x.lo ≤ 19 := by simpa [wi] using hc2
        by_cases hc3 : x.lo ≤ x.hi
        · by_cases hc4 : x.hi ≤ x.lo + 19
          · have hkk : f.rdOk x = true := by rw [hok, hc1, hc2]; simp [hc3, hc4]
            rw [hkk, Bool.true_and] at hr
            simp only [loopIt, todoPast, todoAt, todoOf, firstReg, ↓reduceIte, Option.some.injEq, Nat.reduceEqDiff, reduceCtorEq, Tryz.f34]
            rw [execL_inLoop]
            simp (maxSteps := 1000000) (implicitDefEqProofs := false) (disch := first | rfl | omega | assumption) only [go_sem, g1, g4, g5, g65, g66, g67, ltT, ltF, leT, leF, hk', s1, s2, t1, t2, hf3, a1, a2, a3, a4, hx, hrd, hC, fr_within, fr_must, hc1, hc2, hc3, e20, hc4]
            exact ih (j + 1) (by omega) [.box (.agg [I x.c, I x.lo, I x.hi])] hr _ (by rfl) (by rfl) (by rfl) (by rfl) (by rfl) (by rfl)
          · have hkk : f.rdOk x = false := by rw [hok, hc1, hc2]; simp [hc3, hc4]
            rw [hkk, Bool.false_and] at hr
            rw [e1 hr.symm]
            simp only [loopIt, todoPast, todoAt, todoOf, firstReg, ↓reduceIte, Option.some.injEq, Nat.reduceEqDiff, reduceCtorEq, Tryz.f34]
            rw [execL_inLoop]
            simp (maxSteps := 1000000) (implicitDefEqProofs := false) (disch := first | rfl | omega | assumption) only [go_sem, g1, g4, g5, g65, g66, g67, ltT, ltF, leT, leF, hk', s1, s2, t1, t2, hf3, a1, a2, a3, a4, hx, hrd, hC, fr_within, fr_must, hc1, hc2, hc3, e20, hc4]
            done
        · have hkk : f.rdOk x = false := by rw [hok, hc1, hc2]; simp [hc3]
          rw [hkk, Bool.false_and] at hr
          rw [e1 hr.symm]
          simp only [loopIt, todoPast, todoAt, todoOf, firstReg, ↓reduceIte, Option.some.injEq, Nat.reduceEqDiff, reduceCtorEq, Tryz.f34]
          rw [execL_inLoop]
          simp (maxSteps := 1000000) (implicitDefEqProofs := false) (disch := first | rfl | omega | assumption) only [go_sem, g1, g4, g5, g65, g66, g67, ltT, ltF, leT, leF, hk', s1, s2, t1, t2, hf3, a1, a2, a3, a4, hx, hrd, hC, fr_within, fr_must, hc1, hc2, hc3]
          done

theorem fr_open {f : Frg} {vw vr : AV} (h : FrAt H f vw vr) (hl : f.ws.length ≤ 1000 ∧ f.rs.length ≤ 1000) (fn : Fn) (cap : List AV) (hf : (AV.func fn [] cap).lt H.length = true) (r : Bool) (hr : f.valid = true → ∀ G : Heap, callVL cfg0 prog0 false fn [.agg [vw, I f.lo, I f.hi, vr]] cap (H ++ G) none = some ⟨.ret (.bool r), H ++ G, none⟩) :
    callFL cfg0 prog0 false 34 [.agg [vw, I f.lo, I f.hi, vr], .func fn [] cap] H none = some ⟨if f.valid then (if r then .ret (.agg [vw, I f.lo, I f.hi, vr]) else .pan (.iface 98 (.agg [I 2]))) else .pan (.iface 98 (.agg [I 1])), H, none⟩ := by
  have s1 := h.ws.scal
  have s2 := h.rs.scal
  have n1 := h.ws.len
  have n2 := h.rs.len
  have e1 := h.ws.seal
  have e2 := h.rs.seal
  have l1 := h.ws.lt0
  have l2 := h.rs.lt0
  rw [List.length_map] at n1 n2
  have hv : f.valid = ((wi f.ws.length 1 4 && decide ((f.rs.length : Int) ≤ 6)) && (f.wsOk 0 f.ws.length && (f.lenOk && f.rsOk 0 f.rs.length))) := rfl
  cases c1 : wi f.ws.length 1 4
  · have : f.valid = false := by rw [hv, c1]; rfl
    simp only [this, Bool.false_eq_true, if_false]
    refine (callFL_eq fn34 rfl (by simp [Tryz.f34])).trans ?_
    simp (maxSteps := 1000000) (implicitDefEqProofs := false) (disch := first | rfl | omega | assumption) only [go_sem, ltT, ltF, leT, leF, s1, s2, n1, n2, fr_within, fr_must, c1]
    done
  by_cases c2 : (f.rs.length : Int) ≤ 6
  rotate_left
  · have : f.valid = false := by rw [hv, c1]; simp [c2]
    simp only [this, Bool.false_eq_true, if_false]
    refine (callFL_eq fn34 rfl (by simp [Tryz.f34])).trans ?_
    simp (maxSteps := 1000000) (implicitDefEqProofs := false) (disch := first | rfl | omega | assumption) only [go_sem, ltT, ltF, leT, leF, s1, s2, n1, n2, fr_within, fr_must, c1, c2]
    done
  cases c3 : f.wsOk 0 f.ws.length
  · have : f.valid = false := by rw [hv, c1, c3]; simp
    simp only [this, Bool.false_eq_true, if_false]
    refine (callFL_eq fn34 rfl (by simp [Tryz.f34])).trans ?_
    simp (maxSteps := 1000000) (implicitDefEqProofs := false) (disch := first | rfl | omega | assumption) only [go_sem, ltT, ltF, leT, leF, s1, s2, n1, n2, fr_within, fr_must, c1, c2]
    exact frw_loop h hl.1 fn cap false _ _ (fun hh => by cases hh) (fun _ => rfl) f.ws.length 0 (by omega) c3 _ (by rfl) (by rfl) (by rfl) (by rfl) (by rfl) (by rfl) (by rfl)
  have hv2 : f.valid = (f.lenOk && f.rsOk 0 f.rs.length) := by rw [hv, c1, c3]; simp [c2]
  have hlk : f.lenOk = (decide (0 ≤ f.lo) && (decide (f.lo ≤ f.hi) && (decide (f.hi ≤ 2000) && decide (f.hi - f.lo ≤ 400)))) := rfl
  refine (callFL_eq fn34 rfl (by simp [Tryz.f34])).trans ?_
  simp (maxSteps := 1000000) (implicitDefEqProofs := false) (disch := first | rfl | omega | assumption) only [go_sem, ltT, ltF, leT, leF, s1, s2, n1, n2, fr_within, fr_must, c1, c2]
  refine frw_loop h hl.1 fn cap true _ _ (fun _ E g1 g2 g4 g5 => ?_) (fun hh => by cases hh) f.ws.length 0 (by omega) c3 _ (by rfl) (by rfl) (by rfl) (by rfl) (by rfl) (by rfl) (by rfl)
  by_cases d1 : 0 ≤ f.lo
  rotate_left
  · have : f.valid = false := by rw [hv2, hlk]; simp [d1]
    simp only [this, Bool.false_eq_true, if_false]
    simp (maxSteps := 1000000) (implicitDefEqProofs := false) (disch := first | rfl | omega | assumption) only [go_sem, ltT, ltF, leT, leF, s1, s2, n1, n2, fr_within, fr_must, c1, c2, g1, g2, g4, g5, d1]
    done
  by_cases d2 : f.lo ≤ f.hi
  rotate_left
  · have : f.valid = false := by rw [hv2, hlk]; simp [d2]
    simp only [this, Bool.false_eq_true, if_false]
    simp (maxSteps := 1000000) (implicitDefEqProofs := false) (disch := first | rfl | omega | assumption) only [go_sem, ltT, ltF, leT, leF, s1, s2, n1, n2, fr_within, fr_must, c1, c2, g1, g2, g4, g5, d1, d2]
    done
  by_cases d3 : f.hi ≤ 2000
  rotate_left
  · have : f.valid = false := by rw [hv2, hlk]; simp [d3]
    simp only [this, Bool.false_eq_true, if_false]
    simp (maxSteps := 1000000) (implicitDefEqProofs := false) (disch := first | rfl | omega | assumption) only [go_sem, ltT, ltF, leT, leF, s1, s2, n1, n2, fr_within, fr_must, c1, c2, g1, g2, g4, g5, d1, d2, d3]
    done
  by_cases d4 : f.hi - f.lo ≤ 400
  rotate_left
  · have : f.valid = false := by rw [hv2, hlk]; simp [d4]
    simp only [this, Bool.false_eq_true, if_false]
    simp (maxSteps := 1000000) (implicitDefEqProofs := false) (disch := first | rfl | omega | assumption) only [go_sem, ltT, ltF, leT, leF, s1, s2, n1, n2, fr_within, fr_must, c1, c2, g1, g2, g4, g5, d1, d2, d3, d4]
    done
  have hlt : f.lenOk = true := by rw [hlk]; simp [d1, d2, d3, d4]
  cases c4 : f.rsOk 0 f.rs.length
  · have : f.valid = false := by rw [hv2, c4, Bool.and_false]
    simp only [this, Bool.false_eq_true, if_false]
    simp (maxSteps := 1000000) (implicitDefEqProofs := false) (disch := first | rfl | omega | assumption) only [go_sem, ltT, ltF, leT, leF, s1, s2, n1, n2, fr_within, fr_must, c1, c2, g1, g2, g4, g5, d1, d2, d3, d4]
    exact frr_loop h hl fn cap hf false _ _ (fun hh => by cases hh) (fun _ => rfl) f.rs.length 0 (by omega) [] c4 _ (by exact g1) (by exact g4) (by exact g5) (by rfl) (by rfl) (by rfl)
  · have hvt : f.valid = true := by rw [hv2, c4, hlt]; rfl
    have hr' := hr hvt
    simp only [hvt, if_true]
    simp (maxSteps := 1000000) (implicitDefEqProofs := false) (disch := first | rfl | omega | assumption) only [go_sem, ltT, ltF, leT, leF, s1, s2, n1, n2, fr_within, fr_must, c1, c2, g1, g2, g4, g5, d1, d2, d3, d4]
    refine frr_loop h hl fn cap hf true _ _ (fun _ E k1 k4 k5 => ?_) (fun hh => by cases hh) f.rs.length 0 (by omega) [] c4 _ (by exact g1) (by exact g4) (by exact g5) (by rfl) (by rfl) (by rfl)
    cases r
    · simp only [Bool.false_eq_true, if_false]
      simp (maxSteps := 1000000) (implicitDefEqProofs := false) (disch := first | rfl | omega | assumption) only [go_sem, ltT, ltF, leT, leF, s1, s2, k1, k4, k5, hr', fr_must]
      done
    · simp only [if_true]
      simp (maxSteps := 1000000) (implicitDefEqProofs := false) (disch := first | rfl | omega | assumption) only [go_sem, ltT, ltF, leT, leF, s1, s2, k1, k4, k5, hr', fr_must, e1, e2, l1, l2]
      done

end Go.Ab
/-
  A fringe that is handed in, as the evaluator takes it.
-/
namespace Go.Ab
set_option linter.unusedSimpArgs false
set_option linter.unusedVariables false
set_option maxRecDepth 100000
open Go.Proofs Go.ChangeShapes Go.RowKit Go.WideShapes

def shI : Sh := .int .i64
def shSpan : Sh := .cons shI (.cons shI .unit)
def shRd : Sh := .cons shI (.cons shSpan .unit)
def shFrg : Sh := .cons (.sl false shI) (.cons shSpan (.cons (.sl true shRd) .unit))

theorem sh_two {l : List AV} (h : Shaped shSpan l) : ∃ a b, l = [I a, I b] := by
  obtain ⟨_, _, rfl, ⟨a, rfl, _⟩, _, _, rfl, ⟨b, rfl, _⟩, rfl⟩ := h
  exact ⟨a, b, rfl⟩

theorem sh_rd {l : List AV} (h : Shaped shRd l) : ∃ r : Rd, AV.agg l = r.av := by
  obtain ⟨_, _, rfl, ⟨c, rfl, _⟩, _, _, rfl, h1, rfl⟩ := h
  obtain ⟨a, b, rfl⟩ := sh_two h1
  exact ⟨⟨c, a, b⟩, rfl⟩

theorem sh_ints {f : Bool} {es : List AV} (h : ∀ x ∈ es, ∃ cs, Shaped shI cs ∧ x = pack false cs) : ∃ l : List Int, es = l.map I :=
  list_of (f := I) fun x hx => by
    obtain ⟨_, ⟨n, rfl, _⟩, rfl⟩ := h x hx
    exact ⟨n, rfl⟩

theorem sh_frg {l : List AV} (h : Shaped shFrg l) : ∃ (f : Frg) (vw vr : AV), l = [vw, I f.lo, I f.hi, vr] ∧ FrAt [] f vw vr := by
  obtain ⟨_, _, rfl, ⟨f, es, rfl, h1⟩, _, _, rfl, h2, _, _, rfl, ⟨g, fs, rfl, h3⟩, rfl⟩ := h
  obtain ⟨ws, rfl⟩ := sh_ints (f := f) h1
  obtain ⟨a, b, rfl⟩ := sh_two h2
  obtain ⟨rs, rfl⟩ := list_of (f := Rd.av) (es := fs) fun x hx => by
    obtain ⟨cs, hc, rfl⟩ := h3 x hx
    obtain ⟨r, hr⟩ := sh_rd hc
    exact ⟨r, by simp only [pack, if_true]; exact hr⟩
  exact ⟨⟨ws, a, b, rs⟩, .sl f (ws.map I), .sl g (rs.map Rd.av), rfl, ⟨⟨rfl, fun x hx => by obtain ⟨i, _, rfl⟩ := List.mem_map.1 hx; rfl⟩, ⟨rfl, fun x hx => by obtain ⟨i, _, rfl⟩ := List.mem_map.1 hx; rfl⟩⟩⟩

theorem sh27 : shOf prog0 8 27 = some shFrg := by kernel_rfl
theorem laid0 : laidOutB prog0 = true := by kernel_rfl

theorem arg_frg {T : Type} {enc : TypeId × Value → T} {W : World} {r : Reach} {b0 : Nat} {v : Value} {d : DataW T} {ps : List MemPlace} (hval : Value.okWide prog0 W r b0 27 v) (hd : DataW.Trod enc prog0 W 0 (fun _ => true) true 27 v d ps) :
    ∃ (f : Frg) (vw vr : AV), Rel (Cx.start W) (.agg [vw, I f.lo, I f.hi, vr]) v ∧ FrAt [] f vw vr := by
  obtain ⟨avs, h1, h2⟩ := arg_agg Tryz.underlying27 sh27 hval hd
  obtain ⟨f, vw, vr, rfl, h3⟩ := sh_frg h2
  exact ⟨f, vw, vr, h1, h3⟩

end Go.Ab
/-
  Fringes: readings, and the lengths by which they are right.
-/
namespace Go.Ab
open Go.Proofs
set_option linter.unusedSimpArgs false
set_option linter.unusedVariables false
set_option maxRecDepth 100000
set_option maxHeartbeats 1000000

variable {H : Heap}

/-- Whether a reading is right of a length. -/
def rgt (w lo hi n : Int) : Bool := wi (ptZ w n) lo hi || wi (ptZ w n + 20) lo hi

theorem fr_right (w lo hi n : Int) (hw : 1 ≤ w ∧ w ≤ 60) (hn : 0 ≤ n ∧ n ≤ 2000) (H : Heap) : callFL cfg0 prog0 false 137 [.agg [I w, I lo, I hi], I n] H none = some ⟨.ret (.bool (rgt w lo hi n)), H, none⟩ := by
  have ho := fun G : Heap => fr_of w n hw hn G
  have hb := ptZ_bd (w := w) (n := n) hw.1
  simp only [rgt]
  refine (callFL_eq fn137 rfl (by simp [Tryz.f137])).trans ?_
  cases hc : wi (ptZ w n) lo hi
  · simp (maxSteps := 1000000) (implicitDefEqProofs := false) (disch := first | rfl | omega | assumption) only [go_sem, ltT, ltF, leT, leF, ho, fr_within, hc]
    done
  · simp (maxSteps := 1000000) (implicitDefEqProofs := false) (disch := first | rfl | omega | assumption) only [go_sem, ltT, ltF, leT, leF, ho, fr_within, hc]
    done

theorem fr_dark (w n : Int) (H : Heap) : callFL cfg0 prog0 false 136 [.agg [I w], I n] H none = some ⟨.ret (.bool true), H, none⟩ := by
  refine (callFL_eq fn136 rfl (by simp [Tryz.f136])).trans ?_
  simp (maxSteps := 1000000) (implicitDefEqProofs := false) (disch := first | rfl | omega | assumption) only [go_sem, ltT, ltF, leT, leF]

/-- A reading, as it is looked at. -/
def rdA (f : Frg) (s i : Nat) : AV := if s.testBit i then .iface 120 (.agg [I (f.w (f.r i).c.toNat), I (f.r i).lo, I (f.r i).hi]) else .iface 118 (.agg [I (f.w (f.r i).c.toNat)])

def rdsA (f : Frg) (s n : Nat) : List AV := (List.range n).map (rdA f s)

theorem rdsA_succ (f : Frg) (s n : Nat) : rdsA f s (n + 1) = rdsA f s n ++ [rdA f s n] := by simp [rdsA, List.range_succ]

theorem rdsA_len (f : Frg) (s n : Nat) : (rdsA f s n).length = n := by simp [rdsA]

theorem rdA_lt (f : Frg) (s i N : Nat) : (rdA f s i).lt N = true := by
  simp only [rdA]
  split <;> rfl

theorem rdsA_lt (f : Frg) (s n N : Nat) : ltL N (rdsA f s n) = true := by
  induction n with
  | zero => rfl
  | succ n ih =>
    have key : ∀ (a : List AV) (x : AV), ltL N a = true → x.lt N = true → ltL N (a ++ [x]) = true := by
      intro a x ha hx
      induction a with
      | nil => simp [ltL, hx]
      | cons y r ih' =>
        simp only [List.cons_append, ltL, Bool.and_eq_true] at ha ⊢
        exact ⟨ha.1, ih' ha.2⟩
    rw [rdsA_succ]
    exact key _ _ ih (rdA_lt f s n N)

theorem rdA_scal (f : Frg) (s i : Nat) : (rdA f s i).scalar = true := by
  simp only [rdA]
  split <;> rfl

theorem shrN6 {s j : Nat} (hj : j ≤ 60) : (s : Int).fdiv (2 ^ min j 64) = ((s / 2 ^ j : Nat) : Int) := by
  rw [Nat.min_eq_left (by omega)]
  have : ((2 : Int) ^ j) = ((2 ^ j : Nat) : Int) := by simp
  rw [this, Int.fdiv_eq_ediv_of_nonneg _ (Int.natCast_nonneg _)]
  rfl

theorem rds_loop {f : Frg} {vw vr : AV} (h : FrAt H f vw vr) (ho : f.Ok) (s : Nat) (hs : s < 64) :
    ∀ (q j : Nat), j + q = f.rs.length → ∀ (G : Heap), ∀ (xs : List AV), xs = rdsA f s j → ∀ E : Env, E.get 1 = .int .u64 s → E.get 2 = .ptr H.length 0 → E.get 4 = .gsl (H.length + 1) j → E.get 10 = vr → E.get 11 = I f.rs.length → E.get 12 = I j →
    Option.map (finishC H.length) (execL cfg0 prog0 ⟨88, none, false, H.length⟩ (todoAt Tryz.f88 2) ⟨E, [], H ++ (.box (.agg [vw, I f.lo, I f.hi, vr]) :: .grow 1 xs :: G), none⟩) = some ⟨.ret (.sl false (rdsA f s f.rs.length)), H, none⟩ := by
  intro q
  obtain ⟨a1, a2, a3, a4, a5⟩ := h.rs.fF (d := rd0)
  have s1 := h.ws.scal
  have s2 := h.rs.scal
  have t1 := h.ws.ltn 2
  have t2 := h.rs.ltn 2
  have t3 := fun n => rdsA_lt f s n 0
  have h6 := ho.reads
  induction q with
  | zero =>
    intro j hj G xs hx E g1 g2 g4 g10 g11 g12
    have hk' : ¬ (j : Int) < ((f.rs.length : Nat) : Int) := by omega
    have ej : j = f.rs.length := by omega
    subst ej
    subst hx
    have hl := rdsA_len f s f.rs.length
    simp only [loopIt, todoPast, todoAt, todoOf, firstReg, ↓reduceIte, Option.some.injEq, Nat.reduceEqDiff, reduceCtorEq, Tryz.f88]
    rw [execL_inLoop]
    simp (maxSteps := 1000000) (implicitDefEqProofs := false) (disch := first | rfl | omega | assumption) only [go_sem, g1, g2, g4, g10, g11, g12, ltT, ltF, leT, leF, hk', s1, s2, t1, t2, t3, hl]
    done
  | succ q ih =>
    intro j hj G xs hx E g1 g2 g4 g10 g11 g12
    have hk' : (j : Int) < ((f.rs.length : Nat) : Int) := by omega
    have hk2 : j < f.rs.length := by omega
    have t4 : ltL 0 xs = true := by rw [hx]; exact t3 j
    have hlx : xs.length = j := by rw [hx]; exact rdsA_len f s j
    obtain ⟨x, hxe⟩ : ∃ x, f.rs.getD j rd0 = x := ⟨_, rfl⟩
    have hrd := fun x : Rd => (show readPart x.av.cells 0 ⟨.struct [(0, 3), (1, 24)], 3, 24, some (.agg #[.int .i64 0, .int .i64 0, .int .i64 0])⟩ = some (.agg [I x.c, I x.lo, I x.hi]) from rfl)
    have hxo := ho.rd j hk2
    have hsucc := rdsA_succ f s j
    have hra : rdA f s j = if s.testBit j then .iface 120 (.agg [I (f.w x.c.toNat), I x.lo, I x.hi]) else .iface 118 (.agg [I (f.w x.c.toNat)]) := by simp only [rdA, Frg.r, hxe]
    rw [show f.r j = x from hxe] at hxo
    have hcn : (x.c.toNat : Int) = x.c := by omega
    have hW := fun G : Heap => fr_wave (h.app G) x.c.toNat (by omega)
    rw [hcn] at hW
    simp only [Frg.av] at hW
    have hsh := shrN6 (s := s) (j := j) (by omega)
    have hand : bitsOp .and .u64 ((s / 2 ^ j : Nat) : Int) 1 = some ((s / 2 ^ j &&& 1 : Nat) : Int) := bitsAnd (b := 1) (Nat.lt_of_le_of_lt (Nat.div_le_self _ _) (by omega)) (by decide)
    have hone : (((s / 2 ^ j &&& 1 : Nat) : Int) == 1) = s.testBit j := by
      rw [Nat.and_one_is_mod, Nat.testBit_eq_decide_div_mod_eq]
      have : s / 2 ^ j % 2 = 0 ∨ s / 2 ^ j % 2 = 1 := by omega
      rcases this with h | h <;> rw [h] <;> rfl
    have z : ¬ (j : Int) < 0 := by omega
    have hof : ∀ (y : AV) (o1 o2 : AO), y.lt 0 = true → y.scalar = true → addElem (H ++ [.box (.agg [vw, I f.lo, I f.hi, vr]), .grow 1 xs, o1, o2]) 1 false (.gsl (H.length + 1) j) [y] = some (.gsl (H.length + 1) (j + 1), H ++ [.box (.agg [vw, I f.lo, I f.hi, vr]), .grow 1 (xs ++ [y]), o1, o2]) := by
      intro y o1 o2 hy1 hy2
      rw [add_gsl (xs := xs) (by rw [get_at']; rfl) hlx (by cases y <;> first | rfl | cases hy2) (by simp only [ltL, hy1, Bool.and_self]) (by simp; omega), set_at']
      rfl
    have hof1 := fun o1 o2 => hof (.iface 120 (.agg [I (f.w x.c.toNat), I x.lo, I x.hi])) o1 o2 rfl rfl
    have hof2 := fun o1 o2 => hof (.iface 118 (.agg [I (f.w x.c.toNat)])) o1 o2 rfl rfl
    cases hb : s.testBit j
    · rw [hb] at hone hra
      simp only [Bool.false_eq_true, if_false] at hra
      simp only [loopIt, todoPast, todoAt, todoOf, firstReg, ↓reduceIte, Option.some.injEq, Nat.reduceEqDiff, reduceCtorEq, Tryz.f88]
      rw [execL_inLoop]
      simp (maxSteps := 1000000) (implicitDefEqProofs := false) (disch := first | rfl | omega | assumption) only [go_sem, g1, g2, g4, g10, g11, g12, ltT, ltF, leT, leF, hk', s1, s2, t1, t2, t4, a1, a2, a3, a4, hxe, hrd, hW, hsh, hand, hone, z, hof2]
      exact ih (j + 1) (by omega) _ _ (by rw [hsucc, hra, hx]) _ (by rfl) (by rfl) (by rfl) (by rfl) (by rfl) (by rfl)
    · rw [hb] at hone hra
      simp only [if_true] at hra
      simp only [loopIt, todoPast, todoAt, todoOf, firstReg, ↓reduceIte, Option.some.injEq, Nat.reduceEqDiff, reduceCtorEq, Tryz.f88]
      rw [execL_inLoop]
      simp (maxSteps := 1000000) (implicitDefEqProofs := false) (disch := first | rfl | omega | assumption) only [go_sem, g1, g2, g4, g10, g11, g12, ltT, ltF, leT, leF, hk', s1, s2, t1, t2, t4, a1, a2, a3, a4, hxe, hrd, hW, hsh, hand, hone, z, hof1]
      exact ih (j + 1) (by omega) _ _ (by rw [hsucc, hra, hx]) _ (by rfl) (by rfl) (by rfl) (by rfl) (by rfl) (by rfl)

theorem fr_readings {f : Frg} {vw vr : AV} (h : FrAt H f vw vr) (ho : f.Ok) (s : Nat) (hs : s < 64) :
    callFL cfg0 prog0 false 88 [.agg [vw, I f.lo, I f.hi, vr], .int .u64 s] H none = some ⟨.ret (.sl false (rdsA f s f.rs.length)), H, none⟩ := by
  have s1 := h.ws.scal
  have s2 := h.rs.scal
  have n2 := h.rs.len
  rw [List.length_map] at n2
  have hr := rds_loop h ho s hs f.rs.length 0 (by omega) [] [] rfl
  refine (callFL_eq fn88 rfl (by simp [Tryz.f88])).trans ?_
  simp (maxSteps := 1000000) (implicitDefEqProofs := false) (disch := first | rfl | omega | assumption) only [go_sem, ltT, ltF, leT, leF, s1, s2, n2]
  exact hr _ (by rfl) (by rfl) (by rfl) (by rfl) (by rfl) (by rfl)

/-- Whether the readings of a set are right of a length. -/
def Frg.rt (f : Frg) (s : Nat) (n : Int) (j q : Nat) : Bool := !anyF (fun i => s.testBit i && !rgt (f.w (f.r i).c.toNat) (f.r i).lo (f.r i).hi n) j q
abbrev Frg.right (f : Frg) (s : Nat) (n : Int) : Bool := f.rt s n 0 f.rs.length

end Go.Ab
/-
  Fringes: the lengths, one after another; told.
-/
namespace Go.Ab
open Go.Proofs
set_option linter.unusedSimpArgs false
set_option linter.unusedVariables false
set_option maxRecDepth 100000
set_option maxHeartbeats 1000000

variable {H : Heap}

def itL {β : Type} (f : Frg) (s : Nat) (g : β → Int → β × Bool) : β → Int → Nat → β × Bool
  | st, _, 0 => (st, true)
  | st, n, q + 1 => if f.right s n then (if (g st n).2 then itL f s g (g st n).1 (n + 1) q else ((g st n).1, false)) else itL f s g st (n + 1) q

/-- What the lengths are told to, with its heaps while it listens, and when it has had enough. -/
structure HearsL {β : Type} (f : Frg) (s : Nat) (p1 p2 N y : Nat) (vw vr : AV) (Hr Hd : β → Heap) (Q : β → Int → Prop) (g : β → Int → β × Bool) : Prop where
  lr : ∀ st, (Hr st).length = N
  ld : ∀ st, (Hd st).length = N
  b1 : ∀ st, (Hr st)[p1]? = some (.box (.agg [vw, I f.lo, I f.hi, vr]))
  b2 : ∀ st, (Hr st)[p2]? = some (.box (U s))
  fr : ∀ st, FrAt (Hr st) f vw vr
  qs : ∀ st m, Q st m → Q st (m + 1)
  qy : ∀ st m, Q st m → Q (g st m).1 (m + 1)
  y : ∀ st m, Q st m → f.lo ≤ m → m ≤ f.hi → callVL cfg0 prog0 false (.yield y) [I m] [] (Hr st) none = some ⟨.ret (.bool (g st m).2), if (g st m).2 then Hr (g st m).1 else Hd (g st m).1, none⟩

theorem fl_l2 {β : Type} {f : Frg} (ho : f.Ok) {s : Nat} (hs : s < 64) {p1 p2 N y : Nat} {vw vr : AV} {Hr Hd : β → Heap} {Q : β → Int → Prop} {g : β → Int → β × Bool} (hh : HearsL f s p1 p2 N y vw vr Hr Hd Q g) (st : β) (n : Int) (hn : f.lo ≤ n ∧ n ≤ f.hi) (r : Bool) (R : Option Done) (hK : r = true → ∀ E : Env, E.get 0 = .func (.yield y) [] [] → E.get 1 = .ptr p1 0 → E.get 2 = .ptr p2 0 → E.get 4 = .sl false (rdsA f s f.rs.length) → E.get 5 = I n → Option.map (finishC N) (execL cfg0 prog0 ⟨87, none, false, N⟩ (todoPast Tryz.f87 5) ⟨E, [], Hr st, none⟩) = R) (hN : r = false → ∀ E : Env, E.get 0 = .func (.yield y) [] [] → E.get 1 = .ptr p1 0 → E.get 2 = .ptr p2 0 → E.get 4 = .sl false (rdsA f s f.rs.length) → E.get 5 = I (n + 1) → Option.map (finishC N) (execL cfg0 prog0 ⟨87, none, false, N⟩ (todoAt Tryz.f87 2) ⟨E, [], Hr st, none⟩) = R) :
    ∀ (q j : Nat), j + q = f.rs.length → f.rt s n j q = r → ∀ E : Env, E.get 0 = .func (.yield y) [] [] → E.get 1 = .ptr p1 0 → E.get 2 = .ptr p2 0 → E.get 4 = .sl false (rdsA f s f.rs.length) → E.get 5 = I n → E.get 23 = .sl false (rdsA f s f.rs.length) → E.get 24 = I f.rs.length → E.get 25 = I j →
    Option.map (finishC N) (execL cfg0 prog0 ⟨87, none, false, N⟩ (todoAt Tryz.f87 5) ⟨E, [], Hr st, none⟩) = R := by
  intro q
  have h6 := ho.reads
  have hlen := ho.len
  simp only [loopIt, todoPast, todoAt, todoOf, firstReg, ↓reduceIte, Option.some.injEq, Nat.reduceEqDiff, reduceCtorEq, Tryz.f87] at hK
  induction q with
  | zero =>
    intro j hj hr E g0 g1 g2 g4 g5 g23 g24 g25
    have hk' : ¬ (j : Int) < ((f.rs.length : Nat) : Int) := by omega
    have hr1 : r = true := by rw [← hr]; rfl
    simp only [loopIt, todoPast, todoAt, todoOf, firstReg, ↓reduceIte, Option.some.injEq, Nat.reduceEqDiff, reduceCtorEq, Tryz.f87]
    rw [execL_inLoop]
    have hk2 := hK hr1 ((26, .bool false) :: E) (by exact g0) (by exact g1) (by exact g2) (by exact g4) (by exact g5)
    simp (maxSteps := 1000000) (implicitDefEqProofs := false) (disch := first | rfl | omega | assumption) only [go_sem, g0, g1, g2, g4, g5, g23, g24, g25, ltT, ltF, leT, leF, hk']
    simp (maxSteps := 1000000) (implicitDefEqProofs := false) (disch := first | rfl | omega | assumption) only [go_sem, g0, g1, g2, g4, g5, g23, g24, g25, ltT, ltF, leT, leF, hk'] at hk2
    exact hk2
  | succ q ih =>
    intro j hj hr E g0 g1 g2 g4 g5 g23 g24 g25
    have hk' : (j : Int) < ((f.rs.length : Nat) : Int) := by omega
    have hk2 : j < f.rs.length := by omega
    have hu : f.rt s n j (q + 1) = ((!(s.testBit j && !rgt (f.w (f.r j).c.toNat) (f.r j).lo (f.r j).hi n)) && f.rt s n (j + 1) q) := by
      simp only [Frg.rt, anyF]
      cases (s.testBit j && !rgt (f.w (f.r j).c.toNat) (f.r j).lo (f.r j).hi n) <;> simp
    rw [hu] at hr
    have hsl : SlOk (Hr st) 1 (.sl false (rdsA f s f.rs.length)) (rdsA f s f.rs.length) := ⟨rfl, fun x hx => by
      simp only [rdsA, List.mem_map] at hx
      obtain ⟨i, _, rfl⟩ := hx
      rw [scal_cells (rdA_scal f s i)]; rfl⟩
    obtain ⟨a1, a2, a3, a4, a5⟩ := hsl.at (k := (j : Int)) (x := rdA f s j) (by omega) (by simp [rdsA, hk2])
    have hrd := ho.rd j hk2
    have hw := ho.wave (f.r j).c.toNat (by omega)
    have hR := fun H => fr_right (f.w (f.r j).c.toNat) (f.r j).lo (f.r j).hi n (by omega) (by omega) H
    have hD := fun H => fr_dark (f.w (f.r j).c.toNat) n H
    have hlr := hh.lr st
    cases hb : s.testBit j
    · rw [hb, Bool.false_and, Bool.not_false, Bool.true_and] at hr
      have hx : rdA f s j = .iface 118 (.agg [I (f.w (f.r j).c.toNat)]) := by simp [rdA, hb]
      rw [hx] at a2 a5
      simp only [loopIt, todoPast, todoAt, todoOf, firstReg, ↓reduceIte, Option.some.injEq, Nat.reduceEqDiff, reduceCtorEq, Tryz.f87]
      rw [execL_inLoop]
      simp (maxSteps := 1000000) (implicitDefEqProofs := false) (disch := first | rfl | omega | assumption) only [go_sem, g0, g1, g2, g4, g5, g23, g24, g25, ltT, ltF, leT, leF, hk', a1, a2, a3, a4, a5, hD]
      exact ih (j + 1) (by omega) hr _ (by exact g0) (by exact g1) (by exact g2) (by exact g4) (by exact g5) (by exact g23) (by exact g24) (by rfl)
    · have hx : rdA f s j = .iface 120 (.agg [I (f.w (f.r j).c.toNat), I (f.r j).lo, I (f.r j).hi]) := by simp [rdA, hb]
      rw [hx] at a2 a5
      rw [hb, Bool.true_and, Bool.not_not] at hr
      cases hc : rgt (f.w (f.r j).c.toNat) (f.r j).lo (f.r j).hi n
      · rw [hc, Bool.false_and] at hr
        rw [hc] at hR
        simp only [loopIt, todoPast, todoAt, todoOf, firstReg, ↓reduceIte, Option.some.injEq, Nat.reduceEqDiff, reduceCtorEq, Tryz.f87]
        rw [execL_inLoop]
        simp (maxSteps := 1000000) (implicitDefEqProofs := false) (disch := first | rfl | omega | assumption) only [go_sem, g0, g1, g2, g4, g5, g23, g24, g25, ltT, ltF, leT, leF, hk', a1, a2, a3, a4, a5, hR]
        exact hN hr.symm _ (by exact g0) (by exact g1) (by exact g2) (by exact g4) (by rfl)
      · rw [hc, Bool.true_and] at hr
        rw [hc] at hR
        simp only [loopIt, todoPast, todoAt, todoOf, firstReg, ↓reduceIte, Option.some.injEq, Nat.reduceEqDiff, reduceCtorEq, Tryz.f87]
        rw [execL_inLoop]
        simp (maxSteps := 1000000) (implicitDefEqProofs := false) (disch := first | rfl | omega | assumption) only [go_sem, g0, g1, g2, g4, g5, g23, g24, g25, ltT, ltF, leT, leF, hk', a1, a2, a3, a4, a5, hR]
        exact ih (j + 1) (by omega) hr _ (by exact g0) (by exact g1) (by exact g2) (by exact g4) (by exact g5) (by exact g23) (by exact g24) (by rfl)

theorem fl_l1 {β : Type} {f : Frg} (ho : f.Ok) {s : Nat} (hs : s < 64) {p1 p2 N y : Nat} {vw vr : AV} {Hr Hd : β → Heap} {Q : β → Int → Prop} {g : β → Int → β × Bool} (hh : HearsL f s p1 p2 N y vw vr Hr Hd Q g) (r : β × Bool) :
    ∀ (q j : Nat), j + q = (f.hi + 1 - f.lo).toNat → ∀ (st : β), ∀ (n : Int), n = f.lo + j → Q st n → itL f s g st n q = r → ∀ E : Env, E.get 0 = .func (.yield y) [] [] → E.get 1 = .ptr p1 0 → E.get 2 = .ptr p2 0 → E.get 4 = .sl false (rdsA f s f.rs.length) → E.get 5 = I n →
    Option.map (finishC N) (execL cfg0 prog0 ⟨87, none, false, N⟩ (todoAt Tryz.f87 2) ⟨E, [], Hr st, none⟩) = some ⟨.ret (.tup []), if r.2 then Hr r.1 else Hd r.1, none⟩ := by
  intro q
  have hlen := ho.len
  have tr : ∀ st, (Hr st).take N = Hr st := fun st => List.take_of_length_le (by rw [hh.lr]; exact Nat.le_refl _)
  have td : ∀ st, (Hd st).take N = Hd st := fun st => List.take_of_length_le (by rw [hh.ld]; exact Nat.le_refl _)
  induction q with
  | zero =>
    intro j hj st n en hq hr E g0 g1 g2 g4 g5
    have hk' : ¬ (j : Int) < (((f.hi + 1 - f.lo).toNat : Nat) : Int) := by omega
    simp only [itL] at hr
    subst hr
    simp only [loopIt, todoPast, todoAt, todoOf, firstReg, ↓reduceIte, Option.some.injEq, Nat.reduceEqDiff, reduceCtorEq, Tryz.f87]
    rw [execL_inLoop]
    have hgt : ¬ n ≤ f.hi := by omega
    simp (maxSteps := 1000000) (implicitDefEqProofs := false) (disch := first | rfl | omega | assumption) only [go_sem, g0, g1, g2, g4, g5, ltT, ltF, leT, leF, hk', hh.b1, tr, hgt]
    done
  | succ q ih =>
    intro j hj st n en hq hr E g0 g1 g2 g4 g5
    have hk' : (j : Int) < (((f.hi + 1 - f.lo).toNat : Nat) : Int) := by omega
    have hk2 : j < (f.hi + 1 - f.lo).toNat := by omega
    have hle : n ≤ f.hi := by omega
    have hll := rdsA_len f s f.rs.length
    simp only [itL] at hr
    have hy := hh.y st n hq (by omega) hle
    simp only [loopIt, todoPast, todoAt, todoOf, firstReg, ↓reduceIte, Option.some.injEq, Nat.reduceEqDiff, reduceCtorEq, Tryz.f87]
    rw [execL_inLoop]
    simp (maxSteps := 1000000) (implicitDefEqProofs := false) (disch := first | rfl | omega | assumption) only [go_sem, g0, g1, g2, g4, g5, ltT, ltF, leT, leF, hk', hh.b1, hle, hll]
    refine fl_l2 ho hs hh st n ⟨by omega, hle⟩ (f.right s n) _ (fun hg E g0 g1 g2 g4 g5 => ?_) (fun hg E g0 g1 g2 g4 g5 => ?_) f.rs.length 0 (by omega) rfl _ (by exact g0) (by exact g1) (by exact g2) (by exact g4) (by exact g5) (by rfl) (by rfl) (by rfl)
    · rw [hg, if_pos rfl] at hr
      simp only [loopIt, todoPast, todoAt, todoOf, firstReg, ↓reduceIte, Option.some.injEq, Nat.reduceEqDiff, reduceCtorEq, Tryz.f87]
      cases hb : (g st n).2
      · rw [hb, if_neg (by simp)] at hr hy
        subst hr
        simp (maxSteps := 1000000) (implicitDefEqProofs := false) (disch := first | rfl | omega | assumption) only [go_sem, g0, g1, g2, g4, g5, ltT, ltF, leT, leF, hk', hy, td]
        done
      · rw [hb, if_pos rfl] at hr hy
        simp (maxSteps := 1000000) (implicitDefEqProofs := false) (disch := first | rfl | omega | assumption) only [go_sem, g0, g1, g2, g4, g5, ltT, ltF, leT, leF, hk', hy]
        exact ih (j + 1) (by omega) _ (n + 1) (by omega) (hh.qy _ _ hq) hr _ (by exact g0) (by exact g1) (by exact g2) (by exact g4) (by rfl)
    · rw [hg, if_neg (by simp)] at hr
      exact ih (j + 1) (by omega) _ (n + 1) (by omega) (hh.qs _ _ hq) hr _ (by exact g0) (by exact g1) (by exact g2) (by exact g4) (by exact g5)

theorem fl_it {β : Type} {f : Frg} (ho : f.Ok) {s : Nat} (hs : s < 64) {p1 p2 N y : Nat} {vw vr : AV} {Hr Hd : β → Heap} {Q : β → Int → Prop} {g : β → Int → β × Bool} (hh : HearsL f s p1 p2 N y vw vr Hr Hd Q g) (st : β) (hq : Q st f.lo) (r : β × Bool) (hr : itL f s g st f.lo (f.hi + 1 - f.lo).toNat = r) :
    callFL cfg0 prog0 false 87 [.func (.yield y) [] [], .ptr p1 0, .ptr p2 0] (Hr st) none = some ⟨.ret (.tup []), if r.2 then Hr r.1 else Hd r.1, none⟩ := by
  have hR := fr_readings (hh.fr st) ho s hs
  have hl := hh.lr st
  have h1 := fl_l1 ho hs hh r (f.hi + 1 - f.lo).toNat 0 (by omega) st f.lo (by simp) hq hr
  refine (callFL_eq fn87 rfl (by simp [Tryz.f87])).trans ?_
  simp (maxSteps := 1000000) (implicitDefEqProofs := false) (disch := first | rfl | omega | assumption) only [go_sem, ltT, ltF, leT, leF, hh.b1, hh.b2, hR, hl]
  exact h1 _ (by rfl) (by rfl) (by rfl) (by rfl) (by rfl)

theorem fl_lengths (v : AV) (hv : elemOk 4 true v = true) (s : Nat) (H : Heap) : callFL cfg0 prog0 false 49 [v, U s] H none = some ⟨.ret (.func (.func 87) [] [.ptr H.length 0, .ptr (H.length + 1) 0]), H ++ [.box v, .box (U s)], none⟩ := by
  refine (callFL_eq fn49 rfl (by simp [Tryz.f49])).trans ?_
  simp (maxSteps := 1000000) (implicitDefEqProofs := false) (disch := first | rfl | omega | assumption) only [go_sem, ltT, ltF, leT, leF, hv]

/-- The lengths that a set of readings leaves. -/
def Frg.lensF (f : Frg) (s : Nat) : Int → Nat → List Int
  | _, 0 => []
  | n, q + 1 => if f.right s n then n :: f.lensF s (n + 1) q else f.lensF s (n + 1) q
def Frg.lens (f : Frg) (s : Nat) : List Int := f.lensF s f.lo (f.hi + 1 - f.lo).toNat

theorem itL_app (f : Frg) (s : Nat) : ∀ (q : Nat) (n : Int) (st : List Int), itL f s (fun xs m => (xs ++ [m], true)) st n q = (st ++ f.lensF s n q, true)
  | 0, n, st => by simp [itL, Frg.lensF]
  | q + 1, n, st => by
    simp only [itL, Frg.lensF]
    split
    · simp only [if_true]
      rw [itL_app f s q]; simp
    · exact itL_app f s q _ _

theorem fl_append {f : Frg} (ho : f.Ok) {s : Nat} (hs : s < 64) {p1 p2 : Nat} {vw vr : AV} (hf : FrAt H f vw vr) (h1 : H[p1]? = some (.box (.agg [vw, I f.lo, I f.hi, vr]))) (h2 : H[p2]? = some (.box (U s))) :
    callFL cfg0 prog0 false 97 [.sl true [], .func (.func 87) [] [.ptr p1 0, .ptr p2 0]] H none = some ⟨.ret (.sl false ((f.lens s).map I)), H, none⟩ := by
  have l1 : p1 < H.length := (List.getElem?_eq_some_iff.1 h1).1
  have l2 : p2 < H.length := (List.getElem?_eq_some_iff.1 h2).1
  have hlen := ho.len
  have hI := fl_it ho hs (p1 := p1) (p2 := p2) (N := H.length + 4) (y := H.length + 3) (vw := vw) (vr := vr)
    (Hr := fun xs : List Int => H ++ [.grow 1 (xs.map I), .box (.gsl H.length xs.length), .dfr, .loop (loopRec Tryz.f97 97 0 [(6, .func (.func 87) [] [.ptr p1 0, .ptr p2 0]), (4, .sl true []), (2, .ptr (H.length + 1) 0), (0, .sl true []), (1, .func (.func 87) [] [.ptr p1 0, .ptr p2 0])] (H.length + 2))])
    (Hd := fun xs : List Int => H ++ [.dead, .dead, .dead, .dead]) (Q := fun xs m => (xs.length : Int) ≤ m - f.lo) (g := fun xs m => (xs ++ [m], true))
    ⟨fun xs => by simp, fun xs => by simp, fun xs => by rw [List.getElem?_append_left l1]; exact h1, fun xs => by rw [List.getElem?_append_left l2]; exact h2, fun xs => hf.app _, fun xs m h => by omega, fun xs m h => by simp only [List.length_append, List.length_cons, List.length_nil]; omega, fun xs m hq ha hb => by
      have hlx : (xs.map I).length = xs.length := List.length_map I
      have hof : ∀ (o1 o2 o3 : AO), addElem (H ++ [.grow 1 (xs.map I), o1, o2, o3]) 1 false (.gsl H.length xs.length) [I m] = some (.gsl H.length (xs.length + 1), H ++ [.grow 1 ((xs ++ [m]).map I), o1, o2, o3]) := by
        intro o1 o2 o3
        rw [add_gsl (xs := xs.map I) (by simp) hlx rfl rfl (by simp; omega)]
        simp
      simp (maxSteps := 1000000) (implicitDefEqProofs := false) (disch := first | rfl | omega | assumption) only [go_sem, ltT, ltF, leT, leF, loopRec, rangesOf, List.nil_append, List.append_nil, List.cons_append, List.getElem?_cons_zero, List.getElem?_cons_succ, Tryz.f97, hof]⟩ [] (by simp) _ rfl
  rw [itL_app] at hI
  simp only [loopRec, rangesOf, List.nil_append, List.append_nil, List.cons_append, List.getElem?_cons_zero, List.getElem?_cons_succ, Tryz.f97, if_true, List.map_nil, List.length_nil] at hI
  have el : f.lensF s f.lo (f.hi + 1 - f.lo).toNat = f.lens s := rfl
  rw [el] at hI
  have e0 : ltL 0 ((f.lens s).map I) = true := ltI _
  refine (callFL_eq fn97 rfl (by simp [Tryz.f97])).trans ?_
  simp (maxSteps := 1000000) (implicitDefEqProofs := false) (disch := first | rfl | omega | assumption) only [go_sem, ltT, ltF, leT, leF, hI, e0]

end Go.Ab
/-
  fringe.Lengths.
-/
namespace Go.Ab
open Go.Proofs
set_option linter.unusedSimpArgs false
set_option linter.unusedVariables false
set_option maxRecDepth 100000
set_option maxHeartbeats 1000000

variable {H : Heap}

theorem fl_collect {f : Frg} (ho : f.Ok) {s : Nat} (hs : s < 64) {p1 p2 : Nat} {vw vr : AV} (hf : FrAt H f vw vr) (h1 : H[p1]? = some (.box (.agg [vw, I f.lo, I f.hi, vr]))) (h2 : H[p2]? = some (.box (U s))) :
    callFL cfg0 prog0 false 86 [.func (.func 87) [] [.ptr p1 0, .ptr p2 0]] H none = some ⟨.ret (.sl false ((f.lens s).map I)), H, none⟩ := by
  have hA := fl_append ho hs hf h1 h2
  refine (callFL_eq fn86 rfl (by simp [Tryz.f86])).trans ?_
  simp (maxSteps := 1000000) (implicitDefEqProofs := false) (disch := first | rfl | omega | assumption) only [go_sem, ltT, ltF, leT, leF, hA]

def Frg.all (f : Frg) : Nat := 2 ^ f.rs.length - 1

theorem Frg.Ok.all_lt {f : Frg} (ho : f.Ok) : f.all < 64 := by
  have h6 := ho.reads
  have : (2 : Nat) ^ f.rs.length ≤ 2 ^ 6 := Nat.pow_le_pow_right (by omega) h6
  simp only [Frg.all]
  have := Nat.two_pow_pos f.rs.length
  omega

theorem fl_told {f : Frg} (ho : f.Ok) {vw vr : AV} (hf : FrAt H f vw vr) :
    callFL cfg0 prog0 false 46 [.agg [vw, I f.lo, I f.hi, vr]] H none = some ⟨if (f.lens f.all).isEmpty then .pan (.iface 98 (.agg [I 10])) else .ret (.sl false ((f.lens f.all).map I)), H, none⟩ := by
  have s1 := hf.ws.scal
  have s2 := hf.rs.scal
  have hE := fun G : Heap => fr_every (hf.app G) ho.reads
  have hal : (f.all : Int) = ((2 ^ f.rs.length - 1 : Nat) : Int) := rfl
  simp only [← hal, Frg.av] at hE
  have hL := fun G : Heap => fl_lengths (.agg [vw, I f.lo, I f.hi, vr]) (by simp only [elemOk, allScalar, s1, s2, AV.cells]; rfl) f.all G
  have hC := fun (G : Heap) (A : Heap) => fl_collect (H := H ++ (G ++ (.box (.agg [vw, I f.lo, I f.hi, vr]) :: .box (U f.all) :: A))) ho ho.all_lt (p1 := H.length + G.length) (p2 := H.length + G.length + 1) (hf.app _) (by rw [get_at', List.getElem?_append_right (by omega)]; simp) (by rw [show H.length + G.length + 1 = H.length + (G.length + 1) by omega, get_at', List.getElem?_append_right (by omega)]; simp)
  have hC1 := hC [.box (.agg [vw, I f.lo, I f.hi, vr])] []
  have hlen : ((f.lens f.all).map I).length = (f.lens f.all).length := List.length_map I
  refine (callFL_eq fn46 rfl (by simp [Tryz.f46])).trans ?_
  simp (maxSteps := 1000000) (implicitDefEqProofs := false) (disch := first | rfl | omega | assumption) only [go_sem, ltT, ltF, leT, leF] at hC1
  generalize f.lens f.all = xs at hC1 hlen ⊢
  cases xs with
  | nil =>
    simp only [List.isEmpty_nil, if_true]
    simp (maxSteps := 1000000) (implicitDefEqProofs := false) (disch := first | rfl | omega | assumption) only [go_sem, ltT, ltF, leT, leF, s1, s2]
    rw [chkK_of]; rotate_left; kernel_rfl
    simp (maxSteps := 1000000) (implicitDefEqProofs := false) (disch := first | rfl | omega | assumption) only [go_sem, ltT, ltF, leT, leF, s1, s2, hE, hL, hC1, hlen, fr_must]
    done
  | cons x xs =>
    have hpos : (0 : Int) < (x :: xs).length := by simp only [List.length_cons]; omega
    simp only [List.isEmpty_cons, Bool.false_eq_true, if_false]
    simp (maxSteps := 1000000) (implicitDefEqProofs := false) (disch := first | rfl | omega | assumption) only [go_sem, ltT, ltF, leT, leF, s1, s2]
    rw [chkK_of]; rotate_left; kernel_rfl
    simp (maxSteps := 1000000) (implicitDefEqProofs := false) (disch := first | rfl | omega | assumption) only [go_sem, ltT, ltF, leT, leF, s1, s2, hE, hL, hC1, hlen, hpos, fr_must]
    done

/-- Spans of lengths that follow each other. -/
def spA (p : Int × Int) : AV := .agg [I p.1, I p.2]
def spStep (acc : List (Int × Int)) (n : Int) : List (Int × Int) :=
  match acc.getLast? with
  | some p => if p.2 + 1 = n then acc.dropLast ++ [(p.1, n)] else acc ++ [(n, n)]
  | none => acc ++ [(n, n)]
def spans (xs : List Int) : List (Int × Int) := xs.foldl spStep []

theorem fl_defn (l : Nat) (H : Heap) : callFL cfg0 prog0 true 44 [.ptr l 0] H none = some ⟨.ret (.tup []), H, none⟩ := by
  refine (callFL_eq fn44 rfl (by simp [Tryz.f44])).trans ?_
  simp (maxSteps := 1000000) (implicitDefEqProofs := false) (disch := first | rfl | omega | assumption) only [go_sem, ltT, ltF, leT, leF, fr_stopn]

theorem fl_defs (l : Nat) (e x : Int) (H : Heap) (h : H[l]? = some (.box (I x))) : callFL cfg0 prog0 true 44 [.ptr l 0] H (some (.iface 98 (.agg [I e]), false)) = some ⟨.ret (.tup []), H.set l (.box (I e)), some (.iface 98 (.agg [I e]), true)⟩ := by
  refine (callFL_eq fn44 rfl (by simp [Tryz.f44])).trans ?_
  simp (maxSteps := 1000000) (implicitDefEqProofs := false) (disch := first | rfl | omega | assumption) only [go_sem, ltT, ltF, leT, leF, fr_stops l x e H h]

def spBd (acc : List (Int × Int)) (j : Nat) : Prop := acc.length ≤ j ∧ ∀ p ∈ acc, 0 ≤ p.2 ∧ p.2 ≤ 2000

theorem spLt (l : List (Int × Int)) (N : Nat) : ltL N (l.map spA) = true := ltL_map (fun _ => rfl) l

theorem ls_loop (xs : List Int) (hx : xs.length ≤ 401 ∧ ∀ j, j < xs.length → 0 ≤ xs.getD j 0 ∧ xs.getD j 0 ≤ 2000) (v0 : AV) (r : List (Int × Int)) :
    ∀ (q j : Nat), j + q = xs.length → ∀ (acc : List (Int × Int)), spBd acc j → (xs.drop j).foldl spStep acc = r → ∀ E : Env, E.get 3 = .ptr (H.length + 1) 0 → E.get 4 = .gsl (H.length + 2) acc.length → E.get 11 = .sl false (xs.map I) → E.get 12 = I xs.length → E.get 13 = I j →
    Option.map (finishC H.length) (execL cfg0 prog0 ⟨9, none, false, H.length⟩ (todoAt Tryz.f9 4) ⟨E, [.fn (.func 44) [] [.ptr (H.length + 1) 0]], H ++ [.box v0, .box (I 0), .grow 2 (acc.map spA)], none⟩) = some ⟨.ret (.tup [.sl false (r.map spA), I 0]), H, none⟩ := by
  intro q
  have hN := fun (G : Heap) => fl_defn (H.length + 1) G
  induction q with
  | zero =>
    intro j hj acc ha hr E g3 g4 g11 g12 g13
    have hk' : ¬ (j : Int) < ((xs.length : Nat) : Int) := by omega
    rw [List.drop_of_length_le (by omega)] at hr
    simp only [List.foldl_nil] at hr
    subst hr
    simp only [loopIt, todoPast, todoAt, todoOf, firstReg, ↓reduceIte, Option.some.injEq, Nat.reduceEqDiff, reduceCtorEq, Tryz.f9]
    rw [execL_inLoop]
    have t0 := spLt acc 0
    simp (maxSteps := 1000000) (implicitDefEqProofs := false) (disch := first | rfl | omega | assumption) only [go_sem, g3, g4, g11, g12, g13, ltT, ltF, leT, leF, hk', hN, t0]
    done
  | succ q ih =>
    intro j hj acc ha hr E g3 g4 g11 g12 g13
    have hk' : (j : Int) < ((xs.length : Nat) : Int) := by omega
    have hk2 : j < xs.length := by omega
    have hd : xs.drop j = xs.getD j 0 :: xs.drop (j + 1) := by rw [List.drop_eq_getElem_cons hk2]; simp [hk2]
    have hb := hx.2 j hk2
    rw [hd, List.foldl_cons] at hr
    have hsl : SlOk H 1 (.sl false (xs.map I)) (xs.map I) := ⟨rfl, fun x hx => by
      obtain ⟨i, _, rfl⟩ := List.mem_map.1 hx; rfl⟩
    obtain ⟨a1, a2, a3, a4, a5⟩ := hsl.fF (d := 0)
    obtain ⟨n, en⟩ : ∃ n, xs.getD j 0 = n := ⟨_, rfl⟩
    rw [en] at hr hb
    have la : (acc.map spA).length = acc.length := List.length_map _
    have t0 := spLt acc 0
    have haj := ha.1
    have hadd : ∀ o1 o2 : AO, addElem (H ++ [o1, o2, .grow 2 (acc.map spA)]) 2 true (.gsl (H.length + 2) acc.length) [.agg [I n, I n]] = some (.gsl (H.length + 2) (acc.length + 1), H ++ [o1, o2, .grow 2 ((acc ++ [(n, n)]).map spA)]) := by
      intro o1 o2
      rw [add_gsl (xs := acc.map spA) (by rw [get_at']; rfl) la rfl rfl (by simp; omega), set_at', List.map_append]
      rfl
    rcases List.eq_nil_or_concat acc with rfl | ⟨ini, p, rfl⟩
    · simp only [List.map_nil, List.length_nil, Nat.zero_add, List.nil_append] at hadd
      simp only [loopIt, todoPast, todoAt, todoOf, firstReg, ↓reduceIte, Option.some.injEq, Nat.reduceEqDiff, reduceCtorEq, Tryz.f9]
      rw [execL_inLoop]
      simp (maxSteps := 1000000) (implicitDefEqProofs := false) (disch := first | rfl | omega | assumption) only [go_sem, g3, g4, g11, g12, g13, ltT, ltF, leT, leF, hk', a1, a2, a3, a4, a5, en, hadd]
      exact ih (j + 1) (by omega) _ ⟨by simp [spStep], by simp [spStep]; exact hb⟩ hr _ (by exact g3) (by rfl) (by exact g11) (by exact g12) (by rfl)
    · have hp := ha.2 p (by simp)
      have hle : (ini.concat p).length = ini.length + 1 := by simp
      have ek : ((ini.length + 1 : Nat) : Int) - 1 = (ini.length : Int) := by omega
      have b1 : ∀ o1 o2 : AO, SlOk (H ++ [o1, o2, .grow 2 ((ini.concat p).map spA)]) 2 (.gsl (H.length + 2) (ini.length + 1)) ((ini.concat p).map spA) := fun o1 o2 => ⟨⟨by rw [get_at']; rfl, by simp⟩, fun x hx => by
        obtain ⟨i, _, rfl⟩ := List.mem_map.1 hx; rfl⟩
      have hgp : ((ini.concat p).map spA)[ini.length]? = some (spA p) := by simp
      have c1 : ∀ (o1 o2 : AO) (te : Ty), te.size = 2 → idxAddr (H ++ [o1, o2, .grow 2 ((ini.concat p).map spA)]) te (.gsl (H.length + 2) (ini.length + 1)) (ini.length : Int) = some (.eptr (H.length + 2) (ini.length + 1) ini.length 0) := fun o1 o2 te ht => ((b1 o1 o2).at (k := (ini.length : Int)) (by omega) hgp).1 te ht
      have hst : spStep (ini.concat p) n = if p.2 + 1 = n then ini.concat (p.1, n) else ini.concat p ++ [(n, n)] := by simp [spStep]
      have hse : ((ini.concat p).map spA).set ini.length (.agg [I p.1, I n]) = (ini.concat (p.1, n)).map spA := by simp [spA]
      have hgq : ((ini.concat p).map spA)[ini.length]? = some (.agg [I p.1, I p.2]) := hgp
      have hln : ((ini.concat p).map spA).length = ini.length + 1 := by simp
      rw [hst] at hr
      rw [hle] at hadd
      by_cases hc : p.2 + 1 = n
      · rw [if_pos hc] at hr
        simp only [loopIt, todoPast, todoAt, todoOf, firstReg, ↓reduceIte, Option.some.injEq, Nat.reduceEqDiff, reduceCtorEq, Tryz.f9]
        rw [execL_inLoop]
        simp (maxSteps := 1000000) (implicitDefEqProofs := false) (disch := first | rfl | omega | assumption) only [go_sem, g3, g4, g11, g12, g13, ltT, ltF, leT, leF, hk', a1, a2, a3, a4, a5, en, hadd, hle, ek, c1, hgq, hln, hse, hc]
        exact ih (j + 1) (by omega) _ ⟨by simp at haj ⊢; omega, fun q hq => by
          rw [List.concat_eq_append] at hq
          rcases List.mem_append.1 hq with hq | hq
          · exact ha.2 q (by simp [hq])
          · rw [List.mem_singleton] at hq; subst hq; exact hb⟩ hr _ (by exact g3) (by rw [show (ini.concat (p.1, n)).length = (ini.concat p).length by simp]; exact g4) (by exact g11) (by exact g12) (by rfl)
      · rw [if_neg hc] at hr
        have hcb : (p.2 + 1 == n) = false := by simp [hc]
        simp only [loopIt, todoPast, todoAt, todoOf, firstReg, ↓reduceIte, Option.some.injEq, Nat.reduceEqDiff, reduceCtorEq, Tryz.f9]
        rw [execL_inLoop]
        simp (maxSteps := 1000000) (implicitDefEqProofs := false) (disch := first | rfl | omega | assumption) only [go_sem, g3, g4, g11, g12, g13, ltT, ltF, leT, leF, hk', a1, a2, a3, a4, a5, en, hadd, hle, ek, c1, hgq, hln, hcb]
        exact ih (j + 1) (by omega) _ ⟨by simp at haj ⊢; omega, fun q hq => by
          rcases List.mem_append.1 hq with hq | hq
          · exact ha.2 q hq
          · rw [List.mem_singleton] at hq; subst hq; exact hb⟩ hr _ (by exact g3) (by rw [show (ini.concat p ++ [(n, n)]).length = ini.length + 2 by simp]; rfl) (by exact g11) (by exact g12) (by rfl)

theorem lensF_len (f : Frg) (s : Nat) : ∀ (q : Nat) (n : Int), (f.lensF s n q).length ≤ q
  | 0, n => by simp [Frg.lensF]
  | q + 1, n => by
    have := lensF_len f s q (n + 1)
    simp only [Frg.lensF]
    split
    · simp only [List.length_cons]; omega
    · omega

theorem mem_lensF (f : Frg) (s : Nat) (x : Int) : ∀ (q : Nat) (n : Int), x ∈ f.lensF s n q ↔ (n ≤ x ∧ x < n + q) ∧ f.right s x = true
  | 0, n => by simp only [Frg.lensF, List.not_mem_nil, false_iff]; omega
  | q + 1, n => by
    have ih := mem_lensF f s x q (n + 1)
    simp only [Frg.lensF]
    split
    · rename_i h
      rw [List.mem_cons, ih]
      constructor
      · rintro (rfl | ⟨h1, h2⟩)
        · exact ⟨by omega, h⟩
        · exact ⟨by omega, h2⟩
      · rintro ⟨h1, h2⟩
        by_cases hx : x = n
        · exact Or.inl hx
        · exact Or.inr ⟨by omega, h2⟩
    · rename_i h
      rw [ih]
      constructor
      · rintro ⟨h1, h2⟩; exact ⟨by omega, h2⟩
      · rintro ⟨h1, h2⟩
        by_cases hx : x = n
        · subst hx; exact absurd h2 h
        · exact ⟨by omega, h2⟩

theorem mem_lens {f : Frg} (ho : f.Ok) (s : Nat) (x : Int) : x ∈ f.lens s ↔ (f.lo ≤ x ∧ x ≤ f.hi) ∧ f.right s x = true := by
  have := ho.len
  rw [Frg.lens, mem_lensF]
  constructor
  · rintro ⟨h1, h2⟩; exact ⟨by omega, h2⟩
  · rintro ⟨h1, h2⟩; exact ⟨by omega, h2⟩

theorem fr_Lengths {f : Frg} {vw vr : AV} (hf : FrAt H f vw vr) (hl : f.ws.length ≤ 1000 ∧ f.rs.length ≤ 1000) :
    callFL cfg0 prog0 false 9 [.agg [vw, I f.lo, I f.hi, vr]] H none = some ⟨.ret (.tup (if f.valid then (if (f.lens f.all).isEmpty then [.sl true [], I 10] else [.sl false ((spans (f.lens f.all)).map spA), I 0]) else [.sl true [], I 1])), H, none⟩ := by
  have s1 := hf.ws.scal
  have s2 := hf.rs.scal
  have hO := fun G : Heap => fr_open (hf.app G) hl (.func 45) [] rfl true (fun _ A => by
    have := fr_always (.agg [vw, I f.lo, I f.hi, vr]) (by simp only [elemOk, allScalar, s1, s2, AV.cells]; rfl) ((H ++ G) ++ A)
    rw [callVL_func]
    exact this)
  have hS := fun (e : Int) (a : AO) (G : Heap) => fl_defs (H.length + 1) e 0 (H ++ (a :: .box (I 0) :: G)) (by rw [get_at' 1]; rfl)
  cases hv : f.valid
  · simp only [hv, Bool.false_eq_true, if_false] at hO ⊢
    refine (callFL_eq fn9 rfl (by simp [Tryz.f9])).trans ?_
    simp (maxSteps := 1000000) (implicitDefEqProofs := false) (disch := first | rfl | omega | assumption) only [go_sem, ltT, ltF, leT, leF, s1, s2, hO, hS]
    done
  · have ho := f.valid_iff.1 hv
    have hT := fun G : Heap => fl_told ho (hf.app G)
    have hlen : ((f.lens f.all).map I).length = (f.lens f.all).length := List.length_map I
    have hle := lensF_len f f.all (f.hi + 1 - f.lo).toNat f.lo
    have hfl := ho.len
    simp only [hv, if_true] at hO ⊢
    have hm := fun x => mem_lens ho f.all x
    have hx : (f.lens f.all).length ≤ 401 ∧ ∀ j, j < (f.lens f.all).length → 0 ≤ (f.lens f.all).getD j 0 ∧ (f.lens f.all).getD j 0 ≤ 2000 := by
      refine ⟨by simp only [Frg.lens]; omega, fun j hj => ?_⟩
      have := (hm ((f.lens f.all).getD j 0)).1 (by simp only [List.getD_eq_getElem?_getD, List.getElem?_eq_getElem hj, Option.getD_some]; exact List.getElem_mem hj)
      omega
    generalize f.lens f.all = xs at hT hlen hx ⊢
    cases hc : xs.isEmpty
    · simp only [hc, Bool.false_eq_true, if_false] at hT ⊢
      have hls := ls_loop xs hx (.agg [vw, I f.lo, I f.hi, vr]) (spans xs) xs.length 0 (by omega) [] ⟨by simp, by simp⟩ rfl (H := H)
      refine (callFL_eq fn9 rfl (by simp [Tryz.f9])).trans ?_
      simp (maxSteps := 1000000) (implicitDefEqProofs := false) (disch := first | rfl | omega | assumption) only [go_sem, ltT, ltF, leT, leF, s1, s2, hO, hS, hT, hlen]
      exact hls _ (by rfl) (by rfl) (by rfl) (by rfl) (by rfl)
    · simp only [hc, if_true] at hT ⊢
      refine (callFL_eq fn9 rfl (by simp [Tryz.f9])).trans ?_
      simp (maxSteps := 1000000) (implicitDefEqProofs := false) (disch := first | rfl | omega | assumption) only [go_sem, ltT, ltF, leT, leF, s1, s2, hO, hS, hT]
      done

end Go.Ab
/-
  fringe.Part.
-/
namespace Go.Ab
open Go.Proofs
set_option linter.unusedSimpArgs false
set_option linter.unusedVariables false
set_option maxRecDepth 100000
set_option maxHeartbeats 1000000

variable {H : Heap}

theorem fp_open2 {f : Frg} {vw vr : AV} (h : FrAt H f vw vr) (hl : f.ws.length ≤ 1000) (n k : Int) (a b : Nat) (ha : H[a]? = some (.box (I n))) (hb : H[b]? = some (.box (I k))) :
    callFL cfg0 prog0 false 35 [.agg [vw, I f.lo, I f.hi, vr], .ptr a 0, .ptr b 0] H none = some ⟨.ret (.bool (wi n 0 2000 && wi k 0 ((f.ws.length : Int) - 1))), H, none⟩ := by
  have s1 := h.ws.scal
  have s2 := h.rs.scal
  have hC := fun G : Heap => fr_isColour (h.app G) hl k
  simp only [Frg.av] at hC
  have la : a < H.length := (List.getElem?_eq_some_iff.1 ha).1
  have lb : b < H.length := (List.getElem?_eq_some_iff.1 hb).1
  have ha' : ∀ G : Heap, (H ++ G)[a]? = some (.box (I n)) := fun G => by rw [List.getElem?_append_left la]; exact ha
  have hb' : ∀ G : Heap, (H ++ G)[b]? = some (.box (I k)) := fun G => by rw [List.getElem?_append_left lb]; exact hb
  cases hc : wi n 0 2000
  · skip
    refine (callFL_eq fn35 rfl (by simp [Tryz.f35])).trans ?_
    simp (maxSteps := 1000000) (implicitDefEqProofs := false) (disch := first | rfl | omega | assumption) only [go_sem, ltT, ltF, leT, leF, s1, s2, ha', hb', fr_isLength, hc]
    done
  · skip
    refine (callFL_eq fn35 rfl (by simp [Tryz.f35])).trans ?_
    simp (maxSteps := 1000000) (implicitDefEqProofs := false) (disch := first | rfl | omega | assumption) only [go_sem, ltT, ltF, leT, leF, s1, s2, ha', hb', fr_isLength, hc, hC]
    done

theorem fr_Part {f : Frg} {vw vr : AV} (hf : FrAt H f vw vr) (hl : f.ws.length ≤ 1000 ∧ f.rs.length ≤ 1000) (n k : Int) :
    callFL cfg0 prog0 false 7 [.agg [vw, I f.lo, I f.hi, vr], I n, I k] H none = some ⟨.ret (.tup (if f.valid then (if wi n 0 2000 && wi k 0 ((f.ws.length : Int) - 1) then [I (n / f.w k.toNat), I (ptZ (f.w k.toNat) n), I 0] else [I 0, I 0, I 2]) else [I 0, I 0, I 1])), H, none⟩ := by
  have s1 := hf.ws.scal
  have s2 := hf.rs.scal
  have hO := fr_open (H := H ++ [.box (.agg [vw, I f.lo, I f.hi, vr]), .box (I n), .box (I k), .box (I 0), .box (.agg [I 0, I 0])]) (hf.app _) hl (.func 35) [.ptr (H.length + 1) 0, .ptr (H.length + 2) 0] (by simp [AV.lt, ltL, fnLt]) (wi n 0 2000 && wi k 0 ((f.ws.length : Int) - 1)) (fun _ A => by
    have := fp_open2 (H := H ++ ([.box (.agg [vw, I f.lo, I f.hi, vr]), .box (I n), .box (I k), .box (I 0), .box (.agg [I 0, I 0])] ++ A)) (hf.app _) hl.1 n k (H.length + 1) (H.length + 2) (by rw [get_at' 1]; rfl) (by rw [get_at' 2]; rfl)
    rw [callVL_func, List.append_assoc]
    exact this)
  have hS := fun (e : Int) (a b c : AO) (G : Heap) => fr_defs (H.length + 3) e 0 (H ++ (a :: b :: c :: .box (I 0) :: G)) (by rw [get_at' 3]; rfl)
  have hN := fun (G : Heap) => fr_defn (H.length + 3) G
  cases hv : f.valid
  · simp only [hv, Bool.false_eq_true, if_false] at hO ⊢
    refine (callFL_eq fn7 rfl (by simp [Tryz.f7])).trans ?_
    simp (maxSteps := 1000000) (implicitDefEqProofs := false) (disch := first | rfl | omega | assumption) only [go_sem, ltT, ltF, leT, leF, s1, s2]
    rw [chkK_of]; rotate_left; kernel_rfl
    simp (maxSteps := 1000000) (implicitDefEqProofs := false) (disch := first | rfl | omega | assumption) only [go_sem, ltT, ltF, leT, leF, s1, s2, hO, hS]
    done
  · have ho := f.valid_iff.1 hv
    simp only [hv, if_true] at hO ⊢
    cases hc : (wi n 0 2000 && wi k 0 ((f.ws.length : Int) - 1))
    · simp only [hc, Bool.false_eq_true, if_false] at hO ⊢
      refine (callFL_eq fn7 rfl (by simp [Tryz.f7])).trans ?_
      simp (maxSteps := 1000000) (implicitDefEqProofs := false) (disch := first | rfl | omega | assumption) only [go_sem, ltT, ltF, leT, leF, s1, s2]
      rw [chkK_of]; rotate_left; kernel_rfl
      simp (maxSteps := 1000000) (implicitDefEqProofs := false) (disch := first | rfl | omega | assumption) only [go_sem, ltT, ltF, leT, leF, s1, s2, hO, hS]
      done
    · have hcc : (0 ≤ n ∧ n ≤ 2000) ∧ 0 ≤ k ∧ k < f.ws.length := by
        simp [wi] at hc; omega
      have hw := ho.wave k.toNat (by omega)
      have hW := fun G : Heap => fr_wave (hf.app G) k.toNat (by omega)
      have hcn : (k.toNat : Int) = k := by omega
      rw [hcn] at hW
      have hB := fun G : Heap => fr_of (f.w k.toNat) n (by omega) (by omega) G
      simp only [hc, if_true, Frg.av] at hO hW ⊢
      refine (callFL_eq fn7 rfl (by simp [Tryz.f7])).trans ?_
      simp (maxSteps := 1000000) (implicitDefEqProofs := false) (disch := first | rfl | omega | assumption) only [go_sem, ltT, ltF, leT, leF, s1, s2]
      rw [chkK_of]; rotate_left; kernel_rfl
      simp (maxSteps := 1000000) (implicitDefEqProofs := false) (disch := first | rfl | omega | assumption) only [go_sem, ltT, ltF, leT, leF, s1, s2, hO, hW, hB]
      rw [chkK_of]; rotate_left; kernel_rfl
      simp (maxSteps := 1000000) (implicitDefEqProofs := false) (disch := first | rfl | omega | assumption) only [go_sem, ltT, ltF, leT, leF, hN]
      done

end Go.Ab
