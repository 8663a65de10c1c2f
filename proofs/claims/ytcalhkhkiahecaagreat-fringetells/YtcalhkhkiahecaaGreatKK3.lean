/-
  Sets of readings; whether there is a truth.
-/
import Derived.Test.YtcalhkhkiahecaaGreatKK1
import Derived.Test.YtcalhkhkiahecaaGreatKK2
import Derived.Test.YtcalhkhkiahecaaGreatKK0
namespace Go.Ab
open Go.Proofs
set_option linter.unusedSimpArgs false
set_option linter.unusedVariables false
set_option maxRecDepth 100000
set_option maxHeartbeats 2000000

variable {H : Heap}


/-- All sets, as they come. -/
def allS (n : Nat) : List Nat := List.range (2 ^ n)

theorem s_cmp : Cmp (.func 93) [] popK 1024 where
  call x y G hx hy := by
    have h1 := fun G : Heap => ones (H := G) hx
    have h2 := fun G : Heap => ones (H := G) hy
    have b1 := popF_le 20 x
    have b2 := popF_le 20 y
    have e : IntKind.i64.wrap ((pop x : Int) - (pop y : Int)) = (pop x : Int) - (pop y : Int) := w64 (by simp only [pop]; omega) (by simp only [pop]; omega)
    simp only [callVL_func, List.append_nil, popK]
    refine (callFL_eq fn93 rfl (by simp [Tryz.f93])).trans ?_
    simp (maxSteps := 1000000) (implicitDefEqProofs := false) (disch := first | rfl | omega | assumption) only [go_sem, h1, h2, e]
  bd x := by have := popF_le 20 x; simp only [popK, pop]; omega

theorem allS_len (n : Nat) : (allS n).length = 2 ^ n := by simp [allS]
theorem allS_small {n : Nat} (h : n ≤ 10) : Small 1024 (allS n) := by
  intro k hk
  rw [allS_len] at hk
  have : (2 : Nat) ^ n ≤ 2 ^ 10 := Nat.pow_le_pow_right (by omega) h
  have e : (allS n).getD k 0 = k := by simp [allS, hk]
  rw [e]; omega

theorem small_stab {key : Nat → Int} {B : Nat} {n : Nat} {L : List Nat} {rk : Nat → Nat} (hl : L.length = n) (hB : Small B L) (hu : ∀ k l, k < l → l < n → rk (gt L k) < rk (gt L l)) : Small B (stab key n L) := by
  obtain ⟨_, h2⟩ := stab_srt (key := key) (rk := rk) hl hu
  intro k hk
  rw [stab_len, hl] at hk
  obtain ⟨j, j1, j2, e⟩ := h2.fwd k (by omega) hk
  show gt (stab key n L) k < B
  rw [e]
  exact hB j (by omega)

theorem gt_all {n k : Nat} (h : k < 2 ^ n) : gt (allS n) k = k := by simp [gt, allS, h]
theorem allS_up (n : Nat) : ∀ k l, k < l → l < 2 ^ n → id (gt (allS n) k) < id (gt (allS n) l) := fun k l h1 h2 => by
  rw [gt_all h2, gt_all (Nat.lt_trans h1 h2)]
  exact h1

def setL (n : Nat) : List Nat := stab popK (2 ^ n) (allS n)
theorem setL_len (n : Nat) : (setL n).length = 2 ^ n := by rw [setL, stab_len, allS_len]
theorem setL_lt (n : Nat) : Small (2 ^ n) (setL n) := small_stab (rk := id) (allS_len n) (fun k hk => by
    rw [allS_len] at hk
    show gt (allS n) k < 2 ^ n
    rw [gt_all hk]; exact hk) (allS_up n)
/-- The first sets, written; the rest is still 0. -/
def upto (m j : Nat) : List Nat := List.range j ++ List.replicate (m - j) 0
theorem upto_len {m j : Nat} (h : j ≤ m) : (upto m j).length = m := by simp [upto]; omega
theorem upto_set {m j : Nat} (h : j < m) : (upto m j).set j j = upto m (j + 1) := by
  simp only [upto]
  rw [List.set_append_right _ _ (by simp), List.length_range, Nat.sub_self, show m - j = (m - (j + 1)) + 1 by omega, List.replicate_succ, List.set_cons_zero, List.range_succ, List.append_assoc]
  rfl

theorem upto_st {o0 : AO} {b m j : Nat} {z : Option Value} (hj : j < m) :
    evStore b (H ++ [o0, .grow 1 ((upto m j).map U)]) ⟨.int .u64, 1, 8, z⟩ (.eptr (H.length + 1) m j 0) (U j) = some (H ++ [o0, .grow 1 ((upto m (j + 1)).map U)]) := by
  have h2 := upto_len (m := m) (j := j) (by omega)
  have h1 : ((upto m j).map U)[j]? = some (U ((upto m j).getD j 0)) := by simp [h2, hj]
  rw [← upto_set hj]
  simp only [evStore_eptr, get_at', List.getElem?_cons_succ, List.getElem?_cons_zero, List.length_map, h1, h2]
  simp [AV.lt, writePart, allScalar, AV.cells, AV.scalar, splice, AV.withCells, List.map_set, set_at']

theorem okU (l : List Nat) : elemsOk 1 false (l.map U) = true := by
  induction l with
  | nil => rfl
  | cons x r ih => simp only [List.map_cons, elemsOk, ih, Bool.and_true]; rfl

theorem cp_sets {o0 : AO} {xs ys : List AV} {L : List Nat} (hx : xs = L.map U) {n : Nat} (hn : L.length = n) (hy : ys.length = n) : evCopy cfg0 (H ++ [o0, .grow 1 xs, .grow 1 ys]) [88, 88] (.gsl (H.length + 2) n) (.gsl (H.length + 1) n) = some (I n, H ++ [o0, .grow 1 xs, .grow 1 xs]) := by
  subst hx
  have h1 : elems (H ++ [o0, .grow 1 (L.map U), .grow 1 ys]) (.gsl (H.length + 1) n) = some (L.map U) := by simp [elems, get_at', hn]
  have h2 : (H ++ [o0, .grow 1 (L.map U), .grow 1 ys])[H.length + 2]? = some (.grow 1 ys) := by rw [get_at']; rfl
  have h3 : ltL 0 (L.map U) = true := ltL_map (fun _ => rfl) _
  simp only [evCopy, sliceElem, ty88, ty70, h1, h2, h3, Ty.agg, okU, Bool.true_and]
  rw [if_pos (by simp [hn, hy]), set_at']
  simp [hn]

theorem sets_loop (n : Nat) (hn : n ≤ 10) (m : Nat) (hm : m = 2 ^ n) (hm2 : m ≤ 1024) (v0 : AV) :
    ∀ (q j : Nat), j + q = m → ∀ E : Env, E.get 3 = .gsl (H.length + 1) m → E.get 11 = I m → E.get 12 = I j →
    Option.map (finishC H.length) (execL cfg0 prog0 ⟨73, none, false, H.length⟩ (todoAt Tryz.f73 3) ⟨E, [], H ++ [.box v0, .grow 1 ((upto m j).map U)], none⟩) = some ⟨.ret (.sl false ((setL n).map U)), H, none⟩ := by
  intro q
  have hp : H.length + 2 < (H ++ [.box v0, .grow 1 ((allS n).map U), AO.grow 1 ((allS n).map U)]).length := by simp
  have hSo := so_sort (H := H ++ [.box v0, .grow 1 ((allS n).map U), AO.grow 1 ((allS n).map U)]) s_cmp hp (n := m) (by omega) (L := allS n) (by rw [allS_len, hm]) (allS_small hn)
  have e1 : ∀ M : List Nat, GH (H ++ [.box v0, .grow 1 ((allS n).map U), AO.grow 1 ((allS n).map U)]) (H.length + 2) M = H ++ [.box v0, .grow 1 ((allS n).map U), AO.grow 1 (M.map U)] := fun M => by simp [GH, set_at']
  rw [e1, e1] at hSo
  have hsl : stab popK m (allS n) = setL n := by rw [hm]; rfl
  rw [hsl] at hSo
  induction q with
  | zero =>
    intro j hj  E g3 g11 g12
    have hk' : ¬ (j : Int) < ((m : Nat) : Int) := by omega
    have ej : j = m := by omega
    subst ej
    have ea : upto j j = allS n := by rw [hm]; simp [upto, allS]
    rw [ea]
    simp only [loopIt, todoPast, todoAt, todoOf, firstReg, ↓reduceIte, Option.some.injEq, Nat.reduceEqDiff, reduceCtorEq, Tryz.f73]
    rw [execL_inLoop]
    have hla : (allS n).length = j := by rw [allS_len, hm]
    have hls : (setL n).length = j := by rw [setL_len, hm]
    have ht : ltL 0 ((setL n).map U) = true := ltL_map (fun _ => rfl) _
    have ht2 : ltL 0 ((allS n).map U) = true := ltL_map (fun _ => rfl) _
    have hcp := cp_sets (H := H) (o0 := .box v0) (xs := (allS n).map U) (ys := List.replicate j (.int .u64 0)) rfl hla (by simp)
    simp (maxSteps := 1000000) (implicitDefEqProofs := false) (disch := first | rfl | omega | assumption) only [go_sem, g3, g11, g12, ltT, ltF, leT, leF, hk', hSo, hla, hls, ht, ht2, hcp, Option.map_some]
    done
  | succ q ih =>
    intro j hj  E g3 g11 g12
    have hk' : (j : Int) < ((m : Nat) : Int) := by omega
    have hk2 : j < m := by omega
    simp only [loopIt, todoPast, todoAt, todoOf, firstReg, ↓reduceIte, Option.some.injEq, Nat.reduceEqDiff, reduceCtorEq, Tryz.f73]
    rw [execL_inLoop]
    have h2 := upto_len (m := m) (j := j) (by omega)
    have hst := fun (b : Nat) (z : Option Value) => upto_st (H := H) (o0 := .box v0) (b := b) (z := z) hk2
    have hw : IntKind.u64.wrap (j : Int) = (j : Int) := wrapU (by omega)
    have hia : ∀ te : Ty, te.size = 1 → idxAddr (H ++ [.box v0, .grow 1 ((upto m j).map U)]) te (.gsl (H.length + 1) m) (j : Int) = some (.eptr (H.length + 1) m j 0) := by
      intro te ht
      simp only [idxAddr, get_at', List.getElem?_cons_succ, List.getElem?_cons_zero, List.length_map, h2, ht]
      simp [hk2]
    simp (maxSteps := 1000000) (implicitDefEqProofs := false) (disch := first | rfl | omega | assumption) only [go_sem, g3, g11, g12, ltT, ltF, leT, leF, hk', hia, hst, hw]
    exact ih (j + 1) (by omega) _ (by exact g3) (by exact g11) (by rfl)

theorem fr_sets {f : Frg} {vw vr : AV} (h : FrAt H f vw vr) (ho : f.Ok) : callFL cfg0 prog0 false 73 [f.av vw vr] H none = some ⟨.ret (.sl false ((setL f.rs.length).map U)), H, none⟩ := by
  have s1 := h.ws.scal
  have s2 := h.rs.scal
  have h6 := ho.reads
  have h2 : (2 : Nat) ^ f.rs.length ≤ 2 ^ 6 := Nat.pow_le_pow_right (by omega) h6
  have hpos := Nat.two_pow_pos f.rs.length
  have hE := fun G : Heap => fr_every (h.app G) h6
  have h1 := sets_loop (H := H) f.rs.length (by omega) (2 ^ f.rs.length) rfl (by omega) (f.av vw vr) (2 ^ f.rs.length) 0 (by omega)
  have e0 : (upto (2 ^ f.rs.length) 0).map U = List.replicate (2 ^ f.rs.length) (.int .u64 0) := by simp [upto]
  have ew : IntKind.u64.wrap (((2 ^ f.rs.length - 1 : Nat) : Int) + 1) = ((2 ^ f.rs.length : Nat) : Int) := by
    rw [show ((2 ^ f.rs.length - 1 : Nat) : Int) + 1 = ((2 ^ f.rs.length : Nat) : Int) by omega]
    exact wrapU (by omega)
  rw [e0] at h1
  simp only [Frg.av] at hE h1 ⊢
  refine (callFL_eq fn73 rfl (by simp [Tryz.f73])).trans ?_
  simp (maxSteps := 1000000) (implicitDefEqProofs := false) (disch := first | rfl | omega | assumption) only [go_sem, ltT, ltF, leT, leF, s1, s2, hE, ew]
  exact h1 _ (by rfl) (by rfl) (by rfl)

end Go.Ab
/-
  What is done on the way out; whether there is a truth; Count, Wrong, Clash.
-/
namespace Go.Ab
open Go.Proofs
set_option linter.unusedSimpArgs false
set_option linter.unusedVariables false
set_option maxRecDepth 100000
set_option maxHeartbeats 2000000

variable {H : Heap}


theorem wd_Countn (l : Nat) (H : Heap) : callFL cfg0 prog0 true 48 [.ptr l 0] H none = some ⟨.ret (.tup []), H, none⟩ := by
  refine (callFL_eq fn48 rfl (by simp [Tryz.f48])).trans ?_
  simp (maxSteps := 1000000) (implicitDefEqProofs := false) (disch := first | rfl | omega | assumption) only [go_sem, ltT, ltF, leT, leF, fr_stopn]

theorem wd_Counts (l : Nat) (e x : Int) (H : Heap) (h : H[l]? = some (.box (I x))) : callFL cfg0 prog0 true 48 [.ptr l 0] H (some (.iface 98 (.agg [I e]), false)) = some ⟨.ret (.tup []), H.set l (.box (I e)), some (.iface 98 (.agg [I e]), true)⟩ := by
  refine (callFL_eq fn48 rfl (by simp [Tryz.f48])).trans ?_
  simp (maxSteps := 1000000) (implicitDefEqProofs := false) (disch := first | rfl | omega | assumption) only [go_sem, ltT, ltF, leT, leF, fr_stops l x e H h]

theorem wd_Nearn (l : Nat) (H : Heap) : callFL cfg0 prog0 true 52 [.ptr l 0] H none = some ⟨.ret (.tup []), H, none⟩ := by
  refine (callFL_eq fn52 rfl (by simp [Tryz.f52])).trans ?_
  simp (maxSteps := 1000000) (implicitDefEqProofs := false) (disch := first | rfl | omega | assumption) only [go_sem, ltT, ltF, leT, leF, fr_stopn]

theorem wd_Nears (l : Nat) (e x : Int) (H : Heap) (h : H[l]? = some (.box (I x))) : callFL cfg0 prog0 true 52 [.ptr l 0] H (some (.iface 98 (.agg [I e]), false)) = some ⟨.ret (.tup []), H.set l (.box (I e)), some (.iface 98 (.agg [I e]), true)⟩ := by
  refine (callFL_eq fn52 rfl (by simp [Tryz.f52])).trans ?_
  simp (maxSteps := 1000000) (implicitDefEqProofs := false) (disch := first | rfl | omega | assumption) only [go_sem, ltT, ltF, leT, leF, fr_stops l x e H h]

theorem wd_Wholen (l : Nat) (H : Heap) : callFL cfg0 prog0 true 57 [.ptr l 0] H none = some ⟨.ret (.tup []), H, none⟩ := by
  refine (callFL_eq fn57 rfl (by simp [Tryz.f57])).trans ?_
  simp (maxSteps := 1000000) (implicitDefEqProofs := false) (disch := first | rfl | omega | assumption) only [go_sem, ltT, ltF, leT, leF, fr_stopn]

theorem wd_Wholes (l : Nat) (e x : Int) (H : Heap) (h : H[l]? = some (.box (I x))) : callFL cfg0 prog0 true 57 [.ptr l 0] H (some (.iface 98 (.agg [I e]), false)) = some ⟨.ret (.tup []), H.set l (.box (I e)), some (.iface 98 (.agg [I e]), true)⟩ := by
  refine (callFL_eq fn57 rfl (by simp [Tryz.f57])).trans ?_
  simp (maxSteps := 1000000) (implicitDefEqProofs := false) (disch := first | rfl | omega | assumption) only [go_sem, ltT, ltF, leT, leF, fr_stops l x e H h]

theorem wd_Partsn (l : Nat) (H : Heap) : callFL cfg0 prog0 true 62 [.ptr l 0] H none = some ⟨.ret (.tup []), H, none⟩ := by
  refine (callFL_eq fn62 rfl (by simp [Tryz.f62])).trans ?_
  simp (maxSteps := 1000000) (implicitDefEqProofs := false) (disch := first | rfl | omega | assumption) only [go_sem, ltT, ltF, leT, leF, fr_stopn]

theorem wd_Partss (l : Nat) (e x : Int) (H : Heap) (h : H[l]? = some (.box (I x))) : callFL cfg0 prog0 true 62 [.ptr l 0] H (some (.iface 98 (.agg [I e]), false)) = some ⟨.ret (.tup []), H.set l (.box (I e)), some (.iface 98 (.agg [I e]), true)⟩ := by
  refine (callFL_eq fn62 rfl (by simp [Tryz.f62])).trans ?_
  simp (maxSteps := 1000000) (implicitDefEqProofs := false) (disch := first | rfl | omega | assumption) only [go_sem, ltT, ltF, leT, leF, fr_stops l x e H h]

theorem wd_Periodn (l : Nat) (H : Heap) : callFL cfg0 prog0 true 66 [.ptr l 0] H none = some ⟨.ret (.tup []), H, none⟩ := by
  refine (callFL_eq fn66 rfl (by simp [Tryz.f66])).trans ?_
  simp (maxSteps := 1000000) (implicitDefEqProofs := false) (disch := first | rfl | omega | assumption) only [go_sem, ltT, ltF, leT, leF, fr_stopn]

theorem wd_Periods (l : Nat) (e x : Int) (H : Heap) (h : H[l]? = some (.box (I x))) : callFL cfg0 prog0 true 66 [.ptr l 0] H (some (.iface 98 (.agg [I e]), false)) = some ⟨.ret (.tup []), H.set l (.box (I e)), some (.iface 98 (.agg [I e]), true)⟩ := by
  refine (callFL_eq fn66 rfl (by simp [Tryz.f66])).trans ?_
  simp (maxSteps := 1000000) (implicitDefEqProofs := false) (disch := first | rfl | omega | assumption) only [go_sem, ltT, ltF, leT, leF, fr_stops l x e H h]

theorem wd_Askn (l : Nat) (H : Heap) : callFL cfg0 prog0 true 68 [.ptr l 0] H none = some ⟨.ret (.tup []), H, none⟩ := by
  refine (callFL_eq fn68 rfl (by simp [Tryz.f68])).trans ?_
  simp (maxSteps := 1000000) (implicitDefEqProofs := false) (disch := first | rfl | omega | assumption) only [go_sem, ltT, ltF, leT, leF, fr_stopn]

theorem wd_Asks (l : Nat) (e x : Int) (H : Heap) (h : H[l]? = some (.box (I x))) : callFL cfg0 prog0 true 68 [.ptr l 0] H (some (.iface 98 (.agg [I e]), false)) = some ⟨.ret (.tup []), H.set l (.box (I e)), some (.iface 98 (.agg [I e]), true)⟩ := by
  refine (callFL_eq fn68 rfl (by simp [Tryz.f68])).trans ?_
  simp (maxSteps := 1000000) (implicitDefEqProofs := false) (disch := first | rfl | omega | assumption) only [go_sem, ltT, ltF, leT, leF, fr_stops l x e H h]

theorem wd_Wrongn (l : Nat) (H : Heap) : callFL cfg0 prog0 true 71 [.ptr l 0] H none = some ⟨.ret (.tup []), H, none⟩ := by
  refine (callFL_eq fn71 rfl (by simp [Tryz.f71])).trans ?_
  simp (maxSteps := 1000000) (implicitDefEqProofs := false) (disch := first | rfl | omega | assumption) only [go_sem, ltT, ltF, leT, leF, fr_stopn]

theorem wd_Wrongs (l : Nat) (e x : Int) (H : Heap) (h : H[l]? = some (.box (I x))) : callFL cfg0 prog0 true 71 [.ptr l 0] H (some (.iface 98 (.agg [I e]), false)) = some ⟨.ret (.tup []), H.set l (.box (I e)), some (.iface 98 (.agg [I e]), true)⟩ := by
  refine (callFL_eq fn71 rfl (by simp [Tryz.f71])).trans ?_
  simp (maxSteps := 1000000) (implicitDefEqProofs := false) (disch := first | rfl | omega | assumption) only [go_sem, ltT, ltF, leT, leF, fr_stops l x e H h]

theorem wd_Clashn (l : Nat) (H : Heap) : callFL cfg0 prog0 true 80 [.ptr l 0] H none = some ⟨.ret (.tup []), H, none⟩ := by
  refine (callFL_eq fn80 rfl (by simp [Tryz.f80])).trans ?_
  simp (maxSteps := 1000000) (implicitDefEqProofs := false) (disch := first | rfl | omega | assumption) only [go_sem, ltT, ltF, leT, leF, fr_stopn]

theorem wd_Clashs (l : Nat) (e x : Int) (H : Heap) (h : H[l]? = some (.box (I x))) : callFL cfg0 prog0 true 80 [.ptr l 0] H (some (.iface 98 (.agg [I e]), false)) = some ⟨.ret (.tup []), H.set l (.box (I e)), some (.iface 98 (.agg [I e]), true)⟩ := by
  refine (callFL_eq fn80 rfl (by simp [Tryz.f80])).trans ?_
  simp (maxSteps := 1000000) (implicitDefEqProofs := false) (disch := first | rfl | omega | assumption) only [go_sem, ltT, ltF, leT, leF, fr_stops l x e H h]

theorem itL_no (f : Frg) (s : Nat) : ∀ (q : Nat) (n : Int), (itL f s (fun (_ : Unit) _ => ((), false)) () n q).2 = (f.lensF s n q).isEmpty
  | 0, n => rfl
  | q + 1, n => by
    simp only [itL, Frg.lensF]
    split
    · rfl
    · exact itL_no f s q _

/-- Whether there is a truth. -/
def Frg.can (f : Frg) (s : Nat) : Bool := !(f.lens s).isEmpty

theorem fr_can {f : Frg} (ho : f.Ok) {vw vr : AV} (hf : FrAt H f vw vr) {s : Nat} (hs : s < 64) :
    callFL cfg0 prog0 false 75 [.agg [vw, I f.lo, I f.hi, vr], U s] H none = some ⟨.ret (.bool (f.can s)), H, none⟩ := by
  have s1 := hf.ws.scal
  have s2 := hf.rs.scal
  have hL := fun G : Heap => fl_lengths (.agg [vw, I f.lo, I f.hi, vr]) (by simp only [elemOk, allScalar, s1, s2, AV.cells]; rfl) s G
  have hI := fl_it ho hs (p1 := H.length + 2) (p2 := H.length + 3) (N := H.length + 6) (y := H.length + 5) (vw := vw) (vr := vr)
    (Hr := fun _ : Unit => H ++ [.box (.agg [vw, I f.lo, I f.hi, vr]), .box (.bool false), .box (.agg [vw, I f.lo, I f.hi, vr]), .box (U s), .dfr, .loop (loopRec Tryz.f75 75 0 [(7, .func (.func 87) [] [.ptr (H.length + 2) 0, .ptr (H.length + 3) 0]), (6, U s), (5, .agg [vw, I f.lo, I f.hi, vr]), (4, .ptr (H.length + 1) 0), (2, .ptr H.length 0), (0, .agg [vw, I f.lo, I f.hi, vr]), (1, U s)] (H.length + 4))])
    (Hd := fun _ : Unit => H ++ [.box (.agg [vw, I f.lo, I f.hi, vr]), .box (.bool true), .box (.agg [vw, I f.lo, I f.hi, vr]), .box (U s), .dfr, .loop { loopRec Tryz.f75 75 0 [(7, .func (.func 87) [] [.ptr (H.length + 2) 0, .ptr (H.length + 3) 0]), (6, U s), (5, .agg [vw, I f.lo, I f.hi, vr]), (4, .ptr (H.length + 1) 0), (2, .ptr H.length 0), (0, .agg [vw, I f.lo, I f.hi, vr]), (1, U s)] (H.length + 4) with state := .done, pending := some .ret }])
    (Q := fun _ _ => True) (g := fun _ _ => ((), false))
    ⟨fun _ => by simp, fun _ => by simp, fun _ => by rw [get_at']; rfl, fun _ => by rw [get_at']; rfl, fun _ => hf.app _, fun _ _ _ => trivial, fun _ _ _ => trivial, fun _ m _ _ _ => by
      simp (maxSteps := 1000000) (implicitDefEqProofs := false) (disch := first | rfl | omega | assumption) only [go_sem, ltT, ltF, leT, leF, loopRec, rangesOf, List.nil_append, List.append_nil, List.cons_append, List.getElem?_cons_zero, List.getElem?_cons_succ, Tryz.f75]⟩ () trivial _ rfl
  have hn := itL_no f s (f.hi + 1 - f.lo).toNat f.lo
  generalize itL f s (fun (_ : Unit) _ => ((), false)) () f.lo (f.hi + 1 - f.lo).toNat = r at hI hn
  simp only [loopRec, rangesOf, List.nil_append, List.append_nil, List.cons_append, List.getElem?_cons_zero, List.getElem?_cons_succ, Tryz.f75] at hI
  have hc : f.can s = !r.2 := by rw [hn]; rfl
  rw [hc]
  obtain ⟨r1, r2⟩ := r
  cases r2 with
  | true =>
    simp only [if_true] at hI
    refine (callFL_eq fn75 rfl (by simp [Tryz.f75])).trans ?_
    simp (maxSteps := 1000000) (implicitDefEqProofs := false) (disch := first | rfl | omega | assumption) only [go_sem, ltT, ltF, leT, leF, s1, s2, hL, hI]
  | false =>
    simp only [Bool.false_eq_true, if_false] at hI
    refine (callFL_eq fn75 rfl (by simp [Tryz.f75])).trans ?_
    simp (maxSteps := 1000000) (implicitDefEqProofs := false) (disch := first | rfl | omega | assumption) only [go_sem, ltT, ltF, leT, leF, s1, s2, hL, hI]

theorem fr_openA {f : Frg} {vw vr : AV} (h : FrAt H f vw vr) (hl : f.ws.length ≤ 1000 ∧ f.rs.length ≤ 1000) :
    callFL cfg0 prog0 false 34 [.agg [vw, I f.lo, I f.hi, vr], .func (.func 45) [] []] H none = some ⟨if f.valid then .ret (.agg [vw, I f.lo, I f.hi, vr]) else .pan (.iface 98 (.agg [I 1])), H, none⟩ := by
  have s1 := h.ws.scal
  have s2 := h.rs.scal
  exact fr_open h hl (.func 45) [] rfl true (fun _ A => by
    have := fr_always (.agg [vw, I f.lo, I f.hi, vr]) (by simp only [elemOk, allScalar, s1, s2, AV.cells]; rfl) (H ++ A)
    rw [callVL_func]
    exact this)

def Frg.count (f : Frg) : Int × Int := if f.valid then (((f.lens f.all).length : Int), 0) else (0, 1)

theorem itL_count (f : Frg) (s : Nat) : ∀ (q : Nat) (n : Int) (st : Nat), itL f s (fun (k : Nat) _ => (k + 1, true)) st n q = (st + (f.lensF s n q).length, true)
  | 0, n, st => by simp [itL, Frg.lensF]
  | q + 1, n, st => by
    simp only [itL, Frg.lensF]
    split
    · simp only [if_true]
      rw [itL_count f s q]; simp only [List.length_cons]; congr 1; omega
    · exact itL_count f s q _ _

theorem fr_Count {f : Frg} {vw vr : AV} (hf : FrAt H f vw vr) (hl : f.ws.length ≤ 1000 ∧ f.rs.length ≤ 1000) :
    callFL cfg0 prog0 false 11 [.agg [vw, I f.lo, I f.hi, vr]] H none = some ⟨.ret (.tup [I f.count.1, I f.count.2]), H, none⟩ := by
  have s1 := hf.ws.scal
  have s2 := hf.rs.scal
  have hO := fun G : Heap => fr_openA (hf.app G) hl
  have hS := fun (e : Int) (a : AO) (G : Heap) => wd_Counts (H.length + 1) e 0 (H ++ (a :: .box (I 0) :: G)) (by rw [get_at' 1]; rfl)
  have hN := fun G : Heap => wd_Countn (H.length + 1) G
  cases hv : f.valid
  · simp only [hv, Bool.false_eq_true, if_false, Frg.count] at hO ⊢
    refine (callFL_eq fn11 rfl (by simp [Tryz.f11])).trans ?_
    simp (maxSteps := 1000000) (implicitDefEqProofs := false) (disch := first | rfl | omega | assumption) only [go_sem, ltT, ltF, leT, leF, s1, s2, hO, hS]
    done
  · have ho := f.valid_iff.1 hv
    have hE := fun G : Heap => fr_every (hf.app G) ho.reads
    have hal : (f.all : Int) = ((2 ^ f.rs.length - 1 : Nat) : Int) := rfl
    have hL := fun G : Heap => fl_lengths (.agg [vw, I f.lo, I f.hi, vr]) (by simp only [elemOk, allScalar, s1, s2, AV.cells]; rfl) f.all G
    simp only [hv, if_true, Frg.av, Frg.count, ← hal] at hO hE ⊢
    refine (callFL_eq fn11 rfl (by simp [Tryz.f11])).trans ?_
    simp (maxSteps := 1000000) (implicitDefEqProofs := false) (disch := first | rfl | omega | assumption) only [go_sem, ltT, ltF, leT, leF, s1, s2, hO]
    rw [chkK_of]; rotate_left; kernel_rfl
    simp (maxSteps := 1000000) (implicitDefEqProofs := false) (disch := first | rfl | omega | assumption) only [go_sem, ltT, ltF, leT, leF, s1, s2, hO, hE, hL]
    have hI := fl_it ho ho.all_lt (p1 := H.length + 4) (p2 := H.length + 5) (N := H.length + 8) (y := H.length + 7) (vw := vw) (vr := vr)
      (Hr := fun k : Nat => H ++ [.box (.agg [vw, I f.lo, I f.hi, vr]), .box (I 0), .box (.agg [vw, I f.lo, I f.hi, vr]), .box (I k), .box (.agg [vw, I f.lo, I f.hi, vr]), .box (U f.all), .dfr, .loop (loopRec Tryz.f11 11 0 [(12, .func (.func 87) [] [.ptr (H.length + 4) 0, .ptr (H.length + 5) 0]), (11, U f.all), (10, .agg [vw, I f.lo, I f.hi, vr]), (9, .agg [vw, I f.lo, I f.hi, vr]), (5, .ptr (H.length + 3) 0), (4, .ptr (H.length + 2) 0), (8, .agg [vw, I f.lo, I f.hi, vr]), (7, .agg [vw, I f.lo, I f.hi, vr]), (6, .func (.func 48) [] [.ptr (H.length + 1) 0]), (3, .ptr (H.length + 1) 0), (2, I 0), (1, .ptr H.length 0), (0, .agg [vw, I f.lo, I f.hi, vr])] (H.length + 6))])
      (Hd := fun _ => H ++ [.dead, .dead, .dead, .dead, .dead, .dead, .dead, .dead]) (Q := fun k m => (k : Int) ≤ m - f.lo) (g := fun k _ => (k + 1, true))
      ⟨fun _ => by simp, fun _ => by simp, fun _ => by rw [get_at']; rfl, fun _ => by rw [get_at']; rfl, fun _ => hf.app _, fun k m h => by omega, fun k m h => by simp only; omega, fun k m hq ha hb => by
        have h5 := ho.len
        have hk1 : (k : Int) + 1 = ((k + 1 : Nat) : Int) := by omega
        simp (maxSteps := 1000000) (implicitDefEqProofs := false) (disch := first | rfl | omega | assumption) only [go_sem, ltT, ltF, leT, leF, loopRec, rangesOf, List.nil_append, List.append_nil, List.cons_append, List.getElem?_cons_zero, List.getElem?_cons_succ, Tryz.f11, hk1]⟩ 0 (by simp) _ rfl
    rw [itL_count] at hI
    simp only [loopRec, rangesOf, List.nil_append, List.append_nil, List.cons_append, List.getElem?_cons_zero, List.getElem?_cons_succ, Tryz.f11, if_true, Nat.zero_add] at hI
    have el : f.lensF f.all f.lo (f.hi + 1 - f.lo).toNat = f.lens f.all := rfl
    rw [el, show ((0 : Nat) : Int) = 0 from rfl] at hI
    simp (maxSteps := 1000000) (implicitDefEqProofs := false) (disch := first | rfl | omega | assumption) only [go_sem, ltT, ltF, leT, leF, hI, hN]
    done

theorem fr_Wrong2 {f : Frg} (ho : f.Ok) {vw vr : AV} (hf : FrAt H f vw vr) {p s : Nat} (hp : H[p]? = some (.box (.agg [vw, I f.lo, I f.hi, vr]))) (hs : s < 64) :
    callFL cfg0 prog0 false 74 [U s, .ptr p 0] H none = some ⟨.ret (.bool (f.can (diffN f.all s))), H, none⟩ := by
  have s1 := hf.ws.scal
  have s2 := hf.rs.scal
  have hE := fun G : Heap => fr_every (hf.app G) ho.reads
  have hE0 := fr_every hf ho.reads
  have hal : (f.all : Int) = ((2 ^ f.rs.length - 1 : Nat) : Int) := rfl
  have hda : diffN f.all s < 2 ^ 6 := diffN_lt ho.all_lt
  have hC := fr_can ho hf (s := diffN f.all s) hda
  have hb := bitsNot (a := f.all) (b := s) (Nat.lt_trans ho.all_lt (by decide)) (Nat.lt_trans hs (by decide))
  have hl : p < H.length := (List.getElem?_eq_some_iff.1 hp).1
  simp only [Frg.av, ← hal] at hE hE0
  refine (callFL_eq fn74 rfl (by simp [Tryz.f74])).trans ?_
  simp (maxSteps := 1000000) (implicitDefEqProofs := false) (disch := first | rfl | omega | assumption) only [go_sem, ltT, ltF, leT, leF, hp]
  rw [chkK_of]; rotate_left; kernel_rfl
  simp (maxSteps := 1000000) (implicitDefEqProofs := false) (disch := first | rfl | omega | assumption) only [go_sem, ltT, ltF, leT, leF, hp, hE0, hE, hb, hC]
  done

theorem fr_Clash2 {f : Frg} (ho : f.Ok) {vw vr : AV} (hf : FrAt H f vw vr) {p s : Nat} (hp : H[p]? = some (.box (.agg [vw, I f.lo, I f.hi, vr]))) (hs : s < 64) :
    callFL cfg0 prog0 false 81 [U s, .ptr p 0] H none = some ⟨.ret (.bool (!f.can s)), H, none⟩ := by
  have hC := fr_can ho hf (s := s) hs
  refine (callFL_eq fn81 rfl (by simp [Tryz.f81])).trans ?_
  simp (maxSteps := 1000000) (implicitDefEqProofs := false) (disch := first | rfl | omega | assumption) only [go_sem, ltT, ltF, leT, leF, hp, hC]
  done

def Frg.wrong (f : Frg) : Int × Int × Int := if f.valid then (let s := (firstF (fun s => f.can (diffN f.all s)) (setL f.rs.length) 0 (setL f.rs.length).length).getD 0; ((pop s : Nat), (s : Int), 0)) else (0, 0, 1)
def Frg.clash (f : Frg) : Int × Int := if f.valid then (match firstF (fun s => !f.can s) (setL f.rs.length) 0 (setL f.rs.length).length with
  | some s => ((s : Int), 0)
  | none => (0, 4)) else (0, 1)

theorem firstF_lt {b : Nat → Bool} {L : List Nat} {B : Nat} (hB : Small B L) {x : Nat} (h : firstF b L 0 L.length = some x) : x < B := by
  obtain ⟨i, h1, h2, h3, _⟩ := (findF_some _ _ _ _).1 h
  split at h3
  · cases h3; exact hB i (by omega)
  · cases h3

theorem setL_lt6 {f : Frg} (ho : f.Ok) (j : Nat) (hj : j < (setL f.rs.length).length) : (setL f.rs.length).getD j 0 < 64 := by
  have h := setL_lt f.rs.length j hj
  have h6 := ho.reads
  have h2 : (2 : Nat) ^ f.rs.length ≤ 2 ^ 6 := Nat.pow_le_pow_right (by omega) h6
  omega

theorem slU {b : Bool} (xs : List Nat) : SlOk H 1 (.sl b (xs.map U)) (xs.map U) := ⟨rfl, fun x hx => by
  obtain ⟨i, _, rfl⟩ := List.mem_map.1 hx; rfl⟩

theorem fr_Wrong {f : Frg} {vw vr : AV} (hf : FrAt H f vw vr) (hl : f.ws.length ≤ 1000 ∧ f.rs.length ≤ 1000) :
    callFL cfg0 prog0 false 25 [.agg [vw, I f.lo, I f.hi, vr]] H none = some ⟨.ret (.tup [I f.wrong.1, I f.wrong.2.1, I f.wrong.2.2]), H, none⟩ := by
  have s1 := hf.ws.scal
  have s2 := hf.rs.scal
  have hO := fun G : Heap => fr_openA (hf.app G) hl
  have hS := fun (e : Int) (a : AO) (G : Heap) => wd_Wrongs (H.length + 1) e 0 (H ++ (a :: .box (I 0) :: G)) (by rw [get_at' 1]; rfl)
  have hN := fun G : Heap => wd_Wrongn (H.length + 1) G
  cases hv : f.valid
  · simp only [hv, Bool.false_eq_true, if_false, Frg.wrong] at hO ⊢
    refine (callFL_eq fn25 rfl (by simp [Tryz.f25])).trans ?_
    simp (maxSteps := 1000000) (implicitDefEqProofs := false) (disch := first | rfl | omega | assumption) only [go_sem, ltT, ltF, leT, leF, s1, s2, hO, hS]
    done
  · have ho := f.valid_iff.1 hv
    have hT := fun G : Heap => fr_sets (hf.app G) ho
    have hF := fr_firstU (H := H ++ [.box (.agg [vw, I f.lo, I f.hi, vr]), .box (I 0), .box (.agg [vw, I f.lo, I f.hi, vr])]) (L := setL f.rs.length) (slU (b := false) _) (by rw [setL_len]; have h6 := ho.reads; have h2 : (2 : Nat) ^ f.rs.length ≤ 2 ^ 6 := Nat.pow_le_pow_right (by omega) h6; omega)
      (.func 74) [] [.ptr (H.length + 2) 0] (fun s => f.can (diffN f.all s)) rfl (fun j G hj => by
        have key := fr_Wrong2 (H := H ++ ([.box (.agg [vw, I f.lo, I f.hi, vr]), .box (I 0), .box (.agg [vw, I f.lo, I f.hi, vr])] ++ G)) (p := H.length + 2) ho (hf.app _) (by rw [get_at' 2]; rfl) (setL_lt6 ho j hj)
        rw [← List.append_assoc] at key
        rw [callVL_func]
        exact key)
    have hx : ((firstF (fun s => f.can (diffN f.all s)) (setL f.rs.length) 0 (setL f.rs.length).length).getD 0) < 64 := by
      cases hc : firstF (fun s => f.can (diffN f.all s)) (setL f.rs.length) 0 (setL f.rs.length).length with
      | none => simp
      | some x =>
        have h6 := ho.reads
        have h2 : (2 : Nat) ^ f.rs.length ≤ 2 ^ 6 := Nat.pow_le_pow_right (by omega) h6
        have := firstF_lt (setL_lt f.rs.length) hc
        simp only [Option.getD_some]; omega
    have hfa : ∃ b, firA (firstF (fun s => f.can (diffN f.all s)) (setL f.rs.length) 0 (setL f.rs.length).length) = .tup [U ((firstF (fun s => f.can (diffN f.all s)) (setL f.rs.length) 0 (setL f.rs.length).length).getD 0), .bool b] := by
      cases firstF (fun s => f.can (diffN f.all s)) (setL f.rs.length) 0 (setL f.rs.length).length with
      | none => exact ⟨false, rfl⟩
      | some x => exact ⟨true, rfl⟩
    obtain ⟨b, hfa⟩ := hfa
    simp only [hv, if_true, Frg.wrong, Frg.av] at hO hT ⊢
    rw [hfa] at hF
    generalize (firstF (fun s => f.can (diffN f.all s)) (setL f.rs.length) 0 (setL f.rs.length).length).getD 0 = x at hx hF ⊢
    have h1 := fun G : Heap => ones (H := G) (x := x) (by omega)
    have hw : IntKind.i64.wrap (x : Int) = (x : Int) := w64 (by omega) (by omega)
    refine (callFL_eq fn25 rfl (by simp [Tryz.f25])).trans ?_
    simp (maxSteps := 1000000) (implicitDefEqProofs := false) (disch := first | rfl | omega | assumption) only [go_sem, ltT, ltF, leT, leF, s1, s2, hO, hT, hF, h1, hw, hN]
    done

theorem fr_Clash {f : Frg} {vw vr : AV} (hf : FrAt H f vw vr) (hl : f.ws.length ≤ 1000 ∧ f.rs.length ≤ 1000) :
    callFL cfg0 prog0 false 27 [.agg [vw, I f.lo, I f.hi, vr]] H none = some ⟨.ret (.tup [I f.clash.1, I f.clash.2]), H, none⟩ := by
  have s1 := hf.ws.scal
  have s2 := hf.rs.scal
  have hO := fun G : Heap => fr_openA (hf.app G) hl
  have hS := fun (e : Int) (a : AO) (G : Heap) => wd_Clashs (H.length + 1) e 0 (H ++ (a :: .box (I 0) :: G)) (by rw [get_at' 1]; rfl)
  have hN := fun G : Heap => wd_Clashn (H.length + 1) G
  cases hv : f.valid
  · simp only [hv, Bool.false_eq_true, if_false, Frg.clash] at hO ⊢
    refine (callFL_eq fn27 rfl (by simp [Tryz.f27])).trans ?_
    simp (maxSteps := 1000000) (implicitDefEqProofs := false) (disch := first | rfl | omega | assumption) only [go_sem, ltT, ltF, leT, leF, s1, s2, hO, hS]
    done
  · have ho := f.valid_iff.1 hv
    have hT := fun G : Heap => fr_sets (hf.app G) ho
    have hF := fr_firstU (H := H ++ [.box (.agg [vw, I f.lo, I f.hi, vr]), .box (I 0), .box (.agg [vw, I f.lo, I f.hi, vr])]) (L := setL f.rs.length) (slU (b := false) _) (by rw [setL_len]; have h6 := ho.reads; have h2 : (2 : Nat) ^ f.rs.length ≤ 2 ^ 6 := Nat.pow_le_pow_right (by omega) h6; omega)
      (.func 81) [] [.ptr (H.length + 2) 0] (fun s => !f.can s) rfl (fun j G hj => by
        have key := fr_Clash2 (H := H ++ ([.box (.agg [vw, I f.lo, I f.hi, vr]), .box (I 0), .box (.agg [vw, I f.lo, I f.hi, vr])] ++ G)) (p := H.length + 2) ho (hf.app _) (by rw [get_at' 2]; rfl) (setL_lt6 ho j hj)
        rw [← List.append_assoc] at key
        rw [callVL_func]
        exact key)
    have hx : ∀ x, firstF (fun s => !f.can s) (setL f.rs.length) 0 (setL f.rs.length).length = some x → x < 64 := fun x hc => by
        have h6 := ho.reads
        have h2 : (2 : Nat) ^ f.rs.length ≤ 2 ^ 6 := Nat.pow_le_pow_right (by omega) h6
        have := firstF_lt (setL_lt f.rs.length) hc
        omega
    simp only [hv, if_true, Frg.clash, Frg.av] at hO hT ⊢
    generalize firstF (fun s => !f.can s) (setL f.rs.length) 0 (setL f.rs.length).length = r at hx hF ⊢
    cases r with
    | none =>
      simp only [firA] at hF ⊢
      refine (callFL_eq fn27 rfl (by simp [Tryz.f27])).trans ?_
      simp (maxSteps := 1000000) (implicitDefEqProofs := false) (disch := first | rfl | omega | assumption) only [go_sem, ltT, ltF, leT, leF, s1, s2, hO, hT, hF, fr_must, hS]
      done
    | some x =>
      have hx := hx x rfl
      have hw : IntKind.i64.wrap (x : Int) = (x : Int) := w64 (by omega) (by omega)
      simp only [firA] at hF ⊢
      refine (callFL_eq fn27 rfl (by simp [Tryz.f27])).trans ?_
      simp (maxSteps := 1000000) (implicitDefEqProofs := false) (disch := first | rfl | omega | assumption) only [go_sem, ltT, ltF, leT, leF, s1, s2, hO, hT, hF, fr_must, hw, hN]
      done

end Go.Ab
/-
  Near, Period.
-/
namespace Go.Ab
open Go.Proofs
set_option linter.unusedSimpArgs false
set_option linter.unusedVariables false
set_option maxRecDepth 100000
set_option maxHeartbeats 2000000

variable {H : Heap}


/-- By how much a length misses a wish. -/
def apw (w x : Int) : Int := if x - w < w - x then w - x else x - w

theorem apw_bd {w x : Int} (hw : 0 ≤ w ∧ w ≤ 2000) (hx : 0 ≤ x ∧ x ≤ 2000) : 0 ≤ apw w x ∧ apw w x ≤ 2000 := by
  simp only [apw]; split <;> omega

theorem fr_Near3 {p : Nat} {w : Int} (hp : H[p]? = some (.box (I w))) (hw : 0 ≤ w ∧ w ≤ 2000) (a b : Int) (ha : 0 ≤ a ∧ a ≤ 2000) (hb : 0 ≤ b ∧ b ≤ 2000) :
    callFL cfg0 prog0 false 55 [I a, I b, .ptr p 0] H none = some ⟨.ret (I (apw w a - apw w b)), H, none⟩ := by
  have m1 : (if w - a > a - w then w - a else a - w) = apw w a := rfl
  have m2 : (if w - b > b - w then w - b else b - w) = apw w b := rfl
  have b1 := apw_bd hw ha
  have b2 := apw_bd hw hb
  refine (callFL_eq fn55 rfl (by simp [Tryz.f55])).trans ?_
  simp (maxSteps := 1000000) (implicitDefEqProofs := false) (disch := first | rfl | omega | assumption) only [go_sem, hp, m1, m2, gt_iff_lt]
  done

def nearS (w : Int) (b x : Int) : Int := if apw w x - apw w b < 0 then x else b

theorem min_loop (xs : List Int) (hx : xs.length ≤ 401 ∧ ∀ j, j < xs.length → 0 ≤ xs.getD j 0 ∧ xs.getD j 0 ≤ 2000) {p : Nat} {w : Int} (hp : H[p]? = some (.box (I w))) (hw : 0 ≤ w ∧ w ≤ 2000) (r : Int) :
    ∀ (q j : Nat), j + q = xs.length → ∀ (b : Int), 0 ≤ b ∧ b ≤ 2000 → (xs.drop j).foldl (nearS w) b = r → ∀ E : Env, E.get 0 = .sl false (xs.map I) → E.get 1 = .func (.func 55) [] [.ptr p 0] → E.get 5 = I b → E.get 6 = I j →
    Option.map (finishC H.length) (execL cfg0 prog0 ⟨54, none, false, H.length⟩ (todoAt Tryz.f54 5) ⟨E, [], H, none⟩) = some ⟨.ret (I r), H, none⟩ := by
  intro q
  induction q with
  | zero =>
    intro j hj b hb hr E g0 g1 g5 g6
    have hk' : ¬ (j : Int) < ((xs.length : Nat) : Int) := by omega
    rw [List.drop_of_length_le (by omega)] at hr
    simp only [List.foldl_nil] at hr
    subst hr
    simp only [loopIt, todoPast, todoAt, todoOf, firstReg, ↓reduceIte, Option.some.injEq, Nat.reduceEqDiff, reduceCtorEq, Tryz.f54]
    rw [execL_inLoop]
    simp (maxSteps := 1000000) (implicitDefEqProofs := false) (disch := first | rfl | omega | assumption) only [go_sem, g0, g1, g5, g6, ltT, ltF, leT, leF, hk']
    done
  | succ q ih =>
    intro j hj b hb hr E g0 g1 g5 g6
    have hk' : (j : Int) < ((xs.length : Nat) : Int) := by omega
    have hk2 : j < xs.length := by omega
    have hd : xs.drop j = xs.getD j 0 :: xs.drop (j + 1) := by rw [List.drop_eq_getElem_cons hk2]; simp [hk2]
    have hxj := hx.2 j hk2
    rw [hd, List.foldl_cons] at hr
    have hsl : SlOk H 1 (.sl false (xs.map I)) (xs.map I) := ⟨rfl, fun x hx => by
      obtain ⟨i, _, rfl⟩ := List.mem_map.1 hx; rfl⟩
    obtain ⟨a1, a2, a3, a4, a5⟩ := hsl.fF (d := 0)
    obtain ⟨n, en⟩ : ∃ n, xs.getD j 0 = n := ⟨_, rfl⟩
    rw [en] at hr hxj
    have hN := fr_Near3 hp hw n b hxj hb
    by_cases hc : apw w n - apw w b < 0
    · have hs : nearS w b n = n := by simp only [nearS, if_pos hc]
      rw [hs] at hr
      simp only [loopIt, todoPast, todoAt, todoOf, firstReg, ↓reduceIte, Option.some.injEq, Nat.reduceEqDiff, reduceCtorEq, Tryz.f54]
      rw [execL_inLoop]
      simp (maxSteps := 1000000) (implicitDefEqProofs := false) (disch := first | rfl | omega | assumption) only [go_sem, g0, g1, g5, g6, ltT, ltF, leT, leF, hk', a1, a2, a3, a4, a5, en, hN, hc]
      exact ih (j + 1) (by omega) n hxj hr _ (by exact g0) (by exact g1) (by rfl) (by rfl)
    · have hs : nearS w b n = b := by simp only [nearS, if_neg hc]
      rw [hs] at hr
      simp only [loopIt, todoPast, todoAt, todoOf, firstReg, ↓reduceIte, Option.some.injEq, Nat.reduceEqDiff, reduceCtorEq, Tryz.f54]
      rw [execL_inLoop]
      simp (maxSteps := 1000000) (implicitDefEqProofs := false) (disch := first | rfl | omega | assumption) only [go_sem, g0, g1, g5, g6, ltT, ltF, leT, leF, hk', a1, a2, a3, a4, a5, en, hN, hc]
      exact ih (j + 1) (by omega) b hb hr _ (by exact g0) (by exact g1) (by exact g5) (by rfl)

def nearL (w : Int) (xs : List Int) : Int := (xs.drop 1).foldl (nearS w) (xs.getD 0 0)

theorem fr_min (xs : List Int) (hx : xs.length ≤ 401 ∧ ∀ j, j < xs.length → 0 ≤ xs.getD j 0 ∧ xs.getD j 0 ≤ 2000) (h0 : 0 < xs.length) {p : Nat} {w : Int} (hp : H[p]? = some (.box (I w))) (hw : 0 ≤ w ∧ w ≤ 2000) :
    callFL cfg0 prog0 false 54 [.sl false (xs.map I), .func (.func 55) [] [.ptr p 0]] H none = some ⟨.ret (I (nearL w xs)), H, none⟩ := by
  have h1 := min_loop xs hx hp hw (nearL w xs) (xs.length - 1) 1 (by omega) (xs.getD 0 0) (hx.2 0 h0) rfl
  have hsl : SlOk H 1 (.sl false (xs.map I)) (xs.map I) := ⟨rfl, fun x hx => by
      obtain ⟨i, _, rfl⟩ := List.mem_map.1 hx; rfl⟩
  obtain ⟨a1, a2, a3, a4, a5⟩ := hsl.fF (d := 0)
  have hn : ¬ (xs.length : Int) < 1 := by omega
  have e1 := a2
  have z1 := fun (te : Ty) (h : te.size = 1) => a2 te 0 h (by omega)
  have z2 := fun (te : Ty) (off : Nat) => a4 te 0 off (by omega)
  have hln : evLen (.sl false (xs.map I)) = some (I xs.length) := by simp [evLen]
  refine (callFL_eq fn54 rfl (by simp [Tryz.f54])).trans ?_
  simp (maxSteps := 1000000) (implicitDefEqProofs := false) (disch := first | rfl | omega | assumption) only [go_sem, ltT, ltF, leT, leF, hn, hln, z1, z2, Int.toNat_zero]
  exact h1 _ (by rfl) (by rfl) (by rfl) (by rfl)

def Frg.near (f : Frg) (w : Int) : Int × Int := if f.valid then (if wi w 0 2000 then (if (f.lens f.all).isEmpty then (0, 10) else (nearL w (f.lens f.all), 0)) else (0, 2)) else (0, 1)

theorem lens_bd {f : Frg} (ho : f.Ok) (s : Nat) : (f.lens s).length ≤ 401 ∧ ∀ j, j < (f.lens s).length → 0 ≤ (f.lens s).getD j 0 ∧ (f.lens s).getD j 0 ≤ 2000 := by
  have hle := lensF_len f s (f.hi + 1 - f.lo).toNat f.lo
  have hfl := ho.len
  refine ⟨by simp only [Frg.lens]; omega, fun j hj => ?_⟩
  have := (mem_lens ho s ((f.lens s).getD j 0)).1 (by simp only [List.getD_eq_getElem?_getD, List.getElem?_eq_getElem hj, Option.getD_some]; exact List.getElem_mem hj)
  omega

theorem fr_Near2 {p : Nat} {w : Int} (hp : H[p]? = some (.box (I w))) (v : AV) (hv : elemOk 4 true v = true) :
    callFL cfg0 prog0 false 53 [v, .ptr p 0] H none = some ⟨.ret (.bool (wi w 0 2000)), H, none⟩ := by
  have hl : p < H.length := (List.getElem?_eq_some_iff.1 hp).1
  have hp' : ∀ G : Heap, (H ++ G)[p]? = some (.box (I w)) := fun G => by rw [List.getElem?_append_left hl]; exact hp
  refine (callFL_eq fn53 rfl (by simp [Tryz.f53])).trans ?_
  simp (maxSteps := 1000000) (implicitDefEqProofs := false) (disch := first | rfl | omega | assumption) only [go_sem, ltT, ltF, leT, leF, hv, hp', fr_isLength]
  done

theorem fr_Near {f : Frg} {vw vr : AV} (hf : FrAt H f vw vr) (hl : f.ws.length ≤ 1000 ∧ f.rs.length ≤ 1000) (w : Int) :
    callFL cfg0 prog0 false 14 [.agg [vw, I f.lo, I f.hi, vr], I w] H none = some ⟨.ret (.tup [I (f.near w).1, I (f.near w).2]), H, none⟩ := by
  have s1 := hf.ws.scal
  have s2 := hf.rs.scal
  have hO := fr_open (H := H ++ [.box (.agg [vw, I f.lo, I f.hi, vr]), .box (I w), .box (I 0)]) (hf.app _) hl (.func 53) [.ptr (H.length + 1) 0] (by simp [AV.lt, ltL, fnLt]) (wi w 0 2000) (fun _ A => by
    have := fr_Near2 (H := H ++ ([.box (.agg [vw, I f.lo, I f.hi, vr]), .box (I w), .box (I 0)] ++ A)) (p := H.length + 1) (w := w) (by rw [get_at' 1]; rfl) (.agg [vw, I f.lo, I f.hi, vr]) (by simp only [elemOk, allScalar, s1, s2, AV.cells]; rfl)
    rw [← List.append_assoc] at this
    rw [callVL_func]
    exact this)
  have hS := fun (e : Int) (a b : AO) (G : Heap) => wd_Nears (H.length + 2) e 0 (H ++ (a :: b :: .box (I 0) :: G)) (by rw [get_at' 2]; rfl)
  have hN := fun G : Heap => wd_Nearn (H.length + 2) G
  cases hv : f.valid
  · simp only [hv, Bool.false_eq_true, if_false, Frg.near] at hO ⊢
    refine (callFL_eq fn14 rfl (by simp [Tryz.f14])).trans ?_
    simp (maxSteps := 1000000) (implicitDefEqProofs := false) (disch := first | rfl | omega | assumption) only [go_sem, ltT, ltF, leT, leF, s1, s2, hO, hS]
    done
  · have ho := f.valid_iff.1 hv
    simp only [hv, if_true, Frg.near] at hO ⊢
    cases hw : wi w 0 2000
    · simp only [hw, Bool.false_eq_true, if_false] at hO ⊢
      refine (callFL_eq fn14 rfl (by simp [Tryz.f14])).trans ?_
      simp (maxSteps := 1000000) (implicitDefEqProofs := false) (disch := first | rfl | omega | assumption) only [go_sem, ltT, ltF, leT, leF, s1, s2, hO, hS]
      done
    · have hwb : 0 ≤ w ∧ w ≤ 2000 := by simpa [wi] using hw
      have hT := fun G : Heap => fl_told ho (hf.app G)
      have hx := lens_bd ho f.all
      simp only [hw, if_true] at hO ⊢
      generalize f.lens f.all = xs at hT hx ⊢
      cases hc : xs.isEmpty
      · simp only [hc, Bool.false_eq_true, if_false] at hT ⊢
        have hpos : 0 < xs.length := by cases xs with | nil => cases hc | cons => simp
        have hM := fr_min (H := H ++ [.box (.agg [vw, I f.lo, I f.hi, vr]), .box (I w), .box (I 0)]) xs hx hpos (p := H.length + 1) (w := w) (by rw [get_at' 1]; rfl) hwb
        refine (callFL_eq fn14 rfl (by simp [Tryz.f14])).trans ?_
        simp (maxSteps := 1000000) (implicitDefEqProofs := false) (disch := first | rfl | omega | assumption) only [go_sem, ltT, ltF, leT, leF, s1, s2, hO, hT, hM, hN]
        done
      · simp only [hc, if_true] at hT ⊢
        refine (callFL_eq fn14 rfl (by simp [Tryz.f14])).trans ?_
        simp (maxSteps := 1000000) (implicitDefEqProofs := false) (disch := first | rfl | omega | assumption) only [go_sem, ltT, ltF, leT, leF, s1, s2, hO, hT, hS]
        done

/-! ### Period -/

theorem dv_loop : ∀ (n a b : Nat), b < n → a ≤ 100000000 → b ≤ 100000000 → ∀ E : Env, E.get 0 = I a → E.get 1 = I b →
    Option.map (finishC H.length) (execL cfg0 prog0 ⟨91, none, false, H.length⟩ (todoAt Tryz.f91 1) ⟨E, [], H, none⟩) = some ⟨.ret (I (Nat.gcd a b)), H, none⟩ := by
  intro n
  induction n with
  | zero => intro a b h; omega
  | succ n ih =>
    intro a b hb ha hb2 E g0 g1
    have hk' := hb
    by_cases hz : b = 0
    · subst hz
      have e0 : ((0 : Nat) : Int) = 0 := rfl
      have e1 : ((0 : Int) != 0) = false := rfl
      rw [e0] at g1
      rw [Nat.gcd_zero_right]
      simp only [loopIt, todoPast, todoAt, todoOf, firstReg, ↓reduceIte, Option.some.injEq, Nat.reduceEqDiff, reduceCtorEq, Tryz.f91]
      rw [execL_inLoop]
      simp (maxSteps := 1000000) (implicitDefEqProofs := false) (disch := first | rfl | omega | assumption) only [go_sem, g0, g1, ltT, ltF, leT, leF, hk', e1]
      done
    · have hne : ((b : Int) != 0) = true := by simp; omega
      have hz' : ¬ (b : Int) = 0 := by omega
      have hm : (a : Int).tmod (b : Int) = ((a % b : Nat) : Int) := rfl
      have hlt : a % b < b := Nat.mod_lt _ (by omega)
      simp only [loopIt, todoPast, todoAt, todoOf, firstReg, ↓reduceIte, Option.some.injEq, Nat.reduceEqDiff, reduceCtorEq, Tryz.f91]
      rw [execL_inLoop]
      simp (maxSteps := 1000000) (implicitDefEqProofs := false) (disch := first | rfl | omega | assumption) only [go_sem, g0, g1, ltT, ltF, leT, leF, hk', hne]
      rw [chkK_of]; rotate_left; kernel_rfl
      simp (maxSteps := 1000000) (implicitDefEqProofs := false) (disch := first | rfl | omega | assumption) only [go_sem, g0, g1, ltT, ltF, leT, leF, hk', hne, hz', hm]
      have key := ih b (a % b) (by omega) hb2 (by omega)
      rw [Nat.gcd_comm a b, Nat.gcd_rec b a, Nat.gcd_comm (a % b) b]
      exact key _ (by rfl) (by rfl)

theorem fr_divisor {a b : Nat} (ha : a ≤ 100000000) (hb : b ≤ 100000000) : callFL cfg0 prog0 false 91 [I a, I b] H none = some ⟨.ret (I (Nat.gcd a b)), H, none⟩ := by
  have h1 := dv_loop (H := H) (b + 1) a b (by omega) ha hb
  refine (callFL_eq fn91 rfl (by simp [Tryz.f91])).trans ?_
  simp (maxSteps := 1000000) (implicitDefEqProofs := false) (disch := first | rfl | omega | assumption) only [go_sem, ltT, ltF, leT, leF]
  exact h1 _ (by rfl) (by rfl)

def lcmL (n : Nat) (ws : List Int) : Nat := ws.foldl (fun n w => Nat.lcm n w.toNat) n

theorem lcm_step (n w : Nat) : n / Nat.gcd n w * w = Nat.lcm n w := by
  rw [Nat.lcm]
  exact (Nat.div_mul_right_comm (Nat.gcd_dvd_left n w) w)

def LcB (n j : Nat) : Prop := 1 ≤ n ∧ n ≤ 60 ^ j

theorem mu_loop {v : AV} {ws : List Int} (hs : SlOk H 1 v (ws.map I)) (hl : ws.length ≤ 4) (hw : ∀ i, i < ws.length → 2 ≤ ws.getD i 0 ∧ ws.getD i 0 ≤ 60) (r : Nat) :
    ∀ (q j : Nat), j + q = ws.length → ∀ (n : Nat), LcB n j → lcmL n (ws.drop j) = r → ∀ E : Env, E.get 3 = I n → E.get 4 = .func (.func 91) [] [] → E.get 7 = v → E.get 8 = I ws.length → E.get 9 = I j →
    Option.map (finishC H.length) (execL cfg0 prog0 ⟨67, none, false, H.length⟩ (todoAt Tryz.f67 4) ⟨E, [], H, none⟩) = some ⟨.ret (I r), H, none⟩ := by
  intro q
  induction q with
  | zero =>
    intro j hj n hn hr E g3 g4 g7 g8 g9
    have hk' : ¬ (j : Int) < ((ws.length : Nat) : Int) := by omega
    rw [List.drop_of_length_le (by omega)] at hr
    simp only [lcmL, List.foldl_nil] at hr
    subst hr
    simp only [loopIt, todoPast, todoAt, todoOf, firstReg, ↓reduceIte, Option.some.injEq, Nat.reduceEqDiff, reduceCtorEq, Tryz.f67]
    rw [execL_inLoop]
    simp (maxSteps := 1000000) (implicitDefEqProofs := false) (disch := first | rfl | omega | assumption) only [go_sem, g3, g4, g7, g8, g9, ltT, ltF, leT, leF, hk']
    done
  | succ q ih =>
    intro j hj n hn hr E g3 g4 g7 g8 g9
    have hk' : (j : Int) < ((ws.length : Nat) : Int) := by omega
    have hk2 : j < ws.length := by omega
    simp only [loopIt, todoPast, todoAt, todoOf, firstReg, ↓reduceIte, Option.some.injEq, Nat.reduceEqDiff, reduceCtorEq, Tryz.f67]
    rw [execL_inLoop]
    have hd : ws.drop j = ws.getD j 0 :: ws.drop (j + 1) := by rw [List.drop_eq_getElem_cons hk2]; simp [hk2]
    have hwj := hw j hk2
    simp only [lcmL, hd, List.foldl_cons] at hr
    obtain ⟨a1, a2, a3, a4, a5⟩ := hs.fF (d := 0)
    obtain ⟨w, en⟩ : ∃ n, ws.getD j 0 = n := ⟨_, rfl⟩
    rw [en] at hr hwj
    obtain ⟨m, rfl⟩ : ∃ m : Nat, w = m := ⟨w.toNat, by omega⟩
    have hm : 2 ≤ m ∧ m ≤ 60 := by omega
    have hj3 : j ≤ 3 := by omega
    have hn2 : n ≤ 216000 := by
      have := hn.2
      have h3 : (60 : Nat) ^ j ≤ 60 ^ 3 := Nat.pow_le_pow_right (by omega) hj3
      omega
    have hD := fr_divisor (H := H) (a := n) (b := m) (by omega) (by omega)
    have hg : 0 < Nat.gcd n m := Nat.gcd_pos_of_pos_right _ (by omega)
    have hgz : ¬ (Nat.gcd n m : Int) = 0 := by omega
    have hq : (n : Int).tdiv (Nat.gcd n m : Int) = ((n / Nat.gcd n m : Nat) : Int) := rfl
    have hqb : n / Nat.gcd n m ≤ n := Nat.div_le_self _ _
    have hmul : ((n / Nat.gcd n m : Nat) : Int) * (m : Int) = ((Nat.lcm n m : Nat) : Int) := by rw [← lcm_step]; simp
    have hlb : Nat.lcm n m ≤ n * 60 := by
      rw [← lcm_step]
      exact Nat.mul_le_mul hqb hm.2
    have hl1 : 1 ≤ Nat.lcm n m := Nat.lcm_pos (by have := hn.1; omega) (by omega)
    rw [Int.toNat_natCast] at hr
    have w1 : IntKind.i64.wrap ((n / Nat.gcd n m : Nat) : Int) = ((n / Nat.gcd n m : Nat) : Int) := (show ∀ q : Nat, q ≤ 216000 → IntKind.i64.wrap (q : Int) = q from fun q h => w64 (by omega) (by omega)) _ (Nat.le_trans hqb hn2)
    have w2 : IntKind.i64.wrap (((n / Nat.gcd n m : Nat) : Int) * (m : Int)) = ((Nat.lcm n m : Nat) : Int) := by rw [hmul]; exact w64 (by omega) (by omega)
    simp (maxSteps := 1000000) (implicitDefEqProofs := false) (disch := first | rfl | omega | assumption) only [go_sem, g3, g4, g7, g8, g9, ltT, ltF, leT, leF, hk', a1, a2, a3, a4, a5, en, hD, hgz, hq, w1, w2]
    exact ih (j + 1) (by omega) (Nat.lcm n m) ⟨hl1, by have := hn.2; rw [Nat.pow_succ]; omega⟩ hr _ (by rfl) (by exact g4) (by exact g7) (by exact g8) (by rfl)

theorem fr_multiple {v : AV} {ws : List Int} (hs : SlOk H 1 v (ws.map I)) (hl : ws.length ≤ 4) (hw : ∀ i, i < ws.length → 2 ≤ ws.getD i 0 ∧ ws.getD i 0 ≤ 60) :
    callFL cfg0 prog0 false 67 [v] H none = some ⟨.ret (I (lcmL 1 ws)), H, none⟩ := by
  have h1 := mu_loop hs hl hw (lcmL 1 ws) ws.length 0 (by omega) 1 ⟨by omega, by omega⟩ rfl
  have hn := hs.len
  rw [List.length_map] at hn
  refine (callFL_eq fn67 rfl (by simp [Tryz.f67])).trans ?_
  simp (maxSteps := 1000000) (implicitDefEqProofs := false) (disch := first | rfl | omega | assumption) only [go_sem, ltT, ltF, leT, leF, hn]
  exact h1 _ (by rfl) (by rfl) (by rfl) (by rfl) (by rfl)

def Frg.period (f : Frg) : Int × Int := if f.valid then ((lcmL 1 f.ws : Nat), 0) else (0, 1)

theorem pe_loop {f : Frg} (ho : f.Ok) {vw vr : AV} (hf : FrAt H f vw vr) :
    ∀ (q j : Nat), j + q = f.ws.length → ∀ E : Env, E.get 3 = .ptr (H.length + 1) 0 → E.get 4 = .ptr (H.length + 2) 0 → E.get 5 = .gsl (H.length + 3) j → E.get 13 = I f.ws.length → E.get 14 = I j →
    Option.map (finishC H.length) (execL cfg0 prog0 ⟨20, none, false, H.length⟩ (todoAt Tryz.f20 5) ⟨E, [.fn (.func 66) [] [.ptr (H.length + 1) 0]], H ++ [.box (.agg [vw, I f.lo, I f.hi, vr]), .box (I 0), .box (.agg [vw, I f.lo, I f.hi, vr]), .grow 1 ((f.ws.take j).map I)], none⟩) = some ⟨.ret (.tup [I (lcmL 1 f.ws), I 0]), H, none⟩ := by
  intro q
  have hN := fun G : Heap => wd_Periodn (H.length + 1) G
  have s1 := hf.ws.scal
  have s2 := hf.rs.scal
  induction q with
  | zero =>
    intro j hj  E g3 g4 g5 g13 g14
    have hk' : ¬ (j : Int) < ((f.ws.length : Nat) : Int) := by omega
    have ej : j = f.ws.length := by omega
    subst ej
    rw [List.take_of_length_le (Nat.le_refl _)]
    simp only [loopIt, todoPast, todoAt, todoOf, firstReg, ↓reduceIte, Option.some.injEq, Nat.reduceEqDiff, reduceCtorEq, Tryz.f20]
    rw [execL_inLoop]
    have hM := fr_multiple (H := H ++ [.box (.agg [vw, I f.lo, I f.hi, vr]), .box (I 0), .box (.agg [vw, I f.lo, I f.hi, vr]), .grow 1 (f.ws.map I)]) (v := .gsl (H.length + 3) f.ws.length) (ws := f.ws) ⟨⟨by rw [get_at']; rfl, by simp⟩, fun x hx => by
      obtain ⟨i, _, rfl⟩ := List.mem_map.1 hx; rfl⟩ ho.many.2 ho.wave
    simp (maxSteps := 1000000) (implicitDefEqProofs := false) (disch := first | rfl | omega | assumption) only [go_sem, g3, g4, g5, g13, g14, ltT, ltF, leT, leF, hk', hM, hN]
    done
  | succ q ih =>
    intro j hj  E g3 g4 g5 g13 g14
    have hk' : (j : Int) < ((f.ws.length : Nat) : Int) := by omega
    have hk2 : j < f.ws.length := by omega
    simp only [loopIt, todoPast, todoAt, todoOf, firstReg, ↓reduceIte, Option.some.injEq, Nat.reduceEqDiff, reduceCtorEq, Tryz.f20]
    rw [execL_inLoop]
    have hW := fun G : Heap => fr_wave (hf.app G) j hk2
    have h4 := ho.many.2
    simp only [Frg.av] at hW
    have ht : f.ws.take (j + 1) = f.ws.take j ++ [f.w j] := by
      rw [List.take_succ_eq_append_getElem hk2]; simp [hk2]
    have hadd : ∀ o0 o1 o2 : AO, addElem (H ++ [o0, o1, o2, .grow 1 ((f.ws.take j).map I)]) 1 false (.gsl (H.length + 3) j) [I (f.w j)] = some (.gsl (H.length + 3) (j + 1), H ++ [o0, o1, o2, .grow 1 ((f.ws.take (j + 1)).map I)]) := by
      intro o0 o1 o2
      rw [add_gsl (xs := (f.ws.take j).map I) (by rw [get_at']; rfl) (by simp; omega) rfl rfl (by simp; omega), set_at', ht, List.map_append]
      rfl
    simp (maxSteps := 1000000) (implicitDefEqProofs := false) (disch := first | rfl | omega | assumption) only [go_sem, g3, g4, g5, g13, g14, ltT, ltF, leT, leF, hk', s1, s2, hW, hadd]
    exact ih (j + 1) (by omega) _ (by exact g3) (by exact g4) (by rfl) (by exact g13) (by rfl)

theorem fr_Period {f : Frg} {vw vr : AV} (hf : FrAt H f vw vr) (hl : f.ws.length ≤ 1000 ∧ f.rs.length ≤ 1000) :
    callFL cfg0 prog0 false 20 [.agg [vw, I f.lo, I f.hi, vr]] H none = some ⟨.ret (.tup [I f.period.1, I f.period.2]), H, none⟩ := by
  have s1 := hf.ws.scal
  have s2 := hf.rs.scal
  have n1 := hf.ws.len
  rw [List.length_map] at n1
  have hO := fun G : Heap => fr_openA (hf.app G) hl
  have hS := fun (e : Int) (a : AO) (G : Heap) => wd_Periods (H.length + 1) e 0 (H ++ (a :: .box (I 0) :: G)) (by rw [get_at' 1]; rfl)
  cases hv : f.valid
  · simp only [hv, Bool.false_eq_true, if_false, Frg.period] at hO ⊢
    refine (callFL_eq fn20 rfl (by simp [Tryz.f20])).trans ?_
    simp (maxSteps := 1000000) (implicitDefEqProofs := false) (disch := first | rfl | omega | assumption) only [go_sem, ltT, ltF, leT, leF, s1, s2, hO, hS]
    done
  · have ho := f.valid_iff.1 hv
    have h1 := pe_loop ho hf f.ws.length 0 (by omega)
    simp only [hv, if_true, Frg.period, List.take_zero, List.map_nil] at hO h1 ⊢
    refine (callFL_eq fn20 rfl (by simp [Tryz.f20])).trans ?_
    simp (maxSteps := 1000000) (implicitDefEqProofs := false) (disch := first | rfl | omega | assumption) only [go_sem, ltT, ltF, leT, leF, s1, s2, hO, n1]
    exact h1 _ (by rfl) (by rfl) (by rfl) (by rfl) (by rfl)

end Go.Ab
/-
  How often there are so many fringes.
-/
namespace Go.Ab
open Go.Proofs
set_option linter.unusedSimpArgs false
set_option linter.unusedVariables false
set_option maxRecDepth 100000
set_option maxHeartbeats 2000000

variable {H : Heap}


def kA (k : Int × Int) : AV := .agg [I k.1, I k.2]
def esA (es : List ((Int × Int) × Int)) : List (AV × AV) := es.map fun p => (kA p.1, I p.2)

def getC : List ((Int × Int) × Int) → Int × Int → Option Int
  | [], _ => none
  | (k', c) :: r, k => if k = k' then some c else getC r k
def setC : List ((Int × Int) × Int) → Int × Int → Int → List ((Int × Int) × Int)
  | [], k, c => [(k, c)]
  | (k', c') :: r, k, c => if k = k' then (k, c) :: r else (k', c') :: setC r k c

theorem kA_same (k k' : Int × Int) : (kA k).same (kA k') = decide (k = k') := by
  obtain ⟨a, b⟩ := k
  obtain ⟨c, d⟩ := k'
  have : ((a, b) = (c, d)) ↔ a = c ∧ b = d := by simp
  simp only [kA, AV.same, sameL, Bool.and_true, beq_self_eq_true, Bool.true_and]
  rw [Bool.eq_iff_iff]
  simp

theorem lookup_es (k : Int × Int) : ∀ es, lookupM (kA k) (esA es) = (getC es k).map I
  | [] => rfl
  | (k', c) :: r => by
    have ih := lookup_es k r
    simp only [esA, List.map_cons, lookupM, kA_same, getC] at ih ⊢
    by_cases h : k = k'
    · simp [h]
    · simp [h, ih]

theorem put_es (k : Int × Int) (c : Int) : ∀ es, putM (kA k) (I c) (esA es) = esA (setC es k c)
  | [] => rfl
  | (k', c') :: r => by
    have ih := put_es k c r
    simp only [esA, List.map_cons, putM, kA_same, setC] at ih ⊢
    by_cases h : k = k'
    · simp [h]
    · simp [h, ih]

theorem lookup_put (k : Int × Int) (v : AV) : ∀ es, lookupM (kA k) (putM (kA k) v (esA es)) = some v
  | [] => by simp [esA, putM, lookupM, kA_same]
  | (k', c') :: r => by
    have ih := lookup_put k v r
    simp only [esA, List.map_cons, putM, kA_same] at ih ⊢
    by_cases h : k = k'
    · simp [h, lookupM, kA_same]
    · simp [h, lookupM, kA_same, ih]

theorem idx_set (k : Int × Int) (c : Int) : ∀ es, idxM (kA k) (esA es) < (esA (setC es k c)).length
  | [] => by simp [esA, setC, idxM]
  | (k', c') :: r => by
    have ih := idx_set k c r
    simp only [esA, List.map_cons, idxM, kA_same, setC] at ih ⊢
    by_cases h : k = k'
    · simp [h]
    · simpa [h] using ih

theorem setM_set (k : Int × Int) (c c' : Int) : ∀ es, setM (I c') (idxM (kA k) (esA es)) (esA (setC es k c)) = esA (setC es k c')
  | [] => by simp [esA, setC, idxM, setM]
  | (k', c0) :: r => by
    have ih := setM_set k c c' r
    simp only [esA, List.map_cons, idxM, kA_same, setC] at ih ⊢
    by_cases h : k = k'
    · simp [h, setM]
    · simp [h, setM, ih]

theorem getC_set (k : Int × Int) (c : Int) : ∀ es, getC (setC es k c) k = some c
  | [] => by simp [setC, getC]
  | (k', c') :: r => by
    by_cases h : k = k'
    · simp [h, setC, getC]
    · simp [h, setC, getC, getC_set k c r]

theorem lookup_set (k : Int × Int) (c : Int) (es) : lookupM (kA k) (esA (setC es k c)) = some (I c) := by
  rw [lookup_es, getC_set]; rfl

/-- One length more. -/
def incC (w : Int) (es : List ((Int × Int) × Int)) (n : Int) : List ((Int × Int) × Int) :=
  setC es (n / w, ptZ w n) ((getC es (n / w, ptZ w n)).getD 0 + 1)
def cntC (w : Int) (xs : List Int) : List ((Int × Int) × Int) := xs.foldl (incC w) []

theorem getC_setC (es : List ((Int × Int) × Int)) (k : Int × Int) (c : Int) (k' : Int × Int) : getC (setC es k c) k' = if k' = k then some c else getC es k' := by
  induction es with
  | nil => simp [setC, getC]
  | cons p r ih =>
    obtain ⟨k0, c0⟩ := p
    simp only [setC]
    by_cases h : k = k0
    · subst h
      simp only [if_pos, getC]
      by_cases h2 : k' = k <;> simp [h2]
    · simp only [if_neg h, getC, ih]
      by_cases h2 : k' = k0
      · subst h2
        have : ¬ k' = k := fun e => h e.symm
        simp [this]
      · simp [h2]

def CnB (es : List ((Int × Int) × Int)) (j : Nat) : Prop := ∀ k c, getC es k = some c → 1 ≤ c ∧ c ≤ j

theorem co_loop {xs : List Int} (hx : xs.length ≤ 401 ∧ ∀ j, j < xs.length → 0 ≤ xs.getD j 0 ∧ xs.getD j 0 ≤ 2000) {w : Int} (hw : 1 ≤ w ∧ w ≤ 60) (v0 : AV) (r : List ((Int × Int) × Int)) :
    ∀ (q j : Nat), j + q = xs.length → ∀ (es : List ((Int × Int) × Int)), CnB es j → (xs.drop j).foldl (incC w) es = r → ∀ E : Env, E.get 5 = .func (.func 39) [I w] [] → E.get 6 = .map (H.length + 1) → E.get 15 = .sl false (xs.map I) → E.get 16 = I xs.length → E.get 17 = I j →
    Option.map (finK true H.length) (execL cfg0 prog0 ⟨59, none, false, H.length⟩ (todoAt Tryz.f59 4) ⟨E, [], H ++ [.box v0, .map 53 (esA es)], none⟩) = some ⟨.ret (.map (H.length + 1)), H ++ [.box v0, .map 53 (esA r)], none⟩ := by
  intro q
  induction q with
  | zero =>
    intro j hj es hc hr E g5 g6 g15 g16 g17
    have hk' : ¬ (j : Int) < ((xs.length : Nat) : Int) := by omega
    rw [List.drop_of_length_le (by omega)] at hr
    simp only [List.foldl_nil] at hr
    subst hr
    simp only [loopIt, todoPast, todoAt, todoOf, firstReg, ↓reduceIte, Option.some.injEq, Nat.reduceEqDiff, reduceCtorEq, Tryz.f59]
    rw [execL_inLoop]
    simp (maxSteps := 1000000) (implicitDefEqProofs := false) (disch := first | rfl | omega | assumption) only [go_sem, g5, g6, g15, g16, g17, ltT, ltF, leT, leF, hk']
    done
  | succ q ih =>
    intro j hj es hc hr E g5 g6 g15 g16 g17
    have hk' : (j : Int) < ((xs.length : Nat) : Int) := by omega
    have hk2 : j < xs.length := by omega
    have hd : xs.drop j = xs.getD j 0 :: xs.drop (j + 1) := by rw [List.drop_eq_getElem_cons hk2]; simp [hk2]
    have hxj := hx.2 j hk2
    rw [hd, List.foldl_cons] at hr
    have hsl : SlOk H 1 (.sl false (xs.map I)) (xs.map I) := ⟨rfl, fun x hx => by
      obtain ⟨i, _, rfl⟩ := List.mem_map.1 hx; rfl⟩
    obtain ⟨a1, a2, a3, a4, a5⟩ := hsl.fF (d := 0)
    obtain ⟨n, en⟩ : ∃ n, xs.getD j 0 = n := ⟨_, rfl⟩
    rw [en] at hr hxj
    have hO := fun G : Heap => fr_of w n hw hxj G
    have hlk := lookup_es (n / w, ptZ w n) es
    have hpe := fun c => put_es (n / w, ptZ w n) c es
    have hlp := fun v => lookup_put (n / w, ptZ w n) v es
    have hls := fun c => lookup_set (n / w, ptZ w n) c es
    have hix := fun c => idx_set (n / w, ptZ w n) c es
    have hst := fun c c' => setM_set (n / w, ptZ w n) c c' es
    have hinc : incC w es n = setC es (n / w, ptZ w n) ((getC es (n / w, ptZ w n)).getD 0 + 1) := rfl
    have hcb := hc (n / w, ptZ w n)
    have hcn : CnB (incC w es n) (j + 1) := by
      intro k c hkc
      rw [hinc, getC_setC] at hkc
      split at hkc
      · cases hkc
        cases hg : getC es (n / w, ptZ w n) with
        | none => simp only [Option.getD_none]; omega
        | some c0 => have := hcb c0 hg; simp only [Option.getD_some]; omega
      · have := hc k c hkc; omega
    simp only [kA] at hlk hpe hlp hls hix hst
    cases hg : getC es (n / w, ptZ w n) with
    | none =>
      rw [hg] at hlk hinc
      simp only [Option.map_none, Option.getD_none, Int.zero_add] at hlk hinc
      simp only [loopIt, todoPast, todoAt, todoOf, firstReg, ↓reduceIte, Option.some.injEq, Nat.reduceEqDiff, reduceCtorEq, Tryz.f59]
      rw [execL_inLoop]
      simp (maxSteps := 1000000) (implicitDefEqProofs := false) (disch := first | rfl | omega | assumption) only [go_sem, g5, g6, g15, g16, g17, ltT, ltF, leT, leF, hk', a1, a2, a3, a4, a5, en]
      rw [chkK_of]; rotate_left; kernel_rfl
      simp (maxSteps := 1000000) (implicitDefEqProofs := false) (disch := first | rfl | omega | assumption) only [go_sem, g5, g6, g15, g16, g17, ltT, ltF, leT, leF, hk', a1, a2, a3, a4, a5, en, hO, hlk, hpe, hlp, Int.zero_add, hls, AV.same, decide_true, decide_eq_true_eq, Option.getD_some, ite_true, hix, hst]
      rw [hinc] at hcn hr
      exact ih (j + 1) (by omega) _ hcn hr _ (by exact g5) (by exact g6) (by exact g15) (by exact g16) (by rfl)
    | some c =>
      have hcb := hcb c hg
      rw [hg] at hlk hinc
      simp only [Option.map_some, Option.getD_some] at hlk hinc
      simp only [loopIt, todoPast, todoAt, todoOf, firstReg, ↓reduceIte, Option.some.injEq, Nat.reduceEqDiff, reduceCtorEq, Tryz.f59]
      rw [execL_inLoop]
      simp (maxSteps := 1000000) (implicitDefEqProofs := false) (disch := first | rfl | omega | assumption) only [go_sem, g5, g6, g15, g16, g17, ltT, ltF, leT, leF, hk', a1, a2, a3, a4, a5, en]
      rw [chkK_of]; rotate_left; kernel_rfl
      simp (maxSteps := 1000000) (implicitDefEqProofs := false) (disch := first | rfl | omega | assumption) only [go_sem, g5, g6, g15, g16, g17, ltT, ltF, leT, leF, hk', a1, a2, a3, a4, a5, en, hO, hlk, hpe, hlp, hls, AV.same, decide_true, decide_eq_true_eq, Option.getD_some, ite_true, hix, hst]
      rw [hinc] at hcn hr
      exact ih (j + 1) (by omega) _ hcn hr _ (by exact g5) (by exact g6) (by exact g15) (by exact g16) (by rfl)

end Go.Ab
/-
  How often there are so many fringes, counted; the openers of Whole and Parts.
-/
namespace Go.Ab
open Go.Proofs
set_option linter.unusedSimpArgs false
set_option linter.unusedVariables false
set_option maxRecDepth 100000
set_option maxHeartbeats 2000000

variable {H : Heap}


/-- A block: the two values that a map's iterator may have. -/
def Frg.cnt (f : Frg) (n : Nat) : List ((Int × Int) × Int) := cntC (f.w n) (f.lens f.all)

theorem fr_counts {f : Frg} (ho : f.Ok) {vw vr : AV} (hf : FrAt H f vw vr) (n : Nat) (hn : n < f.ws.length) :
    callFL cfg0 prog0 false 59 [.agg [vw, I f.lo, I f.hi, vr], I n] H none = some (if (f.lens f.all).isEmpty then ⟨.pan (.iface 98 (.agg [I 10])), H ++ [.box (.agg [vw, I f.lo, I f.hi, vr]), .map 53 []], none⟩ else ⟨.ret (.map (H.length + 1)), H ++ [.box (.agg [vw, I f.lo, I f.hi, vr]), .map 53 (esA (f.cnt n))], none⟩) := by
  have s1 := hf.ws.scal
  have s2 := hf.rs.scal
  have hT := fun G : Heap => fl_told ho (hf.app G)
  have hW := fun G : Heap => fr_wave (hf.app G) n hn
  have hb := lens_bd ho f.all
  have hw := ho.wave n hn
  have hL := co_loop (H := H) hb (w := f.w n) (by omega) (.agg [vw, I f.lo, I f.hi, vr]) _ (f.lens f.all).length 0 (by omega) [] (by intro k c h; cases h) rfl
  simp only [Frg.av, Frg.cnt, cntC, esA, List.map_nil] at hW hL ⊢
  rw [List.drop_zero] at hL
  generalize f.lens f.all = xs at hT hb hL ⊢
  cases hc : xs.isEmpty
  · simp only [hc, Bool.false_eq_true, if_false] at hT ⊢
    have hl : ((xs.map I).length : Int) = (xs.length : Int) := by rw [List.length_map]
    refine (callFL_keep fn59 rfl (by simp [Tryz.f59])).trans ?_
    simp (maxSteps := 1000000) (implicitDefEqProofs := false) (disch := first | rfl | omega | assumption) only [go_sem, ltT, ltF, leT, leF, s1, s2, hT, hW, List.length_map]
    exact hL _ (by rfl) (by rfl) (by rfl) (by rfl) (by rfl)
  · simp only [hc, if_true] at hT ⊢
    refine (callFL_keep fn59 rfl (by simp [Tryz.f59])).trans ?_
    simp (maxSteps := 1000000) (implicitDefEqProofs := false) (disch := first | rfl | omega | assumption) only [go_sem, ltT, ltF, leT, leF, s1, s2, hT, hW]
    done

end Go.Ab
/-
  Whole: the whole numbers of the quotients, sorted, each once.
-/
namespace Go.Ab
open Go.Proofs
set_option linter.unusedSimpArgs false
set_option linter.unusedVariables false
set_option maxRecDepth 100000
set_option maxHeartbeats 2000000

variable {H : Heap}


/-- What a walk through a map has met, and what is left. -/
def Met (n : Nat) (seen rest : List Nat) : Prop := (seen ++ rest).Perm (List.range n)

theorem Met.zero (n : Nat) : Met n [] (List.range n) := List.Perm.refl _

theorem Met.fin {n : Nat} {seen rest : List Nat} (h : Met n seen rest) (hs : ∀ i, i < n → i ∈ seen) : rest = [] := by
  cases hr : rest with
  | nil => rfl
  | cons x r =>
    exfalso
    have hx : x ∈ List.range n := h.mem_iff.1 (by rw [hr]; simp)
    have h1 := hs x (List.mem_range.1 hx)
    have hd : (seen ++ rest).Nodup := h.nodup_iff.2 List.nodup_range
    rw [List.nodup_append] at hd
    exact hd.2.2 x h1 x (by rw [hr]; simp) rfl

theorem Met.go {n : Nat} {seen rest : List Nat} (h : Met n seen rest) {i : Nat} (hi : i < n) (hs : i ∉ seen) : ∃ rest', Met n (seen ++ [i]) rest' ∧ rest'.length + 1 = rest.length := by
  have hm : i ∈ seen ++ rest := h.mem_iff.2 (List.mem_range.2 hi)
  have hr : i ∈ rest := by
    rcases List.mem_append.1 hm with h' | h'
    · exact absurd h' hs
    · exact h'
  refine ⟨rest.erase i, ?_, ?_⟩
  · have hp := List.perm_cons_erase hr
    refine List.Perm.trans ?_ h
    rw [List.append_assoc]
    exact (List.Perm.append_left seen hp.symm)
  · rw [List.length_erase_of_mem hr]
    have := List.length_pos_of_mem hr
    omega

theorem Met.done {n : Nat} {seen : List Nat} (h : Met n seen []) : seen.Perm (List.range n) := by simpa [Met] using h

theorem sort_perm {xs ys : List Int} (h : xs.Perm ys) : xs.mergeSort (fun x y => decide (x ≤ y)) = ys.mergeSort (fun x y => decide (x ≤ y)) := by
  have so : ∀ l : List Int, (l.mergeSort fun x y => decide (x ≤ y)).Pairwise (· ≤ ·) := fun l => by
    have := List.pairwise_mergeSort (le := fun x y : Int => decide (x ≤ y)) (fun a b c h1 h2 => by simp only [decide_eq_true_eq] at h1 h2 ⊢; omega) (fun a b => by simp only [Bool.or_eq_true, decide_eq_true_eq]; omega) l
    exact this.imp fun h => by simpa using h
  refine List.Perm.eq_of_pairwise (le := (· ≤ ·)) (fun a b _ _ h1 h2 => Int.le_antisymm h1 h2) (so _) (so _) ?_
  exact ((List.mergeSort_perm _ _).trans h).trans (List.mergeSort_perm _ _).symm

/-- The entry that a walk meets. -/
def atC (es : List ((Int × Int) × Int)) (i : Nat) : (Int × Int) × Int := es.getD i ((0, 0), 0)

theorem es_at {es : List ((Int × Int) × Int)} {i : Nat} (hi : i < es.length) : (esA es).getD i (.undef, .undef) = (kA (atC es i).1, I (atC es i).2) := by
  simp [esA, atC, hi]

theorem met_perm {es : List ((Int × Int) × Int)} {seen : List Nat} {β : Type} (g : (Int × Int) × Int → β) (h : seen.Perm (List.range es.length)) : (seen.map fun i => g (atC es i)).Perm (es.map g) := by
  have h2 : (List.range es.length).map (fun i => g (atC es i)) = es.map g := by
    apply List.ext_getElem
    · simp
    · intro i h1 h2
      simp only [List.length_map] at h2
      simp [atC, h2]
  rw [← h2]
  exact h.map _

def wholeL (es : List ((Int × Int) × Int)) : List Int := dedupI ((es.map (fun p => p.1.1)).mergeSort fun x y => decide (x ≤ y))

theorem es_at2 {es : List ((Int × Int) × Int)} {i : Nat} (hi : i < es.length) : (esA es)[i]? = some (kA (atC es i).1, I (atC es i).2) := by
  simp [esA, atC, hi]

theorem esA_len (es : List ((Int × Int) × Int)) : (esA es).length = es.length := by simp [esA]

theorem esA_lt (N : Nat) : ∀ es, mapLt N (esA es) = true
  | [] => rfl
  | (k, c) :: r => by
    show ((kA k).lt N && ((I c).lt N && mapLt N (esA r))) = true
    rw [esA_lt N r]
    rfl

theorem ints_map : ∀ zs : List Int, intsOf (zs.map I) = some zs
  | [] => rfl
  | z :: r => by simp only [List.map_cons, intsOf, ints_map r, Option.map_some]

theorem call_sort (o1 o2 o3 : AO) (zs : List Int) (hz : 0 < zs.length ∧ zs.length ≤ 1000) : callFL cfg0 prog0 false 60 [.gsl (H.length + 3) zs.length] (H ++ [o1, o2, o3, .grow 1 (zs.map I)]) none = some ⟨.ret (.tup []), H ++ [o1, o2, o3, .grow 1 ((zs.mergeSort fun x y => decide (x ≤ y)).map I)], none⟩ := by
  rw [callFL_sort fn60 rfl]
  have h1 : (H ++ [o1, o2, o3, AO.grow 1 (zs.map I)])[H.length + 3]? = some (.grow 1 (zs.map I)) := by simp
  simp only [sortF, h1, ints_map]
  rw [if_pos ⟨List.length_map _, by omega, by omega⟩]
  simp

theorem call_comp (o1 o2 o3 : AO) (zs : List Int) (hz : 0 < zs.length ∧ zs.length ≤ 1000) : callFL cfg0 prog0 false 61 [.gsl (H.length + 3) zs.length] (H ++ [o1, o2, o3, .grow 1 (zs.map I)]) none = some ⟨.ret (.sl false ((dedupI zs).map I)), H ++ [o1, o2, o3, .grow 1 (I 0 :: zs.map I)], none⟩ := by
  rw [callFL_comp fn61 rfl rfl]
  have h1 : (H ++ [o1, o2, o3, AO.grow 1 (zs.map I)])[H.length + 3]? = some (.grow 1 (zs.map I)) := by simp
  simp only [compF, h1, ints_map]
  rw [if_pos ⟨List.length_map _, by omega, by omega⟩]
  simp

theorem wh_loop {f : Frg} {vw vr : AV} (hf : FrAt H f vw vr) (w : Int) (es : List ((Int × Int) × Int)) (hn : 0 < es.length) (hm : es.length ≤ 401) (D : Done)
    (hD : D = ⟨.ret (.tup [.sl false ((wholeL es).map I), I 0]), H ++ [.box (.agg [vw, I f.lo, I f.hi, vr]), .box (I w), .box (I 0), .grow 1 (I 0 :: ((es.map (fun p => p.1.1)).mergeSort fun x y => decide (x ≤ y)).map I)], none⟩) :
    ∀ (q : Nat) (seen rest : List Nat), rest.length = q → Met es.length seen rest → ∀ E : Env, E.get 5 = .ptr (H.length + 2) 0 → E.get 6 = .gsl (H.length + 3) seen.length → E.get 14 = .ptr (H.length + 6) 0 → ∀ G : Heap,
    execL cfg0 prog0 ⟨16, none, false, H.length⟩ (todoAt Tryz.f16 4) ⟨E, [.fn (.func 57) [] [.ptr (H.length + 2) 0]], H ++ (.box (.agg [vw, I f.lo, I f.hi, vr]) :: .box (I w) :: .box (I 0) :: .grow 1 ((seen.map fun i => (atC es i).1.1).map I) :: .box (.agg [vw, I f.lo, I f.hi, vr]) :: .map 53 (esA es) :: .iter (H.length + 5) es.length seen :: G), none⟩ = some D := by
  have s1 := hf.ws.scal
  have s2 := hf.rs.scal
  have t1 := hf.ws.ltn 7
  have t2 := hf.rs.ltn 7
  have hle := esA_len es
  have hml := esA_lt (H.length + 7) es
  have hk' : True := trivial
  have t3 := hf.ws.ltn 4
  have t4 := hf.rs.ltn 4
  have hN := fun G : Heap => wd_Wholen (H.length + 2) G
  intro q
  induction q with
  | zero =>
    intro seen rest hq hmet E g5 g6 g14 G
    have hlt := fun N => ltL_map (f := I) (N := N) (fun _ => rfl) (seen.map fun i => (atC es i).1.1)
    have hxl : (seen.map fun i => (atC es i).1.1).length = seen.length := List.length_map _
    have hsl : seen.length ≤ es.length := by
      have := hmet.length_eq
      simp only [List.length_append, List.length_range] at this; omega
    simp only [loopIt, todoPast, todoAt, todoOf, firstReg, ↓reduceIte, Option.some.injEq, Nat.reduceEqDiff, reduceCtorEq, Tryz.f16]
    rw [execL_inLoop]
    simp (maxSteps := 1000000) (implicitDefEqProofs := false) (disch := first | rfl | omega | assumption) only [go_sem, g5, g6, g14, ltT, ltF, leT, leF, hk']
    refine exec_nx (e := [(5, .ptr (H.length + 2) 0), (6, .gsl (H.length + 3) seen.length), (14, .ptr (H.length + 6) 0)]) (df := [.fn (.func 57) [] [.ptr (H.length + 2) 0]]) (H := H ++ [.box (.agg [vw, I f.lo, I f.hi, vr]), .box (I w), .box (I 0), .grow 1 ((seen.map fun i => (atC es i).1.1).map I), .box (.agg [vw, I f.lo, I f.hi, vr]), .map 53 (esA es), .iter (H.length + 5) es.length seen]) (pn := none) (n := es.length) (m := H.length + 5) (seen := seen) (li := H.length + 6) (kt := 53) (es := esA es) (by simp (maxSteps := 1000000) (implicitDefEqProofs := false) (disch := first | rfl | omega | assumption) only [go_sem, g5, g6, g14, ltT, ltF, leT, leF, hk', t1, t2, hml, hlt]) ?_ ?_ ?_ ?_ ?_ ?_
    · simp (maxSteps := 1000000) (implicitDefEqProofs := false) (disch := first | rfl | omega | assumption) only [go_sem, g5, g6, g14, ltT, ltF, leT, leF, hk']
    · simp (maxSteps := 1000000) (implicitDefEqProofs := false) (disch := first | rfl | omega | assumption) only [go_sem, g5, g6, g14, ltT, ltF, leT, leF, hk']
    · simp (maxSteps := 1000000) (implicitDefEqProofs := false) (disch := first | rfl | omega | assumption) only [go_sem, g5, g6, g14, ltT, ltF, leT, leF, hk']
    · exact hle
    · intro hall
      have hre := hmet.fin hall
      rw [hre] at hmet
      have hlt4 := hlt 0
      have hsn : seen.length = es.length := by
        have := hmet.length_eq
        simpa using this
      have hK := call_sort (H := H) (.box (.agg [vw, I f.lo, I f.hi, vr])) (.box (I w)) (.box (I 0)) (seen.map fun i => (atC es i).1.1) (by omega)
      have hC := call_comp (H := H) (.box (.agg [vw, I f.lo, I f.hi, vr])) (.box (I w)) (.box (I 0)) ((seen.map fun i => (atC es i).1.1).mergeSort fun x y => decide (x ≤ y)) (by rw [List.length_mergeSort]; omega)
      rw [sort_perm (met_perm (fun p => p.1.1) hmet.done)] at hK hC
      rw [hxl] at hK
      rw [List.length_mergeSort, List.length_map, ← hsn] at hC
      simp (maxSteps := 1000000) (implicitDefEqProofs := false) (disch := first | rfl | omega | assumption) only [go_sem, g5, g6, g14, ltT, ltF, leT, leF, hk', t3, t4, hlt, hN, hK, hC]
      rw [hD]
      rfl
    · intro i hi hs
      obtain ⟨rest', h1, h2⟩ := hmet.go hi hs
      omega
  | succ q ih =>
    intro seen rest hq hmet E g5 g6 g14 G
    have hlt := fun N => ltL_map (f := I) (N := N) (fun _ => rfl) (seen.map fun i => (atC es i).1.1)
    have hxl : (seen.map fun i => (atC es i).1.1).length = seen.length := List.length_map _
    have hsl : seen.length ≤ es.length := by
      have := hmet.length_eq
      simp only [List.length_append, List.length_range] at this; omega
    simp only [loopIt, todoPast, todoAt, todoOf, firstReg, ↓reduceIte, Option.some.injEq, Nat.reduceEqDiff, reduceCtorEq, Tryz.f16] at ih ⊢
    rw [execL_inLoop]
    simp (maxSteps := 1000000) (implicitDefEqProofs := false) (disch := first | rfl | omega | assumption) only [go_sem, g5, g6, g14, ltT, ltF, leT, leF, hk']
    refine exec_nx (e := [(5, .ptr (H.length + 2) 0), (6, .gsl (H.length + 3) seen.length), (14, .ptr (H.length + 6) 0)]) (df := [.fn (.func 57) [] [.ptr (H.length + 2) 0]]) (H := H ++ [.box (.agg [vw, I f.lo, I f.hi, vr]), .box (I w), .box (I 0), .grow 1 ((seen.map fun i => (atC es i).1.1).map I), .box (.agg [vw, I f.lo, I f.hi, vr]), .map 53 (esA es), .iter (H.length + 5) es.length seen]) (pn := none) (n := es.length) (m := H.length + 5) (seen := seen) (li := H.length + 6) (kt := 53) (es := esA es) (by simp (maxSteps := 1000000) (implicitDefEqProofs := false) (disch := first | rfl | omega | assumption) only [go_sem, g5, g6, g14, ltT, ltF, leT, leF, hk', t1, t2, hml, hlt]) ?_ ?_ ?_ ?_ ?_ ?_
    · simp (maxSteps := 1000000) (implicitDefEqProofs := false) (disch := first | rfl | omega | assumption) only [go_sem, g5, g6, g14, ltT, ltF, leT, leF, hk']
    · simp (maxSteps := 1000000) (implicitDefEqProofs := false) (disch := first | rfl | omega | assumption) only [go_sem, g5, g6, g14, ltT, ltF, leT, leF, hk']
    · simp (maxSteps := 1000000) (implicitDefEqProofs := false) (disch := first | rfl | omega | assumption) only [go_sem, g5, g6, g14, ltT, ltF, leT, leF, hk']
    · exact hle
    · intro hall
      have hre := hmet.fin hall
      rw [hre] at hmet
      rw [hre] at hq
      simp at hq
    · intro i hi hs
      have hat := es_at hi
      have hat2 := es_at2 hi
      have hat3 : (esA es).getD i (.undef, .undef) = (.agg [I (atC es i).1.1, I (atC es i).1.2], I (atC es i).2) := hat
      have hat4 : (esA es)[i]? = some (.agg [I (atC es i).1.1, I (atC es i).1.2], I (atC es i).2) := hat2
      obtain ⟨rest', h1, h2⟩ := hmet.go hi hs
      have hadd : ∀ o1 o2 o3 o4 o5 o6 o7 : AO, addElem (H ++ [o1, o2, o3, .grow 1 ((seen.map fun i => (atC es i).1.1).map I), o4, o5, o6, o7]) 1 false (.gsl (H.length + 3) seen.length) [I (atC es i).1.1] = some (.gsl (H.length + 3) (seen.length + 1), H ++ [o1, o2, o3, .grow 1 (((seen ++ [i]).map fun i => (atC es i).1.1).map I), o4, o5, o6, o7]) := by
        intro o1 o2 o3 o4 o5 o6 o7
        rw [add_gsl (xs := (seen.map fun i => (atC es i).1.1).map I) (by simp) (by simp) rfl rfl (by simp; omega)]
        simp
      have key := ih (seen ++ [i]) rest' (by omega) h1
      simp only [List.length_append, List.length_cons, List.length_nil] at key
      simp (maxSteps := 1000000) (implicitDefEqProofs := false) (disch := first | rfl | omega | assumption) only [go_sem, g5, g6, g14, ltT, ltF, leT, leF, hk', hle, hat3, hat4, hadd]
      exact key _ (by rfl) (by rfl) (by rfl) _

theorem getC_len : ∀ (xs : List Int) (w : Int) (es : List ((Int × Int) × Int)), 0 < es.length → 0 < (xs.foldl (incC w) es).length
  | [], _, _, h => h
  | x :: r, w, es, h => getC_len r w _ (by
    cases es with
    | nil => simp at h
    | cons p t => simp only [incC, setC]; split <;> simp)

theorem setC_len (k : Int × Int) (c : Int) : ∀ es, (setC es k c).length ≤ es.length + 1
  | [] => by simp [setC]
  | (k', c') :: r => by
    have := setC_len k c r
    simp only [setC]
    split <;> simp <;> omega

theorem cnt_len (w : Int) : ∀ (xs : List Int) (es : List ((Int × Int) × Int)), (xs.foldl (incC w) es).length ≤ es.length + xs.length
  | [], es => by simp
  | x :: r, es => by
    have h1 := cnt_len w r (incC w es x)
    have h2 := setC_len (x / w, ptZ w x) ((getC es (x / w, ptZ w x)).getD 0 + 1) es
    simp only [List.foldl_cons, List.length_cons]
    simp only [incC] at h1 ⊢
    omega

theorem cnt_pos (w : Int) {xs : List Int} (h : xs.isEmpty = false) : 0 < (cntC w xs).length := by
  cases xs with
  | nil => cases h
  | cons x r => exact getC_len r w _ (by simp [incC, setC])

theorem cnt_bd {f : Frg} (ho : f.Ok) (n : Nat) : (f.cnt n).length ≤ 401 := by
  have h1 := cnt_len (f.w n) (f.lens f.all) []
  have h2 := (lens_bd ho f.all).1
  simp only [Frg.cnt, cntC, List.length_nil] at h1 ⊢
  omega

def Frg.whole (f : Frg) (n : Int) : List Int × Int := if f.valid then (if wi n 0 ((f.ws.length : Int) - 1) then (if (f.lens f.all).isEmpty then ([], 10) else (wholeL (f.cnt n.toNat), 0)) else ([], 2)) else ([], 1)

theorem fr_Whole2 {f : Frg} {vw vr : AV} (hf : FrAt H f vw vr) (hl : f.ws.length ≤ 1000) {p : Nat} {w : Int} (hp : H[p]? = some (.box (I w))) :
    callFL cfg0 prog0 false 58 [.agg [vw, I f.lo, I f.hi, vr], .ptr p 0] H none = some ⟨.ret (.bool (wi w 0 ((f.ws.length : Int) - 1))), H, none⟩ := by
  have s1 := hf.ws.scal
  have s2 := hf.rs.scal
  have hl : p < H.length := (List.getElem?_eq_some_iff.1 hp).1
  have hp' : ∀ G : Heap, (H ++ G)[p]? = some (.box (I w)) := fun G => by rw [List.getElem?_append_left hl]; exact hp
  have hC := fun G : Heap => fr_isColour (hf.app G) (by omega) w
  simp only [Frg.av] at hC
  refine (callFL_eq fn58 rfl (by simp [Tryz.f58])).trans ?_
  simp (maxSteps := 1000000) (implicitDefEqProofs := false) (disch := first | rfl | omega | assumption) only [go_sem, ltT, ltF, leT, leF, s1, s2, hp', hC]
  done

theorem fr_Whole {f : Frg} {vw vr : AV} (hf : FrAt H f vw vr) (hl : f.ws.length ≤ 1000 ∧ f.rs.length ≤ 1000) (w : Int) :
    callFL cfg0 prog0 false 16 [.agg [vw, I f.lo, I f.hi, vr], I w] H none = some ⟨.ret (.tup [.sl (!decide ((f.whole w).2 = 0)) ((f.whole w).1.map I), I (f.whole w).2]), H, none⟩ := by
  have s1 := hf.ws.scal
  have s2 := hf.rs.scal
  have hk' : True := trivial
  have hO := fr_open (H := H ++ [.box (.agg [vw, I f.lo, I f.hi, vr]), .box (I w), .box (I 0), .grow 1 []]) (hf.app _) hl (.func 58) [.ptr (H.length + 1) 0] (by simp [AV.lt, ltL, fnLt]) (wi w 0 ((f.ws.length : Int) - 1)) (fun _ A => by
    have := fr_Whole2 (H := H ++ ([.box (.agg [vw, I f.lo, I f.hi, vr]), .box (I w), .box (I 0), .grow 1 []] ++ A)) (hf.app _) hl.1 (p := H.length + 1) (w := w) (by rw [get_at' 1]; rfl)
    rw [← List.append_assoc] at this
    rw [callVL_func]
    exact this)
  have hS := fun (e : Int) (a b : AO) (G : Heap) => wd_Wholes (H.length + 2) e 0 (H ++ (a :: b :: .box (I 0) :: G)) (by rw [get_at' 2]; rfl)
  cases hv : f.valid
  · simp only [hv, Bool.false_eq_true, if_false, Frg.whole] at hO ⊢
    refine (callFL_eq fn16 rfl (by simp [Tryz.f16])).trans ?_
    simp (maxSteps := 1000000) (implicitDefEqProofs := false) (disch := first | rfl | omega | assumption) only [go_sem, ltT, ltF, leT, leF, s1, s2, hO, hS]
    rw [chkK_of]; rotate_left; kernel_rfl
    simp (maxSteps := 1000000) (implicitDefEqProofs := false) (disch := first | rfl | omega | assumption) only [go_sem, ltT, ltF, leT, leF, s1, s2, hO, hS]
    done
  · have ho := f.valid_iff.1 hv
    simp only [hv, if_true, Frg.whole] at hO ⊢
    cases hw : wi w 0 ((f.ws.length : Int) - 1)
    · simp only [hw, Bool.false_eq_true, if_false] at hO ⊢
      refine (callFL_eq fn16 rfl (by simp [Tryz.f16])).trans ?_
      simp (maxSteps := 1000000) (implicitDefEqProofs := false) (disch := first | rfl | omega | assumption) only [go_sem, ltT, ltF, leT, leF, s1, s2, hO, hS]
      rw [chkK_of]; rotate_left; kernel_rfl
      simp (maxSteps := 1000000) (implicitDefEqProofs := false) (disch := first | rfl | omega | assumption) only [go_sem, ltT, ltF, leT, leF, s1, s2, hO, hS]
      done
    · have hwb : 0 ≤ w ∧ w ≤ (f.ws.length : Int) - 1 := by simpa [wi] using hw
      obtain ⟨n, rfl⟩ : ∃ n : Nat, w = n := ⟨w.toNat, by omega⟩
      have hC := fun G : Heap => fr_counts ho (hf.app G) n (by omega)
      simp only [hw, if_true, Int.toNat_natCast] at hO ⊢
      cases hc : (f.lens f.all).isEmpty
      · simp only [hc, Bool.false_eq_true, if_false] at hC ⊢
        have h1 := cnt_pos (f.w n) hc
        have h2 := cnt_bd ho n
        have h3 := wh_loop hf n (f.cnt n) h1 h2 _ rfl _ [] _ rfl (Met.zero _)
        simp only [Frg.cnt] at hC h2 h3 ⊢
        simp only [loopIt, todoPast, todoAt, todoOf, firstReg, ↓reduceIte, Option.some.injEq, Nat.reduceEqDiff, reduceCtorEq, Tryz.f16] at h3
        refine (callFL_eq fn16 rfl (by simp [Tryz.f16])).trans ?_
        simp (maxSteps := 1000000) (implicitDefEqProofs := false) (disch := first | rfl | omega | assumption) only [go_sem, ltT, ltF, leT, leF, s1, s2, hO, hS]
        rw [chkK_of]; rotate_left; kernel_rfl
        simp (maxSteps := 1000000) (implicitDefEqProofs := false) (disch := first | rfl | omega | assumption) only [go_sem, ltT, ltF, leT, leF, s1, s2, hO, hS, hC, esA_len]
        refine (congrArg (Option.map (finishC H.length)) (h3 _ (by rfl) (by rfl) (by rfl) [])).trans ?_
        simp (maxSteps := 1000000) (implicitDefEqProofs := false) (disch := first | rfl | omega | assumption) only [go_sem, ltT, ltF, leT, leF, s1, s2]
        done
      · simp only [hc, if_true] at hC ⊢
        refine (callFL_eq fn16 rfl (by simp [Tryz.f16])).trans ?_
        simp (maxSteps := 1000000) (implicitDefEqProofs := false) (disch := first | rfl | omega | assumption) only [go_sem, ltT, ltF, leT, leF, s1, s2, hO, hS]
        rw [chkK_of]; rotate_left; kernel_rfl
        simp (maxSteps := 1000000) (implicitDefEqProofs := false) (disch := first | rfl | omega | assumption) only [go_sem, ltT, ltF, leT, leF, s1, s2, hO, hS, hC]
        done

end Go.Ab
/-
  Parts: the set of the parts of the quotients.
-/
namespace Go.Ab
open Go.Proofs
set_option linter.unusedSimpArgs false
set_option linter.unusedVariables false
set_option maxRecDepth 100000
set_option maxHeartbeats 2000000

variable {H : Heap}


def orP (a : Nat) (p : Int) : Nat := a ||| 2 ^ p.toNat
def partS (es : List ((Int × Int) × Int)) : Nat := es.foldl (fun a p => orP a p.1.2) 0

def PtB (es : List ((Int × Int) × Int)) : Prop := ∀ p ∈ es, 0 ≤ p.1.2 ∧ p.1.2 < 20

theorem or_lt {a : Nat} {p : Int} (ha : a < 2 ^ 20) (hp : 0 ≤ p ∧ p < 20) : orP a p < 2 ^ 20 := by
  refine Nat.or_lt_two_pow ha (Nat.pow_lt_pow_right (by omega) (by omega))

theorem or_perm {es : List ((Int × Int) × Int)} {seen : List Nat} (h : seen.Perm (List.range es.length)) : seen.foldl (fun a i => orP a (atC es i).1.2) 0 = partS es := by
  have h2 := met_perm (fun p => p) h
  have h3 : seen.foldl (fun a i => orP a (atC es i).1.2) 0 = (seen.map fun i => atC es i).foldl (fun a p => orP a p.1.2) 0 := by rw [List.foldl_map]
  rw [h3]
  simp only [List.map_id'] at h2
  exact h2.foldl_eq' (fun x _ y _ z => by simp only [orP]; rw [Nat.or_assoc, Nat.or_comm (2 ^ _), ← Nat.or_assoc]) 0

theorem pt_loop {f : Frg} {vw vr : AV} (hf : FrAt H f vw vr) (w : Int) (es : List ((Int × Int) × Int)) (hn : 0 < es.length) (hm : es.length ≤ 401) (hp : PtB es) (D : Done)
    (hD : D = ⟨.ret (.tup [I (partS es : Nat), I 0]), H ++ [.box (.agg [vw, I f.lo, I f.hi, vr]), .box (I w), .box (I 0)], none⟩) :
    ∀ (q : Nat) (seen rest : List Nat), rest.length = q → Met es.length seen rest → ∀ a : Nat, a < 2 ^ 20 → a = seen.foldl (fun a i => orP a (atC es i).1.2) 0 → ∀ E : Env, E.get 5 = .ptr (H.length + 2) 0 → E.get 6 = I (a : Nat) → E.get 14 = .ptr (H.length + 5) 0 → ∀ G : Heap,
    execL cfg0 prog0 ⟨18, none, false, H.length⟩ (todoAt Tryz.f18 4) ⟨E, [.fn (.func 62) [] [.ptr (H.length + 2) 0]], H ++ (.box (.agg [vw, I f.lo, I f.hi, vr]) :: .box (I w) :: .box (I 0) :: .box (.agg [vw, I f.lo, I f.hi, vr]) :: .map 53 (esA es) :: .iter (H.length + 4) es.length seen :: G), none⟩ = some D := by
  have s1 := hf.ws.scal
  have s2 := hf.rs.scal
  have t1 := hf.ws.ltn 6
  have t2 := hf.rs.ltn 6
  have hle := esA_len es
  have hml := esA_lt (H.length + 6) es
  have hk' : True := trivial
  have t3 := hf.ws.ltn 3
  have t4 := hf.rs.ltn 3
  have hN := fun G : Heap => wd_Partsn (H.length + 2) G
  intro q
  induction q with
  | zero =>
    intro seen rest hq hmet a ha hae E g5 g6 g14 G
    simp only [loopIt, todoPast, todoAt, todoOf, firstReg, ↓reduceIte, Option.some.injEq, Nat.reduceEqDiff, reduceCtorEq, Tryz.f18]
    rw [execL_inLoop]
    simp (maxSteps := 1000000) (implicitDefEqProofs := false) (disch := first | rfl | omega | assumption) only [go_sem, g5, g6, g14, ltT, ltF, leT, leF, hk']
    refine exec_nx (e := [(5, .ptr (H.length + 2) 0), (6, I (a : Nat)), (14, .ptr (H.length + 5) 0)]) (df := [.fn (.func 62) [] [.ptr (H.length + 2) 0]]) (H := H ++ [.box (.agg [vw, I f.lo, I f.hi, vr]), .box (I w), .box (I 0), .box (.agg [vw, I f.lo, I f.hi, vr]), .map 53 (esA es), .iter (H.length + 4) es.length seen]) (pn := none) (n := es.length) (m := H.length + 4) (seen := seen) (li := H.length + 5) (kt := 53) (es := esA es) (by simp (maxSteps := 1000000) (implicitDefEqProofs := false) (disch := first | rfl | omega | assumption) only [go_sem, g5, g6, g14, ltT, ltF, leT, leF, hk', t1, t2, hml]) ?_ ?_ ?_ ?_ ?_ ?_
    · simp (maxSteps := 1000000) (implicitDefEqProofs := false) (disch := first | rfl | omega | assumption) only [go_sem, g5, g6, g14, ltT, ltF, leT, leF, hk']
    · simp (maxSteps := 1000000) (implicitDefEqProofs := false) (disch := first | rfl | omega | assumption) only [go_sem, g5, g6, g14, ltT, ltF, leT, leF, hk']
    · simp (maxSteps := 1000000) (implicitDefEqProofs := false) (disch := first | rfl | omega | assumption) only [go_sem, g5, g6, g14, ltT, ltF, leT, leF, hk']
    · exact hle
    · intro hall
      have hre := hmet.fin hall
      rw [hre] at hmet
      have hpa : a = partS es := by
        rw [hae, or_perm hmet.done]
      simp (maxSteps := 1000000) (implicitDefEqProofs := false) (disch := first | rfl | omega | assumption) only [go_sem, g5, g6, g14, ltT, ltF, leT, leF, hk', t3, t4, hN]
      rw [hD, hpa]
    · intro i hi hs
      obtain ⟨rest', h1, h2⟩ := hmet.go hi hs
      omega
  | succ q ih =>
    intro seen rest hq hmet a ha hae E g5 g6 g14 G
    simp only [loopIt, todoPast, todoAt, todoOf, firstReg, ↓reduceIte, Option.some.injEq, Nat.reduceEqDiff, reduceCtorEq, Tryz.f18] at ih ⊢
    rw [execL_inLoop]
    simp (maxSteps := 1000000) (implicitDefEqProofs := false) (disch := first | rfl | omega | assumption) only [go_sem, g5, g6, g14, ltT, ltF, leT, leF, hk']
    refine exec_nx (e := [(5, .ptr (H.length + 2) 0), (6, I (a : Nat)), (14, .ptr (H.length + 5) 0)]) (df := [.fn (.func 62) [] [.ptr (H.length + 2) 0]]) (H := H ++ [.box (.agg [vw, I f.lo, I f.hi, vr]), .box (I w), .box (I 0), .box (.agg [vw, I f.lo, I f.hi, vr]), .map 53 (esA es), .iter (H.length + 4) es.length seen]) (pn := none) (n := es.length) (m := H.length + 4) (seen := seen) (li := H.length + 5) (kt := 53) (es := esA es) (by simp (maxSteps := 1000000) (implicitDefEqProofs := false) (disch := first | rfl | omega | assumption) only [go_sem, g5, g6, g14, ltT, ltF, leT, leF, hk', t1, t2, hml]) ?_ ?_ ?_ ?_ ?_ ?_
    · simp (maxSteps := 1000000) (implicitDefEqProofs := false) (disch := first | rfl | omega | assumption) only [go_sem, g5, g6, g14, ltT, ltF, leT, leF, hk']
    · simp (maxSteps := 1000000) (implicitDefEqProofs := false) (disch := first | rfl | omega | assumption) only [go_sem, g5, g6, g14, ltT, ltF, leT, leF, hk']
    · simp (maxSteps := 1000000) (implicitDefEqProofs := false) (disch := first | rfl | omega | assumption) only [go_sem, g5, g6, g14, ltT, ltF, leT, leF, hk']
    · exact hle
    · intro hall
      have hre := hmet.fin hall
      rw [hre] at hq
      simp at hq
    · intro i hi hs
      have hat : (esA es).getD i (.undef, .undef) = (.agg [I (atC es i).1.1, I (atC es i).1.2], I (atC es i).2) := es_at hi
      have hat2 : (esA es)[i]? = some (.agg [I (atC es i).1.1, I (atC es i).1.2], I (atC es i).2) := es_at2 hi
      have hb : 0 ≤ (atC es i).1.2 ∧ (atC es i).1.2 < 20 := hp _ (by simp only [atC, List.getD_eq_getElem?_getD, List.getElem?_eq_getElem hi, Option.getD_some]; exact List.getElem_mem hi)
      obtain ⟨rest', h1, h2⟩ := hmet.go hi hs
      have key := ih (seen ++ [i]) rest' (by omega) h1 (orP a (atC es i).1.2) (or_lt ha hb) (by rw [List.foldl_append, ← hae]; rfl)
      have hsh := shlI (k := (atC es i).1.2.toNat) (by omega)
      have hor : bitsOp .or .i64 (a : Int) ((2 ^ (atC es i).1.2.toNat : Nat) : Int) = some ((orP a (atC es i).1.2 : Nat) : Int) := by
        have h20 : (2 : Nat) ^ (atC es i).1.2.toNat < 2 ^ 20 := Nat.pow_lt_pow_right (by omega) (by omega)
        exact bitsOrI (by omega) (by omega)
      simp (maxSteps := 1000000) (implicitDefEqProofs := false) (disch := first | rfl | omega | assumption) only [go_sem, g5, g6, g14, ltT, ltF, leT, leF, hk', hle, hat, hat2, hsh, hor]
      exact key _ (by rfl) (by rfl) (by rfl) _

theorem setC_mem (k : Int × Int) (c : Int) : ∀ es, ∀ p ∈ setC es k c, p.1 = k ∨ p ∈ es
  | [], p, h => by simp only [setC, List.mem_singleton] at h; exact Or.inl (by rw [h])
  | (k', c') :: r, p, h => by
    simp only [setC] at h
    split at h
    · rcases List.mem_cons.1 h with h | h
      · exact Or.inl (by rw [h])
      · exact Or.inr (List.mem_cons_of_mem _ h)
    · rcases List.mem_cons.1 h with h | h
      · exact Or.inr (by rw [h]; exact List.mem_cons_self)
      · rcases setC_mem k c r p h with h | h
        · exact Or.inl h
        · exact Or.inr (List.mem_cons_of_mem _ h)

theorem cnt_mem (w : Int) : ∀ (xs : List Int) (es : List ((Int × Int) × Int)), ∀ p ∈ xs.foldl (incC w) es, p ∈ es.map id ∨ (∃ x ∈ xs, p.1 = (x / w, ptZ w x)) ∨ ∃ p' ∈ es, p.1 = p'.1
  | [], es, p, h => by simp only [List.foldl_nil] at h; exact Or.inr (Or.inr ⟨p, h, rfl⟩)
  | x :: r, es, p, h => by
    rcases cnt_mem w r (incC w es x) p h with h | ⟨y, hy, h⟩ | ⟨p', hp', h⟩
    · simp only [List.map_id] at h
      rcases setC_mem _ _ _ p h with h | h
      · exact Or.inr (Or.inl ⟨x, List.mem_cons_self, h⟩)
      · exact Or.inr (Or.inr ⟨p, h, rfl⟩)
    · exact Or.inr (Or.inl ⟨y, List.mem_cons_of_mem _ hy, h⟩)
    · rcases setC_mem _ _ _ p' hp' with h' | h'
      · exact Or.inr (Or.inl ⟨x, List.mem_cons_self, by rw [h, h']⟩)
      · exact Or.inr (Or.inr ⟨p', h', h⟩)

theorem cntC_of {w : Int} {xs : List Int} {p : (Int × Int) × Int} (h : p ∈ cntC w xs) : ∃ x ∈ xs, p.1 = (x / w, ptZ w x) := by
  rcases cnt_mem w xs [] p h with h | h | ⟨p', h, _⟩
  · simp at h
  · exact h
  · cases h

theorem cnt_pt {f : Frg} (ho : f.Ok) (n : Nat) (hn : n < f.ws.length) : PtB (f.cnt n) := by
  intro p hp
  obtain ⟨x, _, h⟩ := cntC_of hp
  have hw := ho.wave n hn
  have hb := ptZ_bd (w := f.w n) (n := x) (by omega)
  rw [h]
  exact ⟨by simp only; omega, by simp only; omega⟩

def Frg.parts (f : Frg) (n : Int) : Int × Int := if f.valid then (if wi n 0 ((f.ws.length : Int) - 1) then (if (f.lens f.all).isEmpty then (0, 10) else ((partS (f.cnt n.toNat) : Nat), 0)) else (0, 2)) else (0, 1)

theorem fr_Parts2 {f : Frg} {vw vr : AV} (hf : FrAt H f vw vr) (hl : f.ws.length ≤ 1000) {p : Nat} {w : Int} (hp : H[p]? = some (.box (I w))) :
    callFL cfg0 prog0 false 63 [.agg [vw, I f.lo, I f.hi, vr], .ptr p 0] H none = some ⟨.ret (.bool (wi w 0 ((f.ws.length : Int) - 1))), H, none⟩ := by
  have s1 := hf.ws.scal
  have s2 := hf.rs.scal
  have hl : p < H.length := (List.getElem?_eq_some_iff.1 hp).1
  have hp' : ∀ G : Heap, (H ++ G)[p]? = some (.box (I w)) := fun G => by rw [List.getElem?_append_left hl]; exact hp
  have hC := fun G : Heap => fr_isColour (hf.app G) (by omega) w
  simp only [Frg.av] at hC
  refine (callFL_eq fn63 rfl (by simp [Tryz.f63])).trans ?_
  simp (maxSteps := 1000000) (implicitDefEqProofs := false) (disch := first | rfl | omega | assumption) only [go_sem, ltT, ltF, leT, leF, s1, s2, hp', hC]
  done

theorem fr_Parts {f : Frg} {vw vr : AV} (hf : FrAt H f vw vr) (hl : f.ws.length ≤ 1000 ∧ f.rs.length ≤ 1000) (w : Int) :
    callFL cfg0 prog0 false 18 [.agg [vw, I f.lo, I f.hi, vr], I w] H none = some ⟨.ret (.tup [I (f.parts w).1, I (f.parts w).2]), H, none⟩ := by
  have s1 := hf.ws.scal
  have s2 := hf.rs.scal
  have hk' : True := trivial
  have hO := fr_open (H := H ++ [.box (.agg [vw, I f.lo, I f.hi, vr]), .box (I w), .box (I 0)]) (hf.app _) hl (.func 63) [.ptr (H.length + 1) 0] (by simp [AV.lt, ltL, fnLt]) (wi w 0 ((f.ws.length : Int) - 1)) (fun _ A => by
    have := fr_Parts2 (H := H ++ ([.box (.agg [vw, I f.lo, I f.hi, vr]), .box (I w), .box (I 0)] ++ A)) (hf.app _) hl.1 (p := H.length + 1) (w := w) (by rw [get_at' 1]; rfl)
    rw [← List.append_assoc] at this
    rw [callVL_func]
    exact this)
  have hS := fun (e : Int) (a b : AO) (G : Heap) => wd_Partss (H.length + 2) e 0 (H ++ (a :: b :: .box (I 0) :: G)) (by rw [get_at' 2]; rfl)
  cases hv : f.valid
  · simp only [hv, Bool.false_eq_true, if_false, Frg.parts] at hO ⊢
    refine (callFL_eq fn18 rfl (by simp [Tryz.f18])).trans ?_
    simp (maxSteps := 1000000) (implicitDefEqProofs := false) (disch := first | rfl | omega | assumption) only [go_sem, ltT, ltF, leT, leF, s1, s2, hO, hS]
    rw [chkK_of]; rotate_left; kernel_rfl
    simp (maxSteps := 1000000) (implicitDefEqProofs := false) (disch := first | rfl | omega | assumption) only [go_sem, ltT, ltF, leT, leF, s1, s2, hO, hS]
    done
  · have ho := f.valid_iff.1 hv
    simp only [hv, if_true, Frg.parts] at hO ⊢
    cases hw : wi w 0 ((f.ws.length : Int) - 1)
    · simp only [hw, Bool.false_eq_true, if_false] at hO ⊢
      refine (callFL_eq fn18 rfl (by simp [Tryz.f18])).trans ?_
      simp (maxSteps := 1000000) (implicitDefEqProofs := false) (disch := first | rfl | omega | assumption) only [go_sem, ltT, ltF, leT, leF, s1, s2, hO, hS]
      rw [chkK_of]; rotate_left; kernel_rfl
      simp (maxSteps := 1000000) (implicitDefEqProofs := false) (disch := first | rfl | omega | assumption) only [go_sem, ltT, ltF, leT, leF, s1, s2, hO, hS]
      done
    · have hwb : 0 ≤ w ∧ w ≤ (f.ws.length : Int) - 1 := by simpa [wi] using hw
      obtain ⟨n, rfl⟩ : ∃ n : Nat, w = n := ⟨w.toNat, by omega⟩
      have hC := fun G : Heap => fr_counts ho (hf.app G) n (by omega)
      simp only [hw, if_true, Int.toNat_natCast] at hO ⊢
      cases hc : (f.lens f.all).isEmpty
      · simp only [hc, Bool.false_eq_true, if_false] at hC ⊢
        have h1 := cnt_pos (f.w n) hc
        have h2 := cnt_bd ho n
        have h3 := pt_loop hf n (f.cnt n) h1 h2 (cnt_pt ho n (by omega)) _ rfl _ [] _ rfl (Met.zero _) 0 (by decide) rfl
        simp only [Frg.cnt] at hC h2 h3 ⊢
        simp only [loopIt, todoPast, todoAt, todoOf, firstReg, ↓reduceIte, Option.some.injEq, Nat.reduceEqDiff, reduceCtorEq, Tryz.f18] at h3
        refine (callFL_eq fn18 rfl (by simp [Tryz.f18])).trans ?_
        simp (maxSteps := 1000000) (implicitDefEqProofs := false) (disch := first | rfl | omega | assumption) only [go_sem, ltT, ltF, leT, leF, s1, s2, hO, hS]
        rw [chkK_of]; rotate_left; kernel_rfl
        simp (maxSteps := 1000000) (implicitDefEqProofs := false) (disch := first | rfl | omega | assumption) only [go_sem, ltT, ltF, leT, leF, s1, s2, hO, hS, hC, esA_len]
        refine (congrArg (Option.map (finishC H.length)) (h3 _ (by rfl) (by rfl) (by rfl) [])).trans ?_
        simp (maxSteps := 1000000) (implicitDefEqProofs := false) (disch := first | rfl | omega | assumption) only [go_sem, ltT, ltF, leT, leF, s1, s2]
        done
      · simp only [hc, if_true] at hC ⊢
        refine (callFL_eq fn18 rfl (by simp [Tryz.f18])).trans ?_
        simp (maxSteps := 1000000) (implicitDefEqProofs := false) (disch := first | rfl | omega | assumption) only [go_sem, ltT, ltF, leT, leF, s1, s2, hO, hS]
        rw [chkK_of]; rotate_left; kernel_rfl
        simp (maxSteps := 1000000) (implicitDefEqProofs := false) (disch := first | rfl | omega | assumption) only [go_sem, ltT, ltF, leT, leF, s1, s2, hO, hS, hC]
        done

end Go.Ab
