/-
  What is done on the way out; Check, Holds.
-/
import Derived.Test.YteeefmibaggekaaKK1
namespace Go.Ab
open Go.Proofs
set_option linter.unusedSimpArgs false
set_option linter.unusedVariables false
set_option maxRecDepth 100000
set_option maxHeartbeats 2000000

variable {H : Heap}

theorem wd_Checkn (l : Nat) (H : Heap) : callFL cfg0 prog0 true 48 [.ptr l 0] H none = some ⟨.ret (.tup []), H, none⟩ := by
  refine (callFL_eq fn48 rfl (by simp [Try.f48])).trans ?_
  simp (maxSteps := 1000000) (implicitDefEqProofs := false) (disch := first | rfl | omega | assumption) only [go_sem, ltT, ltF, leT, leF, wr_stopn]

theorem wd_Checks (l : Nat) (e x : Int) (H : Heap) (h : H[l]? = some (.box (I x))) : callFL cfg0 prog0 true 48 [.ptr l 0] H (some (.iface 149 (.agg [I e]), false)) = some ⟨.ret (.tup []), H.set l (.box (I e)), some (.iface 149 (.agg [I e]), true)⟩ := by
  refine (callFL_eq fn48 rfl (by simp [Try.f48])).trans ?_
  simp (maxSteps := 1000000) (implicitDefEqProofs := false) (disch := first | rfl | omega | assumption) only [go_sem, ltT, ltF, leT, leF, wr_stops l x e H h]

theorem wd_Holdsn (l : Nat) (H : Heap) : callFL cfg0 prog0 true 56 [.ptr l 0] H none = some ⟨.ret (.tup []), H, none⟩ := by
  refine (callFL_eq fn56 rfl (by simp [Try.f56])).trans ?_
  simp (maxSteps := 1000000) (implicitDefEqProofs := false) (disch := first | rfl | omega | assumption) only [go_sem, ltT, ltF, leT, leF, wr_stopn]

theorem wd_Holdss (l : Nat) (e x : Int) (H : Heap) (h : H[l]? = some (.box (I x))) : callFL cfg0 prog0 true 56 [.ptr l 0] H (some (.iface 149 (.agg [I e]), false)) = some ⟨.ret (.tup []), H.set l (.box (I e)), some (.iface 149 (.agg [I e]), true)⟩ := by
  refine (callFL_eq fn56 rfl (by simp [Try.f56])).trans ?_
  simp (maxSteps := 1000000) (implicitDefEqProofs := false) (disch := first | rfl | omega | assumption) only [go_sem, ltT, ltF, leT, leF, wr_stops l x e H h]

theorem wd_Lengthn (l : Nat) (H : Heap) : callFL cfg0 prog0 true 60 [.ptr l 0] H none = some ⟨.ret (.tup []), H, none⟩ := by
  refine (callFL_eq fn60 rfl (by simp [Try.f60])).trans ?_
  simp (maxSteps := 1000000) (implicitDefEqProofs := false) (disch := first | rfl | omega | assumption) only [go_sem, ltT, ltF, leT, leF, wr_stopn]

theorem wd_Lengths (l : Nat) (e x : Int) (H : Heap) (h : H[l]? = some (.box (I x))) : callFL cfg0 prog0 true 60 [.ptr l 0] H (some (.iface 149 (.agg [I e]), false)) = some ⟨.ret (.tup []), H.set l (.box (I e)), some (.iface 149 (.agg [I e]), true)⟩ := by
  refine (callFL_eq fn60 rfl (by simp [Try.f60])).trans ?_
  simp (maxSteps := 1000000) (implicitDefEqProofs := false) (disch := first | rfl | omega | assumption) only [go_sem, ltT, ltF, leT, leF, wr_stops l x e H h]

theorem wd_Countn (l : Nat) (H : Heap) : callFL cfg0 prog0 true 65 [.ptr l 0] H none = some ⟨.ret (.tup []), H, none⟩ := by
  refine (callFL_eq fn65 rfl (by simp [Try.f65])).trans ?_
  simp (maxSteps := 1000000) (implicitDefEqProofs := false) (disch := first | rfl | omega | assumption) only [go_sem, ltT, ltF, leT, leF, wr_stopn]

theorem wd_Counts (l : Nat) (e x : Int) (H : Heap) (h : H[l]? = some (.box (I x))) : callFL cfg0 prog0 true 65 [.ptr l 0] H (some (.iface 149 (.agg [I e]), false)) = some ⟨.ret (.tup []), H.set l (.box (I e)), some (.iface 149 (.agg [I e]), true)⟩ := by
  refine (callFL_eq fn65 rfl (by simp [Try.f65])).trans ?_
  simp (maxSteps := 1000000) (implicitDefEqProofs := false) (disch := first | rfl | omega | assumption) only [go_sem, ltT, ltF, leT, leF, wr_stops l x e H h]

theorem wd_Bestn (l : Nat) (H : Heap) : callFL cfg0 prog0 true 71 [.ptr l 0] H none = some ⟨.ret (.tup []), H, none⟩ := by
  refine (callFL_eq fn71 rfl (by simp [Try.f71])).trans ?_
  simp (maxSteps := 1000000) (implicitDefEqProofs := false) (disch := first | rfl | omega | assumption) only [go_sem, ltT, ltF, leT, leF, wr_stopn]

theorem wd_Bests (l : Nat) (e x : Int) (H : Heap) (h : H[l]? = some (.box (I x))) : callFL cfg0 prog0 true 71 [.ptr l 0] H (some (.iface 149 (.agg [I e]), false)) = some ⟨.ret (.tup []), H.set l (.box (I e)), some (.iface 149 (.agg [I e]), true)⟩ := by
  refine (callFL_eq fn71 rfl (by simp [Try.f71])).trans ?_
  simp (maxSteps := 1000000) (implicitDefEqProofs := false) (disch := first | rfl | omega | assumption) only [go_sem, ltT, ltF, leT, leF, wr_stops l x e H h]

theorem wd_Hopen (l : Nat) (H : Heap) : callFL cfg0 prog0 true 74 [.ptr l 0] H none = some ⟨.ret (.tup []), H, none⟩ := by
  refine (callFL_eq fn74 rfl (by simp [Try.f74])).trans ?_
  simp (maxSteps := 1000000) (implicitDefEqProofs := false) (disch := first | rfl | omega | assumption) only [go_sem, ltT, ltF, leT, leF, wr_stopn]

theorem wd_Hopes (l : Nat) (e x : Int) (H : Heap) (h : H[l]? = some (.box (I x))) : callFL cfg0 prog0 true 74 [.ptr l 0] H (some (.iface 149 (.agg [I e]), false)) = some ⟨.ret (.tup []), H.set l (.box (I e)), some (.iface 149 (.agg [I e]), true)⟩ := by
  refine (callFL_eq fn74 rfl (by simp [Try.f74])).trans ?_
  simp (maxSteps := 1000000) (implicitDefEqProofs := false) (disch := first | rfl | omega | assumption) only [go_sem, ltT, ltF, leT, leF, wr_stops l x e H h]

theorem wd_Mostn (l : Nat) (H : Heap) : callFL cfg0 prog0 true 77 [.ptr l 0] H none = some ⟨.ret (.tup []), H, none⟩ := by
  refine (callFL_eq fn77 rfl (by simp [Try.f77])).trans ?_
  simp (maxSteps := 1000000) (implicitDefEqProofs := false) (disch := first | rfl | omega | assumption) only [go_sem, ltT, ltF, leT, leF, wr_stopn]

theorem wd_Mosts (l : Nat) (e x : Int) (H : Heap) (h : H[l]? = some (.box (I x))) : callFL cfg0 prog0 true 77 [.ptr l 0] H (some (.iface 149 (.agg [I e]), false)) = some ⟨.ret (.tup []), H.set l (.box (I e)), some (.iface 149 (.agg [I e]), true)⟩ := by
  refine (callFL_eq fn77 rfl (by simp [Try.f77])).trans ?_
  simp (maxSteps := 1000000) (implicitDefEqProofs := false) (disch := first | rfl | omega | assumption) only [go_sem, ltT, ltF, leT, leF, wr_stops l x e H h]

theorem wd_Polishn (l : Nat) (H : Heap) : callFL cfg0 prog0 true 83 [.ptr l 0] H none = some ⟨.ret (.tup []), H, none⟩ := by
  refine (callFL_eq fn83 rfl (by simp [Try.f83])).trans ?_
  simp (maxSteps := 1000000) (implicitDefEqProofs := false) (disch := first | rfl | omega | assumption) only [go_sem, ltT, ltF, leT, leF, wr_stopn]

theorem wd_Polishs (l : Nat) (e x : Int) (H : Heap) (h : H[l]? = some (.box (I x))) : callFL cfg0 prog0 true 83 [.ptr l 0] H (some (.iface 149 (.agg [I e]), false)) = some ⟨.ret (.tup []), H.set l (.box (I e)), some (.iface 149 (.agg [I e]), true)⟩ := by
  refine (callFL_eq fn83 rfl (by simp [Try.f83])).trans ?_
  simp (maxSteps := 1000000) (implicitDefEqProofs := false) (disch := first | rfl | omega | assumption) only [go_sem, ltT, ltF, leT, leF, wr_stops l x e H h]

theorem opG_in {H G0 : Heap} {n : Nat} {w : Wg} {vb va : AV} (hn : n = (H ++ G0).length) (h : WgAt H w vb va) (A : Heap) : ShAt (H ++ (G0 ++ (opG w vb va n ++ A))) (n + 2) (n + 1) w false vb va := by
  subst hn
  have := (opG_at (h.app G0)).app A
  simpa only [List.append_assoc] using this

def Wg.check (w : Wg) (xs : List Pc) : Int × Int × Int := if w.valid then (if w.stk xs then (if (w.brk false xs).2 = 0 then (0, 0, 4) else ((w.brk false xs).1, (w.brk false xs).2, 0)) else (0, 0, 2)) else (0, 0, 1)

theorem wr_Check {w : Wg} {vb va : AV} (h : WgAt H w vb va) (hl : w.bs.length ≤ 1000 ∧ w.ps.length ≤ 1000) (f : Bool) (xs : List Pc) (hx : xs.length ≤ 1000) :
    callFL cfg0 prog0 false 15 [.agg [vb, va], .sl f (xs.map Pc.av)] H none = some ⟨.ret (.tup [I (w.check xs).1, I (w.check xs).2.1, I (w.check xs).2.2]), H, none⟩ := by
  have s1 := h.bs.scal
  have s2 := h.ps.scal
  have hI := fun G => wr_isStack (.sl f (xs.map Pc.av)) rfl (.inr trivial) G
  have hN := fun G => wd_Checkn (H.length + 1) G
  have hD := fun (e : Int) (a : AO) (G : Heap) => wd_Checks (H.length + 1) e 0 (H ++ (a :: .box (I 0) :: G)) (by rw [get_at' 1]; rfl)
  have hO := wr_open (H := H ++ [.box (.agg [vb, va]), .box (I 0), .box (.sl f (xs.map Pc.av))]) (h.app _) hl (.func 99) [.ptr (H.length + 2) 0] (by simp [AV.lt, ltL, fnLt]) (w.stk xs) (fun hv => by
    have ho := w.valid_iff.1 hv
    have hs := wr_stack1 (k := H.length + 2) (opG_at (h.app [.box (.agg [vb, va]), .box (I 0), .box (.sl f (xs.map Pc.av))])) ho.n.2 f xs hx (by rw [List.append_assoc, get_at' 2]; rfl)
    rw [callVL_func]
    exact hs)
  simp only [List.length_append, List.length_cons, List.length_nil, Nat.zero_add, Nat.reduceAdd, Nat.add_assoc, opG, List.append_assoc, List.cons_append, List.nil_append] at hO
  cases hv : w.valid
  · simp only [hv, Bool.false_eq_true, if_false] at hO
    simp only [Wg.check, hv, Bool.false_eq_true, if_false]
    refine (callFL_eq fn15 rfl (by simp [Try.f15])).trans ?_
    simp (maxSteps := 1000000) (implicitDefEqProofs := false) (disch := first | rfl | omega | assumption) only [go_sem, ltT, ltF, leT, leF, s1, s2]
    rw [chkK_of]; rotate_left; kernel_rfl
    simp (maxSteps := 1000000) (implicitDefEqProofs := false) (disch := first | rfl | omega | assumption) only [go_sem, ltT, ltF, leT, leF, s1, s2, hI, hO, hD]
    done
  have ho := w.valid_iff.1 hv
  simp only [hv, if_true] at hO
  simp only [Wg.check, hv, if_true]
  cases hk : w.stk xs
  · simp only [hk, Bool.false_eq_true, if_false] at hO ⊢
    refine (callFL_eq fn15 rfl (by simp [Try.f15])).trans ?_
    simp (maxSteps := 1000000) (implicitDefEqProofs := false) (disch := first | rfl | omega | assumption) only [go_sem, ltT, ltF, leT, leF, s1, s2]
    rw [chkK_of]; rotate_left; kernel_rfl
    simp (maxSteps := 1000000) (implicitDefEqProofs := false) (disch := first | rfl | omega | assumption) only [go_sem, ltT, ltF, leT, leF, s1, s2, hI, hO, hD]
    done
  simp only [hk, if_true] at hO ⊢
  obtain ⟨hp, h0⟩ := stk_pok hk
  have hB := wr_broken (opG_in (H := H) (G0 := [.box (.agg [vb, va]), .box (I 0), .box (.sl f (xs.map Pc.av))]) (n := H.length + 3) (by simp) h []) ho.n.2 f xs hx hp h0
  simp only [opG, List.cons_append, List.nil_append, List.append_nil, Nat.add_assoc, Nat.reduceAdd] at hB
  generalize w.brk false xs = br at *
  obtain ⟨b1, b2⟩ := br
  simp only at hB ⊢
  by_cases hb : b2 = 0
  · subst hb
    simp only [if_true]
    refine (callFL_eq fn15 rfl (by simp [Try.f15])).trans ?_
    simp (maxSteps := 1000000) (implicitDefEqProofs := false) (disch := first | rfl | omega | assumption) only [go_sem, ltT, ltF, leT, leF, s1, s2]
    rw [chkK_of]; rotate_left; kernel_rfl
    simp (maxSteps := 1000000) (implicitDefEqProofs := false) (disch := first | rfl | omega | assumption) only [go_sem, ltT, ltF, leT, leF, s1, s2, hI, hO, hB, wr_must, hD]
    done
  · have hb' : (b2 != 0) = true := by simp [hb]
    simp only [if_neg hb]
    refine (callFL_eq fn15 rfl (by simp [Try.f15])).trans ?_
    simp (maxSteps := 1000000) (implicitDefEqProofs := false) (disch := first | rfl | omega | assumption) only [go_sem, ltT, ltF, leT, leF, s1, s2]
    rw [chkK_of]; rotate_left; kernel_rfl
    simp (maxSteps := 1000000) (implicitDefEqProofs := false) (disch := first | rfl | omega | assumption) only [go_sem, ltT, ltF, leT, leF, s1, s2, hI, hO, hB, wr_must, hN, hb']
    done

def Wg.holds (w : Wg) (xs : List Pc) : Int × Int := if w.valid then (if w.stk xs then (if (w.brk false xs).2 = 0 then (2, 0) else if (w.brk true xs).2 = 0 then (1, 0) else (0, 0)) else (0, 2)) else (0, 1)

theorem wr_Holds {w : Wg} {vb va : AV} (h : WgAt H w vb va) (hl : w.bs.length ≤ 1000 ∧ w.ps.length ≤ 1000) (f : Bool) (xs : List Pc) (hx : xs.length ≤ 1000) :
    callFL cfg0 prog0 false 17 [.agg [vb, va], .sl f (xs.map Pc.av)] H none = some ⟨.ret (.tup [I (w.holds xs).1, I (w.holds xs).2]), H, none⟩ := by
  have s1 := h.bs.scal
  have s2 := h.ps.scal
  have hI := fun G => wr_isStack (.sl f (xs.map Pc.av)) rfl (.inr trivial) G
  have hN := fun G => wd_Holdsn (H.length + 1) G
  have hD := fun (e : Int) (a : AO) (G : Heap) => wd_Holdss (H.length + 1) e 0 (H ++ (a :: .box (I 0) :: G)) (by rw [get_at' 1]; rfl)
  have hO := wr_open (H := H ++ [.box (.agg [vb, va]), .box (I 0), .box (.sl f (xs.map Pc.av))]) (h.app _) hl (.func 99) [.ptr (H.length + 2) 0] (by simp [AV.lt, ltL, fnLt]) (w.stk xs) (fun hv => by
    have ho := w.valid_iff.1 hv
    have hs := wr_stack1 (k := H.length + 2) (opG_at (h.app [.box (.agg [vb, va]), .box (I 0), .box (.sl f (xs.map Pc.av))])) ho.n.2 f xs hx (by rw [List.append_assoc, get_at' 2]; rfl)
    rw [callVL_func]
    exact hs)
  simp only [List.length_append, List.length_cons, List.length_nil, Nat.zero_add, Nat.reduceAdd, Nat.add_assoc, opG, List.append_assoc, List.cons_append, List.nil_append] at hO
  cases hv : w.valid
  · simp only [hv, Bool.false_eq_true, if_false] at hO
    simp only [Wg.holds, hv, Bool.false_eq_true, if_false]
    refine (callFL_eq fn17 rfl (by simp [Try.f17])).trans ?_
    simp (maxSteps := 1000000) (implicitDefEqProofs := false) (disch := first | rfl | omega | assumption) only [go_sem, ltT, ltF, leT, leF, s1, s2]
    rw [chkK_of]; rotate_left; kernel_rfl
    simp (maxSteps := 1000000) (implicitDefEqProofs := false) (disch := first | rfl | omega | assumption) only [go_sem, ltT, ltF, leT, leF, s1, s2, hI, hO, hD]
    done
  have ho := w.valid_iff.1 hv
  simp only [hv, if_true] at hO
  simp only [Wg.holds, hv, if_true]
  cases hk : w.stk xs
  · simp only [hk, Bool.false_eq_true, if_false] at hO ⊢
    refine (callFL_eq fn17 rfl (by simp [Try.f17])).trans ?_
    simp (maxSteps := 1000000) (implicitDefEqProofs := false) (disch := first | rfl | omega | assumption) only [go_sem, ltT, ltF, leT, leF, s1, s2]
    rw [chkK_of]; rotate_left; kernel_rfl
    simp (maxSteps := 1000000) (implicitDefEqProofs := false) (disch := first | rfl | omega | assumption) only [go_sem, ltT, ltF, leT, leF, s1, s2, hI, hO, hD]
    done
  simp only [hk, if_true] at hO ⊢
  obtain ⟨hp, h0⟩ := stk_pok hk
  have hS := opG_in (H := H) (G0 := [.box (.agg [vb, va]), .box (I 0), .box (.sl f (xs.map Pc.av))]) (n := H.length + 3) (by simp) h
  have e30 := fcsN_len w.b
  have hB := wr_broken (hS []) ho.n.2 f xs hx hp h0
  have hIn := wr_in (hS []) true
  have hS2 : ShAt (H ++ ([.box (.agg [vb, va]), .box (I 0), .box (.sl f (xs.map Pc.av))] ++ (opG w vb va (H.length + 3) ++ [.box (.agg (shC vb va (fcsN w.b) (.iface 98 (.agg [I 1])) (H.length + 4)))]))) (H.length + 6) (H.length + 4) w true vb va :=
    ⟨by rw [get_at' 6]; rfl, (hS _).map, (hS _).wat⟩
  have hB2 := wr_broken hS2 ho.n.2 f xs hx hp h0
  have hO1 := fun G => wr_optimist G
  simp only [opG, List.cons_append, List.nil_append, List.append_nil, Nat.add_assoc, Nat.reduceAdd, show vwA true = .iface 98 (.agg [I 1]) from rfl, List.length_append, List.length_cons, List.length_nil, Nat.zero_add, List.append_assoc] at hB hIn hB2
  generalize w.brk false xs = br at *
  obtain ⟨b1, b2⟩ := br
  generalize w.brk true xs = br at *
  obtain ⟨b3, b4⟩ := br
  simp only at hB hB2 ⊢
  by_cases hb : b2 = 0
  · subst hb
    simp only [if_true]
    refine (callFL_eq fn17 rfl (by simp [Try.f17])).trans ?_
    simp (maxSteps := 1000000) (implicitDefEqProofs := false) (disch := first | rfl | omega | assumption) only [go_sem, ltT, ltF, leT, leF, s1, s2]
    rw [chkK_of]; rotate_left; kernel_rfl
    simp (maxSteps := 1000000) (implicitDefEqProofs := false) (disch := first | rfl | omega | assumption) only [go_sem, ltT, ltF, leT, leF, s1, s2, hI, hO, hB, hN]
    done
  · have hb' : (b2 == 0) = false := by simp [hb]
    simp only [if_neg hb]
    refine (callFL_eq fn17 rfl (by simp [Try.f17])).trans ?_
    simp (maxSteps := 1000000) (implicitDefEqProofs := false) (disch := first | rfl | omega | assumption) only [go_sem, ltT, ltF, leT, leF, s1, s2]
    rw [chkK_of]; rotate_left; kernel_rfl
    simp (maxSteps := 1000000) (implicitDefEqProofs := false) (disch := first | rfl | omega | assumption) only [go_sem, ltT, ltF, leT, leF, s1, s2, hI, hO, hB, hb']
    rw [chkK_of]; rotate_left; kernel_rfl
    by_cases hb2 : b4 = 0
    · subst hb2
      simp only [if_true]
      simp (maxSteps := 1000000) (implicitDefEqProofs := false) (disch := first | rfl | omega | assumption) only [go_sem, ltT, ltF, leT, leF, s1, s2, hO1, hIn, hB2, hN]
      done
    · have hb2' : (b4 != 0) = true := by simp [hb2]
      simp only [if_neg hb2]
      simp (maxSteps := 1000000) (implicitDefEqProofs := false) (disch := first | rfl | omega | assumption) only [go_sem, ltT, ltF, leT, leF, s1, s2, hO1, hIn, hB2, hb2', hN]
      done

end Go.Ab
/-
  Length.
-/
namespace Go.Ab
open Go.Proofs
set_option linter.unusedSimpArgs false
set_option linter.unusedVariables false
set_option maxRecDepth 100000
set_option maxHeartbeats 2000000

variable {H : Heap}

/-- What the place i adds to a length. -/
def Wg.lenAt (w : Wg) (xs : List Pc) (i : Nat) : List (Int × Int) :=
  ((w.b (pcA xs i).b.toNat).lo, (w.b (pcA xs i).b.toNat).hi) :: (if i = 0 then [] else [((w.fa (pcA xs (i - 1))).lo, (w.fa (pcA xs (i - 1))).hi), ((w.fb (pcA xs i)).lo, (w.fb (pcA xs i)).hi)])
def Wg.lenF (w : Wg) (xs : List Pc) : Nat → Nat → List (Int × Int)
  | _, 0 => []
  | j, q + 1 => w.lenAt xs j ++ w.lenF xs (j + 1) q

theorem spLt (l : List (Int × Int)) (N : Nat) : ltL N (l.map spA) = true := ltL_map (fun _ => rfl) l

theorem len_loop {w : Wg} {vb va : AV} (h : WgAt H w vb va) (ho : w.Ok) (f : Bool) (xs : List Pc) (hx : xs.length ≤ 300) (hp : w.poks xs) (r : List (Int × Int)) (v1 : AV) :
    ∀ (q j : Nat), j + q = xs.length → ∀ (G : Heap), ∀ (acc : List (Int × Int)), acc.length ≤ 3 * j → spB acc 200 → acc ++ w.lenF xs j q = r → ∀ E : Env, E.get 1 = .sl f (xs.map Pc.av) → E.get 2 = .ptr H.length 0 → E.get 4 = .ptr (H.length + 1) 0 → E.get 5 = .ptr (H.length + 2) 0 → E.get 6 = .ptr (H.length + 6) 0 → E.get 7 = .func (.func 61) [] [] → E.get 8 = .func (.func 62) [.agg (fcsN w.b)] [] → E.get 9 = .gsl (H.length + 7) acc.length → E.get 22 = .sl f (xs.map Pc.av) → E.get 23 = I xs.length → E.get 24 = I j →
    Option.map (finishC H.length) (execL cfg0 prog0 ⟨19, none, false, H.length⟩ (todoAt Try.f19 6) ⟨E, [.fn (.func 60) [] [.ptr (H.length + 2) 0]], H ++ (.box (.agg [vb, va]) :: .box (.agg [I 0, I 0]) :: .box (I 0) :: .box (.sl f (xs.map Pc.av)) :: .box (.agg [vb, va]) :: .map 71 (apM w.ps) :: .box (.agg (shC vb va (fcsN w.b) (vwA false) (H.length + 5))) :: .grow 2 (acc.map spA) :: G), none⟩) = some ⟨.ret (.tup [.agg [I (sum1 r), I (sum2 r)], I 0]), H, none⟩ := by
  intro q
  obtain ⟨a1, a2, a3, a4, a5⟩ := (slP (H := H) (b := f) xs).fF (d := pc0)
  obtain ⟨b1, b2, b3, b4, b5⟩ := h.bs.fF (d := bk0)
  have s1 := h.bs.scal
  have s2 := h.ps.scal
  have t1 := h.bs.ltn 8
  have t2 := h.ps.ltn 8
  have hN := fun (G : Heap) => wd_Lengthn (H.length + 2) G
  have hsl : ltL (H.length + 8) (shC vb va (fcsN w.b) (vwA false) (H.length + 5)) = true := by
    have : (AV.map (H.length + 5)).lt (H.length + 8) = true := by simp [AV.lt]
    simp only [shC, ltL, t1, t2, fcsN, Bk.fcs, List.cons_append, List.nil_append, this, vwA]
    rfl
  have hfl : ltL (H.length + 8) (fcsN w.b) = true := by
    simp only [ltL, fcsN, Bk.fcs, List.cons_append, List.nil_append]
    rfl
  have hml : mapLt (H.length + 8) (apM w.ps) = true := by
    have key : ∀ (l : List Ap) (es : List (AV × AV)), mapLt (H.length + 8) es = true → mapLt (H.length + 8) (l.foldl apS es) = true := by
      intro l
      induction l with
      | nil => intro es h; exact h
      | cons a r ih => intro es h; rw [List.foldl_cons]; exact ih _ (put_lt rfl rfl _ (put_lt rfl rfl _ h))
    exact key _ [] rfl
  have t3 := fun l => spLt l 0
  have e30 := fcsN_len w.b
  induction q with
  | zero =>
    intro j hj G acc hl hbd hr E g1 g2 g4 g5 g6 g7 g8 g9 g22 g23 g24
    have hk' : ¬ (j : Int) < ((xs.length : Nat) : Int) := by omega
    simp only [Wg.lenF, List.append_nil] at hr
    subst hr
    simp only [loopIt, todoPast, todoAt, todoOf, firstReg, ↓reduceIte, Option.some.injEq, Nat.reduceEqDiff, reduceCtorEq, Try.f19]
    rw [execL_inLoop]
    have hS := fun (o0 o1 o2 o3 o4 o5 o6 : AO) => wr_sum (H := H ++ [o0, o1, o2, o3, o4, o5, o6, .grow 2 (acc.map spA)]) (v := .gsl (H.length + 7) acc.length) (l := acc) ⟨⟨by rw [get_at' 7]; rfl, by simp⟩, fun x hx => by obtain ⟨i, _, rfl⟩ := List.mem_map.1 hx; rfl⟩ (by omega) (fun p hp => by have := hbd p hp; omega)
    simp (maxSteps := 1000000) (implicitDefEqProofs := false) (disch := first | rfl | omega | assumption) only [go_sem, g1, g2, g4, g5, g6, g7, g8, g9, g22, g23, g24, ltT, ltF, leT, leF, hk', s1, s2, t1, t2, hsl, hfl, hml, t3, hS, hN]
    done
  | succ q ih =>
    intro j hj G acc hl hbd hr E g1 g2 g4 g5 g6 g7 g8 g9 g22 g23 g24
    have hk' : (j : Int) < ((xs.length : Nat) : Int) := by omega
    have hk2 : j < xs.length := by omega
    have hj := hp j hk2
    obtain ⟨p1, p2, p3, p4⟩ := id hj
    simp only [Wg.n] at p2
    have hrl : w.lenF xs j (q + 1) = w.lenAt xs j ++ w.lenF xs (j + 1) q := rfl
    have hla : w.lenAt xs j = ((w.b (pcA xs j).b.toNat).lo, (w.b (pcA xs j).b.toNat).hi) :: (if j = 0 then [] else [((w.fa (pcA xs (j - 1))).lo, (w.fa (pcA xs (j - 1))).hi), ((w.fb (pcA xs j)).lo, (w.fb (pcA xs j)).hi)]) := rfl
    rw [hrl, hla] at hr
    have hbj := ho.sp (pcA xs j).b.toNat (by simp only [Wg.n]; omega)
    have hfbj := (ho.fb hj).sp
    have hFb := fun G => wr_fb ho.n.2 hj G
    obtain ⟨x, hxe⟩ : ∃ x, pcA xs j = x := ⟨_, rfl⟩
    have hxe' : xs.getD j pc0 = x := hxe
    rw [hxe] at hr hbj hfbj hFb p1 p2
    obtain ⟨bk, hbk⟩ : ∃ y, w.b x.b.toNat = y := ⟨_, rfl⟩
    have hbk' : w.bs.getD x.b.toNat bk0 = bk := hbk
    rw [hbk] at hr hbj
    obtain ⟨lo, hi, ⟨f1, f2, f3⟩, ⟨f4, f5, f6⟩⟩ := bk
    have hrb : ∀ (off : Nat) (ty : Ty), readPart (Bk.av ⟨lo, hi, ⟨f1, f2, f3⟩, ⟨f4, f5, f6⟩⟩).cells off ty = readPart [I lo, I hi, I f1, I f2, I f3, I f4, I f5, I f6] off ty := fun _ _ => rfl
    have la : (acc.map spA).length = acc.length := List.length_map _
    have hadd : ∀ (o0 o1 o2 o3 o4 o5 o6 o8 : AO) (a b : Int), addElem (H ++ [o0, o1, o2, o3, o4, o5, o6, .grow 2 (acc.map spA), o8]) 2 true (.gsl (H.length + 7) acc.length) [.agg [I a, I b]] = some (.gsl (H.length + 7) (acc.length + 1), H ++ [o0, o1, o2, o3, o4, o5, o6, .grow 2 ((acc ++ [(a, b)]).map spA), o8]) := by
      intro o0 o1 o2 o3 o4 o5 o6 o8 a b
      rw [add_gsl (xs := acc.map spA) (by rw [get_at']; rfl) la rfl rfl (by simp; omega), set_at', List.map_append]
      rfl
    have la2 : ∀ a b : Int, ((acc ++ [(a, b)]).map spA).length = acc.length + 1 := by intro a b; simp
    have hadd2 : ∀ (o0 o1 o2 o3 o4 o5 o6 o8 : AO) (a b c d e g : Int), addElem (H ++ [o0, o1, o2, o3, o4, o5, o6, .grow 2 ((acc ++ [(a, b)]).map spA), o8]) 2 true (.gsl (H.length + 7) (acc.length + 1)) [.agg [I c, I d], .agg [I e, I g]] = some (.gsl (H.length + 7) (acc.length + 3), H ++ [o0, o1, o2, o3, o4, o5, o6, .grow 2 (((acc ++ [(a, b)]) ++ [(c, d), (e, g)]).map spA), o8]) := by
      intro o0 o1 o2 o3 o4 o5 o6 o8 a b c d e g
      rw [add_gsl (xs := (acc ++ [(a, b)]).map spA) (by rw [get_at']; rfl) (la2 a b) rfl rfl (by simp; omega), set_at']
      simp [spA]
    obtain ⟨xb, xu⟩ := x
    have hrx : ∀ ty : Ty, readPart (Pc.av ⟨xb, xu⟩).cells 0 ty = readPart [I xb, I xu] 0 ty := fun _ => rfl
    simp only [Pc.av, Fc.av] at hFb hbk' p1 p2
    simp only at hbj
    by_cases h0 : j = 0
    · subst h0
      simp only [if_true, List.cons_append, List.nil_append] at hr
      have hng : ¬ (0 : Int) < ((0 : Nat) : Int) := by simp
      simp only [loopIt, todoPast, todoAt, todoOf, firstReg, ↓reduceIte, Option.some.injEq, Nat.reduceEqDiff, reduceCtorEq, Try.f19]
      rw [execL_inLoop]
      simp (maxSteps := 1000000) (implicitDefEqProofs := false) (disch := first | rfl | omega | assumption) only [go_sem, g1, g2, g4, g5, g6, g7, g8, g9, g22, g23, g24, ltT, ltF, leT, leF, hk', s1, s2, t1, t2, hsl, hfl, hml, t3, a1, a2, a3, a4, a5, hxe', hrx, b1, b2, b3, b4, b5, hbk', hrb, hadd, hng]
      have key := ih 1 (by omega) [.box (.agg [I xb, I xu])] (acc ++ [(lo, hi)]) (by simp; omega) (by
        intro p hm
        rcases List.mem_append.1 hm with hm | hm
        · exact hbd p hm
        · rw [List.mem_singleton] at hm; subst hm; simp only; omega) (by rw [List.append_assoc]; exact hr)
      simp only [List.length_append, List.length_cons, List.length_nil, Nat.zero_add] at key
      exact key _ (by rfl) (by rfl) (by rfl) (by rfl) (by rfl) (by rfl) (by rfl) (by rfl) (by rfl) (by rfl) (by rfl)
    · have hj1 := hp (j - 1) (by omega)
      have hfaj := (ho.fa hj1).sp
      have hFa := fun G => wr_fa ho.n.2 hj1 G
      obtain ⟨y, hye⟩ : ∃ x, pcA xs (j - 1) = x := ⟨_, rfl⟩
      have hye' : xs.getD (j - 1) pc0 = y := hye
      have hcast : IntKind.i64.wrap ((j : Int) - 1) = ((j - 1 : Nat) : Int) := by rw [w64 (by omega) (by omega)]; omega
      have hj1l : j - 1 < xs.length := by omega
      have hgt : (0 : Int) < (j : Int) := by omega
      rw [hye] at hr hfaj hFa
      simp only [if_neg h0] at hr
      generalize w.fa y = fa at *
      generalize w.fb ⟨xb, xu⟩ = fb at *
      obtain ⟨c1, c2, c3⟩ := fa
      obtain ⟨d1, d2, d3⟩ := fb
      obtain ⟨yb, yu⟩ := y
      have hry : ∀ ty : Ty, readPart (Pc.av ⟨yb, yu⟩).cells 0 ty = readPart [I yb, I yu] 0 ty := fun _ => rfl
      simp only [Pc.av, Fc.av] at hFa hFb
      simp only [loopIt, todoPast, todoAt, todoOf, firstReg, ↓reduceIte, Option.some.injEq, Nat.reduceEqDiff, reduceCtorEq, Try.f19]
      rw [execL_inLoop]
      simp (maxSteps := 1000000) (implicitDefEqProofs := false) (disch := first | rfl | omega | assumption) only [go_sem, g1, g2, g4, g5, g6, g7, g8, g9, g22, g23, g24, ltT, ltF, leT, leF, hk', s1, s2, t1, t2, hsl, hfl, hml, t3, a1, a2, a3, a4, a5, hxe', hrx, b1, b2, b3, b4, b5, hbk', hrb, hadd, hgt]
      rw [chkK_of]; rotate_left; kernel_rfl
      simp (maxSteps := 1000000) (implicitDefEqProofs := false) (disch := first | rfl | omega | assumption) only [go_sem, g1, g2, g4, g5, g6, g7, g8, g9, g22, g23, g24, ltT, ltF, leT, leF, hk', s1, s2, a1, a2, a3, a4, a5, hye', hry, hcast, hFa, hFb, hadd2]
      have key := ih (j + 1) (by omega) [.box (.agg [I xb, I xu])] (acc ++ [(lo, hi), (c1, c2), (d1, d2)]) (by simp; omega) (by
        intro p hm
        simp only at hfaj hfbj
        rcases List.mem_append.1 hm with hm | hm
        · exact hbd p hm
        · simp only [List.mem_cons, List.not_mem_nil, or_false] at hm
          rcases hm with rfl | rfl | rfl <;> simp only <;> omega) (by simpa using hr)
      simp only [List.length_append, List.length_cons, List.length_nil, Nat.zero_add, Nat.add_assoc, Nat.reduceAdd] at key
      exact key _ (by rfl) (by rfl) (by rfl) (by rfl) (by rfl) (by rfl) (by rfl) (by rfl) (by rfl) (by rfl) (by rfl)

def Wg.length (w : Wg) (xs : List Pc) : (Int × Int) × Int := if w.valid then (if w.stk xs then ((sum1 (w.lenF xs 0 xs.length), sum2 (w.lenF xs 0 xs.length)), 0) else ((0, 0), 2)) else ((0, 0), 1)

theorem wr_Length {w : Wg} {vb va : AV} (h : WgAt H w vb va) (hl : w.bs.length ≤ 1000 ∧ w.ps.length ≤ 1000) (f : Bool) (xs : List Pc) (hx : xs.length ≤ 300) :
    callFL cfg0 prog0 false 19 [.agg [vb, va], .sl f (xs.map Pc.av)] H none = some ⟨.ret (.tup [.agg [I (w.length xs).1.1, I (w.length xs).1.2], I (w.length xs).2]), H, none⟩ := by
  have s1 := h.bs.scal
  have s2 := h.ps.scal
  have hI := fun G => wr_isStack (.sl f (xs.map Pc.av)) rfl (.inr trivial) G
  have hD := fun (e : Int) (a b : AO) (G : Heap) => wd_Lengths (H.length + 2) e 0 (H ++ (a :: b :: .box (I 0) :: G)) (by rw [get_at' 2]; rfl)
  have hO := wr_open (H := H ++ [.box (.agg [vb, va]), .box (.agg [I 0, I 0]), .box (I 0), .box (.sl f (xs.map Pc.av))]) (h.app _) hl (.func 99) [.ptr (H.length + 3) 0] (by simp [AV.lt, ltL, fnLt]) (w.stk xs) (fun hv => by
    have ho := w.valid_iff.1 hv
    have hs := wr_stack1 (k := H.length + 3) (opG_at (h.app [.box (.agg [vb, va]), .box (.agg [I 0, I 0]), .box (I 0), .box (.sl f (xs.map Pc.av))])) ho.n.2 f xs (by omega) (by rw [List.append_assoc, get_at' 3]; rfl)
    rw [callVL_func]
    exact hs)
  simp only [List.length_append, List.length_cons, List.length_nil, Nat.zero_add, Nat.reduceAdd, Nat.add_assoc, opG, List.append_assoc, List.cons_append, List.nil_append] at hO
  cases hv : w.valid
  · simp only [hv, Bool.false_eq_true, if_false] at hO
    simp only [Wg.length, hv, Bool.false_eq_true, if_false]
    refine (callFL_eq fn19 rfl (by simp [Try.f19])).trans ?_
    simp (maxSteps := 1000000) (implicitDefEqProofs := false) (disch := first | rfl | omega | assumption) only [go_sem, ltT, ltF, leT, leF, s1, s2]
    rw [chkK_of]; rotate_left; kernel_rfl
    simp (maxSteps := 1000000) (implicitDefEqProofs := false) (disch := first | rfl | omega | assumption) only [go_sem, ltT, ltF, leT, leF, s1, s2, hI, hO, hD]
    done
  have ho := w.valid_iff.1 hv
  simp only [hv, if_true] at hO
  simp only [Wg.length, hv, if_true]
  cases hk : w.stk xs
  · simp only [hk, Bool.false_eq_true, if_false] at hO ⊢
    refine (callFL_eq fn19 rfl (by simp [Try.f19])).trans ?_
    simp (maxSteps := 1000000) (implicitDefEqProofs := false) (disch := first | rfl | omega | assumption) only [go_sem, ltT, ltF, leT, leF, s1, s2]
    rw [chkK_of]; rotate_left; kernel_rfl
    simp (maxSteps := 1000000) (implicitDefEqProofs := false) (disch := first | rfl | omega | assumption) only [go_sem, ltT, ltF, leT, leF, s1, s2, hI, hO, hD]
    done
  simp only [hk, if_true] at hO ⊢
  obtain ⟨hp, h0⟩ := stk_pok hk
  have e30 := fcsN_len w.b
  have hL := len_loop h ho f xs hx hp (w.lenF xs 0 xs.length) (.bool true) xs.length 0 (by omega) [] [] (by simp) (fun p hp => by cases hp) (by simp)
  refine (callFL_eq fn19 rfl (by simp [Try.f19])).trans ?_
  simp (maxSteps := 1000000) (implicitDefEqProofs := false) (disch := first | rfl | omega | assumption) only [go_sem, ltT, ltF, leT, leF, s1, s2]
  rw [chkK_of]; rotate_left; kernel_rfl
  simp (maxSteps := 1000000) (implicitDefEqProofs := false) (disch := first | rfl | omega | assumption) only [go_sem, ltT, ltF, leT, leF, s1, s2, hI, hO]
  rw [chkK_of]; rotate_left; kernel_rfl
  simp (maxSteps := 1000000) (implicitDefEqProofs := false) (disch := first | rfl | omega | assumption) only [go_sem, ltT, ltF, leT, leF, s1, s2]
  exact hL _ (by rfl) (by rfl) (by rfl) (by rfl) (by rfl) (by rfl) (by rfl) (by rfl) (by rfl) (by rfl) (by rfl)

end Go.Ab
/-
  The reference, walked: blocks, faces, what must be apart, joints.
-/
namespace Go.Ab
open Go.Proofs
set_option linter.unusedSimpArgs false
set_option linter.unusedVariables false
set_option maxRecDepth 100000
set_option maxHeartbeats 2000000

variable {H : Heap}


theorem ld_ne {k m : Nat} {o : Option Nat} {r : Lds} (h : m ≠ k) : getAt (addLd k o r) m = getAt r m := by
  cases o
  · rfl
  · simp only [addLd, getAt]; rw [if_neg (Ne.symm h)]

theorem ld_eq {k : Nat} {o : Option Nat} {r : Lds} : getAt (addLd k o r) k = o.or (getAt r k) := by
  cases o
  · simp [addLd]
  · simp [addLd, getAt]

/-- What lies at a slice that was there before has not turned by what is made later. -/
theorem SlOk.old {sz : Nat} {v : AV} {xs : List AV} (h : SlOk H sz v xs) (A B : Heap) : pairM (some (H ++ A, H ++ B)) (gslOf v) = true := by
  rcases h.obj with hg | ⟨l, hg, hlt, hget⟩
  · rw [hg]; rfl
  · rw [hg, pairM_some]
    have hs : ∀ l : List AV, sameL l l = true := fun l => by
      induction l with
      | nil => rfl
      | cons x r ih => simp [sameL, AV.same_refl, ih]
    simp only [sameAt, List.getElem?_append_left hlt, hget, AO.same, hs]
    simp

theorem or_none' (o : Option Nat) : o.or none = o := by cases o <;> rfl

theorem ref_Block {w : Wg} {vb va : AV} (h : WgAt H w vb va) (hl : w.bs.length ≤ 1000) (x : Int) : callFL cfg0 prog0 false 91 [.agg [vb, va], I x] H none = some ⟨.ret (.bool (wi x 0 ((w.n : Int) - 1))), H, none⟩ := by
  have s1 := h.bs.scal
  have s2 := h.ps.scal
  have n1 := h.bs.len
  have c1 := h.bs.cel
  rw [List.length_map] at n1
  refine (callFL_eq fn91 rfl (by simp [Try.f91])).trans ?_
  simp (maxSteps := 1000000) (implicitDefEqProofs := false) (disch := first | rfl | omega | assumption) only [go_sem, ltT, ltF, leT, leF, s1, s2, n1, c1, ref_in]

end Go.Ab
/-
  The reference, walked: what is valid.
-/
namespace Go.Ab
open Go.Proofs
set_option linter.unusedSimpArgs false
set_option linter.unusedVariables false
set_option maxRecDepth 100000
set_option maxHeartbeats 2000000

variable {H : Heap}


theorem rw_blk {w : Wg} {vb va : AV} (h : WgAt H w vb va) (hn : w.n ≤ 5) (r : Bool) (K : List Item) (R : Option Done) (hK : r = true → ∀ E : Env, E.get 1 = .ptr H.length 0 → Option.map (finishC H.length) (execL cfg0 prog0 ⟨37, none, false, H.length⟩ K ⟨E, [], H ++ [.box (.agg [vb, va])], none⟩) = R) (e1 : r = false → R = some ⟨.ret (.bool false), H, none⟩) :
    ∀ (q j : Nat), j + q = w.bs.length → ∀ (G : Heap), w.bsOk j q = r → ∀ E : Env, E.get 1 = .ptr H.length 0 → E.get 3 = I j →
    Option.map (finishC H.length) (execL cfg0 prog0 ⟨37, none, false, H.length⟩ (loopIt Try.f37 4 :: .inBlock 0 :: K) ⟨E, [], H ++ (.box (.agg [vb, va]) :: G), none⟩) = R := by
  intro q
  have hn' : w.bs.length ≤ 5 := hn
  obtain ⟨a1, a2, a3, a4, a5⟩ := h.bs.fF (d := bk0)
  have s1 := h.bs.scal
  have s2 := h.ps.scal
  have c1' := h.bs.cel
  have n1 := h.bs.len
  rw [List.length_map] at n1
  have t1 := h.bs.ltn 1
  have t2 := h.ps.ltn 1
  induction q with
  | zero =>
    intro j hj G hr E g1 g3
    have hk' : ¬ (j : Int) < ((w.bs.length : Nat) : Int) := by omega
    have hr1 : r = true := by rw [← hr]; rfl
    simp only [loopIt, todoPast, todoAt, todoOf, firstReg, ↓reduceIte, Option.some.injEq, Nat.reduceEqDiff, reduceCtorEq, Try.f37]
    rw [execL_inLoop]
    simp (maxSteps := 1000000) (implicitDefEqProofs := false) (disch := first | rfl | omega | assumption) only [go_sem, g1, g3, ltT, ltF, leT, leF, hk', s1, s2, t1, t2, c1', n1]
    exact hK hr1 _ (by rfl)
  | succ q ih =>
    intro j hj G hr E g1 g3
    have hk' : (j : Int) < ((w.bs.length : Nat) : Int) := by omega
    have hk2 : j < w.bs.length := by omega
    have hu : w.bsOk j (q + 1) = (bkOk (w.b j) && w.bsOk (j + 1) q) := by
      simp only [Wg.bsOk, anyF]
      cases bkOk (w.b j) <;> simp
    rw [hu] at hr
    obtain ⟨x, hx⟩ : ∃ x, w.b j = x := ⟨_, rfl⟩
    have hx' : w.bs.getD j bk0 = x := hx
    rw [hx] at hr
    obtain ⟨lo, hi, ⟨f1, f2, f3⟩, ⟨f4, f5, f6⟩⟩ := x
    have hrd : ∀ (o : Nat) (ty : Ty), readPart (Bk.av ⟨lo, hi, ⟨f1, f2, f3⟩, ⟨f4, f5, f6⟩⟩).cells o ty = readPart [I lo, I hi, I f1, I f2, I f3, I f4, I f5, I f6] o ty := fun _ _ => rfl
    have hok : bkOk ⟨lo, hi, ⟨f1, f2, f3⟩, ⟨f4, f5, f6⟩⟩ = (spOk lo hi 1 200 && ((spOk f1 f2 0 5 && wi f3 0 2) && (spOk f4 f5 0 5 && wi f6 0 2))) := rfl
    rw [hok] at hr
    cases c1 : spOk lo hi 1 200
    · rw [c1, Bool.false_and, Bool.false_and] at hr
      rw [e1 hr.symm]
      simp only [loopIt, todoPast, todoAt, todoOf, firstReg, ↓reduceIte, Option.some.injEq, Nat.reduceEqDiff, reduceCtorEq, Try.f37]
      rw [execL_inLoop]
      simp (maxSteps := 1000000) (implicitDefEqProofs := false) (disch := first | rfl | omega | assumption) only [go_sem, g1, g3, ltT, ltF, leT, leF, hk', s1, s2, c1', n1, t1, t2, a1, a2, a3, a4, a5, hx', hrd, ref_span, ref_in, c1]
      done
    rw [c1, Bool.true_and] at hr
    simp only [loopIt, todoPast, todoAt, todoOf, firstReg, ↓reduceIte, Option.some.injEq, Nat.reduceEqDiff, reduceCtorEq, Try.f37]
    rw [execL_inLoop]
    simp (maxSteps := 1000000) (implicitDefEqProofs := false) (disch := first | rfl | omega | assumption) only [go_sem, g1, g3, ltT, ltF, leT, leF, hk', s1, s2, c1', n1, t1, t2, a1, a2, a3, a4, a5, hx', hrd, ref_span, ref_in, c1]
    rw [execL_inLoop]
    cases c2 : spOk f1 f2 0 5
    · rw [c2, Bool.false_and, Bool.false_and, Bool.false_and] at hr
      rw [e1 hr.symm]
      simp (maxSteps := 1000000) (implicitDefEqProofs := false) (disch := first | rfl | omega | assumption) only [go_sem, g1, g3, ltT, ltF, leT, leF, hk', s1, s2, c1', n1, t1, t2, a1, a2, a3, a4, a5, hx', hrd, ref_span, ref_in, c2]
      done
    cases c3 : wi f3 0 2
    · rw [c2, c3, Bool.and_false, Bool.false_and, Bool.false_and] at hr
      rw [e1 hr.symm]
      simp (maxSteps := 1000000) (implicitDefEqProofs := false) (disch := first | rfl | omega | assumption) only [go_sem, g1, g3, ltT, ltF, leT, leF, hk', s1, s2, c1', n1, t1, t2, a1, a2, a3, a4, a5, hx', hrd, ref_span, ref_in, c2, c3]
      done
    rw [c2, c3, Bool.and_self, Bool.true_and] at hr
    simp (maxSteps := 1000000) (implicitDefEqProofs := false) (disch := first | rfl | omega | assumption) only [go_sem, g1, g3, ltT, ltF, leT, leF, hk', s1, s2, c1', n1, t1, t2, a1, a2, a3, a4, a5, hx', hrd, ref_span, ref_in, c2, c3]
    rw [execL_inLoop]
    cases c4 : spOk f4 f5 0 5
    · rw [c4, Bool.false_and, Bool.false_and] at hr
      rw [e1 hr.symm]
      simp (maxSteps := 1000000) (implicitDefEqProofs := false) (disch := first | rfl | omega | assumption) only [go_sem, g1, g3, ltT, ltF, leT, leF, hk', s1, s2, c1', n1, t1, t2, a1, a2, a3, a4, a5, hx', hrd, ref_span, ref_in, c4]
      done
    cases c5 : wi f6 0 2
    · rw [c4, c5, Bool.and_false, Bool.false_and] at hr
      rw [e1 hr.symm]
      simp (maxSteps := 1000000) (implicitDefEqProofs := false) (disch := first | rfl | omega | assumption) only [go_sem, g1, g3, ltT, ltF, leT, leF, hk', s1, s2, c1', n1, t1, t2, a1, a2, a3, a4, a5, hx', hrd, ref_span, ref_in, c4, c5]
      done
    rw [c4, c5, Bool.and_self, Bool.true_and] at hr
    simp (maxSteps := 1000000) (implicitDefEqProofs := false) (disch := first | rfl | omega | assumption) only [go_sem, g1, g3, ltT, ltF, leT, leF, hk', s1, s2, c1', n1, t1, t2, a1, a2, a3, a4, a5, hx', hrd, ref_span, ref_in, c4, c5]
    rw [execL_inLoop]
    simp (maxSteps := 1000000) (implicitDefEqProofs := false) (disch := first | rfl | omega | assumption) only [go_sem, g1, g3, ltT, ltF, leT, leF, hk', s1, s2, c1', n1, t1, t2, a1, a2, a3, a4, a5, hx', hrd, ref_span, ref_in]
    exact ih (j + 1) (by omega) _ hr _ (by rfl) (by rfl)

theorem rw_ap {w : Wg} {vb va : AV} (h : WgAt H w vb va) (hn : w.bs.length ≤ 5) (hp : w.ps.length ≤ 6) (r : Bool) :
    ∀ (q j : Nat), j + q = w.ps.length → w.psOk j q = r → ∀ E : Env, E.get 1 = .ptr H.length 0 → E.get 6 = I j →
    Option.map (finishC H.length) (execL cfg0 prog0 ⟨37, none, false, H.length⟩ (todoAt Try.f37 15) ⟨E, [], H ++ [.box (.agg [vb, va])], none⟩) = some ⟨.ret (.bool r), H, none⟩ := by
  intro q
  obtain ⟨a1, a2, a3, a4, a5⟩ := h.ps.fF (d := ap0)
  have s1 := h.bs.scal
  have s2 := h.ps.scal
  have c1' := h.bs.cel
  have n2 := h.ps.len
  rw [List.length_map] at n2
  have o1 := h.ps.old
  have o2 := fun (k : Int) (off : Nat) => ptrOf_elA (k := k) (off := off) h.ps
  have hB := fun (G : Heap) (x : Int) => ref_Block (h.app G) (by omega) x
  induction q with
  | zero =>
    intro j hj hr E g1 g6
    have hk' : ¬ (j : Int) < ((w.ps.length : Nat) : Int) := by omega
    have hr1 : r = true := by rw [← hr]; rfl
    subst hr1
    simp only [loopIt, todoPast, todoAt, todoOf, firstReg, ↓reduceIte, Option.some.injEq, Nat.reduceEqDiff, reduceCtorEq, Try.f37]
    rw [execL_inLoop]
    simp (maxSteps := 1000000) (implicitDefEqProofs := false) (disch := first | rfl | omega | assumption) only [go_sem, g1, g6, ltT, ltF, leT, leF, hk', s1, s2, c1', n2]
    done
  | succ q ih =>
    intro j hj hr E g1 g6
    have hk' : (j : Int) < ((w.ps.length : Nat) : Int) := by omega
    have hk2 : j < w.ps.length := by omega
    have hu : w.psOk j (q + 1) = (w.apOk (w.a j) && w.psOk (j + 1) q) := by
      simp only [Wg.psOk, anyF]
      cases w.apOk (w.a j) <;> simp
    rw [hu] at hr
    obtain ⟨⟨a, b⟩, hx⟩ : ∃ x, w.a j = x := ⟨_, rfl⟩
    have hx' : w.ps.getD j ap0 = ⟨a, b⟩ := hx
    rw [hx] at hr
    have hrd : ∀ (o : Nat) (ty : Ty), readPart (Ap.av ⟨a, b⟩).cells o ty = readPart [I a, I b] o ty := fun _ _ => rfl
    have hok : w.apOk ⟨a, b⟩ = (wi a 0 ((w.n : Int) - 1) && (wi b 0 ((w.n : Int) - 1) && (a != b))) := rfl
    rw [hok] at hr
    have hBa := fun G => hB G a
    have hBb := fun G => hB G b
    cases k1 : wi a 0 ((w.n : Int) - 1)
    · rw [k1, Bool.false_and, Bool.false_and] at hr
      rw [k1] at hBa
      subst hr
      simp only [loopIt, todoPast, todoAt, todoOf, firstReg, ↓reduceIte, Option.some.injEq, Nat.reduceEqDiff, reduceCtorEq, Try.f37]
      rw [execL_inLoop]
      simp (maxSteps := 1000000) (implicitDefEqProofs := false) (disch := first | rfl | omega | assumption) only [go_sem, g1, g6, ltT, ltF, leT, leF, hk', s1, s2, c1', n2]
      rw [chkK_of]; rotate_left; kernel_rfl
      simp (maxSteps := 1000000) (implicitDefEqProofs := false) (disch := first | rfl | omega | assumption) only [go_sem, g1, g6, ltT, ltF, leT, leF, hk', s1, s2, c1', n2, a1, a2, a3, a4, a5, o1, o2, ld_ne, ld_eq, or_none', hx', hrd, hBa, hBb]
      done
    cases k2 : wi b 0 ((w.n : Int) - 1)
    · rw [k1, k2, Bool.false_and, Bool.and_false, Bool.false_and] at hr
      rw [k1] at hBa
      rw [k2] at hBb
      subst hr
      simp only [loopIt, todoPast, todoAt, todoOf, firstReg, ↓reduceIte, Option.some.injEq, Nat.reduceEqDiff, reduceCtorEq, Try.f37]
      rw [execL_inLoop]
      simp (maxSteps := 1000000) (implicitDefEqProofs := false) (disch := first | rfl | omega | assumption) only [go_sem, g1, g6, ltT, ltF, leT, leF, hk', s1, s2, c1', n2]
      rw [chkK_of]; rotate_left; kernel_rfl
      simp (maxSteps := 1000000) (implicitDefEqProofs := false) (disch := first | rfl | omega | assumption) only [go_sem, g1, g6, ltT, ltF, leT, leF, hk', s1, s2, c1', n2, a1, a2, a3, a4, a5, o1, o2, ld_ne, ld_eq, or_none', hx', hrd, hBa, hBb]
      done
    rw [k1] at hBa
    rw [k2] at hBb
    rw [k1, k2, Bool.true_and, Bool.true_and] at hr
    by_cases k3 : a = b
    · have k4 : (a == b) = true := by simp [k3]
      have k5 : (a != b) = false := by simp [k3]
      rw [k5, Bool.false_and] at hr
      subst hr
      simp only [loopIt, todoPast, todoAt, todoOf, firstReg, ↓reduceIte, Option.some.injEq, Nat.reduceEqDiff, reduceCtorEq, Try.f37]
      rw [execL_inLoop]
      simp (maxSteps := 1000000) (implicitDefEqProofs := false) (disch := first | rfl | omega | assumption) only [go_sem, g1, g6, ltT, ltF, leT, leF, hk', s1, s2, c1', n2]
      rw [chkK_of]; rotate_left; kernel_rfl
      simp (maxSteps := 1000000) (implicitDefEqProofs := false) (disch := first | rfl | omega | assumption) only [go_sem, g1, g6, ltT, ltF, leT, leF, hk', s1, s2, c1', n2, a1, a2, a3, a4, a5, o1, o2, ld_ne, ld_eq, or_none', hx', hrd, hBa, hBb, k4]
      done
    · have k4 : (a == b) = false := by simp [k3]
      have k5 : (a != b) = true := by simp [k3]
      rw [k5, Bool.true_and] at hr
      simp only [loopIt, todoPast, todoAt, todoOf, firstReg, ↓reduceIte, Option.some.injEq, Nat.reduceEqDiff, reduceCtorEq, Try.f37]
      rw [execL_inLoop]
      simp (maxSteps := 1000000) (implicitDefEqProofs := false) (disch := first | rfl | omega | assumption) only [go_sem, g1, g6, ltT, ltF, leT, leF, hk', s1, s2, c1', n2]
      rw [chkK_of]; rotate_left; kernel_rfl
      simp (maxSteps := 1000000) (implicitDefEqProofs := false) (disch := first | rfl | omega | assumption) only [go_sem, g1, g6, ltT, ltF, leT, leF, hk', s1, s2, c1', n2, a1, a2, a3, a4, a5, o1, o2, ld_ne, ld_eq, or_none', hx', hrd, hBa, hBb, k4]
      exact ih (j + 1) (by omega) hr _ (by exact g1) (by rfl)

theorem ref_Wring {w : Wg} {vb va : AV} (h : WgAt H w vb va) (hl : w.bs.length ≤ 1000 ∧ w.ps.length ≤ 1000) : callFL cfg0 prog0 false 37 [.agg [vb, va]] H none = some ⟨.ret (.bool w.valid), H, none⟩ := by
  have s1 := h.bs.scal
  have s2 := h.ps.scal
  have n1 := h.bs.len
  have n2 := h.ps.len
  have c1' := h.bs.cel
  have c2' := h.ps.cel
  rw [List.length_map] at n1 n2
  have hv : w.valid = ((wi w.bs.length 1 5 && decide ((w.ps.length : Int) ≤ 6)) && (w.bsOk 0 w.bs.length && w.psOk 0 w.ps.length)) := rfl
  cases c1 : wi w.bs.length 1 5
  · have : w.valid = false := by rw [hv, c1]; rfl
    simp only [this]
    refine (callFL_eq fn37 rfl (by simp [Try.f37])).trans ?_
    simp (maxSteps := 1000000) (implicitDefEqProofs := false) (disch := first | rfl | omega | assumption) only [go_sem, ltT, ltF, leT, leF, s1, s2, n1, n2, c1', c2', ref_in, c1]
    done
  by_cases c2 : (w.ps.length : Int) ≤ 6
  rotate_left
  · have : w.valid = false := by rw [hv, c1]; simp [c2]
    simp only [this]
    refine (callFL_eq fn37 rfl (by simp [Try.f37])).trans ?_
    simp (maxSteps := 1000000) (implicitDefEqProofs := false) (disch := first | rfl | omega | assumption) only [go_sem, ltT, ltF, leT, leF, s1, s2, n1, n2, c1', c2', ref_in, c1, c2]
    done
  have hb5 := (wi_iff.1 c1).2
  have hv2 : w.valid = (w.bsOk 0 w.bs.length && w.psOk 0 w.ps.length) := by rw [hv, c1]; simp [c2]
  rw [hv2]
  refine (callFL_eq fn37 rfl (by simp [Try.f37])).trans ?_
  simp (maxSteps := 1000000) (implicitDefEqProofs := false) (disch := first | rfl | omega | assumption) only [go_sem, ltT, ltF, leT, leF, s1, s2, n1, n2, c1', c2', ref_in, c1, c2]
  refine rw_blk h (by simp only [Wg.n]; omega) (w.bsOk 0 w.bs.length) _ _ (fun h1 E g1 => ?_) (fun h1 => ?_) w.bs.length 0 (by omega) [] rfl _ (by rfl) (by rfl)
  · simp (maxSteps := 1000000) (implicitDefEqProofs := false) (disch := first | rfl | omega | assumption) only [go_sem, ltT, ltF, leT, leF, s1, s2, n1, n2, c1', c2', g1]
    rw [h1, Bool.true_and]
    exact rw_ap h (by omega) (by omega) _ w.ps.length 0 (by omega) rfl _ (by exact g1) (by rfl)
  · rw [h1]; rfl

end Go.Ab
/-
  The reference, walked: stacks, films, what holds.
-/
namespace Go.Ab
open Go.Proofs
set_option linter.unusedSimpArgs false
set_option linter.unusedVariables false
set_option maxRecDepth 100000
set_option maxHeartbeats 2000000

variable {H : Heap}


/-- No joint of the places breaks a rule. -/
def Wg.hld (w : Wg) (b : Bool) (xs : List Pc) : Bool := !anyF (fun i => w.jt b (pcA xs i) (pcA xs (i + 1)) != 0) 0 (xs.length - 1)

end Go.Ab
/-
  The reference, walked: Film, Check, Holds, Length.
-/
namespace Go.Ab
open Go.Proofs
set_option linter.unusedSimpArgs false
set_option linter.unusedVariables false
set_option maxRecDepth 100000
set_option maxHeartbeats 2000000

variable {H : Heap}


def Wg.flA (w : Wg) (xs : List Pc) (a : Int × Int) (i : Nat) : Int × Int := (a.1 + ((w.fa (pcA xs i)).lo + (w.fb (pcA xs (i + 1))).lo), a.2 + ((w.fa (pcA xs i)).hi + (w.fb (pcA xs (i + 1))).hi))
/-- The films of a stack. -/
def Wg.flm (w : Wg) (xs : List Pc) : Int × Int := foldF (w.flA xs) (0, 0) 0 (xs.length - 1)

def bd2 (K : Int) (a : Int × Int) : Prop := 0 ≤ a.1 ∧ a.1 ≤ K ∧ 0 ≤ a.2 ∧ a.2 ≤ K

end Go.Ab
/-
  The reference, walked: Check, Holds, Length.
-/
namespace Go.Ab
open Go.Proofs
set_option linter.unusedSimpArgs false
set_option linter.unusedVariables false
set_option maxRecDepth 100000
set_option maxHeartbeats 2000000

variable {H : Heap}


end Go.Ab
