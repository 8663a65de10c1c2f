/-
  Package plan: told, enough, can.
-/
import Derived.Test.YtmbdllgegkpfkaaKK4
namespace Go.Ab
open Go.Proofs
set_option linter.unusedSimpArgs false
set_option linter.unusedVariables false
set_option maxRecDepth 100000
set_option maxHeartbeats 2000000

variable {H : Heap}


def enN (n : Pn) (s : Nat) : Bool := enoughL n.pr n.wide (rdS n.pr.rs s)
def fullN (n : Pn) : Nat := 2 ^ n.pr.rs.length - 1
theorem fullN_lt (n : Pn) : fullN n < 2 ^ n.pr.rs.length := by have : 0 < 2 ^ n.pr.rs.length := Nat.pow_pos (by omega); simp only [fullN]; omega
theorem lt256 {n : Pn} (ho : n.Ok) {s : Nat} (h : s < 2 ^ n.pr.rs.length) : s < 256 := Nat.lt_of_lt_of_le h (show 2 ^ n.pr.rs.length ≤ 2 ^ 8 from Nat.pow_le_pow_right (by omega) ho.pr.reads)

theorem pl_told {n : Pn} (ho : n.Ok) (hT : HasT n) {vb vp : AV} {fr : Bool} {W : List Nat → Heap} {N B M : Nat} (h : KAt n vb vp fr W N B M) (m : List Nat) :
    callFL cfg0 prog0 false 51 [.ptr B 0] (W m) none = some ⟨.ret (.ptr B 0), W (addK m (fullN n)), none⟩ := by
  have hlen := h.len
  have hlt := h.lt
  have h5 := ho.pr.many
  have h8 := ho.pr.reads
  have hB' : ∀ m l, (W m ++ l)[B]? = some (.box (n.box vb (.sl fr (n.pr.rs.map Pt.av)) vp (.map M))) := fun m l => by rw [List.getElem?_append_left (by rw [hlen]; omega)]; exact h.aB m
  have hM' : ∀ m l, (W m ++ l)[M]? = some (.map 66 (m.map (kE n))) := fun m l => by rw [List.getElem?_append_left (by rw [hlen]; omega)]; exact h.aM m
  have hB2 := h.aB
  have yt : ∀ st l, (W st ++ l).take N = W st := fun st l => by rw [← hlen st, List.take_left]
  have yt2 : ∀ st, (W st).take N = W st := fun st => List.take_of_length_le (by rw [hlen]; exact Nat.le_refl _)
  have yu : ∀ st l k, (W st ++ l).take (N + k) = W st ++ l.take k := fun st l k => by rw [← hlen st, List.take_length_add_append]
  have yk : ∀ st l k, (W st ++ l)[N + k]? = l[k]? := fun st l k => by rw [← hlen st, get_at']
  have y0 : ∀ st l, (W st ++ l)[N]? = l[0]? := fun st l => by rw [← hlen st, get_at]
  have ys : ∀ st l o, (W st ++ l).set N o = W st ++ l.set 0 o := fun st l o => by rw [← hlen st, set_at]
  have yr : ∀ st l k o, (W st ++ l).set (N + k) o = W st ++ l.set k o := fun st l k o => by rw [← hlen st, set_at']
  have t1 : ∀ k, vb.lt (N + k) = true := fun k => by have := (h.pn []).pr.bs.ltn k; simpa [hlen] using this
  have hs1 := (h.pn []).pr.bs.scal
  have hs3 := (h.pn []).ps.scal
  have hk := pl_known ho hT h m (fullN_lt n)
  have he := pl_every ho hs1 (by rfl) (h.pn m).ps (by rfl) (h.aB m)
  have hBN := hlt.1
  have he2 : 2 ^ n.pr.rs.length - 1 = fullN n := rfl
  rw [he2] at he
  refine (callFL_eq fn51 rfl (by simp [Try.f51])).trans ?_
  simp (maxSteps := 1000000) (implicitDefEqProofs := false) (disch := first | rfl | omega | assumption) only [go_sem, ltT, ltF, leT, leF, hlen, hk, he, yt2, hBN, if_true]
  done

theorem pl_enough {n : Pn} (ho : n.Ok) (hT : HasT n) {vb vp : AV} {fr : Bool} {W : List Nat → Heap} {N B M : Nat} (h : KAt n vb vp fr W N B M) (m : List Nat) {s : Nat} (hs : s < 2 ^ n.pr.rs.length) :
    callFL cfg0 prog0 false 28 [.ptr B 0, U s] (W m) none = some ⟨.ret (.bool (enN n s)), W (addK m s), none⟩ := by
  have hlen := h.len
  have hlt := h.lt
  have h5 := ho.pr.many
  have h8 := ho.pr.reads
  have hB' : ∀ m l, (W m ++ l)[B]? = some (.box (n.box vb (.sl fr (n.pr.rs.map Pt.av)) vp (.map M))) := fun m l => by rw [List.getElem?_append_left (by rw [hlen]; omega)]; exact h.aB m
  have hM' : ∀ m l, (W m ++ l)[M]? = some (.map 66 (m.map (kE n))) := fun m l => by rw [List.getElem?_append_left (by rw [hlen]; omega)]; exact h.aM m
  have hB2 := h.aB
  have yt : ∀ st l, (W st ++ l).take N = W st := fun st l => by rw [← hlen st, List.take_left]
  have yt2 : ∀ st, (W st).take N = W st := fun st => List.take_of_length_le (by rw [hlen]; exact Nat.le_refl _)
  have yu : ∀ st l k, (W st ++ l).take (N + k) = W st ++ l.take k := fun st l k => by rw [← hlen st, List.take_length_add_append]
  have yk : ∀ st l k, (W st ++ l)[N + k]? = l[k]? := fun st l k => by rw [← hlen st, get_at']
  have y0 : ∀ st l, (W st ++ l)[N]? = l[0]? := fun st l => by rw [← hlen st, get_at]
  have ys : ∀ st l o, (W st ++ l).set N o = W st ++ l.set 0 o := fun st l o => by rw [← hlen st, set_at]
  have yr : ∀ st l k o, (W st ++ l).set (N + k) o = W st ++ l.set k o := fun st l k o => by rw [← hlen st, set_at']
  have t1 : ∀ k, vb.lt (N + k) = true := fun k => by have := (h.pn []).pr.bs.ltn k; simpa [hlen] using this
  have hs1 := (h.pn []).pr.bs.scal
  have hs3 := (h.pn []).ps.scal
  have hk := pl_known ho hT h m hs
  have hw := fun G : Heap => pl_widest (H := G) (widS n s) (widS_len n s)
  have hBN := hlt.1
  have he : decide (maxL (widS n s) ≤ n.wide) = enN n s := rfl
  have hsm : sameAt (W m) (W (addK m s)) (.obj B) = true := by simp only [sameAt, hB2]; exact AV.same_refl _
  have hsm2 : sameAt (W (addK m s)) (W (addK m s)) (.obj B) = true := by simp only [sameAt, hB2]; exact AV.same_refl _
  generalize widS n s = w at *
  refine (callFL_eq fn28 rfl (by simp [Try.f28])).trans ?_
  simp (maxSteps := 1000000) (implicitDefEqProofs := false) (disch := first | rfl | omega | assumption) only [go_sem, ltT, ltF, leT, leF, hlen]
  rw [chkK_of]; rotate_left; kernel_rfl
  simp (maxSteps := 1000000) (implicitDefEqProofs := false) (disch := first | rfl | omega | assumption) only [go_sem, ltT, ltF, leT, leF, hlen, hk, hw, hB2, Pn.box, hs1, hs3, yt2, hsm, hsm2, he]
  done

theorem pl_can {n : Pn} (ho : n.Ok) (hT : HasT n) {vb vp : AV} {fr : Bool} {W : List Nat → Heap} {N B M : Nat} (h : KAt n vb vp fr W N B M) (m : List Nat) :
    callFL cfg0 prog0 false 25 [.ptr B 0] (W m) none = some ⟨if enN n (fullN n) then .ret (.ptr B 0) else .pan (.iface 92 (I 4)), W (addK (addK m (fullN n)) (fullN n)), none⟩ := by
  have hlen := h.len
  have hlt := h.lt
  have h5 := ho.pr.many
  have h8 := ho.pr.reads
  have hB' : ∀ m l, (W m ++ l)[B]? = some (.box (n.box vb (.sl fr (n.pr.rs.map Pt.av)) vp (.map M))) := fun m l => by rw [List.getElem?_append_left (by rw [hlen]; omega)]; exact h.aB m
  have hM' : ∀ m l, (W m ++ l)[M]? = some (.map 66 (m.map (kE n))) := fun m l => by rw [List.getElem?_append_left (by rw [hlen]; omega)]; exact h.aM m
  have hB2 := h.aB
  have yt : ∀ st l, (W st ++ l).take N = W st := fun st l => by rw [← hlen st, List.take_left]
  have yt2 : ∀ st, (W st).take N = W st := fun st => List.take_of_length_le (by rw [hlen]; exact Nat.le_refl _)
  have yu : ∀ st l k, (W st ++ l).take (N + k) = W st ++ l.take k := fun st l k => by rw [← hlen st, List.take_length_add_append]
  have yk : ∀ st l k, (W st ++ l)[N + k]? = l[k]? := fun st l k => by rw [← hlen st, get_at']
  have y0 : ∀ st l, (W st ++ l)[N]? = l[0]? := fun st l => by rw [← hlen st, get_at]
  have ys : ∀ st l o, (W st ++ l).set N o = W st ++ l.set 0 o := fun st l o => by rw [← hlen st, set_at]
  have yr : ∀ st l k o, (W st ++ l).set (N + k) o = W st ++ l.set k o := fun st l k o => by rw [← hlen st, set_at']
  have t1 : ∀ k, vb.lt (N + k) = true := fun k => by have := (h.pn []).pr.bs.ltn k; simpa [hlen] using this
  have hs1 := (h.pn []).pr.bs.scal
  have hs3 := (h.pn []).ps.scal
  have hk := pl_enough ho hT h (addK m (fullN n)) (fullN_lt n)
  have he := pl_every ho hs1 (by rfl) (h.pn (addK m (fullN n))).ps (by rfl) (h.aB (addK m (fullN n)))
  have hto := pl_told ho hT h m
  have hBN := hlt.1
  have he2 : 2 ^ n.pr.rs.length - 1 = fullN n := rfl
  rw [he2] at he
  cases hc : enN n (fullN n)
  · rw [hc] at hk
    refine (callFL_eq fn25 rfl (by simp [Try.f25])).trans ?_
    simp (maxSteps := 1000000) (implicitDefEqProofs := false) (disch := first | rfl | omega | assumption) only [go_sem, ltT, ltF, leT, leF, hlen, hto, hk, he, yt2, pl_ask, hBN, if_true, Bool.false_eq_true, if_false]
    done
  · rw [hc] at hk
    refine (callFL_eq fn25 rfl (by simp [Try.f25])).trans ?_
    simp (maxSteps := 1000000) (implicitDefEqProofs := false) (disch := first | rfl | omega | assumption) only [go_sem, ltT, ltF, leT, leF, hlen, hto, hk, he, yt2, pl_ask, hBN, if_true, Bool.false_eq_true, if_false]
    done

end Go.Ab
/-
  Package plan: what sets cost; what they are worth.
-/
namespace Go.Ab
open Go.Proofs
set_option linter.unusedSimpArgs false
set_option linter.unusedVariables false
set_option maxRecDepth 100000
set_option maxHeartbeats 2000000

variable {H : Heap}


theorem to_loop {v : AV} {xs : List Int} (h : SlOk H 1 v (xs.map I)) (hl : xs.length ≤ 8) (hx : ∀ x ∈ xs, 0 ≤ x ∧ x ≤ 20) (r : Int) :
    ∀ (q j : Nat), j + q = xs.length → ∀ (a : Int), 0 ≤ a → a ≤ 20 * j → a + (xs.drop j).sum = r → ∀ E : Env, E.get 2 = I a → E.get 5 = v → E.get 6 = I xs.length → E.get 7 = I j →
    Option.map (finishC H.length) (execL cfg0 prog0 ⟨69, none, false, H.length⟩ (todoAt Try.f69 2) ⟨E, [], H, none⟩) = some ⟨.ret (I r), H, none⟩ := by
  intro q
  obtain ⟨a1, a2, a3, a4⟩ := h.fI
  induction q with
  | zero =>
    intro j hj a ha ha2 hr E g2 g5 g6 g7
    have hk' : ¬ (j : Int) < ((xs.length : Nat) : Int) := by omega
    rw [List.drop_of_length_le (by omega)] at hr
    simp only [List.sum_nil, Int.add_zero] at hr
    subst hr
    simp only [loopIt, todoPast, todoAt, todoOf, firstReg, ↓reduceIte, Option.some.injEq, Nat.reduceEqDiff, reduceCtorEq, Try.f69]
    rw [execL_inLoop]
    simp (maxSteps := 1000000) (implicitDefEqProofs := false) (disch := first | rfl | omega | assumption) only [go_sem, g2, g5, g6, g7, ltT, ltF, leT, leF, hk']
    done
  | succ q ih =>
    intro j hj a ha ha2 hr E g2 g5 g6 g7
    have hk' : (j : Int) < ((xs.length : Nat) : Int) := by omega
    have hk2 : j < xs.length := by omega
    obtain ⟨y, hxe⟩ : ∃ x, xs.getD j 0 = x := ⟨_, rfl⟩
    have hd : xs.drop j = xs.getD j 0 :: xs.drop (j + 1) := by rw [List.drop_eq_getElem_cons hk2]; simp [hk2]
    have hy := hx _ (getD_mem' (d := 0) hk2)
    rw [hxe] at hy
    rw [hd, hxe, List.sum_cons] at hr
    simp only [loopIt, todoPast, todoAt, todoOf, firstReg, ↓reduceIte, Option.some.injEq, Nat.reduceEqDiff, reduceCtorEq, Try.f69]
    rw [execL_inLoop]
    simp (maxSteps := 1000000) (implicitDefEqProofs := false) (disch := first | rfl | omega | assumption) only [go_sem, g2, g5, g6, g7, ltT, ltF, leT, leF, hk', a1, a2, a3, a4, hxe]
    exact ih (j + 1) (by omega) (a + y) (by omega) (by omega) (by omega) _ (by rfl) (by exact g5) (by exact g6) (by rfl)

theorem pl_total {v : AV} {xs : List Int} (h : SlOk H 1 v (xs.map I)) (hl : xs.length ≤ 8) (hx : ∀ x ∈ xs, 0 ≤ x ∧ x ≤ 20) : callFL cfg0 prog0 false 69 [v] H none = some ⟨.ret (I xs.sum), H, none⟩ := by
  have key := to_loop h hl hx xs.sum xs.length 0 (by omega) 0 (by omega) (by omega) (by simp)
  have l1 := h.len
  rw [List.length_map] at l1
  refine (callFL_eq fn69 rfl (by simp [Try.f69])).trans ?_
  simp (maxSteps := 1000000) (implicitDefEqProofs := false) (disch := first | rfl | omega | assumption) only [go_sem, ltT, ltF, leT, leF, l1]
  exact key _ (by rfl) (by rfl) (by rfl) (by rfl)

def cosX (ps : List Int) (s i : Nat) : List Int := (idxS i s).map fun k => ps.getD k 0
theorem cosX_len (ps : List Int) (s i : Nat) : (cosX ps s i).length = (idxS i s).length := by simp [cosX]

theorem idx_len8 (s : Nat) (i : Nat) : (idxS i s).length ≤ i := by
  have := List.length_filter_le (fun i => s.testBit i) (List.range i)
  rw [List.length_range] at this
  exact this

theorem co_listen {n : Pn} {vb vr vp vm : AV} (hs1 : vb.scalar = true) (hs2 : vr.scalar = true) (hp : SlOk H 1 vp (n.ps.map I)) (hl8 : n.ps.length ≤ 8) (hs5 : vm.scalar = true) {B : Nat} (hB : H[B]? = some (.box (n.box vb vr vp vm))) {s : Nat} {bb : Nat} {Hr : Nat → Heap}
    (hHr : Hr = fun i => H ++ [.box (.ptr B 0), .grow 1 ((cosX n.ps s i).map I), .box (.gsl (H.length + 1) (idxS i s).length), .box (U s), .dfr, .loop (loopRec Try.f41 41 0 [(8, .func (.func 57) [] [.ptr (H.length + 3) 0]), (7, U s), (5, .ptr (H.length + 2) 0), (4, I 0), (2, .ptr H.length 0), (0, .ptr B 0), (1, U s)] (H.length + 4))]) (i : Nat) (hi : i < n.ps.length) (hbit : s.testBit i = true) :
    callVL cfg0 prog0 bb false (.yield (H.length + 5)) [I i] [] (Hr i) none = some ⟨.ret (.bool true), Hr (i + 1), none⟩ := by
  have hBl : B < H.length := (List.getElem?_eq_some_iff.1 hB).1
  have hs3 := hp.scal
  have hsu := idx_succ s i
  rw [hbit, if_pos rfl] at hsu
  obtain ⟨a1, a2, a3, a4⟩ := hp.fI
  obtain ⟨y, hye⟩ : ∃ y, n.ps.getD i 0 = y := ⟨_, rfl⟩
  have hcx : (cosX n.ps s (i + 1)).map I = (cosX n.ps s i).map I ++ [I y] := by simp only [cosX, hsu, List.map_append, List.map_cons, List.map_nil, hye]
  have hlen : (idxS (i + 1) s).length = (idxS i s).length + 1 := by rw [hsu]; simp
  have hcl := cosX_len n.ps s i
  have hil := idx_len8 s i
  subst hHr
  simp only [loopRec, rangesOf, List.nil_append, List.append_nil, List.cons_append, List.getElem?_cons_zero, List.getElem?_cons_succ, Try.f41, hlen, hcx]
  obtain ⟨k, hk⟩ : ∃ k, (idxS i s).length = k := ⟨_, rfl⟩
  rw [hk] at hcl hil ⊢
  have lm : ((cosX n.ps s i).map I).length = k := by rw [List.length_map, hcl]
  have hadd : ∀ a0 r, addElem (H ++ (a0 :: .grow 1 ((cosX n.ps s i).map I) :: r)) 1 false (.gsl (H.length + 1) k) [I y] = some (.gsl (H.length + 1) (k + 1), H ++ (a0 :: .grow 1 ((cosX n.ps s i).map I ++ [I y]) :: r)) := by
    intro a0 r
    rw [add_gsl (xs := (cosX n.ps s i).map I) (by rw [get_at']; rfl) lm rfl rfl (by simp; omega), set_at']
    rfl
  generalize cosX n.ps s i = xs at *
  simp (maxSteps := 1000000) (implicitDefEqProofs := false) (disch := first | rfl | omega | assumption) only [go_sem, ltT, ltF, leT, leF, loopRec, rangesOf, List.nil_append, List.append_nil, List.cons_append, List.getElem?_cons_zero, List.getElem?_cons_succ, Try.f41, get_lt hBl, hB, Pn.box, hs1, hs2, hs3, hs5]
  rw [chkK_of]; rotate_left; kernel_rfl
  simp (maxSteps := 1000000) (implicitDefEqProofs := false) (disch := first | rfl | omega | assumption) only [go_sem, ltT, ltF, leT, leF, loopRec, rangesOf, List.nil_append, List.append_nil, List.cons_append, List.getElem?_cons_zero, List.getElem?_cons_succ, Try.f41, get_lt hBl, hB, Pn.box, hs1, hs2, hs3, hs5, a1, a2, a3, a4, hye, hadd]
  done

theorem pl_costs {n : Pn} (ho : n.Ok) {vb vr vp vm : AV} (hs1 : vb.scalar = true) (hs2 : vr.scalar = true) (hp : SlOk H 1 vp (n.ps.map I)) (hs5 : vm.scalar = true) {B : Nat} (hB : H[B]? = some (.box (n.box vb vr vp vm))) {s : Nat} (hs : s < 2 ^ n.pr.rs.length) :
    callFL cfg0 prog0 false 41 [.ptr B 0, U s] H none = some ⟨.ret (I (costL n.ps s)), H, none⟩ := by
  have hBl : B < H.length := (List.getElem?_eq_some_iff.1 hB).1
  have h8 := ho.pr.reads
  have hl := ho.len
  have hof := fun G : Heap => pl_of s G
  have hit := pl_of_it (p1 := H.length + 3) (s := s) (n := n.ps.length) (N := H.length + 6) (y := H.length + 5) (Hr := fun i => H ++ [.box (.ptr B 0), .grow 1 ((cosX n.ps s i).map I), .box (.gsl (H.length + 1) (idxS i s).length), .box (U s), .dfr, .loop (loopRec Try.f41 41 0 [(8, .func (.func 57) [] [.ptr (H.length + 3) 0]), (7, U s), (5, .ptr (H.length + 2) 0), (4, I 0), (2, .ptr H.length 0), (0, .ptr B 0), (1, U s)] (H.length + 4))]) (by omega) (by rw [hl]; exact hs)
    ⟨fun i => by simp, fun i => by rw [get_at']; rfl, fun b i hi hb => co_listen hs1 hs2 hp (by omega) hs5 hB rfl i hi hb, fun i hi hb => by
      have := idx_succ s i
      rw [hb, if_neg (by simp)] at this
      simp only [cosX, this]⟩
  have hi0 : (idxS 0 s).length = 0 := rfl
  have hc0 : (cosX n.ps s 0).map I = [] := rfl
  have hil := idx_len8 s n.ps.length
  have hcl := cosX_len n.ps s n.ps.length
  have hto := fun (r : Heap) => pl_total (H := H ++ (.box (.ptr B 0) :: .grow 1 ((cosX n.ps s n.ps.length).map I) :: r)) (v := .gsl (H.length + 1) (idxS n.ps.length s).length) (xs := cosX n.ps s n.ps.length) ⟨⟨by rw [get_at']; rfl, by rw [List.length_map, hcl]⟩, fun x hx => by
    obtain ⟨i, _, rfl⟩ := List.mem_map.1 hx; rfl⟩ (by omega) (fun x hx => by
      simp only [cosX, List.mem_map] at hx
      obtain ⟨k, hk, rfl⟩ := hx
      exact ho.price k (List.mem_range.1 ((idx_sub _ _).subset hk)))
  have hsum : (cosX n.ps s n.ps.length).sum = costL n.ps s := rfl
  simp only [hi0, hc0, Int.natCast_zero] at hit
  rw [hsum] at hto
  generalize cosX n.ps s n.ps.length = xs at *
  generalize (idxS n.ps.length s).length = k at *
  simp only [loopRec, rangesOf, List.nil_append, List.append_nil, List.cons_append, List.getElem?_cons_zero, List.getElem?_cons_succ, Try.f41] at hit
  refine (callFL_eq fn41 rfl (by simp [Try.f41])).trans ?_
  simp (maxSteps := 1000000) (implicitDefEqProofs := false) (disch := first | rfl | omega | assumption) only [go_sem, ltT, ltF, leT, leF, loopRec, rangesOf, List.nil_append, List.append_nil, List.cons_append, List.getElem?_cons_zero, List.getElem?_cons_succ, Try.f41, hof]
  rw [hit]
  simp (maxSteps := 1000000) (implicitDefEqProofs := false) (disch := first | rfl | omega | assumption) only [go_sem, ltT, ltF, leT, leF, loopRec, rangesOf, List.nil_append, List.append_nil, List.cons_append, List.getElem?_cons_zero, List.getElem?_cons_succ, Try.f41, hto]
  done

end Go.Ab
/-
  Package plan: what sets are worth; all sets in order.
-/
namespace Go.Ab
open Go.Proofs
set_option linter.unusedSimpArgs false
set_option linter.unusedVariables false
set_option maxRecDepth 100000
set_option maxHeartbeats 2000000

variable {H : Heap}


/-- What a set is worth: what it costs, how many it has, its number. -/
def wrA (c : Int) (s : Nat) : AV := .agg [I c, I (pop s), U s]

theorem pl_worthM {s : Nat} (hs : s < 256) (v : AV) (H : Heap) : callFL cfg0 prog0 false 106 [.agg [], v, U s] H none = some ⟨.ret (wrA 0 s), H, none⟩ := by
  have hmy := fun G : Heap => pl_many (s := s) (by omega) G
  refine (callFL_eq fn106 rfl (by simp [Try.f106])).trans ?_
  simp (maxSteps := 1000000) (implicitDefEqProofs := false) (disch := first | rfl | omega | assumption) only [go_sem, ltT, ltF, leT, leF, hmy, wrA]
  done

theorem pl_worthP {n : Pn} (ho : n.Ok) {vb vr vp vm : AV} (hs1 : vb.scalar = true) (hs2 : vr.scalar = true) (hp : SlOk H 1 vp (n.ps.map I)) (hs5 : vm.scalar = true) {B : Nat} (hB : H[B]? = some (.box (n.box vb vr vp vm))) {s : Nat} (hs : s < 2 ^ n.pr.rs.length) :
    callFL cfg0 prog0 false 107 [.agg [], .ptr B 0, U s] H none = some ⟨.ret (wrA (costL n.ps s) s), H, none⟩ := by
  have hBl : B < H.length := (List.getElem?_eq_some_iff.1 hB).1
  have hm := fun (v : AV) (G : Heap) => pl_worthM (lt256 ho hs) v G
  have hc := fun (G : Heap) => pl_costs (H := H ++ G) ho hs1 hs2 (hp.app G) hs5 (B := B) (by rw [List.getElem?_append_left hBl]; exact hB) hs
  simp only [wrA] at hm ⊢
  refine (callFL_eq fn107 rfl (by simp [Try.f107])).trans ?_
  simp (maxSteps := 1000000) (implicitDefEqProofs := false) (disch := first | rfl | omega | assumption) only [go_sem, ltT, ltF, leT, leF, hm, hc]
  done

theorem pl_less {c1 c2 : Int} {s1 s2 : Nat} (h1 : s1 < 256) (h2 : s2 < 256) (H : Heap) : callFL cfg0 prog0 false 54 [wrA c1 s1, wrA c2 s2] H none = some ⟨.ret (.bool (decide (c1 < c2 ∨ c1 = c2 ∧ (pop s1 < pop s2 ∨ pop s1 = pop s2 ∧ s1 < s2)))), H, none⟩ := by
  by_cases hc : c1 = c2
  · subst hc
    have z : (c1 != c1) = false := by simp
    have z0 : ¬ c1 < c1 := by omega
    by_cases hp1 : pop s1 < pop s2
    · have e : decide (c1 < c1 ∨ c1 = c1 ∧ (pop s1 < pop s2 ∨ pop s1 = pop s2 ∧ s1 < s2)) = true := by simp [hp1]
      rw [e]
      simp only [wrA]
      refine (callFL_eq fn54 rfl (by simp [Try.f54])).trans ?_
      simp (maxSteps := 1000000) (implicitDefEqProofs := false) (disch := first | rfl | omega | assumption) only [go_sem, ltT, ltF, leT, leF, z, hp1]
      done
    · by_cases hp2 : pop s1 = pop s2
      · have z2 : ((pop s2 : Int) == (pop s2 : Int)) = true := by simp
        have e : decide (c1 < c1 ∨ c1 = c1 ∧ (pop s1 < pop s2 ∨ pop s1 = pop s2 ∧ s1 < s2)) = decide ((s1 : Int) < (s2 : Int)) := by
          rw [decide_eq_decide]; omega
        have z3 : ¬ (pop s2 : Int) < (pop s2 : Int) := by omega
        rw [e]
        simp only [wrA, hp2]
        refine (callFL_eq fn54 rfl (by simp [Try.f54])).trans ?_
        simp (maxSteps := 1000000) (implicitDefEqProofs := false) (disch := first | rfl | omega | assumption) only [go_sem, z, z2, z3]
        done
      · have z2 : ((pop s1 : Int) == (pop s2 : Int)) = false := by simp; omega
        have z3 : ¬ (pop s1 : Int) < (pop s2 : Int) := by omega
        have e : decide (c1 < c1 ∨ c1 = c1 ∧ (pop s1 < pop s2 ∨ pop s1 = pop s2 ∧ s1 < s2)) = false := by
          rw [decide_eq_false_iff_not]; omega
        rw [e]
        simp only [wrA]
        refine (callFL_eq fn54 rfl (by simp [Try.f54])).trans ?_
        simp (maxSteps := 1000000) (implicitDefEqProofs := false) (disch := first | rfl | omega | assumption) only [go_sem, z, z2, z3]
        done
  · have z : (c1 != c2) = true := by simpa using hc
    have e : decide (c1 < c2 ∨ c1 = c2 ∧ (pop s1 < pop s2 ∨ pop s1 = pop s2 ∧ s1 < s2)) = decide (c1 < c2) := by
      rw [decide_eq_decide]; omega
    rw [e]
    simp only [wrA]
    refine (callFL_eq fn54 rfl (by simp [Try.f54])).trans ?_
    simp (maxSteps := 1000000) (implicitDefEqProofs := false) (disch := first | rfl | omega | assumption) only [go_sem, z]
    done

/-- By what sets are compared. -/
def keyC (c : Nat → Int) (s : Nat) : Int := c s * 1048576 + keyM s

/-- A measure. -/
def Meas (H : Heap) (mt : AV) (B k : Nat) (c : Nat → Int) : Prop := ∀ (b s : Nat) (G : Heap), s < 2 ^ k → callVL cfg0 prog0 b false (.method "blockworks/plan.worth") [mt, .ptr B 0, U s] [] (H ++ G) none = some ⟨.ret (wrA (c s) s), H ++ G, none⟩

theorem pop_lt8 {s : Nat} (h : s < 256) : pop s ≤ 8 := (pop_le8 8 (by omega) s h).1

theorem sg_key {c1 c2 : Int} {p q a b : Nat} (h1 : p ≤ 8) (h2 : q ≤ 8) (h3 : a < 256) (h4 : b < 256) : sg (c1 * 1048576 + ((p : Int) * 1024 + (a : Int))) (c2 * 1048576 + ((q : Int) * 1024 + (b : Int))) = if c1 = c2 ∧ (p : Int) = q ∧ (a : Int) = b then 0 else if c1 < c2 ∨ c1 = c2 ∧ (p < q ∨ p = q ∧ a < b) then -1 else 1 := by
  simp only [sg]
  by_cases x1 : c1 = c2 ∧ (p : Int) = q ∧ (a : Int) = b
  · rw [if_pos x1, if_neg (by omega), if_pos (by omega)]
  · rw [if_neg x1]
    by_cases x2 : c1 < c2 ∨ c1 = c2 ∧ (p < q ∨ p = q ∧ a < b)
    · rw [if_pos x2, if_pos (by omega)]
    · rw [if_neg x2, if_neg (by omega), if_neg (by omega)]

theorem pl_cmp {k : Nat} (hk : k ≤ 8) {mt : AV} {B : Nat} {c : Nat → Int} (hm : Meas H mt B k c) (hmt : ∃ t v, mt = .iface t v) {G : Heap} {x y : Nat} (hx : x < 2 ^ k) (hy : y < 2 ^ k) (hG : (H ++ G)[H.length]? = some (.box (.ptr B 0))) (hG1 : (H ++ G)[H.length + 1]? = some (.box mt)) :
    callFL cfg0 prog0 false 53 [U x, U y, .ptr (H.length + 1) 0, .ptr H.length 0] (H ++ G) none = some ⟨.ret (I (sg (keyC c x) (keyC c y))), H ++ G, none⟩ := by
  have hp2 : 2 ^ k ≤ 2 ^ 8 := Nat.pow_le_pow_right (by omega) hk
  have hx8 : x < 256 := by omega
  have hy8 : y < 256 := by omega
  have px := pop_lt8 hx8
  have py := pop_lt8 hy8
  obtain ⟨t, v, rfl⟩ := hmt
  have h1 := fun b A => hm b x (G ++ A) hx
  have h2 := fun b A => hm b y (G ++ A) hy
  have h3 := fun b => hm b x G hx
  have h4 := fun b => hm b y G hy
  have hl := fun G : Heap => pl_less (c1 := c x) (c2 := c y) hx8 hy8 G
  have hG' : ∀ A, (H ++ (G ++ A))[H.length]? = some (.box (.ptr B 0)) := fun A => by rw [← List.append_assoc, List.getElem?_append_left (List.getElem?_eq_some_iff.1 hG).1]; exact hG
  have hG1' : ∀ A, (H ++ (G ++ A))[H.length + 1]? = some (.box (.iface t v)) := fun A => by rw [← List.append_assoc, List.getElem?_append_left (List.getElem?_eq_some_iff.1 hG1).1]; exact hG1
  simp only [wrA] at h1 h2 h3 h4 hl
  have e1 : sg (keyC c x) (keyC c y) = if c x = c y ∧ (pop x : Int) = pop y ∧ (x : Int) = y then 0 else if c x < c y ∨ c x = c y ∧ (pop x < pop y ∨ pop x = pop y ∧ x < y) then -1 else 1 := sg_key px py hx8 hy8
  rw [e1]
  generalize c x = cx at *
  generalize c y = cy at *
  generalize pop x = px' at *
  generalize pop y = py' at *
  by_cases hq : cx = cy ∧ (px' : Int) = py' ∧ (x : Int) = y
  · rw [if_pos hq]
    have hb : sameL [I cx, I px', U x] [I cy, I py', U y] = true := by
      obtain ⟨q1, q2, q3⟩ := hq
      simp [sameL, AV.same, q1, q2, q3]
    refine (callFL_eq fn53 rfl (by simp [Try.f53])).trans ?_
    simp (maxSteps := 1000000) (implicitDefEqProofs := false) (disch := first | rfl | omega | assumption) only [go_sem, ltT, ltF, leT, leF]
    rw [chkK_of]; rotate_left; kernel_rfl
    simp (maxSteps := 1000000) (implicitDefEqProofs := false) (disch := first | rfl | omega | assumption) only [go_sem, ltT, ltF, leT, leF, hG, hG', hG1, hG1', h1, h2, h3, h4, hb]
    done
  · rw [if_neg hq]
    have hb : sameL [I cx, I px', U x] [I cy, I py', U y] = false := by
      simp only [sameL, AV.same, beq_self_eq_true, Bool.true_and, Bool.and_true, Bool.and_eq_false_iff, beq_eq_false_iff_ne]
      omega
    by_cases hl2 : cx < cy ∨ cx = cy ∧ (px' < py' ∨ px' = py' ∧ x < y)
    · rw [if_pos hl2]
      rw [decide_eq_true hl2] at hl
      refine (callFL_eq fn53 rfl (by simp [Try.f53])).trans ?_
      simp (maxSteps := 1000000) (implicitDefEqProofs := false) (disch := first | rfl | omega | assumption) only [go_sem, ltT, ltF, leT, leF]
      rw [chkK_of]; rotate_left; kernel_rfl
      simp (maxSteps := 1000000) (implicitDefEqProofs := false) (disch := first | rfl | omega | assumption) only [go_sem, ltT, ltF, leT, leF, hG, hG', hG1, hG1', h1, h2, h3, h4, hb, hl]
      done
    · rw [if_neg hl2]
      rw [decide_eq_false hl2] at hl
      refine (callFL_eq fn53 rfl (by simp [Try.f53])).trans ?_
      simp (maxSteps := 1000000) (implicitDefEqProofs := false) (disch := first | rfl | omega | assumption) only [go_sem, ltT, ltF, leT, leF]
      rw [chkK_of]; rotate_left; kernel_rfl
      simp (maxSteps := 1000000) (implicitDefEqProofs := false) (disch := first | rfl | omega | assumption) only [go_sem, ltT, ltF, leT, leF, hG, hG', hG1, hG1', h1, h2, h3, h4, hb, hl]
      done

end Go.Ab
/-
  Package plan: all sets in order; the first one that is enough.
-/
namespace Go.Ab
open Go.Proofs
set_option linter.unusedSimpArgs false
set_option linter.unusedVariables false
set_option maxRecDepth 100000
set_option maxHeartbeats 2000000

variable {H : Heap}


theorem cv_func {C : Cfg} {P : Program} {b g : Nat} {args cap : List AV} {H : Heap} (h : C.grow g 999997 = false) : callVL C P b false (.func g) args cap H none = callFL C P false g (args ++ cap) H none := by
  simp only [callVL_func, h, ownK_f]

def setsL (c : Nat → Int) (k : Nat) : List Nat := stab (keyC c) (2 ^ k) (List.range (2 ^ k))

theorem se_loop {k : Nat} (hk : k ≤ 8) {mt : AV} {B : Nat} {c : Nat → Int} (hm : Meas H mt B k c) (hmt : ∃ t v, mt = .iface t v) (m : Nat) (hmk : m = 2 ^ k) :
    ∀ (q j : Nat), j + q = m → ∀ E : Env, E.get 2 = .ptr H.length 0 → E.get 3 = .ptr (H.length + 1) 0 → E.get 5 = .gsl (H.length + 2) j → E.get 9 = U m → E.get 10 = U j →
    Option.map (finishC H.length) (execL cfg0 prog0 ⟨27, none, false, H.length⟩ (todoAt Try.f27 3) ⟨E, [], H ++ [.box (.ptr B 0), .box mt, .grow 1 ((List.range j).map U)], none⟩) = some ⟨.ret (.sl false ((setsL c k).map U)), H, none⟩ := by
  intro q
  have hp2 : 2 ^ k ≤ 2 ^ 8 := Nat.pow_le_pow_right (by omega) hk
  have hm8 : m ≤ 256 := by omega
  have e1 : ∀ L : List Nat, GH (H ++ [.box (.ptr B 0), .box mt, .grow 1 ((List.range m).map U)]) (H.length + 2) L = H ++ [.box (.ptr B 0), .box mt, .grow 1 (L.map U)] := fun L => by simp [GH, set_at']
  have hc : Cmp (H ++ [.box (.ptr B 0), .box mt, .grow 1 ((List.range m).map U)]) (H.length + 2) (.func 53) [.ptr (H.length + 1) 0, .ptr H.length 0] (keyC c) m := ⟨fun b x y L hx hy => by
    rw [e1, cv_func rfl]
    exact pl_cmp hk hm hmt (by omega) (by omega) (by rw [get_at]; rfl) (by rw [get_at']; rfl)⟩
  have hSo := so_sort hc (by simp) (n := m) (by omega) (L := List.range m) (by simp) (fun i hi => by simp at hi; simp [hi])
  rw [e1, e1] at hSo
  have hsl : stab (keyC c) m (List.range m) = setsL c k := by rw [hmk]; rfl
  rw [hsl] at hSo
  induction q with
  | zero =>
    intro j hj  E g2 g3 g5 g9 g10
    have hk' : ¬ (j : Int) < ((m : Nat) : Int) := by omega
    have ej : j = m := by omega
    subst ej
    simp only [loopIt, todoPast, todoAt, todoOf, firstReg, ↓reduceIte, Option.some.injEq, Nat.reduceEqDiff, reduceCtorEq, Try.f27]
    rw [execL_inLoop]
    have hls : ((setsL c k).map U).length = j := by rw [List.length_map, setsL, stab_len _ _ _, List.length_range, hmk]
    have ht : ∀ N, ltL N ((setsL c k).map U) = true := fun N => ltL_map (fun _ => rfl) _
    simp (maxSteps := 1000000) (implicitDefEqProofs := false) (disch := first | rfl | omega | assumption) only [go_sem, g2, g3, g5, g9, g10, ltT, ltF, leT, leF, hk', hSo, hls, ht]
    done
  | succ q ih =>
    intro j hj  E g2 g3 g5 g9 g10
    have hk' : (j : Int) < ((m : Nat) : Int) := by omega
    have hk2 : j < m := by omega
    simp only [loopIt, todoPast, todoAt, todoOf, firstReg, ↓reduceIte, Option.some.injEq, Nat.reduceEqDiff, reduceCtorEq, Try.f27]
    rw [execL_inLoop]
    have lm : ((List.range j).map U).length = j := by simp
    have hr : (List.range j).map U ++ [U j] = (List.range (j + 1)).map U := by simp [List.range_succ]
    have hadd : addElem (H ++ [.box (.ptr B 0), .box mt, .grow 1 ((List.range j).map U)]) 1 false (.gsl (H.length + 2) j) [U j] = some (.gsl (H.length + 2) (j + 1), H ++ [.box (.ptr B 0), .box mt, .grow 1 ((List.range (j + 1)).map U)]) := by
      rw [add_gsl (xs := (List.range j).map U) (by rw [get_at']; rfl) lm rfl rfl (by simp; omega), set_at', hr]
      rfl
    have hw : IntKind.u64.wrap ((j : Int) + 1) = ((j + 1 : Nat) : Int) := wrapU (n := j + 1) (by omega)
    have key := ih (j + 1) (by omega)
    simp only [List.range_succ] at key
    simp (maxSteps := 1000000) (implicitDefEqProofs := false) (disch := first | rfl | omega | assumption) only [go_sem, g2, g3, g5, g9, g10, ltT, ltF, leT, leF, hk', hadd, hw]
    exact key _ (by exact g2) (by exact g3) (by rfl) (by exact g9) (by rfl)

theorem pl_sets {n : Pn} (ho : n.Ok) {vb vr vp vm : AV} (hs1 : vb.scalar = true) (hs2 : vr.scalar = true) (hp : SlOk H 1 vp (n.ps.map I)) (hs5 : vm.scalar = true) {B : Nat} (hB : H[B]? = some (.box (n.box vb vr vp vm))) {mt : AV} {c : Nat → Int} (hm : Meas H mt B n.pr.rs.length c) (hmt : ∃ t v, mt = .iface t v) :
    callFL cfg0 prog0 false 27 [.ptr B 0, mt] H none = some ⟨.ret (.sl false ((setsL c n.pr.rs.length).map U)), H, none⟩ := by
  have hBl : B < H.length := (List.getElem?_eq_some_iff.1 hB).1
  have he := fun G : Heap => pl_every (H := H ++ G) ho hs1 hs2 (hp.app G) hs5 (B := B) (by rw [List.getElem?_append_left hBl]; exact hB)
  have h8 := ho.pr.reads
  have hpos : 0 < 2 ^ n.pr.rs.length := Nat.pow_pos (by omega)
  have hle : 2 ^ n.pr.rs.length ≤ 2 ^ 8 := Nat.pow_le_pow_right (by omega) h8
  have hw : IntKind.u64.wrap (((2 ^ n.pr.rs.length - 1 : Nat) : Int) + 1) = ((2 ^ n.pr.rs.length : Nat) : Int) := by
    rw [show ((2 ^ n.pr.rs.length - 1 : Nat) : Int) + 1 = ((2 ^ n.pr.rs.length : Nat) : Int) by omega]
    exact wrapU (by omega)
  have key := se_loop h8 hm hmt (2 ^ n.pr.rs.length) rfl (2 ^ n.pr.rs.length) 0 (by omega)
  obtain ⟨t, v, rfl⟩ := hmt
  generalize 2 ^ n.pr.rs.length = q at *
  refine (callFL_eq fn27 rfl (by simp [Try.f27])).trans ?_
  simp (maxSteps := 1000000) (implicitDefEqProofs := false) (disch := first | rfl | omega | assumption) only [go_sem, ltT, ltF, leT, leF, he, hw]
  exact key _ (by rfl) (by rfl) (by rfl) (by rfl) (by rfl)

/-- The first set that is enough, with what is kept. -/
def runE (n : Pn) : List Nat → List Nat → Nat × List Nat
  | [], m => (0, m)
  | x :: L, m => if enN n x then (x, addK m x) else runE n L (addK m x)

theorem fi_loop {n : Pn} (ho : n.Ok) (hT : HasT n) {vb vp : AV} {fr : Bool} {W : List Nat → Heap} {N B M : Nat} (h : KAt n vb vp fr W N B M) {L : List Nat} (hL : ∀ x ∈ L, x < 2 ^ n.pr.rs.length) (hLl : L.length ≤ 256) (r : Nat) (mr : List Nat) :
    ∀ (q j : Nat), j + q = L.length → ∀ (m : List Nat), runE n (L.drop j) m = (r, mr) → ∀ E : Env, E.get 3 = .ptr N 0 → E.get 4 = U 0 → E.get 7 = .sl false (L.map U) → E.get 8 = I L.length → E.get 9 = I j →
    Option.map (finishC N) (execL cfg0 prog0 ⟨26, none, false, N⟩ (todoAt Try.f26 2) ⟨E, [], W m ++ [.box (.agg [.func (.func 28) [.ptr B 0] []])], none⟩) = some ⟨.ret (U r), W mr, none⟩ := by
  intro q
  have hlen := h.len
  have hlt := h.lt
  obtain ⟨a1, a2, a3, a4, a5⟩ := (show ∀ G : Heap, SlOk G 1 (.sl false (L.map U)) (L.map U) from fun G => ⟨rfl, fun x hx => by obtain ⟨b, _, rfl⟩ := List.mem_map.1 hx; rfl⟩) (W []) |>.fF (d := 0)
  have b1 := fun (m : List Nat) => ((show ∀ G : Heap, SlOk G 1 (.sl false (L.map U)) (L.map U) from fun G => ⟨rfl, fun x hx => by obtain ⟨b, _, rfl⟩ := List.mem_map.1 hx; rfl⟩) (W m) |>.fF (d := 0)).1
  have b2 := fun (m : List Nat) => ((show ∀ G : Heap, SlOk G 1 (.sl false (L.map U)) (L.map U) from fun G => ⟨rfl, fun x hx => by obtain ⟨b, _, rfl⟩ := List.mem_map.1 hx; rfl⟩) (W m) |>.fF (d := 0)).2.2.1
  have yt : ∀ st l, (W st ++ l).take N = W st := fun st l => by rw [← hlen st, List.take_left]
  have y0 : ∀ st l, (W st ++ l)[N]? = l[0]? := fun st l => by rw [← hlen st, get_at]
  induction q with
  | zero =>
    intro j hj m hr E g3 g4 g7 g8 g9
    have hk' : ¬ (j : Int) < ((L.length : Nat) : Int) := by omega
    rw [List.drop_of_length_le (by omega)] at hr
    simp only [runE, Prod.mk.injEq] at hr
    obtain ⟨rfl, rfl⟩ := hr
    simp only [loopIt, todoPast, todoAt, todoOf, firstReg, ↓reduceIte, Option.some.injEq, Nat.reduceEqDiff, reduceCtorEq, Try.f26]
    rw [execL_inLoop]
    simp (maxSteps := 1000000) (implicitDefEqProofs := false) (disch := first | rfl | omega | assumption) only [go_sem, g3, g4, g7, g8, g9, ltT, ltF, leT, leF, hk', hlen, yt]
    rfl
  | succ q ih =>
    intro j hj m hr E g3 g4 g7 g8 g9
    have hk' : (j : Int) < ((L.length : Nat) : Int) := by omega
    have hk2 : j < L.length := by omega
    have hd : L.drop j = L.getD j 0 :: L.drop (j + 1) := by rw [List.drop_eq_getElem_cons hk2]; simp [hk2]
    have hm := hL _ (getD_mem' (d := 0) hk2)
    rw [hd] at hr
    simp only [runE] at hr
    obtain ⟨x, hxe⟩ : ∃ x, L.getD j 0 = x := ⟨_, rfl⟩
    rw [hxe] at hr hm
    have hen := pl_enough ho hT (h.app [.box (.agg [.func (.func 28) [.ptr B 0] []])]) m hm
    cases hc : enN n x
    · rw [hc] at hr hen
      simp only [Bool.false_eq_true, if_false] at hr
      simp only [loopIt, todoPast, todoAt, todoOf, firstReg, ↓reduceIte, Option.some.injEq, Nat.reduceEqDiff, reduceCtorEq, Try.f26]
      rw [execL_inLoop]
      simp (maxSteps := 1000000) (implicitDefEqProofs := false) (disch := first | rfl | omega | assumption) only [go_sem, g3, g4, g7, g8, g9, ltT, ltF, leT, leF, hk', hlen, b1, b2, hxe, y0, hen]
      exact ih (j + 1) (by omega) _ hr _ (by exact g3) (by exact g4) (by exact g7) (by exact g8) (by rfl)
    · rw [hc] at hr hen
      simp only [if_true, Prod.mk.injEq] at hr
      obtain ⟨rfl, rfl⟩ := hr
      simp only [loopIt, todoPast, todoAt, todoOf, firstReg, ↓reduceIte, Option.some.injEq, Nat.reduceEqDiff, reduceCtorEq, Try.f26]
      rw [execL_inLoop]
      simp (maxSteps := 1000000) (implicitDefEqProofs := false) (disch := first | rfl | omega | assumption) only [go_sem, g3, g4, g7, g8, g9, ltT, ltF, leT, leF, hk', hlen, b1, b2, hxe, y0, hen, yt]
      done

theorem pl_first {n : Pn} (ho : n.Ok) (hT : HasT n) {vb vp : AV} {fr : Bool} {W : List Nat → Heap} {N B M : Nat} (h : KAt n vb vp fr W N B M) (m : List Nat) {L : List Nat} (hL : ∀ x ∈ L, x < 2 ^ n.pr.rs.length) (hLl : L.length ≤ 256) :
    callFL cfg0 prog0 false 26 [.sl false (L.map U), .agg [.func (.func 28) [.ptr B 0] []]] (W m) none = some ⟨.ret (U (runE n L m).1), W (runE n L m).2, none⟩ := by
  have hlen := h.len
  have key := fi_loop ho hT h hL hLl (runE n L m).1 (runE n L m).2 L.length 0 (by omega) m rfl
  have lm : (L.map U).length = L.length := List.length_map _
  refine (callFL_eq fn26 rfl (by simp [Try.f26])).trans ?_
  simp (maxSteps := 1000000) (implicitDefEqProofs := false) (disch := first | rfl | omega | assumption) only [go_sem, ltT, ltF, leT, leF, hlen, lm]
  exact key _ (by rfl) (by rfl) (by rfl) (by rfl) (by rfl)

end Go.Ab
/-
  Package plan: Fewest, Cheapest.
-/
namespace Go.Ab
open Go.Proofs
set_option linter.unusedSimpArgs false
set_option linter.unusedVariables false
set_option maxRecDepth 100000
set_option maxHeartbeats 2000000

variable {H : Heap}


theorem pl_ansn (l : Nat) (H : Heap) : callFL cfg0 prog0 true 22 [.ptr l 0] H none = some ⟨.ret (.tup []), H, none⟩ := by
  refine (callFL_eq fn22 rfl (by simp [Try.f22])).trans ?_
  simp (implicitDefEqProofs := false) only [go_sem]

theorem pl_anss (l : Nat) (e x : Int) (H : Heap) (h : H[l]? = some (.box (I x))) : callFL cfg0 prog0 true 22 [.ptr l 0] H (some (.iface 92 (I e), false)) = some ⟨.ret (.tup []), H.set l (.box (I e)), some (.iface 92 (I e), true)⟩ := by
  have hl : l < H.length := (List.getElem?_eq_some_iff.1 h).1
  refine (callFL_eq fn22 rfl (by simp [Try.f22])).trans ?_
  simp (implicitDefEqProofs := false) only [go_sem, get_lt hl, set_lt hl, h]

def plW (H : Heap) (n : Pn) (vb vr vp : AV) (m : List Nat) : Heap := H ++ n.open vb vr vp H.length (m.map (kE n))

theorem kat_open {n : Pn} {vb vp : AV} {fr : Bool} (h : PnAt H n vb (.sl fr (n.pr.rs.map Pt.av)) vp) : KAt n vb vp fr (plW H n vb (.sl fr (n.pr.rs.map Pt.av)) vp) (H.length + 3) (H.length + 2) (H.length + 1) := by
  refine ⟨fun m => by simp [plW, Pn.open], fun m => by rw [plW, Pn.open, get_at']; rfl, fun m => by rw [plW, Pn.open, get_at']; rfl, fun m m' => by rw [plW, plW, Pn.open, Pn.open, set_at']; rfl, fun m => h.app _, by omega⟩

theorem meas_many (H : Heap) (B : Nat) {k : Nat} (hk : k ≤ 8) : Meas H (.iface 71 (.agg [])) B k (fun _ => 0) := by
  intro b s G hs
  have h := pl_worthM (s := s) (Nat.lt_of_lt_of_le hs (show 2 ^ k ≤ 2 ^ 8 from Nat.pow_le_pow_right (by omega) hk)) (.ptr B 0) (H ++ G)
  simp only [go_sem]
  exact h

theorem meas_price {n : Pn} (ho : n.Ok) {vb vr vp vm : AV} (hs1 : vb.scalar = true) (hs2 : vr.scalar = true) (hp : SlOk H 1 vp (n.ps.map I)) (hs5 : vm.scalar = true) {B : Nat} (hB : H[B]? = some (.box (n.box vb vr vp vm))) : Meas H (.iface 88 (.agg [])) B n.pr.rs.length (costL n.ps) := by
  intro b s G hs
  have hBl : B < H.length := (List.getElem?_eq_some_iff.1 hB).1
  have h := pl_worthP (H := H ++ G) ho hs1 hs2 (hp.app G) hs5 (B := B) (by rw [List.getElem?_append_left hBl]; exact hB) hs
  simp only [go_sem]
  exact h

theorem setsL_len (c : Nat → Int) (k : Nat) : (setsL c k).length = 2 ^ k := by rw [setsL, stab_len, List.length_range]

theorem gt_rng {m k : Nat} (h : k < m) : gt (List.range m) k = k := by simp [gt, h]
theorem setsL_srt (c : Nat → Int) (k : Nat) : Srt (keyC c) id (gt (setsL c k)) 0 (2 ^ k) ∧ Ib (gt (List.range (2 ^ k))) (gt (setsL c k)) 0 (2 ^ k) :=
  stab_srt (by simp) (fun a b h1 h2 => by rw [gt_rng h2, gt_rng (Nat.lt_trans h1 h2)]; exact h1)

theorem setsL_mem {c : Nat → Int} {k s : Nat} : s ∈ setsL c k ↔ s < 2 ^ k := by
  obtain ⟨_, h2⟩ := setsL_srt c k
  have hl := setsL_len c k
  constructor
  · intro h
    obtain ⟨i, hi, e⟩ := List.getElem_of_mem h
    obtain ⟨j, _, j2, e2⟩ := h2.fwd i (by omega) (by omega)
    have e3 : gt (setsL c k) i = s := by simp [gt, hi, e]
    rw [e3, gt_rng j2] at e2
    omega
  · intro h
    obtain ⟨j, _, j2, e2⟩ := h2.bwd s (by omega) h
    rw [gt_rng h] at e2
    have : j < (setsL c k).length := by omega
    have e3 : gt (setsL c k) j = (setsL c k)[j] := by simp [gt, this]
    rw [e2, e3]
    exact List.getElem_mem _

theorem runE_fst (n : Pn) : ∀ (L m m' : List Nat), (runE n L m).1 = (runE n L m').1
  | [], _, _ => rfl
  | x :: L, m, m' => by
    simp only [runE]
    split
    · rfl
    · exact runE_fst n L _ _

/-- The set that is told, by what sets cost. -/
def bestN (n : Pn) (c : Nat → Int) : Nat := (runE n (setsL c n.pr.rs.length) []).1
def memN (n : Pn) (c : Nat → Int) : List Nat := (runE n (setsL c n.pr.rs.length) (addK (addK [] (fullN n)) (fullN n))).2
theorem bestN_eq (n : Pn) (c : Nat → Int) (m : List Nat) : (runE n (setsL c n.pr.rs.length) m).1 = bestN n c := runE_fst n _ _ _

theorem run_has (n : Pn) : ∀ (L m : List Nat), (∃ x ∈ L, enN n x = true) → ∃ i, i < L.length ∧ L.getD i 0 = (runE n L m).1 ∧ enN n (runE n L m).1 = true ∧ ∀ k, k < i → enN n (L.getD k 0) = false
  | [], m, h => by obtain ⟨x, hx, _⟩ := h; cases hx
  | x :: L, m, h => by
    simp only [runE]
    cases hx : enN n x
    · simp only [Bool.false_eq_true, if_false]
      obtain ⟨y, hy, hy2⟩ := h
      rcases List.mem_cons.1 hy with rfl | hy
      · rw [hx] at hy2; cases hy2
      · obtain ⟨i, k1, k2, k3, k4⟩ := run_has n L (addK m x) ⟨y, hy, hy2⟩
        refine ⟨i + 1, by simp; omega, by rw [List.getD_cons_succ]; exact k2, k3, fun k hk => ?_⟩
        cases k with
        | zero => exact hx
        | succ k => rw [List.getD_cons_succ]; exact k4 k (by omega)
    · simp only [if_true]
      exact ⟨0, by simp, rfl, hx, fun k hk => by omega⟩

theorem best_least {n : Pn} {c : Nat → Int} (h : enN n (fullN n) = true) : LeastS (keyC c) n.pr.rs.length (enN n) (bestN n c) := by
  obtain ⟨i, k1, k2, k3, k4⟩ := run_has n (setsL c n.pr.rs.length) [] ⟨fullN n, setsL_mem.2 (fullN_lt n), h⟩
  have hb : (runE n (setsL c n.pr.rs.length) []).1 = bestN n c := rfl
  rw [hb] at k2 k3
  refine ⟨?_, k3, fun y hy hyP => ?_⟩
  · rw [← k2]
    exact setsL_mem.1 (getD_mem' k1)
  · obtain ⟨h1, h2⟩ := setsL_srt c n.pr.rs.length
    obtain ⟨j, _, j2, e2⟩ := h2.bwd y (by omega) hy
    rw [gt_rng hy] at e2
    have e3 : (setsL c n.pr.rs.length).getD j 0 = y := e2.symm
    have k2' : gt (setsL c n.pr.rs.length) i = bestN n c := k2
    rw [setsL_len] at k1
    by_cases hij : i < j
    · have := h1 i j (by omega) hij j2
      rw [k2', ← e2] at this
      rcases this with h | ⟨h, _⟩ <;> omega
    · by_cases e : i = j
      · subst e
        rw [k2'] at e2
        rw [e2]
        exact Int.le_refl _
      · have := k4 j (by omega)
        rw [e3, hyP] at this
        cases this

theorem best_fewest {n : Pn} (h : enN n (fullN n) = true) : LeastS keyM n.pr.rs.length (enN n) (bestN n fun _ => 0) := by
  have k := best_least (c := fun _ => 0) h
  refine ⟨k.lt, k.ok, fun y hy hP => ?_⟩
  have := k.min y hy hP
  simp only [keyC] at this
  omega

theorem pl_Fewest {n : Pn} (ho : n.Ok) (hT : HasT n) {vb vp : AV} {fr : Bool} (h : PnAt H n vb (.sl fr (n.pr.rs.map Pt.av)) vp) :
    callFL cfg0 prog0 false 9 [n.av vb (.sl fr (n.pr.rs.map Pt.av)) vp] H none = some ⟨.ret (.tup (if enN n (fullN n) then [I (bestN n fun _ => 0), I 0] else [I 0, I 4])), H, none⟩ := by
  have hs1 := h.pr.bs.scal
  have hs3 := h.ps.scal
  have hop := pl_open (H := H ++ [.box (n.av vb (.sl fr (n.pr.rs.map Pt.av)) vp), .box (I 0)]) (h.app _) ho
  have hK := kat_open (H := H ++ [.box (n.av vb (.sl fr (n.pr.rs.map Pt.av)) vp), .box (I 0)]) (h.app _)
  have hca := pl_can ho hT hK []
  have hse := fun m => pl_sets (H := plW (H ++ [.box (n.av vb (.sl fr (n.pr.rs.map Pt.av)) vp), .box (I 0)]) n vb (.sl fr (n.pr.rs.map Pt.av)) vp m) ho hs1 rfl (hK.pn m).ps rfl (hK.aB m) (meas_many _ _ ho.pr.reads) ⟨_, _, rfl⟩
  have hfi := fun m => pl_first ho hT hK m (L := setsL (fun _ => 0) n.pr.rs.length) (fun x hx => setsL_mem.1 hx) (by rw [setsL_len]; exact (show 2 ^ n.pr.rs.length ≤ 2 ^ 8 from Nat.pow_le_pow_right (by omega) ho.pr.reads))
  simp only [bestN_eq] at hfi
  have hw64 : enN n (fullN n) = true → IntKind.i64.wrap ((bestN n fun _ => 0 : Nat) : Int) = (bestN n fun _ => 0 : Nat) := fun hc => by
    have := lt256 ho (best_fewest hc).lt
    exact w64 (by omega) (by omega)
  generalize bestN n (fun _ => 0) = best at *
  simp only [plW, Pn.open, Pn.av, Pn.box, List.length_append, List.length_cons, List.length_nil, Nat.add_assoc, Nat.reduceAdd, List.append_assoc, List.cons_append, List.nil_append, List.map_nil] at hop hca hse hfi ⊢
  cases hc : enN n (fullN n)
  · rw [hc] at hca
    have hdf := fun G => pl_anss (H.length + 1) 4 0 (H ++ (.box (n.av vb (.sl fr (n.pr.rs.map Pt.av)) vp) :: .box (I 0) :: G)) (by rw [get_at']; rfl)
    simp only [Pn.av] at hdf
    refine (callFL_eq fn9 rfl (by simp [Try.f9])).trans ?_
    simp (maxSteps := 1000000) (implicitDefEqProofs := false) (disch := first | rfl | omega | assumption) only [go_sem, ltT, ltF, leT, leF, hs1, hs3, hop, hca, hdf, Bool.false_eq_true, if_false]
    done
  · rw [hc] at hca
    have hw64 := hw64 hc
    refine (callFL_eq fn9 rfl (by simp [Try.f9])).trans ?_
    simp (maxSteps := 1000000) (implicitDefEqProofs := false) (disch := first | rfl | omega | assumption) only [go_sem, ltT, ltF, leT, leF, hs1, hs3, hop, hca, hse, hfi, hw64, pl_ansn, if_true]
    done

end Go.Ab
/-
  Package plan: Cheapest, Needed.
-/
namespace Go.Ab
open Go.Proofs
set_option linter.unusedSimpArgs false
set_option linter.unusedVariables false
set_option maxRecDepth 100000
set_option maxHeartbeats 2000000

variable {H : Heap}


theorem pl_Cheapest {n : Pn} (ho : n.Ok) (hT : HasT n) {vb vp : AV} {fr : Bool} (h : PnAt H n vb (.sl fr (n.pr.rs.map Pt.av)) vp) (hc : enN n (fullN n) = true) :
    callFL cfg0 prog0 false 15 [n.av vb (.sl fr (n.pr.rs.map Pt.av)) vp] H none = some ⟨.ret (.tup [I (bestN n (costL n.ps)), I (costL n.ps (bestN n (costL n.ps))), I 0]), H, none⟩ := by
  have hs1 := h.pr.bs.scal
  have hs3 := h.ps.scal
  have hop := pl_open (H := (H ++ [.box (n.av vb (.sl fr (n.pr.rs.map Pt.av)) vp), .box (I 0)])) (h.app _) ho
  have hK := kat_open (H := (H ++ [.box (n.av vb (.sl fr (n.pr.rs.map Pt.av)) vp), .box (I 0)])) (h.app _)
  have hca := pl_can ho hT hK []
  have hse := fun m => pl_sets (H := plW (H ++ [.box (n.av vb (.sl fr (n.pr.rs.map Pt.av)) vp), .box (I 0)]) n vb (.sl fr (n.pr.rs.map Pt.av)) vp m) ho hs1 rfl (hK.pn m).ps rfl (hK.aB m) (meas_price ho hs1 rfl (hK.pn m).ps rfl (hK.aB m)) ⟨_, _, rfl⟩
  have hfi := fun m => pl_first ho hT hK m (L := setsL (costL n.ps) n.pr.rs.length) (fun x hx => setsL_mem.1 hx) (by rw [setsL_len]; exact (show 2 ^ n.pr.rs.length ≤ 2 ^ 8 from Nat.pow_le_pow_right (by omega) ho.pr.reads))
  have hco := fun m => pl_costs (H := plW (H ++ [.box (n.av vb (.sl fr (n.pr.rs.map Pt.av)) vp), .box (I 0)]) n vb (.sl fr (n.pr.rs.map Pt.av)) vp m) ho hs1 rfl (hK.pn m).ps rfl (hK.aB m) (best_least (c := costL n.ps) hc).lt
  simp only [bestN_eq] at hfi
  have hw64 : IntKind.i64.wrap ((bestN n (costL n.ps) : Nat) : Int) = (bestN n (costL n.ps) : Nat) := by
    have := lt256 ho (best_least (c := costL n.ps) hc).lt
    exact w64 (by omega) (by omega)
  generalize bestN n (costL n.ps) = best at *
  simp only [plW, Pn.open, Pn.av, Pn.box, List.length_append, List.length_cons, List.length_nil, Nat.add_assoc, Nat.reduceAdd, List.append_assoc, List.cons_append, List.nil_append, List.map_nil] at hop hca hse hfi hco ⊢
  rw [hc] at hca
  refine (callFL_eq fn15 rfl (by simp [Try.f15])).trans ?_
  simp (maxSteps := 1000000) (implicitDefEqProofs := false) (disch := first | rfl | omega | assumption) only [go_sem, ltT, ltF, leT, leF, hs1, hs3, hop, hca, hse, hfi, hco, hw64, pl_ansn, if_true]
  done

theorem get_atL {A l : Heap} {N k : Nat} (h : A.length = N) : (A ++ l)[N + k]? = l[k]? := by subst h; exact List.getElem?_append_right (Nat.le_add_right _ _) |>.trans (by rw [Nat.add_sub_cancel_left])
theorem set_atL {A l : Heap} {N k : Nat} {o : AO} (h : A.length = N) : (A ++ l).set (N + k) o = A ++ l.set k o := by subst h; rw [List.set_append_right _ _ (Nat.le_add_right _ _), Nat.add_sub_cancel_left]

/-- What is needed of the first readings, with what is kept. -/
def ndM (n : Pn) : Nat → Nat × List Nat
  | 0 => (0, addK (addK [] (fullN n)) (fullN n))
  | i + 1 => (if enN n (diffN (fullN n) (2 ^ i)) then (ndM n i).1 else (ndM n i).1 ||| 2 ^ i, addK (ndM n i).2 (diffN (fullN n) (2 ^ i)))

theorem ndM_lt (n : Pn) : ∀ i, (ndM n i).1 < 2 ^ i
  | 0 => by simp [ndM]
  | i + 1 => by
    have h := ndM_lt n i
    have h2 : 2 ^ i < 2 ^ (i + 1) := Nat.pow_lt_pow_right (by omega) (by omega)
    simp only [ndM]
    split
    · omega
    · exact Nat.or_lt_two_pow (by omega) h2

theorem full_bit' (n : Pn) (i : Nat) : (fullN n).testBit i = decide (i < n.pr.rs.length) := by rw [fullN, Nat.testBit_two_pow_sub_one]

theorem nd_listen {n : Pn} (ho : n.Ok) (hT : HasT n) {vb vp : AV} {fr : Bool} (h : PnAt H n vb (.sl fr (n.pr.rs.map Pt.av)) vp) {bb : Nat} {Hr : Nat → Heap}
    (hHr : Hr = fun i => plW (H ++ [.box (n.av vb (.sl fr (n.pr.rs.map Pt.av)) vp), .box (I 0)]) n vb (.sl fr (n.pr.rs.map Pt.av)) vp (ndM n i).2 ++ [.box (.ptr (H.length + 4) 0), .box (U (ndM n i).1), .box (U (fullN n)), .dfr, .loop (loopRec Try.f12 12 0 [(12, .func (.func 57) [] [.ptr (H.length + 7) 0]), (11, U (fullN n)), (10, .ptr (H.length + 4) 0), (5, .ptr (H.length + 6) 0), (4, .ptr (H.length + 5) 0), (9, .ptr (H.length + 4) 0), (8, .ptr (H.length + 4) 0), (7, n.av vb (.sl fr (n.pr.rs.map Pt.av)) vp), (3, .ptr (H.length + 1) 0), (2, I 0), (1, .ptr H.length 0), (0, n.av vb (.sl fr (n.pr.rs.map Pt.av)) vp)] (H.length + 8))]) (i : Nat) (hi : i < n.pr.rs.length) :
    callVL cfg0 prog0 bb false (.yield (H.length + 9)) [I i] [] (Hr i) none = some ⟨.ret (.bool true), Hr (i + 1), none⟩ := by
  have h8 := ho.pr.reads
  have hK := kat_open (H := (H ++ [.box (n.av vb (.sl fr (n.pr.rs.map Pt.av)) vp), .box (I 0)])) (h.app _)
  have hs1 := h.pr.bs.scal
  have hs3 := h.ps.scal
  have hfl := fullN_lt n
  have hf256 := lt256 ho hfl
  have hdl := diffN_lt (b := 2 ^ i) hfl
  have hen := fun A => pl_enough ho hT (hK.app A) (ndM n i).2 hdl
  have hev := fun A => pl_every (H := plW (H ++ [.box (n.av vb (.sl fr (n.pr.rs.map Pt.av)) vp), .box (I 0)]) n vb (.sl fr (n.pr.rs.map Pt.av)) vp (ndM n i).2 ++ A) ho hs1 rfl ((hK.app A).pn _).ps rfl ((hK.app A).aB _)
  have hfe : 2 ^ n.pr.rs.length - 1 = fullN n := rfl
  have hn1 := ndM_lt n i
  have hn2 : (ndM n i).1 < 1024 := Nat.lt_of_lt_of_le hn1 (show 2 ^ i ≤ 2 ^ 10 from Nat.pow_le_pow_right (by omega) (by omega))
  have hwi := fun G : Heap => pl_with hn2 (show i ≤ 20 by omega) G
  have hsh := shlU (k := i) (by omega)
  have h2i : (2 : Nat) ^ i < 2 ^ 63 := Nat.pow_lt_pow_right (by omega) (by omega)
  have hno := bitsNot (a := fullN n) (b := 2 ^ i) (by omega) h2i
  have z : ¬ (i : Int) < 0 := by omega
  have e1 : (ndM n (i + 1)).1 = if enN n (diffN (fullN n) (2 ^ i)) then (ndM n i).1 else (ndM n i).1 ||| 2 ^ i := rfl
  have e2 : (ndM n (i + 1)).2 = addK (ndM n i).2 (diffN (fullN n) (2 ^ i)) := rfl
  subst hHr
  simp only [e1, e2, hfe] at hev ⊢
  simp only [List.length_append, List.length_cons, List.length_nil, Nat.add_assoc, Nat.reduceAdd] at hen hev
  have hgl : ∀ m, (plW (H ++ [.box (n.av vb (.sl fr (n.pr.rs.map Pt.av)) vp), .box (I 0)]) n vb (.sl fr (n.pr.rs.map Pt.av)) vp m).length = H.length + 5 := fun m => by simp [plW, Pn.open]
  have g0 : ∀ m l, (plW (H ++ [.box (n.av vb (.sl fr (n.pr.rs.map Pt.av)) vp), .box (I 0)]) n vb (.sl fr (n.pr.rs.map Pt.av)) vp m ++ l)[H.length + 5]? = l[0]? := fun m l => by rw [← hgl m, get_at]
  have gk : ∀ m l k, (plW (H ++ [.box (n.av vb (.sl fr (n.pr.rs.map Pt.av)) vp), .box (I 0)]) n vb (.sl fr (n.pr.rs.map Pt.av)) vp m ++ l)[H.length + (k + 6)]? = l[k + 1]? := fun m l k => by
    rw [show H.length + (k + 6) = (H.length + 5) + (k + 1) by omega]
    exact get_atL (hgl m)
  have gs : ∀ m l k o, (plW (H ++ [.box (n.av vb (.sl fr (n.pr.rs.map Pt.av)) vp), .box (I 0)]) n vb (.sl fr (n.pr.rs.map Pt.av)) vp m ++ l).set (H.length + (k + 6)) o = plW (H ++ [.box (n.av vb (.sl fr (n.pr.rs.map Pt.av)) vp), .box (I 0)]) n vb (.sl fr (n.pr.rs.map Pt.av)) vp m ++ l.set (k + 1) o := fun m l k o => by
    rw [show H.length + (k + 6) = (H.length + 5) + (k + 1) by omega]
    exact set_atL (hgl m)
  have gt : ∀ m l, (plW (H ++ [.box (n.av vb (.sl fr (n.pr.rs.map Pt.av)) vp), .box (I 0)]) n vb (.sl fr (n.pr.rs.map Pt.av)) vp m ++ l).take (H.length + 10) = plW (H ++ [.box (n.av vb (.sl fr (n.pr.rs.map Pt.av)) vp), .box (I 0)]) n vb (.sl fr (n.pr.rs.map Pt.av)) vp m ++ l.take 5 := fun m l => by
    rw [show H.length + 10 = (H.length + 5) + 5 by omega, ← hgl m, List.take_length_add_append]
  have gk6 := fun m l => gk m l 0
  have gk9 := fun m l => gk m l 3
  have gs6 := fun m l o => gs m l 0 o
  have gs9 := fun m l o => gs m l 3 o
  simp only [Nat.zero_add, Nat.reduceAdd] at gk6 gk9 gs6 gs9
  generalize ndM n i = x at *
  obtain ⟨nd, m⟩ := x
  simp only at hen hev hn2 hwi ⊢
  generalize addK m (diffN (fullN n) (2 ^ i)) = m' at *
  generalize hWg : plW (H ++ [.box (n.av vb (.sl fr (n.pr.rs.map Pt.av)) vp), .box (I 0)]) n vb (.sl fr (n.pr.rs.map Pt.av)) vp = W at *
  simp only [loopRec, rangesOf, List.nil_append, List.append_nil, List.cons_append, List.getElem?_cons_zero, List.getElem?_cons_succ, Try.f12, Pn.av]
  cases hc : enN n (diffN (fullN n) (2 ^ i))
  · rw [hc] at hen
    simp only [Bool.false_eq_true, if_false]
    simp (maxSteps := 1000000) (implicitDefEqProofs := false) (disch := first | rfl | omega | assumption) only [go_sem, ltT, ltF, leT, leF, loopRec, rangesOf, List.nil_append, List.append_nil, List.cons_append, List.getElem?_cons_zero, List.getElem?_cons_succ, Try.f12, hgl, g0, gk6, gk9, gs6, gs9]
    rw [chkK_of]; rotate_left; kernel_rfl
    simp (maxSteps := 1000000) (implicitDefEqProofs := false) (disch := first | rfl | omega | assumption) only [go_sem, ltT, ltF, leT, leF, loopRec, rangesOf, List.nil_append, List.append_nil, List.cons_append, List.getElem?_cons_zero, List.getElem?_cons_succ, Try.f12, hgl, g0, gk6, gk9, gs6, gs9, gt, hev, hsh, hno, z, hen, hwi]
    done
  · rw [hc] at hen
    simp only [if_true]
    simp (maxSteps := 1000000) (implicitDefEqProofs := false) (disch := first | rfl | omega | assumption) only [go_sem, ltT, ltF, leT, leF, loopRec, rangesOf, List.nil_append, List.append_nil, List.cons_append, List.getElem?_cons_zero, List.getElem?_cons_succ, Try.f12, hgl, g0, gk6, gk9, gs6, gs9]
    rw [chkK_of]; rotate_left; kernel_rfl
    simp (maxSteps := 1000000) (implicitDefEqProofs := false) (disch := first | rfl | omega | assumption) only [go_sem, ltT, ltF, leT, leF, loopRec, rangesOf, List.nil_append, List.append_nil, List.cons_append, List.getElem?_cons_zero, List.getElem?_cons_succ, Try.f12, hgl, g0, gk6, gk9, gs6, gs9, gt, hev, hsh, hno, z, hen, hwi]
    done

theorem pl_Needed {n : Pn} (ho : n.Ok) (hT : HasT n) {vb vp : AV} {fr : Bool} (h : PnAt H n vb (.sl fr (n.pr.rs.map Pt.av)) vp) (hc : enN n (fullN n) = true) :
    callFL cfg0 prog0 false 12 [n.av vb (.sl fr (n.pr.rs.map Pt.av)) vp] H none = some ⟨.ret (.tup [I (ndM n n.pr.rs.length).1, I 0]), H, none⟩ := by
  have h8 := ho.pr.reads
  have hs1 := h.pr.bs.scal
  have hs3 := h.ps.scal
  have hfl := fullN_lt n
  have hop := pl_open (H := (H ++ [.box (n.av vb (.sl fr (n.pr.rs.map Pt.av)) vp), .box (I 0)])) (h.app _) ho
  have hK := kat_open (H := (H ++ [.box (n.av vb (.sl fr (n.pr.rs.map Pt.av)) vp), .box (I 0)])) (h.app _)
  have hca := pl_can ho hT hK []
  have hev := fun A => pl_every (H := plW (H ++ [.box (n.av vb (.sl fr (n.pr.rs.map Pt.av)) vp), .box (I 0)]) n vb (.sl fr (n.pr.rs.map Pt.av)) vp (addK (addK [] (fullN n)) (fullN n)) ++ A) ho hs1 rfl ((hK.app A).pn _).ps rfl ((hK.app A).aB _)
  have hfe : 2 ^ n.pr.rs.length - 1 = fullN n := rfl
  simp only [hfe] at hev
  have hof := fun G : Heap => pl_of (fullN n) G
  have hgl : ∀ m, (plW (H ++ [.box (n.av vb (.sl fr (n.pr.rs.map Pt.av)) vp), .box (I 0)]) n vb (.sl fr (n.pr.rs.map Pt.av)) vp m).length = H.length + 5 := fun m => by simp [plW, Pn.open]
  have hit := pl_of_it (p1 := H.length + 7) (s := fullN n) (n := n.pr.rs.length) (N := H.length + 10) (y := H.length + 9) (Hr := fun i => plW (H ++ [.box (n.av vb (.sl fr (n.pr.rs.map Pt.av)) vp), .box (I 0)]) n vb (.sl fr (n.pr.rs.map Pt.av)) vp (ndM n i).2 ++ [.box (.ptr (H.length + 4) 0), .box (U (ndM n i).1), .box (U (fullN n)), .dfr, .loop (loopRec Try.f12 12 0 [(12, .func (.func 57) [] [.ptr (H.length + 7) 0]), (11, U (fullN n)), (10, .ptr (H.length + 4) 0), (5, .ptr (H.length + 6) 0), (4, .ptr (H.length + 5) 0), (9, .ptr (H.length + 4) 0), (8, .ptr (H.length + 4) 0), (7, n.av vb (.sl fr (n.pr.rs.map Pt.av)) vp), (3, .ptr (H.length + 1) 0), (2, I 0), (1, .ptr H.length 0), (0, n.av vb (.sl fr (n.pr.rs.map Pt.av)) vp)] (H.length + 8))]) (by omega) hfl
    ⟨fun i => by simp [hgl], fun i => by
      rw [show H.length + 7 = (H.length + 5) + 2 by omega]
      rw [get_atL (hgl _)]; rfl, fun b i hi hb => nd_listen ho hT h rfl i hi, fun i hi hb => by
      rw [full_bit', decide_eq_false_iff_not] at hb
      omega⟩
  have hn1 := Nat.lt_of_lt_of_le (ndM_lt n n.pr.rs.length) (show 2 ^ n.pr.rs.length ≤ 2 ^ 8 from Nat.pow_le_pow_right (by omega) h8)
  have hw64 : IntKind.i64.wrap (((ndM n n.pr.rs.length).1 : Nat) : Int) = ((ndM n n.pr.rs.length).1 : Nat) := w64 (by omega) (by omega)
  have e0 : ndM n 0 = (0, addK (addK [] (fullN n)) (fullN n)) := rfl
  rw [e0] at hit
  generalize ndM n n.pr.rs.length = x at *
  obtain ⟨nd, m⟩ := x
  simp only at hit hw64 ⊢
  simp only [plW, Pn.open, Pn.av, Pn.box, List.length_append, List.length_cons, List.length_nil, Nat.add_assoc, Nat.reduceAdd, List.append_assoc, List.cons_append, List.nil_append, List.map_nil, Int.natCast_zero] at hop hca hev hit ⊢
  rw [hc] at hca
  simp only [loopRec, rangesOf, List.nil_append, List.append_nil, List.cons_append, List.getElem?_cons_zero, List.getElem?_cons_succ, Try.f12] at hit
  generalize addK (addK [] (fullN n)) (fullN n) = m0 at *
  refine (callFL_eq fn12 rfl (by simp [Try.f12])).trans ?_
  simp (maxSteps := 1000000) (implicitDefEqProofs := false) (disch := first | rfl | omega | assumption) only [go_sem, ltT, ltF, leT, leF, loopRec, rangesOf, List.nil_append, List.append_nil, List.cons_append, List.getElem?_cons_zero, List.getElem?_cons_succ, Try.f12, hs1, hs3, hop, hca, hev, hof, if_true]
  have hU0 : U 0 = .int .u64 0 := rfl
  rw [hU0] at hit
  rw [hit]
  simp (maxSteps := 1000000) (implicitDefEqProofs := false) (disch := first | rfl | omega | assumption) only [go_sem, ltT, ltF, leT, leF, loopRec, rangesOf, List.nil_append, List.append_nil, List.cons_append, List.getElem?_cons_zero, List.getElem?_cons_succ, Try.f12, hs1, hs3, hw64, pl_ansn]
  done

end Go.Ab
/-
  The references: valid pairs and plans.
-/
namespace Go.Ab
open Go.Proofs
set_option linter.unusedSimpArgs false
set_option linter.unusedVariables false
set_option maxRecDepth 100000
set_option maxHeartbeats 2000000

variable {H : Heap}


theorem rf_in (n lo hi : Int) (H : Heap) : callFL cfg0 prog0 false 42 [I n, I lo, I hi] H none = some ⟨.ret (.bool (wi n lo hi)), H, none⟩ := by
  refine (callFL_eq fn42 rfl (by simp [Try.f42])).trans ?_
  by_cases h1 : lo ≤ n <;> simp (implicitDefEqProofs := false) only [go_sem, h1, wi]

theorem rf8_in (n lo hi : Int) (H : Heap) : callFL cfg0 prog0 false 18 [I n, I lo, I hi] H none = some ⟨.ret (.bool (wi n lo hi)), H, none⟩ := by
  refine (callFL_eq fn18 rfl (by simp [Try.f18])).trans ?_
  by_cases h1 : lo ≤ n <;> simp (implicitDefEqProofs := false) only [go_sem, h1, wi]

theorem rf_span (lo hi most : Int) (hm : 0 ≤ most ∧ most ≤ 1000) (H : Heap) : callFL cfg0 prog0 false 43 [.agg [I lo, I hi], I most] H none = some ⟨.ret (.bool (spOk lo hi most)), H, none⟩ := by
  simp only [spOk]
  have e1 : (0 : Int) - most = -most := by omega
  by_cases h1 : -most ≤ lo
  · by_cases h2 : lo ≤ hi
    · skip
      refine (callFL_eq fn43 rfl (by simp [Try.f43])).trans ?_
      simp (maxSteps := 1000000) (implicitDefEqProofs := false) (disch := first | rfl | omega | assumption) only [go_sem, ltT, ltF, leT, leF, h1, h2, decide_true, Bool.true_and, e1]
      done
    · skip
      refine (callFL_eq fn43 rfl (by simp [Try.f43])).trans ?_
      simp (maxSteps := 1000000) (implicitDefEqProofs := false) (disch := first | rfl | omega | assumption) only [go_sem, ltT, ltF, leT, leF, h1, h2, decide_true, Bool.true_and, decide_false, Bool.false_and, e1]
      done
  · skip
    refine (callFL_eq fn43 rfl (by simp [Try.f43])).trans ?_
    simp (maxSteps := 1000000) (implicitDefEqProofs := false) (disch := first | rfl | omega | assumption) only [go_sem, ltT, ltF, leT, leF, h1, decide_false, Bool.false_and, e1]
    done

theorem rf_Minute (n : Int) (H : Heap) : callFL cfg0 prog0 false 45 [I n] H none = some ⟨.ret (.bool (wi n 0 60)), H, none⟩ := by
  refine (callFL_eq fn45 rfl (by simp [Try.f45])).trans ?_
  simp (maxSteps := 1000000) (implicitDefEqProofs := false) (disch := first | rfl | omega | assumption) only [go_sem, ltT, ltF, leT, leF, rf_in]
  done

theorem rf_Block {p : Pr} {vb vr : AV} (h : PrAt H p vb vr) (hl : p.bs.length ≤ 1000) (n : Int) : callFL cfg0 prog0 false 44 [p.av vb vr, I n] H none = some ⟨.ret (.bool (wi n 0 ((p.bs.length : Int) - 1))), H, none⟩ := by
  have l1 := h.bs.len
  rw [List.length_map] at l1
  have hs1 := h.bs.scal
  have hs2 := h.rs.scal
  simp only [Pr.av]
  refine (callFL_eq fn44 rfl (by simp [Try.f44])).trans ?_
  simp (maxSteps := 1000000) (implicitDefEqProofs := false) (disch := first | rfl | omega | assumption) only [go_sem, ltT, ltF, leT, leF, l1, hs1, hs2, rf_in]
  done

def bad1 (p : Pr) (i : Nat) : Bool := !spOk (p.bs.getD i (0, 0)).1 (p.bs.getD i (0, 0)).2 20
def bad2 (p : Pr) (x : Pt) : Bool := !(wi x.a 0 ((p.bs.length : Int) - 1) && (wi x.b 0 ((p.bs.length : Int) - 1) && ((x.a != x.b) && (wi x.m 0 60 && spOk x.lo x.hi 80))))
def okZ (p : Pr) : Bool := spOk p.zlo p.zhi 10 && (spOk p.rlo p.rhi 5 && (decide (p.zhi - p.zlo ≤ 4) && decide (p.rhi - p.rlo ≤ 4)))
def Pr.okB (p : Pr) : Bool := wi p.bs.length 1 5 && (decide (p.rs.length ≤ 8) && (!anyF (bad1 p) 0 p.bs.length && (okZ p && !anyF (fun i => bad2 p (p.rs.getD i pt0)) 0 p.rs.length)))

theorem rp_l11 {p : Pr} {vb vr : AV} (h : PrAt H p vb vr) (hbl : p.bs.length ≤ 1000) (hrl : p.rs.length ≤ 1000) (r : Bool) :
    ∀ (q j : Nat), j + q = p.rs.length → (!anyF (fun i => bad2 p (p.rs.getD i pt0)) j q) = r → ∀ (G : Heap), ∀ E : Env, E.get 1 = .ptr H.length 0 → E.get 4 = I j →
    Option.map (finishC H.length) (execL cfg0 prog0 ⟨17, none, false, H.length⟩ (todoAt Try.f17 11) ⟨E, [], H ++ (.box (p.av vb vr) :: G), none⟩) = some ⟨.ret (.bool r), H, none⟩ := by
  intro q
  obtain ⟨a1, a2, a3, a4, a5⟩ := h.rs.fF (d := pt0)
  have t1 := h.bs.ltn 1
  have t2 := h.rs.ltn 1
  have l2 := h.rs.len
  rw [List.length_map] at l2
  have hs1 := h.bs.scal
  have hs2 := h.rs.scal
  have hrg := hbl
  have hbl := fun (G : Heap) n => rf_Block (h.app G) hrg n
  simp only [Pr.av] at hbl
  have hmi := fun (n : Int) (G : Heap) => rf_Minute n G
  have hsp := fun (lo hi : Int) (G : Heap) => rf_span lo hi 80 (by omega) G
  induction q with
  | zero =>
    intro j hj hr G E g1 g4
    have hk' : ¬ (j : Int) < ((p.rs.length : Nat) : Int) := by omega
    simp only [anyF, Bool.not_false] at hr
    subst hr
    simp only [loopIt, todoPast, todoAt, todoOf, firstReg, ↓reduceIte, Option.some.injEq, Nat.reduceEqDiff, reduceCtorEq, Try.f17]
    rw [execL_inLoop]
    simp (maxSteps := 1000000) (implicitDefEqProofs := false) (disch := first | rfl | omega | assumption) only [go_sem, g1, g4, ltT, ltF, leT, leF, hk', t2, t1, Pr.av, l2, hs1, hs2]
    done
  | succ q ih =>
    intro j hj hr G E g1 g4
    have hk' : (j : Int) < ((p.rs.length : Nat) : Int) := by omega
    have hk2 : j < p.rs.length := by omega
    obtain ⟨x, hxe⟩ : ∃ x, p.rs.getD j pt0 = x := ⟨_, rfl⟩
    have hrd : readPart x.av.cells 0 ⟨.struct [(0, 3), (1, 3), (2, 3), (3, 24)], 5, 40, some (.agg #[.int .i64 0, .int .i64 0, .int .i64 0, .int .i64 0, .int .i64 0])⟩ = some (.agg [I x.a, I x.b, I x.m, I x.lo, I x.hi]) := rfl
    simp only [anyF, hxe] at hr
    by_cases c1 : wi x.a 0 ((p.bs.length : Int) - 1) = true
    · skip
      by_cases c2 : wi x.b 0 ((p.bs.length : Int) - 1) = true
      · skip
        by_cases c3 : (x.a != x.b) = true
        · skip
          by_cases c4 : wi x.m 0 60 = true
          · skip
            by_cases c5 : spOk x.lo x.hi 80 = true
            · skip
              rw [show bad2 p x = false by simp only [bad2, c1, c2, c3, c4, c5, Bool.true_and, Bool.and_self, Bool.not_true], Bool.false_or] at hr
              have c3' : (x.a == x.b) = false := by simpa using c3
              have key := ih (j + 1) (by omega) hr [.box (.agg [I x.a, I x.b, I x.m, I x.lo, I x.hi])]
              simp only [Pr.av] at key
              simp only [loopIt, todoPast, todoAt, todoOf, firstReg, ↓reduceIte, Option.some.injEq, Nat.reduceEqDiff, reduceCtorEq, Try.f17]
              rw [execL_inLoop]
              simp (maxSteps := 1000000) (implicitDefEqProofs := false) (disch := first | rfl | omega | assumption) only [go_sem, g1, g4, ltT, ltF, leT, leF, hk', l2, hs1, hs2, t2, t1, Pr.av, a1, a2, a3, a4, hxe, hrd, hbl, hmi, hsp, c1, c2, c3', c4, c5]
              exact key _ (by rfl) (by rfl)
            · skip
              rw [Bool.not_eq_true] at c5
              rw [show bad2 p x = true by simp only [bad2, c1, c2, c3, c4, c5, Bool.true_and, Bool.false_and, Bool.and_false, Bool.not_false], Bool.true_or, Bool.not_true] at hr
              subst hr
              have c3' : (x.a == x.b) = false := by simpa using c3
              simp only [loopIt, todoPast, todoAt, todoOf, firstReg, ↓reduceIte, Option.some.injEq, Nat.reduceEqDiff, reduceCtorEq, Try.f17]
              rw [execL_inLoop]
              simp (maxSteps := 1000000) (implicitDefEqProofs := false) (disch := first | rfl | omega | assumption) only [go_sem, g1, g4, ltT, ltF, leT, leF, hk', l2, hs1, hs2, t2, t1, Pr.av, a1, a2, a3, a4, hxe, hrd, hbl, hmi, hsp, c1, c2, c3', c4, c5]
              done
          · skip
            rw [Bool.not_eq_true] at c4
            rw [show bad2 p x = true by simp only [bad2, c1, c2, c3, c4, Bool.true_and, Bool.false_and, Bool.and_false, Bool.not_false], Bool.true_or, Bool.not_true] at hr
            subst hr
            have c3' : (x.a == x.b) = false := by simpa using c3
            simp only [loopIt, todoPast, todoAt, todoOf, firstReg, ↓reduceIte, Option.some.injEq, Nat.reduceEqDiff, reduceCtorEq, Try.f17]
            rw [execL_inLoop]
            simp (maxSteps := 1000000) (implicitDefEqProofs := false) (disch := first | rfl | omega | assumption) only [go_sem, g1, g4, ltT, ltF, leT, leF, hk', l2, hs1, hs2, t2, t1, Pr.av, a1, a2, a3, a4, hxe, hrd, hbl, hmi, hsp, c1, c2, c3', c4]
            done
        · skip
          rw [Bool.not_eq_true] at c3
          rw [show bad2 p x = true by simp only [bad2, c1, c2, c3, Bool.true_and, Bool.false_and, Bool.and_false, Bool.not_false], Bool.true_or, Bool.not_true] at hr
          subst hr
          have c3' : (x.a == x.b) = true := by simpa using c3
          simp only [loopIt, todoPast, todoAt, todoOf, firstReg, ↓reduceIte, Option.some.injEq, Nat.reduceEqDiff, reduceCtorEq, Try.f17]
          rw [execL_inLoop]
          simp (maxSteps := 1000000) (implicitDefEqProofs := false) (disch := first | rfl | omega | assumption) only [go_sem, g1, g4, ltT, ltF, leT, leF, hk', l2, hs1, hs2, t2, t1, Pr.av, a1, a2, a3, a4, hxe, hrd, hbl, hmi, hsp, c1, c2, c3']
          done
      · skip
        rw [Bool.not_eq_true] at c2
        rw [show bad2 p x = true by simp only [bad2, c1, c2, Bool.true_and, Bool.false_and, Bool.and_false, Bool.not_false], Bool.true_or, Bool.not_true] at hr
        subst hr
        simp only [loopIt, todoPast, todoAt, todoOf, firstReg, ↓reduceIte, Option.some.injEq, Nat.reduceEqDiff, reduceCtorEq, Try.f17]
        rw [execL_inLoop]
        simp (maxSteps := 1000000) (implicitDefEqProofs := false) (disch := first | rfl | omega | assumption) only [go_sem, g1, g4, ltT, ltF, leT, leF, hk', l2, hs1, hs2, t2, t1, Pr.av, a1, a2, a3, a4, hxe, hrd, hbl, hmi, hsp, c1, c2]
        done
    · skip
      rw [Bool.not_eq_true] at c1
      rw [show bad2 p x = true by simp only [bad2, c1, Bool.true_and, Bool.false_and, Bool.and_false, Bool.not_false], Bool.true_or, Bool.not_true] at hr
      subst hr
      simp only [loopIt, todoPast, todoAt, todoOf, firstReg, ↓reduceIte, Option.some.injEq, Nat.reduceEqDiff, reduceCtorEq, Try.f17]
      rw [execL_inLoop]
      simp (maxSteps := 1000000) (implicitDefEqProofs := false) (disch := first | rfl | omega | assumption) only [go_sem, g1, g4, ltT, ltF, leT, leF, hk', l2, hs1, hs2, t2, t1, Pr.av, a1, a2, a3, a4, hxe, hrd, hbl, hmi, hsp, c1]
      done

theorem rp_l4 {p : Pr} {vb vr : AV} (h : PrAt H p vb vr) (hbl : p.bs.length ≤ 1000) (hrl : p.rs.length ≤ 1000) (r : Bool) :
    ∀ (q j : Nat), j + q = p.bs.length → (!anyF (bad1 p) j q && (okZ p && !anyF (fun i => bad2 p (p.rs.getD i pt0)) 0 p.rs.length)) = r → ∀ E : Env, E.get 1 = .ptr H.length 0 → E.get 3 = I j →
    Option.map (finishC H.length) (execL cfg0 prog0 ⟨17, none, false, H.length⟩ (todoAt Try.f17 4) ⟨E, [], H ++ [.box (p.av vb vr)], none⟩) = some ⟨.ret (.bool r), H, none⟩ := by
  intro q
  obtain ⟨a1, a2, a3, a4, a5⟩ := h.bs.fF (d := (0, 0))
  have t1 := h.bs.ltn 1
  have t2 := h.rs.ltn 1
  have l1 := h.bs.len
  rw [List.length_map] at l1
  have hs1 := h.bs.scal
  have hs2 := h.rs.scal
  induction q with
  | zero =>
    intro j hj hr E g1 g3
    have hk' : ¬ (j : Int) < ((p.bs.length : Nat) : Int) := by omega
    simp only [anyF, Bool.not_false, Bool.true_and] at hr
    simp only [loopIt, todoPast, todoAt, todoOf, firstReg, ↓reduceIte, Option.some.injEq, Nat.reduceEqDiff, reduceCtorEq, Try.f17]
    rw [execL_inLoop]
    have z1 := fun (G : Heap) => rf_span p.zlo p.zhi 10 (by omega) G
    have z2 := fun (G : Heap) => rf_span p.rlo p.rhi 5 (by omega) G
    simp only [okZ] at hr
    by_cases c1 : spOk p.zlo p.zhi 10 = true
    · have b1 := c1
      simp only [spOk, Bool.and_eq_true, decide_eq_true_eq] at b1
      by_cases c2 : spOk p.rlo p.rhi 5 = true
      · have b2 := c2
        simp only [spOk, Bool.and_eq_true, decide_eq_true_eq] at b2
        by_cases c3 : p.zhi - p.zlo ≤ 4
        · have c3' : ¬ 4 < p.zhi - p.zlo := by omega
          by_cases c4 : p.rhi - p.rlo ≤ 4
          · have c4' : ¬ 4 < p.rhi - p.rlo := by omega
            simp only [c1, c2, c3, c4, decide_true, Bool.true_and] at hr
            have key := rp_l11 h hbl hrl r p.rs.length 0 (by omega) hr []
            simp only [Pr.av] at key
            simp (maxSteps := 1000000) (implicitDefEqProofs := false) (disch := first | rfl | omega | assumption) only [go_sem, g1, g3, ltT, ltF, leT, leF, hk', t2, t1, Pr.av, l1, hs1, hs2, z1, z2, c1, c2, c3', c4']
            exact key _ (by exact g1) (by rfl)
          · have c4' : 4 < p.rhi - p.rlo := by omega
            simp only [c1, c2, c3, c4, decide_true, Bool.true_and, decide_false, Bool.false_and] at hr
            subst hr
            simp (maxSteps := 1000000) (implicitDefEqProofs := false) (disch := first | rfl | omega | assumption) only [go_sem, g1, g3, ltT, ltF, leT, leF, hk', t2, t1, Pr.av, l1, hs1, hs2, z1, z2, c1, c2, c3', c4']
            done
        · have c3' : 4 < p.zhi - p.zlo := by omega
          simp only [c1, c2, c3, decide_true, Bool.true_and, decide_false, Bool.false_and] at hr
          subst hr
          simp (maxSteps := 1000000) (implicitDefEqProofs := false) (disch := first | rfl | omega | assumption) only [go_sem, g1, g3, ltT, ltF, leT, leF, hk', t2, t1, Pr.av, l1, hs1, hs2, z1, z2, c1, c2, c3']
          done
      · rw [Bool.not_eq_true] at c2
        simp only [c1, c2, decide_true, Bool.true_and, decide_false, Bool.false_and] at hr
        subst hr
        simp (maxSteps := 1000000) (implicitDefEqProofs := false) (disch := first | rfl | omega | assumption) only [go_sem, g1, g3, ltT, ltF, leT, leF, hk', t2, t1, Pr.av, l1, hs1, hs2, z1, z2, c1, c2]
        done
    · rw [Bool.not_eq_true] at c1
      simp only [c1, decide_true, Bool.true_and, decide_false, Bool.false_and] at hr
      subst hr
      simp (maxSteps := 1000000) (implicitDefEqProofs := false) (disch := first | rfl | omega | assumption) only [go_sem, g1, g3, ltT, ltF, leT, leF, hk', t2, t1, Pr.av, l1, hs1, hs2, z1, z2, c1]
      done
  | succ q ih =>
    intro j hj hr E g1 g3
    have hk' : (j : Int) < ((p.bs.length : Nat) : Int) := by omega
    have hk2 : j < p.bs.length := by omega
    obtain ⟨⟨lo, hi⟩, hxe⟩ : ∃ x, p.bs.getD j (0, 0) = x := ⟨_, rfl⟩
    have hrd : readPart (spA (lo, hi)).cells 0 ⟨.struct [(0, 3), (1, 3)], 2, 16, some (.agg #[.int .i64 0, .int .i64 0])⟩ = some (.agg [I lo, I hi]) := rfl
    have hsp := fun (G : Heap) => rf_span lo hi 20 (by omega) G
    simp only [anyF, bad1, hxe] at hr
    cases c : spOk lo hi 20
    · simp only [c, Bool.not_false, Bool.true_or, Bool.not_true, Bool.false_and] at hr
      subst hr
      simp only [loopIt, todoPast, todoAt, todoOf, firstReg, ↓reduceIte, Option.some.injEq, Nat.reduceEqDiff, reduceCtorEq, Try.f17]
      rw [execL_inLoop]
      simp (maxSteps := 1000000) (implicitDefEqProofs := false) (disch := first | rfl | omega | assumption) only [go_sem, g1, g3, ltT, ltF, leT, leF, hk', t2, t1, Pr.av, l1, hs1, hs2, a1, a2, a3, a4, hxe, hrd, hsp, c]
      done
    · simp only [c, Bool.not_true, Bool.false_or] at hr
      have key := ih (j + 1) (by omega) hr
      simp only [Pr.av] at key
      simp only [loopIt, todoPast, todoAt, todoOf, firstReg, ↓reduceIte, Option.some.injEq, Nat.reduceEqDiff, reduceCtorEq, Try.f17]
      rw [execL_inLoop]
      simp (maxSteps := 1000000) (implicitDefEqProofs := false) (disch := first | rfl | omega | assumption) only [go_sem, g1, g3, ltT, ltF, leT, leF, hk', t2, t1, Pr.av, l1, hs1, hs2, a1, a2, a3, a4, hxe, hrd, hsp, c]
      exact key _ (by exact g1) (by rfl)

theorem rf_Pair {p : Pr} {vb vr : AV} (h : PrAt H p vb vr) (hbl : p.bs.length ≤ 1000) (hrl : p.rs.length ≤ 1000) : callFL cfg0 prog0 false 17 [p.av vb vr] H none = some ⟨.ret (.bool p.okB), H, none⟩ := by
  have t1 := h.bs.ltn 1
  have t2 := h.rs.ltn 1
  have l1 := h.bs.len
  rw [List.length_map] at l1
  have l2 := h.rs.len
  rw [List.length_map] at l2
  have hs1 := h.bs.scal
  have hs2 := h.rs.scal
  have hin := fun (G : Heap) => rf_in p.bs.length 1 5 G
  obtain ⟨r, hr⟩ : ∃ r, p.okB = r := ⟨_, rfl⟩
  rw [hr]
  simp only [Pr.okB] at hr
  by_cases c1 : wi p.bs.length 1 5 = true
  · by_cases c2 : p.rs.length ≤ 8
    · have c2' : ¬ (8 : Int) < p.rs.length := by omega
      simp only [c1, c2, decide_true, Bool.true_and] at hr
      have key := rp_l4 h hbl hrl r p.bs.length 0 (by omega) hr
      simp only [Pr.av] at key ⊢
      refine (callFL_eq fn17 rfl (by simp [Try.f17])).trans ?_
      simp (maxSteps := 1000000) (implicitDefEqProofs := false) (disch := first | rfl | omega | assumption) only [go_sem, ltT, ltF, leT, leF, t2, t1, Pr.av, l1, l2, hs1, hs2, hin, c1, c2']
      exact key _ (by rfl) (by rfl)
    · have c2' : (8 : Int) < p.rs.length := by omega
      simp only [c1, c2, decide_true, decide_false, Bool.true_and, Bool.false_and] at hr
      subst hr
      simp only [Pr.av]
      refine (callFL_eq fn17 rfl (by simp [Try.f17])).trans ?_
      simp (maxSteps := 1000000) (implicitDefEqProofs := false) (disch := first | rfl | omega | assumption) only [go_sem, ltT, ltF, leT, leF, t2, t1, Pr.av, l1, l2, hs1, hs2, hin, c1, c2']
      done
  · rw [Bool.not_eq_true] at c1
    simp only [c1, Bool.false_and] at hr
    subst hr
    simp only [Pr.av]
    refine (callFL_eq fn17 rfl (by simp [Try.f17])).trans ?_
    simp (maxSteps := 1000000) (implicitDefEqProofs := false) (disch := first | rfl | omega | assumption) only [go_sem, ltT, ltF, leT, leF, t2, t1, Pr.av, l1, l2, hs1, hs2, hin, c1]
    done

end Go.Ab
