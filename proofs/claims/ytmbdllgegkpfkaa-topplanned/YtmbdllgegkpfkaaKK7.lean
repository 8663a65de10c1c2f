/-
  The law TopPlanned.
-/
import Derived.Test.YtmbdllgegkpfkaaKK6
namespace Go.Ab
open Go.Proofs
set_option linter.unusedSimpArgs false
set_option linter.unusedVariables false
set_option maxRecDepth 100000
set_option maxHeartbeats 2000000

variable {H : Heap}


theorem law_TopPlanned {n : Pn} {vb vr vp : AV} (h : PnAt H n vb vr vp) (fl : Bool) (us : List Int) (hu : ∀ i, i < us.length → 0 ≤ us.getD i 0 ∧ us.getD i 0 ≤ 65535) (hul : us.length ≤ 9223372036854775807) :
    callFL cfg0 prog0 false 3 [n.av vb vr vp, .sl fl (us.map B16)] H none = some ⟨.ret (.bool true), H, none⟩ := by
  have hs1 := h.pr.bs.scal
  have hs2 := h.pr.rs.scal
  have hs3 := h.ps.scal
  have t1 := h.pr.bs.ltn 1
  have t2 := h.pr.rs.ltn 1
  have t3 := h.ps.ltn 1
  have t4 := fun N => lt16 us N
  have l1 := h.pr.bs.len
  rw [List.length_map] at l1
  have l2 := h.pr.rs.len
  rw [List.length_map] at l2
  have l3 := h.ps.len
  rw [List.length_map] at l3
  have hk' : True := trivial
  obtain ⟨M, hM⟩ : ∃ M : Int, (if (if (n.pr.bs.length : Int) < n.pr.rs.length then (n.pr.rs.length : Int) else n.pr.bs.length) < n.ps.length then (n.ps.length : Int) else (if (n.pr.bs.length : Int) < n.pr.rs.length then (n.pr.rs.length : Int) else n.pr.bs.length)) = M := ⟨_, rfl⟩
  have hMb : (n.pr.bs.length : Int) ≤ M ∧ (n.pr.rs.length : Int) ≤ M ∧ (n.ps.length : Int) ≤ M := by
    rw [← hM]
    split <;> split <;> omega
  by_cases c0 : 40 < M
  · simp only [Pn.av]
    refine (callFL_eq fn3 rfl (by simp [Try.f3])).trans ?_
    simp (maxSteps := 1000000) (implicitDefEqProofs := false) (disch := first | rfl | omega | assumption) only [go_sem, ltT, ltF, leT, leF, hs1, hs2, hs3, l1, l2, l3, hM, c0, law_awake]
    done
  have hpl := rf_Plan (H := H ++ [.box (n.av vb vr vp)]) (h.app _) (by omega) (by omega) (by omega)
  simp only [Pn.av] at hpl
  cases c1 : n.okB
  · rw [c1] at hpl
    simp only [Pn.av]
    refine (callFL_eq fn3 rfl (by simp [Try.f3])).trans ?_
    simp (maxSteps := 1000000) (implicitDefEqProofs := false) (disch := first | rfl | omega | assumption) only [go_sem, ltT, ltF, leT, leF, hs1, hs2, hs3, l1, l2, l3, hM, c0, hpl, law_awake]
    done
  rw [c1] at hpl
  have ho := (okB_pn n).1 c1
  have hz := ho.pr.zero
  have hr := ho.pr.rate
  have h5 := ho.pr.many
  have h8 := ho.pr.reads
  have hw0 : 0 ≤ (n.pr.zhi - n.pr.zlo + 1) * (n.pr.rhi - n.pr.rlo + 1) ∧ (n.pr.zhi - n.pr.zlo + 1) * (n.pr.rhi - n.pr.rlo + 1) ≤ 25 := by
    have a1 : 0 ≤ n.pr.zhi - n.pr.zlo + 1 ∧ n.pr.zhi - n.pr.zlo + 1 ≤ 5 := by omega
    have a2 : 0 ≤ n.pr.rhi - n.pr.rlo + 1 ∧ n.pr.rhi - n.pr.rlo + 1 ≤ 5 := by omega
    exact ⟨Int.mul_nonneg a1.1 a2.1, by have := Int.mul_le_mul a1.2 a2.2 a2.1 (by omega); omega⟩
  obtain ⟨w0, hw0e⟩ : ∃ w, (n.pr.zhi - n.pr.zlo + 1) * (n.pr.rhi - n.pr.rlo + 1) = w := ⟨_, rfl⟩
  rw [hw0e] at hw0
  have q5 := tl_l5 ho h fl us (foldF (wayF n.pr.bs) w0 0 n.pr.bs.length)
  obtain ⟨w, hwe⟩ : ∃ w, foldF (wayF n.pr.bs) w0 0 n.pr.bs.length = w := ⟨_, rfl⟩
  rw [hwe] at q5
  by_cases c2 : 20000 < w
  · simp only [Pn.av] at q5 ⊢
    refine (callFL_eq fn3 rfl (by simp [Try.f3])).trans ?_
    simp (maxSteps := 1000000) (implicitDefEqProofs := false) (disch := first | rfl | omega | assumption) only [go_sem, ltT, ltF, leT, leF, hs1, hs2, hs3, l1, l2, l3, hM, c0, hpl, hw0e]
    refine q5 _ _ (fun E g1 g2 g5 => ?_) n.pr.bs.length 0 (by omega) w0 ⟨hw0.1, by omega⟩ hwe [] _ (by rfl) (by rfl) (by rfl) (by rfl) (by rfl) (by rfl)
    simp (maxSteps := 1000000) (implicitDefEqProofs := false) (disch := first | rfl | omega | assumption) only [go_sem, g1, g2, g5, ltT, ltF, leT, leF, hk', c2, law_awake]
    done
  have hd0 := law_draws (.sl fl (us.map B16)) rfl ⟨_, _, rfl⟩ (H ++ [.box (n.av vb vr vp)])
  have hd1 : callFL cfg0 prog0 false 20 [.agg [I n.pr.zlo, I n.pr.zhi], .ptr (H.length + 2) 0, .ptr (H.length + 1) 0] (H ++ [.box (n.av vb vr vp), .box (.sl fl (us.map B16)), .box (I 0), .box (.agg [.sl true [], I 0, I 0])]) none = some ⟨.ret (I (drawZ us 1 n.pr.zlo n.pr.zhi)), H ++ [.box (n.av vb vr vp), .box (.sl fl (us.map B16)), .box (I 1), .box (.agg [.sl true [], I 0, I 0])], none⟩ := by
    have := law_draw (H := H ++ [.box (n.av vb vr vp), .box (.sl fl (us.map B16)), .box (I 0), .box (.agg [.sl true [], I 0, I 0])]) (us := us) (fl := fl) hu hul (p1 := H.length + 2) (p2 := H.length + 1) (a := 0) (by omega) (by rw [get_at']; rfl) (by rw [get_at']; rfl) (by omega) (lo := n.pr.zlo) (hi := n.pr.zhi) (by omega)
    rw [set_at'] at this
    exact this
  have hd2 : callFL cfg0 prog0 false 20 [.agg [I n.pr.rlo, I n.pr.rhi], .ptr (H.length + 2) 0, .ptr (H.length + 1) 0] (H ++ [.box (n.av vb vr vp), .box (.sl fl (us.map B16)), .box (I 1), .box (.agg [.sl true [], I 0, I 0])]) none = some ⟨.ret (I (drawZ us 2 n.pr.rlo n.pr.rhi)), H ++ [.box (n.av vb vr vp), .box (.sl fl (us.map B16)), .box (I 2), .box (.agg [.sl true [], I 0, I 0])], none⟩ := by
    have := law_draw (H := H ++ [.box (n.av vb vr vp), .box (.sl fl (us.map B16)), .box (I 1), .box (.agg [.sl true [], I 0, I 0])]) (us := us) (fl := fl) hu hul (p1 := H.length + 2) (p2 := H.length + 1) (a := 1) (by omega) (by rw [get_at']; rfl) (by rw [get_at']; rfl) (by omega) (lo := n.pr.rlo) (hi := n.pr.rhi) (by omega)
    rw [set_at'] at this
    exact this
  have bz := draw_bd (us := us) (a := 1) (lo := n.pr.zlo) (hi := n.pr.zhi) (by omega)
  have br := draw_bd (us := us) (a := 2) (lo := n.pr.rlo) (hi := n.pr.rhi) (by omega)
  generalize drawZ us 1 n.pr.zlo n.pr.zhi = z at *
  generalize drawZ us 2 n.pr.rlo n.pr.rhi = r at *
  have q14 := tl_l14 ho h fl us hu hul z r
  have hxl : (xsP n us n.pr.bs.length).length = n.pr.bs.length := xsP_len _ _ _
  have hxb : ∀ i, i < (xsP n us n.pr.bs.length).length → (n.pr.bs.getD i (0, 0)).1 ≤ (xsP n us n.pr.bs.length).getD i 0 ∧ (xsP n us n.pr.bs.length).getD i 0 ≤ (n.pr.bs.getD i (0, 0)).2 := by
    intro i hi
    rw [hxl] at hi
    have hb := ho.pr.blk i hi
    have e : (xsP n us n.pr.bs.length).getD i 0 = drawZ us (3 + (i : Int)) (n.pr.bs.getD i (0, 0)).1 (n.pr.bs.getD i (0, 0)).2 := by simp [xsP, hi]
    rw [e]
    exact draw_bd hb.2.1
  have hx0 : xsP n us 0 = [] := rfl
  have txs : ∀ N, ltL N ((xsP n us n.pr.bs.length).map I) = true := fun N => ltL_map (fun _ => rfl) _
  have elx : ((xsP n us n.pr.bs.length).map I).length = n.pr.bs.length := by rw [List.length_map, hxl]
  have q14' := q14
  clear q14
  generalize hxe : xsP n us n.pr.bs.length = xs at *
  have hxb20 : ∀ i, i < xs.length → -20 ≤ xs.getD i 0 ∧ xs.getD i 0 ≤ 20 := by
    intro i hi
    have := hxb i hi
    have := ho.pr.blk i (by omega)
    omega
  have q21 := tl_l21 ho h fl us (2 + (n.pr.bs.length : Int)) hxl hxb20 (z := z) (r := r) (by omega) (by omega)
  have how0 : owP n xs z r 0 = [] := rfl
  have t1' := h.pr.bs.ltn 4
  have t2' := h.pr.rs.ltn 4
  have t3' := h.ps.ltn 4
  have t1'' := h.pr.bs.ltn 5
  have t2'' := h.pr.rs.ltn 5
  have t3'' := h.ps.ltn 5
  have towl : ((owP n xs z r n.pr.rs.length).map Pt.av).length = n.pr.rs.length := by rw [List.length_map, owP_len]
  have tow : ∀ N, ltL N ((owP n xs z r n.pr.rs.length).map Pt.av) = true := fun N => sealAv _
  have hse := h.pr.bs.sealn
  have hse3 := h.ps.sealn
  simp only [Pn.av] at q5 hd0 hd1 hd2 q14' q21 ⊢
  refine (callFL_eq fn3 rfl (by simp [Try.f3])).trans ?_
  simp (maxSteps := 1000000) (implicitDefEqProofs := false) (disch := first | rfl | omega | assumption) only [go_sem, ltT, ltF, leT, leF, hs1, hs2, hs3, l1, l2, l3, hM, c0, hpl, hw0e]
  refine q5 _ _ (fun E g1 g2 g5 => ?_) n.pr.bs.length 0 (by omega) w0 ⟨hw0.1, by omega⟩ hwe [] _ (by rfl) (by rfl) (by rfl) (by rfl) (by rfl) (by rfl)
  simp (maxSteps := 1000000) (implicitDefEqProofs := false) (disch := first | rfl | omega | assumption) only [go_sem, g1, g2, g5, ltT, ltF, leT, leF, hk', c2, hd0]
  rw [chkK_of]; rotate_left; kernel_rfl
  simp (maxSteps := 1000000) (implicitDefEqProofs := false) (disch := first | rfl | omega | assumption) only [go_sem, g1, g2, g5, ltT, ltF, leT, leF, hk', hs1, hs2, hs3, l1, l2, l3, hd0, hd1, hd2, t1', t2', t3', t4, if_true]
  refine q14' _ _ (fun E g2 g9 => ?_) n.pr.bs.length 0 (by omega) [] _ (by rfl) (by rfl) (by rfl) (by rfl) (by rfl) (by rfl)
  simp (maxSteps := 1000000) (implicitDefEqProofs := false) (disch := first | rfl | omega | assumption) only [go_sem, g2, g9, ltT, ltF, leT, leF, hk', hs1, hs2, hs3, l1, l2, l3, t1', t2', t3', t1'', t2'', t3'', t4, elx, txs, elems, if_true]
  refine q21 _ _ (fun E g2 g9 g12 => ?_) n.pr.rs.length 0 (by omega) [] _ (by rfl) (by rfl) (by rfl) (by rfl) (by rfl) (by rfl)
  -- the plan of readings that are right
  have hmat : ∀ G, PnAt (H ++ G) (ownN n xs z r) vb (.sl false ((ownN n xs z r).pr.rs.map Pt.av)) vp := fun G => pn_at (m := ownN n xs z r) (h.pr.bs.app G) (h.ps.app G)
  have hrl : (ownN n xs z r).pr.rs.length = n.pr.rs.length := owP_len _ _ _ _ _
  have hpm := fun G : Heap => rf_Plan (H := H ++ G) (hmat G) (by show n.pr.bs.length ≤ 1000; omega) (by omega) (by show n.ps.length ≤ 1000; omega)
  have hmav : (ownN n xs z r).av vb (.sl false ((ownN n xs z r).pr.rs.map Pt.av)) vp = .agg [vb, I n.pr.zlo, I n.pr.zhi, I n.pr.rlo, I n.pr.rhi, .sl false ((owP n xs z r n.pr.rs.length).map Pt.av), I n.wide, vp] := rfl
  have hmwide : (ownN n xs z r).wide = n.wide := rfl
  have hmbs : (ownN n xs z r).pr.bs = n.pr.bs := rfl
  have hmps : (ownN n xs z r).ps = n.ps := rfl
  have hsound := fun (hm : (ownN n xs z r).Ok) (b : Nat) hb => own_sound ho hxl hxb bz br hm (b := b) hb
  have hmrs : (ownN n xs z r).pr.rs.map Pt.av = (owP n xs z r n.pr.rs.length).map Pt.av := rfl
  have hpart : ∀ s, partA (ownN n xs z r) vb s = .agg [vb, I n.pr.zlo, I n.pr.zhi, I n.pr.rlo, I n.pr.rhi, .sl false ((rdS (ownN n xs z r).pr.rs s).map Pt.av), I n.wide, .sl false ((cosX n.ps s n.ps.length).map I)] := fun _ => rfl
  have hmrl : ((owP n xs z r n.pr.rs.length).map Pt.av).length = n.pr.rs.length := towl
  have hmlen : (owP n xs z r n.pr.rs.length).length = n.pr.rs.length := owP_len _ _ _ _ _
  generalize hmm : ownN n xs z r = m at *
  generalize (owP n xs z r n.pr.rs.length).map Pt.av = ys at *
  rw [hmrs] at hpm hmat hmav
  cases c3 : m.okB
  · simp only [c3, hmav] at hpm
    simp (maxSteps := 1000000) (implicitDefEqProofs := false) (disch := first | rfl | omega | assumption) only [go_sem, g2, g9, g12, ltT, ltF, leT, leF, hk', hs1, hs2, hs3, t1', t2', t3', t1'', t2'', t3'', t4, txs, tow, towl, elems, hse, hse3, hpm, law_awake, if_true]
    done
  have hm := (okB_pn m).1 c3
  simp only [c3, hmav] at hpm
  have hT : HasT m := hasT_of hm fun b hb => by
    obtain ⟨sp, k1, _⟩ := hsound hm b (by rw [← hmbs]; exact hb)
    exact ⟨sp, k1⟩
  have hmat' : ∀ G, PnAt (H ++ G) m vb (.sl false (m.pr.rs.map Pt.av)) vp := fun G => by rw [hmrs]; exact hmat G
  have hF := fun G : Heap => pl_Fewest (H := H ++ G) hm hT (hmat' G)
  simp only [hmrs, hmav] at hF
  cases c4 : enN m (fullN m)
  · simp only [c4, Bool.false_eq_true, if_false] at hF
    simp (maxSteps := 1000000) (implicitDefEqProofs := false) (disch := first | rfl | omega | assumption) only [go_sem, g2, g9, g12, ltT, ltF, leT, leF, hk', hs1, hs2, hs3, t1', t2', t3', t1'', t2'', t3'', t4, txs, tow, towl, elems, hse, hse3, hpm, hF, law_awake, if_true]
    done
  simp only [c4, if_true] at hF
  have hbest := best_fewest c4
  have hC := fun G : Heap => pl_Cheapest (H := H ++ G) hm hT (hmat' G) c4
  have hchp := best_least (c := costL m.ps) c4
  simp only [hmrs, hmav] at hC
  have hmb8 := hm.pr.reads
  have hps0 : ∀ i, 0 ≤ m.ps.getD i 0 := by
    intro i
    by_cases hi : i < m.ps.length
    · exact (hm.price i hi).1
    · simp [show m.ps.length ≤ i by omega]
  have all1 := fun t ht he => least_all (p := m.pr) (w := m.wide) hmb8 hbest (t := t) ht he
  have all2 := fun t ht he => cheap_all (p := m.pr) (w := m.wide) (ps := m.ps) hm.len hps0 hmb8 hchp (t := t) ht he
  have hcle := cheap_le (ps := m.ps) hmb8 hchp hbest.lt hbest.ok
  have hP8 : ∀ s, s < 2 ^ m.pr.rs.length → s < 2 ^ 60 := fun s hs => by have := lt256 hm hs; omega
  have hpt : ∀ (s : Nat), s < 2 ^ m.pr.rs.length → ∀ a0 a1 a2 a3 rr, callFL cfg0 prog0 false 10 [I s, .ptr (H.length + 4) 0] (H ++ (a0 :: a1 :: a2 :: a3 :: .box (m.av vb (.sl false (m.pr.rs.map Pt.av)) vp) :: rr)) none = some ⟨.ret (partA m vb s), H ++ (a0 :: a1 :: a2 :: a3 :: .box (m.av vb (.sl false (m.pr.rs.map Pt.av)) vp) :: rr), none⟩ := by
    intro s hs a0 a1 a2 a3 rr
    exact law_part (hmat' _) (by omega) (by rw [hm.len]; omega) (hP8 s hs) (by rw [get_at']; rfl)
  simp only [hmrs, hmav] at hpt
  have hpat : ∀ (s : Nat) (G : Heap), PnAt (H ++ G) (partN m s) vb (.sl false ((partN m s).pr.rs.map Pt.av)) (.sl false ((partN m s).ps.map I)) := fun s G => ⟨(hmat' G).pr.sub s, slI false _⟩
  have hNd : ∀ (s : Nat), s < 2 ^ m.pr.rs.length → enN m s = true → (∀ t, t < 2 ^ (rdS m.pr.rs s).length → enoughL m.pr m.wide (rdS (rdS m.pr.rs s) t) = true → t = 2 ^ (rdS m.pr.rs s).length - 1) → ∀ G : Heap, callFL cfg0 prog0 false 12 [partA m vb s] (H ++ G) none = some ⟨.ret (.tup [I (fullN (partN m s)), I 0]), H ++ G, none⟩ := by
    intro s hs he hall G
    have := pl_Needed (H := H ++ G) (part_ok hm hs) (part_hasT hm hT hs) (hpat s G) (part_full hm hs he)
    rw [part_needed hm hs hall] at this
    exact this
  have hEv : ∀ (s : Nat) (G : Heap), callFL cfg0 prog0 false 13 [partA m vb s] (H ++ G) none = some ⟨.ret (I (fullN (partN m s))), H ++ G, none⟩ := by
    intro s G
    have hle : (partN m s).ps.length ≤ 60 := by
      show ((idxS m.ps.length s).map _).length ≤ 60
      have := idx_len8 s m.ps.length
      have := hm.len
      rw [List.length_map]
      omega
    have := rf_Every (H := H ++ G) (hpat s G) hle
    rw [part_every hm s] at this
    exact this
  have hFy : ∀ G : Heap, callFL cfg0 prog0 false 9 [partA m vb (bestN m fun _ => 0)] (H ++ G) none = some ⟨.ret (.tup [I (fullN (partN m (bestN m fun _ => 0))), I 0]), H ++ G, none⟩ := by
    intro G
    have := pl_Fewest (H := H ++ G) (part_ok hm hbest.lt) (part_hasT hm hT hbest.lt) (hpat _ G)
    rw [part_full hm hbest.lt hbest.ok, if_pos rfl, part_fewest hm hbest.lt hbest.ok all1] at this
    exact this
  have hQ : ∀ j, j < xs.length → ∃ lo hi alo ahi, knownL m.pr (rdS m.pr.rs (bestN m fun _ => 0)) j = some (lo, hi) ∧ knownL m.pr m.pr.rs j = some (alo, ahi) ∧ alo ≤ xs.getD j 0 ∧ xs.getD j 0 ≤ ahi ∧ lo ≤ alo ∧ ahi ≤ hi ∧ hi - lo ≤ n.wide := by
    intro j hj
    obtain ⟨⟨alo, ahi⟩, k1, k2, k3⟩ := hsound hm j (by omega)
    obtain ⟨⟨lo, hi⟩, k4, k5, k6⟩ := known_sub (rdS_sub m.pr.rs (bestN m fun _ => 0)) hm.pr.inB (show j < 6 by omega) k1
    have k7 := enough_wide (p := m.pr) (w := m.wide) hbest.ok (b := j) (by rw [hmbs]; omega) hm.pr.many.2 k4
    rw [hmwide] at k7
    exact ⟨lo, hi, alo, ahi, k4, k1, k2, k3, k5, k6, k7⟩
  have q39 := tl_l39 ho hm h hmbs hmps fl us (2 + (n.pr.bs.length : Int)) hxl z r (bestN m fun _ => 0) hQ
  have hNy := hNd _ hbest.lt hbest.ok all1
  have hNz := hNd _ hchp.lt hchp.ok all2
  have hpty := hpt _ hbest.lt
  have hptz := hpt _ hchp.lt
  have hPr := fun G : Heap => rf_Price (H := H ++ G) hm (hmat' G) (hP8 _ hbest.lt)
  simp only [hmrs, hmav] at hPr q39
  have hEy := hEv (bestN m fun _ => 0)
  have hEz := hEv (bestN m (costL m.ps))
  have z1 : ¬ costL m.ps (bestN m fun _ => 0) < costL m.ps (bestN m (costL m.ps)) := by omega
  simp only [hpart] at hpty hptz hFy hNy hNz hEy hEz q39
  have tcx : ∀ N s, ltL N ((cosX n.ps s n.ps.length).map I) = true := fun N s => ltL_map (fun _ => rfl) _
  have trd : ∀ N s, ltL N ((rdS m.pr.rs s).map Pt.av) = true := fun N s => sealAv _
  generalize bestN m (costL m.ps) = chp at *
  generalize bestN m (fun _ => 0) = few at *
  generalize fullN (partN m few) = ff at *
  generalize fullN (partN m chp) = fc at *
  generalize (rdS m.pr.rs few).map Pt.av = r1 at *
  generalize (rdS m.pr.rs chp).map Pt.av = r2 at *
  simp (maxSteps := 1000000) (implicitDefEqProofs := false) (disch := first | rfl | omega | assumption) only [go_sem, g2, g9, g12, ltT, ltF, leT, leF, hk', hs1, hs2, hs3, t1', t2', t3', t1'', t2'', t3'', t4, txs, tow, towl, elems, hse, hse3, hpm, hF, hpty, hFy, hNy, hEy, if_true]
  refine q39 _ _ (fun E g2 g12 g16 g18 => ?_) xs.length 0 (by omega) [] _ (by rfl) (by rfl) (by rfl) (by rfl) (by rfl) (by rfl) (by rfl) (by rfl)
  simp (maxSteps := 1000000) (implicitDefEqProofs := false) (disch := first | rfl | omega | assumption) only [go_sem, g2, g12, g16, g18, ltT, ltF, leT, leF, hk', hs1, hs2, hs3, hC, hPr, z1, hptz, hNz, hEz, law_awake]
  done

end Go.Ab
